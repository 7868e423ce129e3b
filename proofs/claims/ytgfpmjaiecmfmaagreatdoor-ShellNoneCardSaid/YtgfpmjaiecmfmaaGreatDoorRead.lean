import Derived.Test.YtgfpmjaiecmfmaaGreatDoorWorld
/-! How Go's data read: lists of cells in memory, and what they are. 'I': the blocks that a reading leans on. -/
namespace Go
namespace Cm
open RowKit

/-- The cells from place 'o' of block 'b' on hold these. -/
def Row (w : World) (b o : Nat) (cs : List Value) : Prop := ∀ j v, cs[j]? = some v → w.cell? ⟨b, o + j, none⟩ = some v

/-- The old blocks of 'I' lie in 'w'' as in 'w'. -/
def Stay (I : Nat → Prop) (w w' : World) : Prop := ∀ b, I b → b < w.heap.size → w'.heap[b]? = w.heap[b]?
theorem Stay.of_grow {I : Nat → Prop} {w w' : World} (h : Grow w w') : Stay I w w' := fun _ _ hb => h.block hb
theorem Stay.cell {I : Nat → Prop} {w w' : World} (h : Stay I w w') {a : Addr} {v : Value} (hI : I a.block) (hc : w.cell? a = some v) : w'.cell? a = some v := by
  have := h a.block hI (World.cell?_lt hc)
  unfold World.cell? at *
  rw [this]
  exact hc
theorem Row.keep {I : Nat → Prop} {w w' : World} {b o : Nat} {cs : List Value} (h : Stay I w w') (hI : I b) (hr : Row w b o cs) : Row w' b o cs :=
  fun j v hj => h.cell (a := ⟨b, o + j, none⟩) hI (hr j v hj)
theorem Row.grow {w w' : World} {b o : Nat} {cs : List Value} (h : Grow w w') (hr : Row w b o cs) : Row w' b o cs := fun j v hj => h.cell (hr j v hj)
section
variable {w : World} {b o : Nat} {x0 x1 x2 x3 x4 x5 x6 x7 x8 : Value} {cs : List Value}
theorem Row.c0 (h : Row w b o (x0 :: cs)) : w.cell? ⟨b, o, none⟩ = some x0 := h 0 _ rfl
theorem Row.c1 (h : Row w b o (x0 :: x1 :: cs)) : w.cell? ⟨b, o + 1, none⟩ = some x1 := h 1 _ rfl
theorem Row.c2 (h : Row w b o (x0 :: x1 :: x2 :: cs)) : w.cell? ⟨b, o + 2, none⟩ = some x2 := h 2 _ rfl
theorem Row.c3 (h : Row w b o (x0 :: x1 :: x2 :: x3 :: cs)) : w.cell? ⟨b, o + 3, none⟩ = some x3 := h 3 _ rfl
theorem Row.c4 (h : Row w b o (x0 :: x1 :: x2 :: x3 :: x4 :: cs)) : w.cell? ⟨b, o + 4, none⟩ = some x4 := h 4 _ rfl
theorem Row.c5 (h : Row w b o (x0 :: x1 :: x2 :: x3 :: x4 :: x5 :: cs)) : w.cell? ⟨b, o + 5, none⟩ = some x5 := h 5 _ rfl
theorem Row.c6 (h : Row w b o (x0 :: x1 :: x2 :: x3 :: x4 :: x5 :: x6 :: cs)) : w.cell? ⟨b, o + 6, none⟩ = some x6 := h 6 _ rfl
theorem Row.c7 (h : Row w b o (x0 :: x1 :: x2 :: x3 :: x4 :: x5 :: x6 :: x7 :: cs)) : w.cell? ⟨b, o + 7, none⟩ = some x7 := h 7 _ rfl
theorem Row.c8 (h : Row w b o (x0 :: x1 :: x2 :: x3 :: x4 :: x5 :: x6 :: x7 :: x8 :: cs)) : w.cell? ⟨b, o + 8, none⟩ = some x8 := h 8 _ rfl
end

/-- Block b is a row of just these cells, none of them frozen. -/
def Blk (w : World) (b : Nat) (T : TypeId) (cs : List Value) : Prop := w.heap[b]? = some (.cells cs.toArray T (0, 0))
section
variable {w w' : World} {b : Nat} {T : TypeId} {cs : List Value}
theorem Blk.lt (h : Blk w b T cs) : b < w.heap.size := (Array.getElem?_eq_some_iff.1 h).1
theorem Blk.cell (h : Blk w b T cs) {j : Nat} {v : Value} (hj : cs[j]? = some v) : w.cell? ⟨b, j, none⟩ = some v := by
  unfold Blk at h
  unfold World.cell?
  simp only [h, Option.isSome_none, Bool.false_eq_true, if_false]
  simpa using hj
theorem Blk.fr (h : Blk w b T cs) (j : Nat) : w.frozen? ⟨b, j, none⟩ = false := by
  unfold Blk at h
  unfold World.frozen?
  simp only [h]
  simp
theorem Blk.row (h : Blk w b T cs) : Row w b 0 cs := fun j v hj => by rw [Nat.zero_add]; exact h.cell hj
theorem Blk.grow (h : Blk w b T cs) (hg : Grow w w') : Blk w' b T cs := by
  unfold Blk
  rw [hg.block h.lt]
  exact h
theorem Blk.keep (h : Blk w b T cs) (hk : w'.heap[b]? = w.heap[b]?) : Blk w' b T cs := by
  unfold Blk
  rw [hk]
  exact h
theorem Blk.new (w : World) (T : TypeId) (cs : List Value) : Blk (w.alloc (.cells cs.toArray T)) w.heap.size T cs := by
  show (w.heap.push _)[w.heap.size]? = _
  simp
theorem Blk.set (h : Blk w b T cs) (j : Nat) (v : Value) : Blk (w.setCell ⟨b, j, none⟩ v) b T (cs.set j v) := by
  unfold Blk at *
  simp [World.setCell, Array.getElem?_modify, h]
theorem Blk.set_other (h : Blk w b T cs) {a : Addr} (hne : a.block ≠ b) (v : Value) : Blk (w.setCell a v) b T cs := by
  unfold Blk at *
  simp only [World.setCell, Array.getElem?_modify]
  rw [if_neg hne]
  exact h
end

/-- A way to read so many cells as an α. -/
structure Rdr (α : Type) where
  sz : Nat
  R : (Nat → Prop) → World → α → List Value → Prop
  len : ∀ {I w x cs}, R I w x cs → cs.length = sz
  mono : ∀ {I I' : Nat → Prop} {w x cs}, (∀ b, I b → I' b) → R I w x cs → R I' w x cs
  keep : ∀ {I w w' x cs}, Stay I w w' → R I w x cs → R I w' x cs
  one : ∀ {I w x cs}, R I w x cs → ∀ u ∈ cs, u.oneCell' = true

/-- What tells no memory. -/
def rdFlat {α : Type} (sz : Nat) (enc : α → List Value) (h : ∀ x, (enc x).length = sz) (h1 : ∀ x, ∀ u ∈ enc x, u.oneCell' = true) : Rdr α where
  sz := sz
  R := fun _ _ x cs => cs = enc x
  len := fun e => by rw [e, h]
  mono := fun _ e => e
  keep := fun _ e => e
  one := fun e => by rw [e]; exact h1 _

/-- A slice's value reads as this list. -/
def SliceR {α : Type} (rd : Rdr α) (I : Nat → Prop) (w : World) (v : Value) (xs : List α) : Prop :=
  ∃ a cap, v = .slice a xs.length cap ∧ xs.length ≤ cap ∧ ∀ i x, xs[i]? = some x → ∃ b o cs, a = some ⟨b, o, none⟩ ∧ I b ∧ rd.R I w x cs ∧ Row w b (o + i * rd.sz) cs

section
variable {α : Type} {rd : Rdr α} {I I' : Nat → Prop} {w w' : World} {v : Value} {xs : List α}
theorem SliceR.mono (hI : ∀ b, I b → I' b) (h : SliceR rd I w v xs) : SliceR rd I' w v xs := by
  obtain ⟨a, cap, e, hc, h⟩ := h
  refine ⟨a, cap, e, hc, fun i x hx => ?_⟩
  obtain ⟨b, o, cs, ea, hb, hr, hrow⟩ := h i x hx
  exact ⟨b, o, cs, ea, hI b hb, rd.mono hI hr, hrow⟩
theorem SliceR.keep (hs : Stay I w w') (h : SliceR rd I w v xs) : SliceR rd I w' v xs := by
  obtain ⟨a, cap, e, hc, h⟩ := h
  refine ⟨a, cap, e, hc, fun i x hx => ?_⟩
  obtain ⟨b, o, cs, ea, hb, hr, hrow⟩ := h i x hx
  exact ⟨b, o, cs, ea, hb, rd.keep hs hr, hrow.keep hs hb⟩
theorem SliceR.grow (h : SliceR rd I w v xs) (hg : Grow w w') : SliceR rd I w' v xs := h.keep (Stay.of_grow hg)
theorem Rdr.grow {x : α} {cs : List Value} (h : rd.R I w x cs) (hg : Grow w w') : rd.R I w' x cs := rd.keep (Stay.of_grow hg) h
/-- nil, or any slice of no element. -/
theorem SliceR.nil (a : Option Addr) (cap : Nat) : SliceR rd I w (.slice a 0 cap) [] := ⟨a, cap, rfl, Nat.zero_le _, fun i x h => by simp at h⟩
/-- Its first n. -/
theorem SliceR.of_rows {b o cap : Nat} (hI : I b) (hcap : xs.length ≤ cap) (h : ∀ i x, xs[i]? = some x → ∃ cs, rd.R I w x cs ∧ Row w b (o + i * rd.sz) cs) : SliceR rd I w (.slice (some ⟨b, o, none⟩) xs.length cap) xs :=
  ⟨_, cap, rfl, hcap, fun i x hx => by obtain ⟨cs, h1, h2⟩ := h i x hx; exact ⟨b, o, cs, rfl, hI, h1, h2⟩⟩
end
/-- A slice in a cell. -/
def rdSlice {α : Type} (rd : Rdr α) : Rdr (List α) where
  sz := 1
  R := fun I w xs cs => ∃ v, cs = [v] ∧ SliceR rd I w v xs
  len := fun ⟨_, e, _⟩ => by rw [e]; rfl
  mono := fun hI ⟨v, e, h⟩ => ⟨v, e, h.mono hI⟩
  keep := fun hs ⟨v, e, h⟩ => ⟨v, e, h.keep hs⟩
  one := fun ⟨v, e, a, cap, ev, _⟩ => by rw [e, ev]; simp [Value.oneCell']

/-! ### The types of the program -/
structure CVal where
  k : Int
  i : Int
  r : Nat
  re : Nat
  im : Nat
  t : ByteArray
  deriving DecidableEq
def CVal.cells (v : CVal) : List Value := [.int .i64 v.k, .int .i64 v.i, .float .f64 v.r, .complex .f64 v.re v.im, .string v.t]
def CVal.zero : CVal := ⟨0, 0, 0, 0, 0, ByteArray.empty⟩
structure CNode where
  k : Int
  a : Int
  b : Int
  name : ByteArray
  v : CVal
  deriving DecidableEq
def CNode.cells (n : CNode) : List Value := [.int .i64 n.k, .int .i64 n.a, .int .i64 n.b, .string n.name, .int .i64 n.v.k, .int .i64 n.v.i, .float .f64 n.v.r, .complex .f64 n.v.re n.v.im, .string n.v.t]
abbrev CExpr := List CNode
structure CField where
  name : ByteArray
  k : Int
  deriving DecidableEq
structure CBind where
  name : ByteArray
  v : CVal
  deriving DecidableEq
structure CPart where
  tag : ByteArray
  vars : List ByteArray
  deriving DecidableEq
structure CAct where
  k : Int
  to : CExpr
  name : ByteArray
  var : ByteArray
  args : List CExpr
  deriving DecidableEq
structure CChord where
  name : ByteArray
  parts : List CPart
  guard : CExpr
  body : List CAct
  deriving DecidableEq
structure CKind where
  name : ByteArray
  chords : List CChord
  deriving DecidableEq
structure CTag where
  name : ByteArray
  types : List Int
  deriving DecidableEq
structure CPrg where
  tags : List CTag
  kinds : List CKind
  deriving DecidableEq
structure CMsg where
  id : Int
  tag : ByteArray
  pay : List CVal
  deriving DecidableEq

def rdInt : Rdr Int := rdFlat 1 (fun n => [.int .i64 n]) (fun _ => rfl) (by intro x; simp [CVal.cells, CNode.cells, Value.oneCell'])
def rdStr : Rdr ByteArray := rdFlat 1 (fun s => [.string s]) (fun _ => rfl) (by intro x; simp [CVal.cells, CNode.cells, Value.oneCell'])
def rdVal : Rdr CVal := rdFlat 5 CVal.cells (fun _ => rfl) (by intro x; simp [CVal.cells, CNode.cells, Value.oneCell'])
def rdNode : Rdr CNode := rdFlat 9 CNode.cells (fun _ => rfl) (by intro x; simp [CVal.cells, CNode.cells, Value.oneCell'])
def rdField : Rdr CField := rdFlat 2 (fun f => [.string f.name, .int .i64 f.k]) (fun _ => rfl) (by intro x; simp [CVal.cells, CNode.cells, Value.oneCell'])
def rdBnd : Rdr CBind := rdFlat 6 (fun f => .string f.name :: f.v.cells) (fun _ => rfl) (by intro x; simp [CVal.cells, CNode.cells, Value.oneCell'])
def rdExpr : Rdr CExpr := rdSlice rdNode
def rdPart : Rdr CPart where
  sz := 2
  R := fun I w p cs => ∃ v, cs = [.string p.tag, v] ∧ SliceR rdStr I w v p.vars
  len := fun ⟨_, e, _⟩ => by rw [e]; rfl
  mono := fun hI ⟨v, e, h⟩ => ⟨v, e, h.mono hI⟩
  keep := fun hs ⟨v, e, h⟩ => ⟨v, e, h.keep hs⟩
  one := fun ⟨v, e, a, cap, ev, _⟩ => by rw [e, ev]; simp [Value.oneCell']
def rdTag : Rdr CTag where
  sz := 2
  R := fun I w p cs => ∃ v, cs = [.string p.name, v] ∧ SliceR rdInt I w v p.types
  len := fun ⟨_, e, _⟩ => by rw [e]; rfl
  mono := fun hI ⟨v, e, h⟩ => ⟨v, e, h.mono hI⟩
  keep := fun hs ⟨v, e, h⟩ => ⟨v, e, h.keep hs⟩
  one := fun ⟨v, e, a, cap, ev, _⟩ => by rw [e, ev]; simp [Value.oneCell']
def rdMsg : Rdr CMsg where
  sz := 3
  R := fun I w p cs => ∃ v, cs = [.int .i64 p.id, .string p.tag, v] ∧ SliceR rdVal I w v p.pay
  len := fun ⟨_, e, _⟩ => by rw [e]; rfl
  mono := fun hI ⟨v, e, h⟩ => ⟨v, e, h.mono hI⟩
  keep := fun hs ⟨v, e, h⟩ => ⟨v, e, h.keep hs⟩
  one := fun ⟨v, e, a, cap, ev, _⟩ => by rw [e, ev]; simp [Value.oneCell']
def rdAct : Rdr CAct where
  sz := 5
  R := fun I w p cs => ∃ v u, cs = [.int .i64 p.k, v, .string p.name, .string p.var, u] ∧ SliceR rdNode I w v p.to ∧ SliceR rdExpr I w u p.args
  len := fun ⟨_, _, e, _⟩ => by rw [e]; rfl
  mono := fun hI ⟨v, u, e, h, k⟩ => ⟨v, u, e, h.mono hI, k.mono hI⟩
  keep := fun hs ⟨v, u, e, h, k⟩ => ⟨v, u, e, h.keep hs, k.keep hs⟩
  one := fun ⟨v, u, e, ⟨a, cap, ev, _⟩, ⟨a', cap', eu, _⟩⟩ => by rw [e, ev, eu]; simp [Value.oneCell']
def rdChord : Rdr CChord where
  sz := 4
  R := fun I w p cs => ∃ v g u, cs = [.string p.name, v, g, u] ∧ SliceR rdPart I w v p.parts ∧ SliceR rdNode I w g p.guard ∧ SliceR rdAct I w u p.body
  len := fun ⟨_, _, _, e, _⟩ => by rw [e]; rfl
  mono := fun hI ⟨v, g, u, e, h, k, l⟩ => ⟨v, g, u, e, h.mono hI, k.mono hI, l.mono hI⟩
  keep := fun hs ⟨v, g, u, e, h, k, l⟩ => ⟨v, g, u, e, h.keep hs, k.keep hs, l.keep hs⟩
  one := fun ⟨v, g, u, e, ⟨a, cap, ev, _⟩, ⟨a', cap', eg, _⟩, ⟨a'', cap'', eu, _⟩⟩ => by rw [e, ev, eg, eu]; simp [Value.oneCell']
def rdKind : Rdr CKind where
  sz := 2
  R := fun I w p cs => ∃ v, cs = [.string p.name, v] ∧ SliceR rdChord I w v p.chords
  len := fun ⟨_, e, _⟩ => by rw [e]; rfl
  mono := fun hI ⟨v, e, h⟩ => ⟨v, e, h.mono hI⟩
  keep := fun hs ⟨v, e, h⟩ => ⟨v, e, h.keep hs⟩
  one := fun ⟨v, e, a, cap, ev, _⟩ => by rw [e, ev]; simp [Value.oneCell']
def rdPrg : Rdr CPrg where
  sz := 2
  R := fun I w p cs => ∃ v u, cs = [v, u] ∧ SliceR rdTag I w v p.tags ∧ SliceR rdKind I w u p.kinds
  len := fun ⟨_, _, e, _⟩ => by rw [e]; rfl
  mono := fun hI ⟨v, u, e, h, k⟩ => ⟨v, u, e, h.mono hI, k.mono hI⟩
  keep := fun hs ⟨v, u, e, h, k⟩ => ⟨v, u, e, h.keep hs, k.keep hs⟩
  one := fun ⟨v, u, e, ⟨a, cap, ev, _⟩, ⟨a', cap', eu, _⟩⟩ => by rw [e, ev, eu]; simp [Value.oneCell']
/-! ### One element of a slice -/
section
variable {I : Nat → Prop} {w : World} {a : Option Addr} {n cap : Nat}
theorem SliceR.shape {α : Type} {rd : Rdr α} {v : Value} {xs : List α} (h : SliceR rd I w v xs) : ∃ a cap, v = .slice a xs.length cap ∧ xs.length ≤ cap := by
  obtain ⟨a, cap, e, hc, _⟩ := h
  exact ⟨a, cap, e, hc⟩
theorem SliceR.at_ {α : Type} {rd : Rdr α} {xs : List α} (h : SliceR rd I w (.slice a n cap) xs) (k : Nat) (hk : k < xs.length) :
    ∃ b o cs, a = some ⟨b, o, none⟩ ∧ I b ∧ rd.R I w xs[k] cs ∧ Row w b (o + k * rd.sz) cs := by
  obtain ⟨a', cap', e, _, h⟩ := h
  simp only [Value.slice.injEq] at e
  obtain ⟨rfl, _, _⟩ := e
  exact h k _ (List.getElem?_eq_getElem hk)
theorem SliceR.atInt {xs : List Int} (h : SliceR rdInt I w (.slice a n cap) xs) (k : Nat) (hk : k < xs.length) :
    ∃ b o, a = some ⟨b, o, none⟩ ∧ I b ∧ w.cell? ⟨b, o + k, none⟩ = some (.int .i64 xs[k]) := by
  obtain ⟨b, o, cs, ea, hI, rfl, hr⟩ := h.at_ k hk
  have := hr.c0
  simp only [rdInt, rdFlat, Nat.mul_one] at this
  exact ⟨b, o, ea, hI, this⟩
theorem SliceR.atStr {xs : List ByteArray} (h : SliceR rdStr I w (.slice a n cap) xs) (k : Nat) (hk : k < xs.length) :
    ∃ b o, a = some ⟨b, o, none⟩ ∧ I b ∧ w.cell? ⟨b, o + k, none⟩ = some (.string xs[k]) := by
  obtain ⟨b, o, cs, ea, hI, rfl, hr⟩ := h.at_ k hk
  have := hr.c0
  simp only [rdStr, rdFlat, Nat.mul_one] at this
  exact ⟨b, o, ea, hI, this⟩
theorem SliceR.atField {xs : List CField} (h : SliceR rdField I w (.slice a n cap) xs) (k : Nat) (hk : k < xs.length) :
    ∃ b o, a = some ⟨b, o, none⟩ ∧ I b ∧ w.cell? ⟨b, o + k * 2, none⟩ = some (.string xs[k].name) ∧ w.cell? ⟨b, o + k * 2 + 1, none⟩ = some (.int .i64 xs[k].k) := by
  obtain ⟨b, o, cs, ea, hI, rfl, hr⟩ := h.at_ k hk
  exact ⟨b, o, ea, hI, hr.c0, hr.c1⟩
theorem SliceR.atVal {xs : List CVal} (h : SliceR rdVal I w (.slice a n cap) xs) (k : Nat) (hk : k < xs.length) :
    ∃ b o, a = some ⟨b, o, none⟩ ∧ I b ∧ w.cell? ⟨b, o + k * 5, none⟩ = some (.int .i64 xs[k].k) ∧ w.cell? ⟨b, o + k * 5 + 1, none⟩ = some (.int .i64 xs[k].i) ∧
      w.cell? ⟨b, o + k * 5 + 2, none⟩ = some (.float .f64 xs[k].r) ∧ w.cell? ⟨b, o + k * 5 + 3, none⟩ = some (.complex .f64 xs[k].re xs[k].im) ∧
      w.cell? ⟨b, o + k * 5 + 4, none⟩ = some (.string xs[k].t) := by
  obtain ⟨b, o, cs, ea, hI, rfl, hr⟩ := h.at_ k hk
  exact ⟨b, o, ea, hI, hr.c0, hr.c1, hr.c2, hr.c3, hr.c4⟩
theorem SliceR.atNode {xs : List CNode} (h : SliceR rdNode I w (.slice a n cap) xs) (k : Nat) (hk : k < xs.length) :
    ∃ b o, a = some ⟨b, o, none⟩ ∧ I b ∧ w.cell? ⟨b, o + k * 9, none⟩ = some (.int .i64 xs[k].k) ∧ w.cell? ⟨b, o + k * 9 + 1, none⟩ = some (.int .i64 xs[k].a) ∧
      w.cell? ⟨b, o + k * 9 + 2, none⟩ = some (.int .i64 xs[k].b) ∧ w.cell? ⟨b, o + k * 9 + 3, none⟩ = some (.string xs[k].name) ∧
      w.cell? ⟨b, o + k * 9 + 4, none⟩ = some (.int .i64 xs[k].v.k) ∧ w.cell? ⟨b, o + k * 9 + 5, none⟩ = some (.int .i64 xs[k].v.i) ∧
      w.cell? ⟨b, o + k * 9 + 6, none⟩ = some (.float .f64 xs[k].v.r) ∧ w.cell? ⟨b, o + k * 9 + 7, none⟩ = some (.complex .f64 xs[k].v.re xs[k].v.im) ∧
      w.cell? ⟨b, o + k * 9 + 8, none⟩ = some (.string xs[k].v.t) := by
  obtain ⟨b, o, cs, ea, hI, rfl, hr⟩ := h.at_ k hk
  exact ⟨b, o, ea, hI, hr.c0, hr.c1, hr.c2, hr.c3, hr.c4, hr.c5, hr.c6, hr.c7, hr.c8⟩
theorem SliceR.atBnd {xs : List CBind} (h : SliceR rdBnd I w (.slice a n cap) xs) (k : Nat) (hk : k < xs.length) :
    ∃ b o, a = some ⟨b, o, none⟩ ∧ I b ∧ w.cell? ⟨b, o + k * 6, none⟩ = some (.string xs[k].name) ∧ w.cell? ⟨b, o + k * 6 + 1, none⟩ = some (.int .i64 xs[k].v.k) ∧
      w.cell? ⟨b, o + k * 6 + 2, none⟩ = some (.int .i64 xs[k].v.i) ∧ w.cell? ⟨b, o + k * 6 + 3, none⟩ = some (.float .f64 xs[k].v.r) ∧
      w.cell? ⟨b, o + k * 6 + 4, none⟩ = some (.complex .f64 xs[k].v.re xs[k].v.im) ∧ w.cell? ⟨b, o + k * 6 + 5, none⟩ = some (.string xs[k].v.t) := by
  obtain ⟨b, o, cs, ea, hI, rfl, hr⟩ := h.at_ k hk
  exact ⟨b, o, ea, hI, hr.c0, hr.c1, hr.c2, hr.c3, hr.c4, hr.c5⟩
theorem SliceR.atPart {xs : List CPart} (h : SliceR rdPart I w (.slice a n cap) xs) (k : Nat) (hk : k < xs.length) :
    ∃ b o v, a = some ⟨b, o, none⟩ ∧ I b ∧ w.cell? ⟨b, o + k * 2, none⟩ = some (.string xs[k].tag) ∧ w.cell? ⟨b, o + k * 2 + 1, none⟩ = some v ∧ SliceR rdStr I w v xs[k].vars := by
  obtain ⟨b, o, cs, ea, hI, ⟨v, rfl, h1⟩, hr⟩ := h.at_ k hk
  exact ⟨b, o, v, ea, hI, hr.c0, hr.c1, h1⟩
theorem SliceR.atTag {xs : List CTag} (h : SliceR rdTag I w (.slice a n cap) xs) (k : Nat) (hk : k < xs.length) :
    ∃ b o v, a = some ⟨b, o, none⟩ ∧ I b ∧ w.cell? ⟨b, o + k * 2, none⟩ = some (.string xs[k].name) ∧ w.cell? ⟨b, o + k * 2 + 1, none⟩ = some v ∧ SliceR rdInt I w v xs[k].types := by
  obtain ⟨b, o, cs, ea, hI, ⟨v, rfl, h1⟩, hr⟩ := h.at_ k hk
  exact ⟨b, o, v, ea, hI, hr.c0, hr.c1, h1⟩
theorem SliceR.atKind {xs : List CKind} (h : SliceR rdKind I w (.slice a n cap) xs) (k : Nat) (hk : k < xs.length) :
    ∃ b o v, a = some ⟨b, o, none⟩ ∧ I b ∧ w.cell? ⟨b, o + k * 2, none⟩ = some (.string xs[k].name) ∧ w.cell? ⟨b, o + k * 2 + 1, none⟩ = some v ∧ SliceR rdChord I w v xs[k].chords := by
  obtain ⟨b, o, cs, ea, hI, ⟨v, rfl, h1⟩, hr⟩ := h.at_ k hk
  exact ⟨b, o, v, ea, hI, hr.c0, hr.c1, h1⟩
theorem SliceR.atMsg {xs : List CMsg} (h : SliceR rdMsg I w (.slice a n cap) xs) (k : Nat) (hk : k < xs.length) :
    ∃ b o v, a = some ⟨b, o, none⟩ ∧ I b ∧ w.cell? ⟨b, o + k * 3, none⟩ = some (.int .i64 xs[k].id) ∧ w.cell? ⟨b, o + k * 3 + 1, none⟩ = some (.string xs[k].tag) ∧
      w.cell? ⟨b, o + k * 3 + 2, none⟩ = some v ∧ SliceR rdVal I w v xs[k].pay := by
  obtain ⟨b, o, cs, ea, hI, ⟨v, rfl, h1⟩, hr⟩ := h.at_ k hk
  exact ⟨b, o, v, ea, hI, hr.c0, hr.c1, hr.c2, h1⟩
theorem SliceR.atExpr {xs : List CExpr} (h : SliceR rdExpr I w (.slice a n cap) xs) (k : Nat) (hk : k < xs.length) :
    ∃ b o v, a = some ⟨b, o, none⟩ ∧ I b ∧ w.cell? ⟨b, o + k, none⟩ = some v ∧ SliceR rdNode I w v xs[k] := by
  obtain ⟨b, o, cs, ea, hI, ⟨v, rfl, h1⟩, hr⟩ := h.at_ k hk
  have := hr.c0
  simp only [rdExpr, rdSlice, Nat.mul_one] at this
  exact ⟨b, o, v, ea, hI, this, h1⟩
theorem SliceR.atAct {xs : List CAct} (h : SliceR rdAct I w (.slice a n cap) xs) (k : Nat) (hk : k < xs.length) :
    ∃ b o v u, a = some ⟨b, o, none⟩ ∧ I b ∧ w.cell? ⟨b, o + k * 5, none⟩ = some (.int .i64 xs[k].k) ∧ w.cell? ⟨b, o + k * 5 + 1, none⟩ = some v ∧
      w.cell? ⟨b, o + k * 5 + 2, none⟩ = some (.string xs[k].name) ∧ w.cell? ⟨b, o + k * 5 + 3, none⟩ = some (.string xs[k].var) ∧ w.cell? ⟨b, o + k * 5 + 4, none⟩ = some u ∧
      SliceR rdNode I w v xs[k].to ∧ SliceR rdExpr I w u xs[k].args := by
  obtain ⟨b, o, cs, ea, hI, ⟨v, u, rfl, h1, h2⟩, hr⟩ := h.at_ k hk
  exact ⟨b, o, v, u, ea, hI, hr.c0, hr.c1, hr.c2, hr.c3, hr.c4, h1, h2⟩
theorem SliceR.atChord {xs : List CChord} (h : SliceR rdChord I w (.slice a n cap) xs) (k : Nat) (hk : k < xs.length) :
    ∃ b o v g u, a = some ⟨b, o, none⟩ ∧ I b ∧ w.cell? ⟨b, o + k * 4, none⟩ = some (.string xs[k].name) ∧ w.cell? ⟨b, o + k * 4 + 1, none⟩ = some v ∧
      w.cell? ⟨b, o + k * 4 + 2, none⟩ = some g ∧ w.cell? ⟨b, o + k * 4 + 3, none⟩ = some u ∧
      SliceR rdPart I w v xs[k].parts ∧ SliceR rdNode I w g xs[k].guard ∧ SliceR rdAct I w u xs[k].body := by
  obtain ⟨b, o, cs, ea, hI, ⟨v, g, u, rfl, h1, h2, h3⟩, hr⟩ := h.at_ k hk
  exact ⟨b, o, v, g, u, ea, hI, hr.c0, hr.c1, hr.c2, hr.c3, h1, h2, h3⟩
end
end Cm
end Go
