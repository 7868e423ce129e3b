import Derived.Test.YtgfpmjaiecmfmaaGreatDoorWorld
/-! Maps keyed by strings: what a block holds, looked up and written. -/
namespace Go
namespace Cm
open RowKit Instr

theorem bytes_beq_ (a b : ByteArray) : (a == b) = true ↔ a = b := by
  obtain ⟨x⟩ := a
  obtain ⟨y⟩ := b
  constructor
  · intro h
    have e : x = y := by simpa using (show (x == y) = true from h)
    rw [e]
  · intro h
    cases h
    show (x == x) = true
    simp
def lookM : List (ByteArray × Value) → ByteArray → Option Value
  | [], _ => none
  | (k, v) :: l, s => if s = k then some v else lookM l s
def putM : List (ByteArray × Value) → ByteArray → Value → List (ByteArray × Value)
  | [], s, x => [(s, x)]
  | (k, v) :: l, s, x => if s = k then (s, x) :: l else (k, v) :: putM l s x

/-- The entries are these. -/
def MapE (es : List MapEntry) (m : List (ByteArray × Value)) : Prop := es.map (fun e => (e.key, e.val)) = m.map fun p => (.string p.1, p.2)
/-- Block b is a map of these entries, in this order. -/
def MapR (w : World) (b : Nat) (m : List (ByteArray × Value)) : Prop := ∃ es clock, w.heap[b]? = some (.map es clock) ∧ MapE es.toList m

theorem MapR.grow {w w' : World} {b : Nat} {m : List (ByteArray × Value)} (h : MapR w b m) (hg : Grow w w') : MapR w' b m := by
  obtain ⟨es, c, hb, he⟩ := h
  exact ⟨es, c, by rw [hg.block (Array.getElem?_eq_some_iff.1 hb).1]; exact hb, he⟩
theorem MapR.lt {w : World} {b : Nat} {m : List (ByteArray × Value)} (h : MapR w b m) : b < w.heap.size := by
  obtain ⟨es, c, hb, _⟩ := h
  exact (Array.getElem?_eq_some_iff.1 hb).1

theorem MapR.new (w : World) : MapR (w.alloc (.map #[] 0)) w.heap.size [] := ⟨#[], 0, by show (w.heap.push _)[w.heap.size]? = _; simp, rfl⟩

theorem findNow_str (s : ByteArray) : ∀ (es : List MapEntry) (m : List (ByteArray × Value)) (i : Nat), MapE es m →
    (∃ j v, findNow .string (.string s) es i = some (some (i + j, v)) ∧ lookM m s = some v ∧ j < es.length ∧ (∃ e, es[j]? = some e ∧ e.key = .string s) ∧
      ∀ x, MapE (es.modify j fun e => { e with key := .string s, val := x }) (putM m s x)) ∨
    (findNow .string (.string s) es i = some none ∧ lookM m s = none ∧ ∀ x born, MapE (es ++ [⟨.string s, x, born⟩]) (putM m s x)) := by
  intro es
  induction es with
  | nil =>
    intro m i h
    obtain rfl : m = [] := by cases m <;> simp_all [MapE]
    exact .inr ⟨rfl, rfl, fun x born => rfl⟩
  | cons e es ih =>
    intro m i h
    cases m with
    | nil => simp [MapE] at h
    | cons p m =>
      obtain ⟨k, v⟩ := p
      simp only [MapE, List.map_cons, List.cons.injEq, Prod.mk.injEq] at h
      obtain ⟨⟨hk, hv⟩, hm⟩ := h
      by_cases hs : s = k
      · subst hs
        refine .inl ⟨0, v, ?_, by simp [lookM], by simp, ⟨e, by simp, hk⟩, fun x => ?_⟩
        · have hss : (s == s) = true := (bytes_beq_ s s).2 rfl
          simp [findNow, sameNow, hk, hv, hss]
        · simp [MapE, putM, List.modify_zero_cons, hm]
      · have hne : sameNow .string (.string s) e.key = some false := by
          have hss : (s == k) = false := by
            rw [Bool.eq_false_iff]; intro h; exact hs ((bytes_beq_ s k).1 h)
          rw [hk]; simp [sameNow, hss]
        rcases ih m (i + 1) hm with ⟨j, u, h1, h2, h3, ⟨e', h4, h5⟩, h6⟩ | ⟨h1, h2, h3⟩
        · refine .inl ⟨j + 1, u, ?_, ?_, by simp; omega, ⟨e', by simpa using h4, h5⟩, fun x => ?_⟩
          · simp only [findNow, hne, h1]; congr 3; omega
          · simp only [lookM, if_neg hs, h2]
          · have := h6 x
            simp only [MapE, putM, if_neg hs, List.map_cons, List.modify_succ_cons] at this ⊢
            rw [this, hk, hv]
        · refine .inr ⟨?_, ?_, fun x born => ?_⟩
          · simp only [findNow, hne, h1]
          · simp only [lookM, if_neg hs, h2]
          · have := h3 x born
            simp only [MapE, putM, if_neg hs, List.map_cons, List.cons_append] at this ⊢
            rw [this, hk, hv]

section
variable {P : Program} {T K E : TypeId} {w : World} {b : Nat} {m : List (ByteArray × Value)} {s : ByteArray}
theorem run_underlying_ {t : TypeId} {d : TypeDesc} (h : P.underlying t = some d) (w : World) : (underlying t).run P w = .ok d w := by
  simp [underlying, program, bind, Sem.bind, Sem.run, h, pure]
theorem run_checkKey_str (hK : P.underlying K = some .string) (b : Bool) (w : World) : (checkKey b 10000 K (.string s)).run P w = .ok () w := by
  unfold checkKey
  simp [Sem.run_bind, run_underlying_ hK, Result.andThen]
theorem run_findKey_str (hK : P.underlying K = some .string) {es : List MapEntry} {r : Option (Nat × Value)} (h : findNow .string (.string s) es 0 = some r) (w : World) : (findKey K (.string s) es).run P w = .ok r w := by
  unfold findKey
  simp [Sem.run_bind, run_underlying_ hK, Result.andThen, h]
theorem run_lookup_str (hT : P.underlying T = some (.map K E)) (hK : P.underlying K = some .string) {z : Value} (hz : (zeroValue E).run P w = .ok z w) (hm : MapR w b m) (ok : Bool) :
    (Instr.lookup T (.map (some b)) (.string s) ok).run P w = .ok (if ok then .tuple #[(lookM m s).getD z, .bool (lookM m s).isSome] else (lookM m s).getD z) w := by
  obtain ⟨es, c, hb, he⟩ := hm
  have hg : (getObj b).run P w = .ok (.map es c) w := by simp [getObj, Sem.run, hb]
  unfold Instr.lookup
  rcases findNow_str s es.toList m 0 he with ⟨j, v, h1, h2, _⟩ | ⟨h1, h2, _⟩
  · simp [Sem.run_bind, run_underlying_ hT, Result.andThen, hg, run_checkKey_str hK, run_findKey_str hK h1, h2]
  · simp [Sem.run_bind, run_underlying_ hT, Result.andThen, hg, run_checkKey_str hK, run_findKey_str hK h1, h2, hz]
theorem run_mapUpdate_str (hT : P.underlying T = some (.map K E)) (hK : P.underlying K = some .string) (hm : MapR w b m) (x : Value) :
    ∃ w', (Instr.mapUpdate T (.map (some b)) (.string s) x).run P w = .ok () w' ∧ MapR w' b (putM m s x) ∧ w.grownBy w' (some b) := by
  obtain ⟨es, c, hb, he⟩ := hm
  have hg : (getObj b).run P w = .ok (.map es c) w := by simp [getObj, Sem.run, hb]
  have hs : ∀ o, (setObj b o).run P w = .ok () { w with heap := w.heap.setIfInBounds b o } := fun o => by simp [setObj, Sem.run, hb]
  have hlt := (Array.getElem?_eq_some_iff.1 hb).1
  have hset : ∀ o, ({ w with heap := w.heap.setIfInBounds b o } : World).heap[b]? = some o := fun o => by simp [hlt]
  have hgr : ∀ o, w.grownBy { w with heap := w.heap.setIfInBounds b o } (some b) := fun o => ⟨rfl, rfl, rfl, by simp, fun k hk hne => by
    simp only [Array.getElem?_setIfInBounds]
    rw [if_neg (fun e => hne (by rw [e]))]⟩
  unfold Instr.mapUpdate
  rcases findNow_str s es.toList m 0 he with ⟨j, v, h1, h2, h3, ⟨e, h4, h5⟩, h6⟩ | ⟨h1, h2, h3⟩
  · have hj : es[j]? = some e := by simpa using h4
    refine ⟨_, ?_, ⟨es.modify j fun e => { e with key := .string s, val := x }, c, hset _, ?_⟩, hgr _⟩
    · have hstay : (keyThatStays (.string s) (.string s)).run P w = .ok (.string s) w := by
        unfold keyThatStays
        have : sameBits 10000 (.string s) (.string s) = true := by unfold sameBits; exact (bytes_beq_ s s).2 rfl
        simp [this, Sem.run]
      simp [Sem.run_bind, run_underlying_ hT, Result.andThen, hg, run_checkKey_str hK, run_findKey_str hK h1, hj, h5, hstay, hs]
    · have := h6 x
      simpa using this
  · refine ⟨_, ?_, ⟨es.push ⟨.string s, x, c⟩, c + 1, hset _, ?_⟩, hgr _⟩
    · simp [Sem.run_bind, run_underlying_ hT, Result.andThen, hg, run_checkKey_str hK, run_findKey_str hK h1, hs]
    · have := h3 x c
      simpa using this

theorem wpList_lookup_str {ops : Array Oper} {rest : List Oper} {o : Oper} {a : Act} {Q : Exit → Act → World → Prop} (hgd : o.guard = none) {x ix : Operand} {ok : Bool} (ho : o.op = .lookup T x ix ok)
    (hT : P.underlying T = some (.map K E)) (hK : P.underlying K = some .string) {z : Value} (hz : (zeroValue E).run P w = .ok z w) (hx : a.eval x = .map (some b)) (hi : a.eval ix = .string s) (hm : MapR w b m)
    (h : wpList P ops Q rest (a.put o.dst (if ok then .tuple #[(lookM m s).getD z, .bool (lookM m s).isSome] else (lookM m s).getD z)) w) : wpList P ops Q (o :: rest) a w := by
  refine wpList_plain hgd fun _ hK' => ?_
  unfold Oper.wp execOp
  simp only [ho, hx, hi, Sem.run_bind, run_lookup_str hT hK hz hm ok, Result.andThen_ok, Sem.run_pure]
  exact hK' _ _ h
theorem wpList_put_str {ops : Array Oper} {rest : List Oper} {o : Oper} {a : Act} {Q : Exit → Act → World → Prop} (hgd : o.guard = none) {x ix y : Operand} (ho : o.op = .mapUpdate T x ix y ∨ o.op = .insert T x ix y)
    (hT : P.underlying T = some (.map K E)) (hK : P.underlying K = some .string) (hx : a.eval x = .map (some b)) (hi : a.eval ix = .string s) (hm : MapR w b m)
    (h : ∀ w', MapR w' b (putM m s (a.eval y)) → w.grownBy w' (some b) → wpList P ops Q rest (a.put o.dst undef) w') : wpList P ops Q (o :: rest) a w := by
  refine wpList_plain hgd fun _ hK' => ?_
  obtain ⟨w', hr, h1, h2⟩ := run_mapUpdate_str hT hK hm (s := s) (a.eval y)
  unfold Oper.wp execOp
  rcases ho with ho | ho <;>
  · simp only [ho, hx, hi, Sem.run_bind, hr, Result.andThen_ok, Sem.run_pure]
    exact hK' _ _ (h w' h1 h2)
end
end Cm
end Go
