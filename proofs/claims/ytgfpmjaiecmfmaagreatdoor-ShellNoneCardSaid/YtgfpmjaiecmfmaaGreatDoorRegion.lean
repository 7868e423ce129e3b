import Derived.Test.YtgfpmjaiecmfmaaGreatDoorWorld
import Derived.Still
import Derived.StillTactics
/-! Regions that draw their order: one order of my choice serves every order. -/
namespace Go
namespace Cm

/-- May the operation be taken ahead of others: is it one whose value I show for every world, or a load? -/
def isLoad (o : Oper) : Bool := match o.op with | .load .. => true | _ => false
def isEff (o : Oper) : Bool := match o.op with
  | .store .. | .mapUpdate .. | .insert .. | .alloc _ | .box .. | .buildSlice .. | .makeMap .. | .makeChan .. | .makeSlice .. | .mapEntry .. | .entryStore .. | .range .. | .next .. | .entry _ | .go _ | .defer _ | .panic _
  | .send .. | .recv .. | .select .. | .ready _ | .waits _ | .lookup .. => true
  | .call c => match c.callee with
    | .builtin .len | .builtin .cap | .builtin .real | .builtin .imag | .builtin .complex | .builtin .min | .builtin .max => false
    | _ => true
  | _ => false
def isPre (o : Oper) : Bool := !isEff o

section
variable {P : Program} {ops : Array Oper} {Q : Exit → Act → World → Prop} {md : Region.Mode} {xs : List Nat}

/-- What I show of such an operation in state 'a', world 'w'. A load: that its cells are there, and its value. -/
def preYields (P : Program) (o : Oper) (a : Act) (w : World) (v : Value) : Prop :=
  if isLoad o then (∀ w', Grow w w' → (execOp a.eval o).run P w' = .ok (.value v) w') else ∀ w', (execOp a.eval o).run P w' = .ok (.value v) w'

def mild (ops : Array Oper) (xs : List Nat) (i : Nat) : Bool := (match ops[i]? with | some o => isPre o | none => false) || xs.contains i

def opX (P : Program) (ops : Array Oper) (Q : Exit → Act → World → Prop) (xs : List Nat) (i : Nat) (K : Act → World → Prop) (a : Act) (w : World) : Prop :=
  wpOp P ops Q i (fun a' w' => (mild ops xs i = true → Grow w w') ∧ K a' w') a w

def anyX (P : Program) (md : Region.Mode) (ops : Array Oper) (Q : Exit → Act → World → Prop) (xs : List Nat) : Nat → Array Bool → Act → World → Prop
  | 0, listed, a, w => Region.ready md ops listed = [] ∧ Q .normal a w
  | fuel + 1, listed, a, w =>
    (Region.ready md ops listed = [] → Q .normal a w) ∧
    ∀ i ∈ Region.ready md ops listed, opX P ops Q xs i (anyX P md ops Q xs fuel (listed.setIfInBounds i true)) a w

theorem wpAny_of_X : ∀ (fuel : Nat) (listed : Array Bool) (a : Act) (w : World), anyX P md ops Q xs fuel listed a w → wpAny P md ops Q fuel listed a w
  | 0, _, _, _, h => h
  | fuel + 1, _, _, _, h => ⟨h.1, fun i hi => wpOp_mono (fun a' w' h' => wpAny_of_X fuel _ a' w' h'.2) (h.2 i hi)⟩

/-- 'oi' yields v in every world that stands so to this one. -/
def YieldsR (P : Program) (ops : Array Oper) (ρ : World → World → Prop) (o : Oper) (v : Value) (a : Act) (w : World) : Prop :=
  (Region.wanted o (yielded ops a.tmps) = true ∧ ∀ w', ρ w w' → (execOp a.eval o).run P w' = .ok (.value v) w') ∨
  (Region.wanted o (yielded ops a.tmps) = false ∧ v = undef)

def SameTo (P : Program) (ops : Array Oper) (o : Oper) (a a' : Act) : Prop :=
  execOp a'.eval o = execOp a.eval o ∧ Region.wanted o (yielded ops a'.tmps) = Region.wanted o (yielded ops a.tmps) ∧ P = P

theorem opX_put {j : Nat} {oi oj : Oper} {v : Value} (hj : ops[j]? = some oj) (hap : oi.apart ops oj = true)
    (hsi : ∀ cs b, oi.op ≠ .select cs b) (hsj : ∀ cs b, oj.op ≠ .select cs b)
    (hQ : ∀ c a w, Q (.panic c) (a.put oi.dst v) w → Q (.panic c) a w) {K : Act → World → Prop} {a : Act} {w : World}
    (h : wpOp P ops Q j K (a.put oi.dst v) w) :
    wpOp P ops Q j (fun a' w' => SameTo P ops oi a a' ∧ K (a'.put oi.dst v) w') a w := by
  obtain ⟨h1, h2, h3⟩ := Oper.apart_spec hap
  have keep : ∀ u, SameTo P ops oi a (a.put oj.dst u) := fun u => ⟨execOp_put oi hsi a oj.dst u h3, wanted_put oi a oj.dst u h3, rfl⟩
  unfold wpOp at *
  simp only [hj] at *
  rw [wanted_put oj a oi.dst v h1] at h
  split
  · rename_i hw
    simp only [hw, if_true] at h
    rcases h with h | ⟨hasks, hlets⟩
    case inr => exact .inr ⟨by unfold Oper.asks at *; rw [execOp_put oj hsj a oi.dst v h1] at hasks; exact hasks, hlets⟩
    refine .inl ?_
    unfold Oper.wp at *
    rw [execOp_put oj hsj a oi.dst v h1] at h
    generalize (execOp a.eval oj).run P w = r at *
    cases r with
    | ok n w' =>
      cases n <;> simp only [Oper.upon] at h ⊢
      case value u => exact ⟨keep u, by rw [← Act.put_comm a v u h2]; exact h⟩
      case skip => exact ⟨keep _, by rw [← Act.put_comm a v undef h2]; exact h⟩
      case defer d =>
        refine ⟨⟨?_, ?_, rfl⟩, ?_⟩
        · exact execOp_put oi hsi { a with defers := d :: a.defers } oj.dst undef h3
        · exact wanted_put oi { a with defers := d :: a.defers } oj.dst undef h3
        · rw [← Act.put_comm _ v undef h2, ← Act.put_defers]
          exact h
      case enter f args =>
        refine Calls.mono h fun e w'' he => ?_
        cases e with
        | returned u => exact ⟨keep u, by rw [← Act.put_comm a v u h2]; exact he⟩
        | panicked c => exact hQ _ _ _ he
        | outgrown => exact he
      case row row args => exact Rows.mono h fun u w'' he => ⟨keep u, by rw [← Act.put_comm a v u h2]; exact he⟩
    | halt x w' =>
      cases x <;> simp only [Oper.upon] at h ⊢
      case panic u => exact hQ _ _ _ h
  · rename_i hw
    simp only [hw] at h
    exact ⟨keep _, by rw [← Act.put_comm a v undef h2]; exact h⟩

theorem YieldsR.opX {ρ : World → World → Prop} (hrefl : ∀ w, ρ w w) {i : Nat} {o : Oper} {v : Value} {a : Act} {w : World} (hi : ops[i]? = some o) (hy : YieldsR P ops ρ o v a w)
    {K : Act → World → Prop} (h : K (a.put o.dst v) w) : Cm.opX P ops Q xs i K a w := by
  unfold Cm.opX Go.wpOp
  simp only [hi]
  rcases hy with ⟨hw, hv⟩ | ⟨hw, rfl⟩
  · simp only [hw, if_true, Oper.wp, hv w (hrefl w), Oper.upon]; exact .inl ⟨fun _ => Grow.refl w, h⟩
  · simp only [hw, Bool.false_eq_true, if_false]; exact ⟨fun _ => Grow.refl w, h⟩

theorem opX_mono {i : Nat} {a : Act} {w : World} {K K' : Act → World → Prop} (h : ∀ a' w', (mild ops xs i = true → Grow w w') → K a' w' → K' a' w')
    (hh : opX P ops Q xs i K a w) : opX P ops Q xs i K' a w := wpOp_mono (fun a' w' h' => ⟨h'.1, h a' w' h'.1 h'.2⟩) hh

theorem anyX_first {ρ : World → World → Prop} (hrefl : ∀ w, ρ w w) (htrans : ∀ a b c, ρ a b → ρ b c → ρ a c) {i : Nat} {oi : Oper} {v : Value} (hi : ops[i]? = some oi)
    (hsel : ∀ (j : Nat) (o : Oper) cs b, ops[j]? = some o → o.op ≠ .select cs b)
    (hQ : ∀ c a w, Q (.panic c) (a.put oi.dst v) w → Q (.panic c) a w)
    (W : List Nat) (hW : ∀ k ∈ W, ∃ ok, ops[k]? = some ok ∧ ∃ e ∈ ok.after, Region.binds md e = true ∧ (e.on = i ∨ e.on ∈ W)) :
    ∀ (fuel : Nat) (listed : Array Bool) (a : Act) (w : World),
      (∀ k ∈ W, listed.getD k true = false) →
      (∀ j oj, ops[j]? = some oj → j ≠ i → listed.getD j true = false → j ∉ W → oi.apart ops oj = true ∧ ∀ w w', (mild ops xs j = true → Grow w w') → ρ w w') →
      i ∈ Region.ready md ops listed → YieldsR P ops ρ oi v a w →
      anyX P md ops Q xs fuel (listed.setIfInBounds i true) (a.put oi.dst v) w → anyX P md ops Q xs (fuel + 1) listed a w := by
  intro fuel
  induction fuel with
  | zero =>
    intro listed a w _ _ hr hy H
    refine ⟨fun h => (by rw [h] at hr; cases hr), fun j hj => ?_⟩
    by_cases hji : j = i
    · subst hji; exact hy.opX hrefl hi H
    · have := ready_mono hj hji
      rw [H.1] at this
      cases this
  | succ fuel ih =>
    intro listed a w hWl hfree hr hy H
    refine ⟨fun h => (by rw [h] at hr; cases hr), fun j hj => ?_⟩
    by_cases hji : j = i
    · subst hji; exact hy.opX hrefl hi H
    · have h1 := H.2 j (ready_mono hj hji)
      obtain ⟨hjun, oj, hoj, hall⟩ := mem_ready.1 hj
      have clash : ∀ k, listed.getD k true = false → listed.getD k false = true → False := fun k h0 h1 => by
        rcases Nat.lt_or_ge k listed.size with h' | h'
        · simp [h'] at h0 h1; rw [h0] at h1; cases h1
        · simp [Array.getElem?_eq_none h'] at h1
      have hnW : j ∉ W := fun hjW => by
        obtain ⟨ok, hok, e, he, hb, hon⟩ := hW j hjW
        have hoj' : ok = oj := Option.some.inj (hok.symm.trans hoj)
        subst hoj'
        have h2 := hall e he hb
        rcases hon with hon | hon
        · rw [hon] at h2; exact clash i (mem_ready.1 hr).1 h2
        · exact clash e.on (hWl _ hon) h2
      obtain ⟨hap, hrho⟩ := hfree j oj hoj hji hjun hnW
      have h2 := opX_put hoj hap (fun cs b => hsel i oi cs b hi) (fun cs b => hsel j oj cs b hoj) hQ h1
      have hset : ∀ k, k ≠ j → (listed.setIfInBounds j true).getD k true = listed.getD k true := fun k hk => getD_set_ne true (Ne.symm hk)
      refine wpOp_mono (fun a' w' h3 => ⟨h3.2.1, ?_⟩) h2
      refine ih (listed.setIfInBounds j true) a' w' (fun k hk => ?_) (fun k ok hk hki hun hnk => ?_) (ready_mono hr (Ne.symm hji)) ?_ ?_
      · rw [hset k (fun e => hnW (e ▸ hk))]; exact hWl k hk
      · refine hfree k ok hk hki ?_ hnk
        by_cases hjk : k = j
        · subst hjk; exact hjun
        · rw [hset k hjk] at hun; exact hun
      · rcases hy with ⟨hw, hv⟩ | ⟨hw, rfl⟩
        · refine .inl ⟨by rw [h3.1.2.1]; exact hw, fun w'' hρ => ?_⟩
          rw [h3.1.1]
          exact hv w'' (htrans _ _ _ (hrho w w' h3.2.1) hρ)
        · exact .inr ⟨by rw [h3.1.2.1]; exact hw, rfl⟩
      · rw [Array.setIfInBounds_comm _ _ hji]
        exact h3.2.2

/-! ### The order of my choice -/
def wpCanon (P : Program) (ops : Array Oper) (Q : Exit → Act → World → Prop) (xs : List Nat) : List Nat → Act → World → Prop
  | [], a, w => Q .normal a w
  | i :: l, a, w => match ops[i]? with
    | none => False
    | some o =>
      if Region.wanted o (yielded ops a.tmps) then
        (if isPre o then ∃ v, preYields P o a w v ∧ wpCanon P ops Q xs l (a.put o.dst v) w
        else o.wp P a w (fun a' w' => (xs.contains i = true → Grow w w') ∧ wpCanon P ops Q xs l a' w') Q ∨ (o.asks P a w ∧ LetsOut Q))
      else wpCanon P ops Q xs l (a.put o.dst undef) w

def waits (md : Region.Mode) (ops : Array Oper) (j : Nat) (p : Nat → Bool) : Bool := match ops[j]? with
  | some o => o.after.any fun e => Region.binds md e && p e.on
  | none => false
/-- What waits for i, at once or by others. -/
def waiters (md : Region.Mode) (ops : Array Oper) (i : Nat) : Nat → List Nat → List Nat
  | 0, acc => acc
  | fuel + 1, acc => waiters md ops i fuel ((List.range ops.size).filter fun j => waits md ops j fun k => k == i || acc.contains k)
def freeB (md : Region.Mode) (ops : Array Oper) (xs : List Nat) (listed : Array Bool) (i : Nat) (W : List Nat) : Bool :=
  (W.all fun k => !listed.getD k true && waits md ops k fun m => m == i || W.contains m) &&
  match ops[i]? with
  | none => false
  | some oi => (List.range ops.size).all fun j => j == i || listed.getD j true || W.contains j || (match ops[j]? with
      | some oj => oi.apart ops oj && (!isLoad oi || mild ops xs j)
      | none => true)
def canonB (md : Region.Mode) (ops : Array Oper) (xs : List Nat) : List Nat → Array Bool → Bool
  | [], listed => (Region.ready md ops listed).isEmpty
  | i :: l, listed =>
    (match ops[i]? with
    | none => false
    | some o => if isPre o then (Region.ready md ops listed).contains i && (freeB md ops xs listed i (waiters md ops i 1 []) || freeB md ops xs listed i (waiters md ops i 6 [])) else Region.ready md ops listed == [i]) &&
    canonB md ops xs l (listed.setIfInBounds i true)

theorem waits_spec {j : Nat} {p : Nat → Bool} (h : waits md ops j p = true) : ∃ o, ops[j]? = some o ∧ ∃ e ∈ o.after, Region.binds md e = true ∧ p e.on = true := by
  unfold waits at h
  cases ho : ops[j]? with
  | none => simp [ho] at h
  | some o =>
    simp only [ho] at h
    obtain ⟨e, he, hb⟩ := Array.any_eq_true'.1 h
    simp only [Bool.and_eq_true] at hb
    exact ⟨o, rfl, e, he, hb.1, hb.2⟩

theorem anyX_canon (hs : Region.noSelect ops = true) (hQ : ∀ c a d v w, Q (.panic c) (a.put d v) w → Q (.panic c) a w) : ∀ (l : List Nat) (listed : Array Bool) (a : Act) (w : World),
    canonB md ops xs l listed = true → wpCanon P ops Q xs l a w → anyX P md ops Q xs l.length listed a w
  | [], listed, a, w, hB, h => ⟨by simpa [canonB] using hB, h⟩
  | i :: l, listed, a, w, hB, h => by
    simp only [canonB, Bool.and_eq_true] at hB
    obtain ⟨hi, hB'⟩ := hB
    have rec_ := fun a w => anyX_canon hs hQ l (listed.setIfInBounds i true) a w hB'
    simp only [wpCanon] at h
    cases ho : ops[i]? with
    | none => simp [ho] at hi
    | some o =>
      simp only [ho] at hi h
      by_cases hp : isPre o = true
      · simp only [hp, if_true, Bool.and_eq_true] at hi h
        obtain ⟨hr, hf⟩ := hi
        have hr' : i ∈ Region.ready md ops listed := by simpa using hr
        obtain ⟨W, hf⟩ : ∃ W, freeB md ops xs listed i W = true := by
          rcases Bool.or_eq_true_iff.1 hf with hf | hf <;> exact ⟨_, hf⟩
        simp only [freeB, ho, Bool.and_eq_true] at hf
        obtain ⟨hWall, hfree⟩ := hf
        have hW : ∀ k ∈ W, listed.getD k true = false ∧ waits md ops k (fun m => m == i || W.contains m) = true := fun k hk => by
          have := List.all_eq_true.1 hWall k hk
          simpa only [Bool.and_eq_true, Bool.not_eq_true'] using this
        have hWe : ∀ k ∈ W, ∃ ok, ops[k]? = some ok ∧ ∃ e ∈ ok.after, Region.binds md e = true ∧ (e.on = i ∨ e.on ∈ W) := fun k hk => by
          obtain ⟨ok, hok, e, he, hb, hp⟩ := waits_spec (hW k hk).2
          refine ⟨ok, hok, e, he, hb, ?_⟩
          simpa only [Bool.or_eq_true, beq_iff_eq, List.contains_iff_mem] using hp
        have hfree' : ∀ j oj, ops[j]? = some oj → j ≠ i → listed.getD j true = false → j ∉ W → o.apart ops oj = true ∧ (isLoad o = true → mild ops xs j = true) := fun j oj hj hne hun hnW => by
          have h1 := List.all_eq_true.1 hfree j (List.mem_range.2 (Array.getElem?_eq_some_iff.1 hj).1)
          simp only [hj, Bool.or_eq_true, beq_iff_eq, hne, false_or, hun, Bool.false_eq_true, List.contains_iff_mem, hnW, Bool.and_eq_true, Bool.not_eq_true'] at h1
          exact ⟨h1.1, fun hl => h1.2.resolve_left (by simp [hl])⟩
        -- the value
        have hval : ∃ v, YieldsR P ops (fun w w' => isLoad o = true → Grow w w') o v a w ∧ wpCanon P ops Q xs l (a.put o.dst v) w := by
          by_cases hw : Region.wanted o (yielded ops a.tmps) = true
          · simp only [hw, if_true] at h
            obtain ⟨v, hv, hn⟩ := h
            refine ⟨v, .inl ⟨hw, fun w' hρ => ?_⟩, hn⟩
            unfold preYields at hv
            by_cases hl : isLoad o = true
            · simp only [hl, if_true] at hv; exact hv w' (hρ hl)
            · simp only [hl] at hv; exact hv w'
          · simp only [hw] at h
            exact ⟨undef, .inr ⟨by simpa using hw, rfl⟩, h⟩
        obtain ⟨v, hy, hn⟩ := hval
        exact anyX_first (ρ := fun w w' => isLoad o = true → Grow w w') (fun w _ => Grow.refl w) (fun a b c h1 h2 hl => (h1 hl).trans (h2 hl)) ho (Region.noSelect_spec hs) (fun c a w => hQ c a _ _ w) W hWe
          l.length listed a w (fun k hk => (hW k hk).1) (fun j oj hj hne hun hnW => ⟨(hfree' j oj hj hne hun hnW).1, fun w w' hg hl => hg ((hfree' j oj hj hne hun hnW).2 hl)⟩) hr' hy (rec_ _ _ hn)
      · simp only [hp] at hi h
        have hready : Region.ready md ops listed = [i] := by simpa using hi
        refine ⟨fun h0 => (by rw [hready] at h0; cases h0), fun j hj => ?_⟩
        rw [hready] at hj
        obtain rfl : j = i := by simpa using hj
        have hmild : mild ops xs j = xs.contains j := by
          have hp' : isPre o = false := by simpa using hp
          unfold mild
          rw [ho]
          simp only [hp', Bool.false_or]
        unfold opX wpOp
        simp only [ho, hmild]
        by_cases hw : Region.wanted o (yielded ops a.tmps) = true
        · simp only [hw, if_true] at h ⊢
          exact h.imp (Oper.wp_mono fun a' w' h' => ⟨h'.1, rec_ _ _ h'.2⟩) id
        · simp only [hw] at h ⊢
          exact ⟨fun _ => Grow.refl w, rec_ _ _ h⟩

/-- **A region that draws its order: the order 'l' serves every order.** 'xs': calls (and the like) that I show to leave what lay there. -/
theorem wp_region_canon (xs l : List Nat) {id : Nat} {a : Act} {w : World} (hm : P.follows .mixedOrders = true) (hB : (Region.noSelect ops && l.length == ops.size && canonB .any ops xs l (Array.replicate ops.size false)) = true)
    (hQ : ∀ c a d v w, Q (.panic c) (a.put d v) w → Q (.panic c) a w) (h : wpCanon P ops Q xs l a w.drew) : (Code.region id ops true).wp P Q a w := by
  simp only [Bool.and_eq_true, beq_iff_eq] at hB
  obtain ⟨⟨hs, hlen⟩, hB⟩ := hB
  refine wp_region_any hm ?_
  have h1 := wpAny_of_X _ _ _ _ (anyX_canon hs hQ l _ a w.drew hB h)
  rw [hlen] at h1
  exact h1

/-! ### Steps -/
theorem canon_pre {i : Nat} {o : Oper} {l : List Nat} {a : Act} {w : World} (ho : ops[i]? = some o) (hp : isPre o = true) (hl : isLoad o = false)
    (h : ∀ K : Act → Prop, (∀ a, wpCanon P ops Q xs l a w → K a) → if Region.wanted o (yielded ops a.tmps) then ∃ v, (∀ w', (execOp a.eval o).run P w' = .ok (.value v) w') ∧ K (a.put o.dst v) else K (a.put o.dst undef)) :
    wpCanon P ops Q xs (i :: l) a w := by
  have := h _ (fun _ h => h)
  simp only [wpCanon, ho, hp, if_true, preYields, hl]
  exact this
theorem canon_skip {i : Nat} {o : Oper} {l : List Nat} {a : Act} {w : World} (ho : ops[i]? = some o) (hw : Region.wanted o (yielded ops a.tmps) = false)
    (h : wpCanon P ops Q xs l (a.put o.dst undef) w) : wpCanon P ops Q xs (i :: l) a w := by
  simp only [wpCanon, ho, hw]
  exact h
theorem canon_load {i : Nat} {o : Oper} {l : List Nat} {a : Act} {w : World} (ho : ops[i]? = some o) (hl : isLoad o = true)
    (h : ∀ K : Act → Prop, (∀ a, wpCanon P ops Q xs l a w → K a) → if Region.wanted o (yielded ops a.tmps) then ∃ v, (∀ d, (execOp a.eval o).run P (w.ext d) = .ok (.value v) (w.ext d)) ∧ K (a.put o.dst v) else K (a.put o.dst undef)) :
    wpCanon P ops Q xs (i :: l) a w := by
  have hp : isPre o = true := by
    obtain ⟨dst, op, ty, pos, after, guard⟩ := o
    cases op <;> first | rfl | (simp [isLoad] at hl)
  have := h _ (fun _ h => h)
  simp only [wpCanon, ho, hp, if_true, preYields, hl]
  split
  · rename_i hw
    simp only [hw, if_true] at this
    obtain ⟨v, hv, hn⟩ := this
    exact ⟨v, fun w' hg => by obtain ⟨d, rfl⟩ := hg; exact hv d, hn⟩
  · rename_i hw
    simp only [hw] at this
    exact this
theorem canon_nil {a : Act} {w : World} (h : Q .normal a w) : wpCanon P ops Q xs [] a w := h
/-- Whatever else: by the walk's own rules. -/
theorem canon_eff {i : Nat} {o : Oper} {l : List Nat} {a : Act} {w : World} (ho : ops[i]? = some o) (hp : isPre o = false)
    (h : wpList P ops (Exit.then (fun a' w' => (xs.contains i = true → Grow w w') ∧ wpCanon P ops Q xs l a' w') Q) [o] a w) : wpCanon P ops Q xs (i :: l) a w := by
  simp only [wpCanon, ho, hp, Bool.false_eq_true, if_false]
  simp only [wpList, Exit.then] at h
  by_cases hw : Region.wanted o (yielded ops a.tmps) = true
  · simp only [hw, if_true] at h ⊢
    refine h.imp (fun h => ?_) (fun h => ⟨h.1, ?_⟩)
    · unfold Oper.wp at h ⊢
      generalize (execOp a.eval o).run P w = r at *
      cases r with
      | ok n w' =>
        cases n <;> simp only [Oper.upon] at h ⊢
        case value u => exact h
        case skip => exact h
        case defer d => exact h
        case enter f args =>
          refine Calls.mono h fun e w'' he => ?_
          cases e <;> first | exact he | exact (show LetsOut Q from let ⟨a, w, h⟩ := he; ⟨a, w, h⟩)
        case row row args => exact h
      | halt x w' => cases x <;> simp only [Oper.upon] at h ⊢ <;> exact h
    · obtain ⟨a, w, h⟩ := h.2
      exact ⟨a, w, h⟩
  · simp only [hw] at h ⊢
    exact h.2
end
end Cm
end Go
