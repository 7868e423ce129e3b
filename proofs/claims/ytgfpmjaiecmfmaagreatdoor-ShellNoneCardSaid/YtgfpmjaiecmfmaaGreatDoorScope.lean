import Derived.Scope
import Derived.WalkKit
/-! A scope whose labels are jumped to, each of several: what holds at each jump, and a measure that every pass lowers. -/
namespace Go
namespace Cm
/-- As Q; by a goto: J. -/
def jumps (J : Nat → Act → World → Prop) (Q : Exit → Act → World → Prop) : Exit → Act → World → Prop
  | .goto l, a, w => J l a w
  | e, a, w => Q e a w
section
variable {P : Program} {a : Act} {w : World} {Q : Exit → Act → World → Prop}
theorem wp_scope_gotos {c : Code} (J : Nat → Act → World → Prop) (μ : Nat → Act → World → Nat)
    (first : c.wp P (jumps J Q) a w)
    (pass : ∀ l a w, J l a w → ∃ rest, findLabel c l = some rest ∧ rest.wp P (jumps (fun l' a' w' => J l' a' w' ∧ μ l' a' w' < μ l a w) Q) a w) : (Code.scope c).wp P Q a w := by
  intro b k cs
  have hg : ∀ l rest, findLabel c l = some rest → gotoIn l (.inScope c :: k) = some (.code rest :: .inScope c :: k) := fun l rest hf => by simp [gotoIn, hf]
  have key : ∀ n l a w, μ l a w = n → J l a w → ∀ rest, findLabel c l = some rest → ∃ e a' w', Q e a' w' ∧ Arrives P (lone (b.at a (.code rest :: .inScope c :: k)) cs w) b k cs e a' w' := by
    intro n
    induction n using Nat.strongRecOn with
    | _ n ih =>
      intro l a w hn hJ rest hf
      obtain ⟨rest', hf', hwp⟩ := pass l a w hJ
      obtain rfl : rest' = rest := Option.some.inj (hf'.symm.trans hf)
      obtain ⟨e, a₁, w₁, hq, harr⟩ := hwp b (.inScope c :: k) cs
      cases e with
      | normal => exact ⟨.normal, a₁, w₁, hq, Steps.trans harr (.one step_inScope)⟩
      | exit id => exact ⟨.exit id, a₁, w₁, hq, fun k' hk => harr k' (by simp [exitTo, hk])⟩
      | goto l' =>
        obtain ⟨hJ', hlt⟩ := hq
        obtain ⟨rest₂, hf₂, _⟩ := pass l' a₁ w₁ hJ'
        obtain ⟨e₂, a₂, w₂, hq₂, harr₂⟩ := ih _ (by omega) l' a₁ w₁ rfl hJ' rest₂ hf₂
        exact ⟨e₂, a₂, w₂, hq₂, .of_steps (harr _ (hg l' rest₂ hf₂)) harr₂⟩
      | ret => exact ⟨_, a₁, w₁, hq, harr⟩
      | panic ch => exact ⟨_, a₁, w₁, hq, harr⟩
      | outgrown => exact ⟨_, a₁, w₁, hq, harr⟩
  obtain ⟨e, a₁, w₁, hq, harr⟩ := first b (.inScope c :: k) cs
  cases e with
  | normal => exact ⟨.normal, a₁, w₁, hq, .head step_scope (Steps.trans harr (.one step_inScope))⟩
  | exit id => exact ⟨.exit id, a₁, w₁, hq, fun k' hk => .head step_scope (harr k' (by simp [exitTo, hk]))⟩
  | goto l' =>
    obtain ⟨rest₂, hf₂, _⟩ := pass l' a₁ w₁ hq
    obtain ⟨e₂, a₂, w₂, hq₂, harr₂⟩ := key _ l' a₁ w₁ rfl hq rest₂ hf₂
    exact ⟨e₂, a₂, w₂, hq₂, .of_steps (.head step_scope (harr _ (hg l' rest₂ hf₂))) harr₂⟩
  | ret => exact ⟨_, a₁, w₁, hq, .of_steps (.one step_scope) harr⟩
  | panic ch => exact ⟨_, a₁, w₁, hq, .of_steps (.one step_scope) harr⟩
  | outgrown => exact ⟨_, a₁, w₁, hq, .of_steps (.one step_scope) harr⟩
theorem frame_lit (t : Array Value) (n : Nat) (h : t.size = n) : t = ((List.range n).map fun k => t.getD k undef).toArray := by
  apply Array.ext
  · simp [h]
  · intro i h1 h2
    simp [h1]
theorem ret_jumps {J : Nat → Act → World → Prop} (h : Q .ret a w) : jumps J Q .ret a w := h
theorem goto_jumps {J : Nat → Act → World → Prop} {l : Nat} (h : J l a w) : jumps J Q (.goto l) a w := h
theorem jumps_mono {J J' : Nat → Act → World → Prop} (h : ∀ l a w, J l a w → J' l a w) : ∀ e a w, jumps J Q e a w → jumps J' Q e a w := fun e a w hh => by
  cases e <;> first | exact h _ _ _ hh | exact hh
/-- A scope that comes to its first label by falling onto it. -/
theorem wp_scope_label {pre rest : Code} (l₀ : Nat) (J : Nat → Act → World → Prop) (μ : Nat → Act → World → Nat) (hf : findLabel (Code.seq pre (Code.seq (Code.label l₀) rest)) l₀ = some (Code.seq Code.skip rest))
    (first : pre.wp P (Exit.then (fun a w => J l₀ a w) (jumps J Q)) a w)
    (pass0 : ∀ a w, J l₀ a w → rest.wp P (jumps (fun l' a' w' => J l' a' w' ∧ μ l' a' w' < μ l₀ a w) Q) a w)
    (pass : ∀ l a w, l ≠ l₀ → J l a w → ∃ r, findLabel (Code.seq pre (Code.seq (Code.label l₀) rest)) l = some r ∧ r.wp P (jumps (fun l' a' w' => J l' a' w' ∧ μ l' a' w' < μ l a w) Q) a w) : (Code.scope (Code.seq pre (Code.seq (Code.label l₀) rest))).wp P Q a w := by
  refine wp_scope_gotos J μ (wp_seq (Code.wp_mono (fun e a w h => ?_) first)) fun l a w hJ => ?_
  · cases e with
    | normal =>
      exact wp_seq (wp_label (Code.wp_mono (jumps_mono fun l a w h => h.1) (pass0 a w h)))
    | _ => exact h
  · by_cases hl : l = l₀
    · subst hl
      exact ⟨_, hf, wp_seq (wp_skip (pass0 a w hJ))⟩
    · exact pass l a w hl hJ
end
end Cm
end Go
