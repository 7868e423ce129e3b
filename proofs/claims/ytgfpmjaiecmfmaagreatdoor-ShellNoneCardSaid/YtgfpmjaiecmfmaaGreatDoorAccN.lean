import Derived.Deep.Upon
import Derived.Test.YtgfpmjaiecmfmaaGreatDoorAcc
import Derived.Test.YtgfpmjaiecmfmaaGreatDoorBytes
/-! 'append(s, xs...)' to the call's own slice. -/
namespace Go
namespace Cm
open RowKit
section
variable {α : Type} {rd : Rdr α} {I I' : Nat → Prop} {w w' : World} {ys zs : List α} {cells cells' : List Value} {base : Nat} {e : TypeId} {v : Value} {P : Program}
theorem Segs.append (h : Segs rd I w ys cells) (h' : Segs rd I w zs cells') : Segs rd I w (ys ++ zs) (cells ++ cells') := by
  induction zs generalizing ys cells cells' with
  | nil =>
    obtain rfl : cells' = [] := List.eq_nil_of_length_eq_zero (by rw [h'.1]; simp)
    simpa using h
  | cons z zs ih =>
    obtain ⟨cs, hz, hc⟩ := h'.2 0 z rfl
    have hl := rd.len hz
    have h1 : cells' = cs ++ cells'.drop rd.sz := by
      have hlen : cells'.length = (zs.length + 1) * rd.sz := h'.1
      apply List.ext_getElem?
      intro j
      rcases Nat.lt_or_ge j cs.length with hj | hj
      · rw [List.getElem?_append_left hj]
        have := hc j cs[j] (by simp [hj])
        simp only [Nat.zero_mul, Nat.zero_add] at this
        rw [this]
        simp [hj]
      · rw [List.getElem?_append_right hj, List.getElem?_drop]
        congr 1
        omega
    have h2 : Segs rd I w zs (cells'.drop rd.sz) := by
      refine ⟨by rw [List.length_drop, h'.1]; simp only [List.length_cons]; rw [Nat.add_mul, Nat.one_mul]; omega, fun i y hy => ?_⟩
      obtain ⟨cs', hR, hc'⟩ := h'.2 (i + 1) y (by simpa using hy)
      refine ⟨cs', hR, fun j u hj => ?_⟩
      have := hc' j u hj
      rw [List.getElem?_drop]
      rw [← this]
      congr 1
      rw [Nat.add_mul]
      omega
    rw [h1, ← List.append_assoc, List.append_cons]
    exact ih (h.snoc hz) h2
theorem Segs.one (h : Segs rd I w ys cells) : ∀ u ∈ cells, u.oneCell' = true := by
  intro u hu
  obtain ⟨n, hn, rfl⟩ := List.mem_iff_getElem.1 hu
  by_cases h0 : rd.sz = 0
  · have := h.1
    rw [h0] at this
    omega
  · have hq : n / rd.sz < ys.length := by
      rw [Nat.div_lt_iff_lt_mul (by omega)]
      rw [← h.1]; exact hn
    obtain ⟨cs, hR, hc⟩ := h.2 (n / rd.sz) ys[n / rd.sz] (by simp [hq])
    have hl := rd.len hR
    have hm : n % rd.sz < cs.length := by rw [hl]; exact Nat.mod_lt _ (by omega)
    have := hc (n % rd.sz) cs[n % rd.sz] (by simp [hm])
    rw [Nat.mul_comm, Nat.div_add_mod] at this
    have e1 : cells[n] = cs[n % rd.sz] := by
      have h2 : cells[n]? = some cells[n] := by simp [hn]
      rw [h2] at this
      exact Option.some.inj this
    rw [e1]
    exact rd.one hR _ (List.getElem_mem _)
/-- Bytes as they are read, for an append. -/
theorem SliceR.bytes {I : Nat → Prop} {a : Option Addr} {n cap : Nat} {xs : List UInt8} (h : SliceR rdByte I w (.slice a n cap) xs) :
    n = xs.length ∧ Segs rdByte (fun _ => False) w xs (xs.map fun c => .int .u8 c.toNat) ∧ ∀ ad, a = some ad → ∀ j u, (xs.map fun c => Value.int .u8 c.toNat)[j]? = some u → w.cell? (ad.add j) = some u := by
  obtain ⟨a', cap', hv, hcap, hx⟩ := id h
  injection hv with e1 e2 e3
  subst e1 e2 e3
  refine ⟨rfl, ⟨by simp [rdByte, rdFlat], fun i y hy => ⟨[.int .u8 y.toNat], rfl, fun j u hj => ?_⟩⟩, fun ad had j u hj => ?_⟩
  · have : j = 0 := by
      have := (List.getElem?_eq_some_iff.1 hj).1
      simp at this
      omega
    subst this
    simp only [rdByte, rdFlat, Nat.mul_one, Nat.add_zero, List.getElem?_map, hy, Option.map_some]
    simpa using hj
  · rw [List.getElem?_map] at hj
    cases hxj : xs[j]? with
    | none => rw [hxj] at hj; cases hj
    | some y =>
      rw [hxj] at hj
      obtain ⟨b, o, cs, ea, hb, hr, hrow⟩ := hx j y hxj
      rw [had] at ea
      cases ea
      have hcs : cs = [.int .u8 y.toNat] := hr
      subst hcs
      have := hrow 0 _ rfl
      simp only [rdByte, rdFlat, Nat.mul_one, Nat.add_zero] at this
      rw [Addr.add_lit, this]
      exact hj
theorem wpList_appendN (w : World) {ops : Array Oper} {rest : List Oper} {o : Oper} {a : Act} {Q : Exit → Act → World → Prop} (rd : Rdr α) (I : Nat → Prop) {base : Nat} {t e : TypeId} {bytes : Nat} (hE : ElemI P t e rd.sz bytes)
    (v : Value) (ys zs : List α) (ad : Option Addr) (c : Nat) (cs : List Value) (s x : Operand) (hgd : o.guard = none) (ho : o.op = .call { callee := .builtin .append, args := #[s, x], argTypes := #[t, t] })
    (hs : a.eval s = v) (hx : a.eval x = .slice ad zs.length c) (hacc : AccR rd I base e w v ys) (hR : Segs rd I w zs cs) (had : zs ≠ [] → ad ≠ none)
    (hcells : ∀ d, ad = some d → ∀ j u, cs[j]? = some u → w.cell? (d.add j) = some u) (hbase : base ≤ w.heap.size) (hbytes : (ys.length + zs.length) * bytes ≤ 140737488355328) (hlen : ys.length + zs.length ≤ maxLen) (hnew : ∀ b, w.heap.size ≤ b → ¬ I b)
    (h : ∀ v' w', AccR rd I base e w' v' (ys ++ zs) → w.grownBy w' v.ownBlock → wpList P ops Q rest (a.put o.dst v') w') : wpList P ops Q (o :: rest) a w := by
  obtain ⟨i, z, hi, hz, hsz, hby, hzs⟩ := hE.info
  cases zs with
  | nil =>
    obtain ⟨pa, cap, hv, hcap, -⟩ := hacc.shape
    refine wpList_plain hgd fun K hK' => ?_
    have hrun : ∀ ty, (Builtin.append_ #[t, t] ty #[v, .slice ad 0 c]).run P w = .ok v w := fun ty => by
      rw [hv]
      have : (i.size = rd.sz) := hsz
      cases pa <;> cases ad <;> simp [Builtin.append_, run_underlying hE.slice, sizeOf, typeInfo, hi, hcap, storeCells, go_sem]
    unfold Oper.wp
    simp [execOp, ho, resolve, invoke, builtin, hs, hx, hrun, Result.andThen]
    refine hK' _ _ (h v w (by simpa using hacc) ⟨rfl, rfl, rfl, Nat.le_refl _, fun _ _ _ => rfl⟩)
  | cons y0 zs0 =>
    generalize hzs' : y0 :: zs0 = zs at *
    have hm0 : 0 < zs.length := by rw [← hzs']; simp
    obtain ⟨d, rfl⟩ := Option.ne_none_iff_exists'.1 (had (by rw [← hzs']; simp))
    obtain ⟨cells, hown, hseg, hI⟩ := hacc
    have hlR := hR.1
    have hnews := hcells d rfl
    have done_ : ∀ v' w' base', (base' = base ∧ v'.ownBlock = v.ownBlock ∨ base' = w.heap.size) → w'.ownsRow base' e rd.sz v' (ys.length + zs.length) (cells ++ cs) → w.grownBy w' v.ownBlock → wpList P ops Q rest (a.put o.dst v') w' := by
      intro v' w' base' hb hown' hg
      have hstay : Stay I w w' := fun b hb hlt => hg.block b hlt fun he => hI b he.symm hb
      have hseg' : Segs rd I w (ys ++ zs) (cells ++ cs) := hseg.append hR
      have hown'' : w'.ownsRow base e rd.sz v' (ys ++ zs).length (cells ++ cs) := by
        simp only [List.length_append]
        rcases hb with ⟨rfl, _⟩ | rfl
        · exact hown'
        · refine ⟨hown'.1, hown'.2.imp id ?_⟩
          rintro ⟨g', cap, cur, e1, h2, h3⟩
          exact ⟨g', cap, cur, e1, Nat.le_trans hbase h2, h3⟩
      refine h v' w' ⟨_, hown'', hseg'.keep hstay, fun b hvb hIb => ?_⟩ hg
      rcases hb with ⟨_, hv⟩ | rfl
      · exact hI b (hv ▸ hvb) hIb
      · rcases hown'.2 with ⟨rfl, _⟩ | ⟨g', cap, cur, rfl, hge, _⟩
        · simp [Value.ownBlock] at hvb
        · simp only [Value.ownBlock, Option.some.injEq] at hvb
          subst hvb
          exact hnew _ hge hIb
    have weak : ∀ {w'}, w.grownBy w' none → w.grownBy w' v.ownBlock := fun hg => ⟨hg.os, hg.tape, hg.output, hg.size, fun k hk _ => hg.block k hk (by simp)⟩
    rcases hown.2 with ⟨rfl, hn0⟩ | ⟨g0, cap, cur, rfl, hb, hg0, hc, hcm, hcs, htake⟩
    · have hcells0 : cells = [] := List.eq_nil_of_length_eq_zero (by rw [hown.1, hn0, Nat.zero_mul])
      refine wpList_append_grows w hgd s x t ho e i z rd.sz bytes hE.slice hi hz hsz hby hzs hE.pos none 0 0 [] hs (fun _ => ⟨rfl, rfl⟩) (by simp) (fun b h => by cases h) d zs.length c cs hx hlR hnews hR.one (by omega) (by omega) (by rw [hn0] at hbytes; exact hbytes) fun v' w' hown' hg => ?_
      refine done_ v' w' w.heap.size (.inr rfl) ?_ (weak hg)
      rw [hcells0, hn0]
      simpa using hown'
    · by_cases hfit : ys.length + zs.length ≤ cap
      · exact wpList_append_fits w hgd s x t ho base e i rd.sz hE.slice hi hsz g0 ys.length cap cells hs hown d zs.length c cs hx hlR hnews hR.one hfit fun w' hown' hg => done_ _ w' base (.inl ⟨rfl, rfl⟩) hown' hg
      · refine wpList_append_grows w hgd s x t ho e i z rd.sz bytes hE.slice hi hz hsz hby hzs hE.pos (some ⟨g0, 0, none⟩) ys.length cap cells hs (fun h => by cases h) hown.1 (fun b h j u hj => ?_) d zs.length c cs hx hlR hnews hR.one (by omega) hlen hbytes fun v' w' hown' hg => done_ v' w' w.heap.size (.inr rfl) hown' (weak hg)
        cases h
        exact World.ownsRow.cells hown (g := g0) rfl j u hj
end
end Cm
end Go
