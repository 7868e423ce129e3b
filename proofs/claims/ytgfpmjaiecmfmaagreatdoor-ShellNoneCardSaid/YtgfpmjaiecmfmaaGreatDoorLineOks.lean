import Derived.Test.YtgfpmjaiecmfmaaGreatDoorProg
import Derived.Test.YtgfpmjaiecmfmaaGreatDoorRun
open Go Go.RowKit Go.Cm Go.Shelf
namespace Go.Cm
/-- skipB and runB with fuel, to reckon with. -/
def skipF : Nat → ByteArray → Nat → Nat
  | 0, _, i => i
  | n + 1, s, i => if i < s.size then (if s.data.toList.getD i 0 = 32 then skipF n s (i + 1) else i) else i
def runF : Nat → ByteArray → Nat → Nat
  | 0, _, i => i
  | n + 1, s, i => if i < s.size then (if s.data.toList.getD i 0 = 32 then i else runF n s (i + 1)) else i
theorem getD_at (s : ByteArray) (i : Nat) (h : i < s.size) : s.data.toList.getD i 0 = s[i] := by
  have h' : i < s.data.size := h
  simp only [List.getD, Array.getElem?_toList, Array.getElem?_eq_getElem h', Option.getD_some]
  rfl
theorem skipF_eq (n : Nat) : ∀ (s : ByteArray) (i : Nat), s.size ≤ i + n → skipF n s i = skipB s i := by
  induction n with
  | zero => intro s i h; unfold skipB; rw [dif_neg (by omega)]; rfl
  | succ n ih =>
    intro s i h
    unfold skipF skipB
    by_cases hi : i < s.size
    · rw [if_pos hi, dif_pos hi, getD_at s i hi]
      split
      · exact ih s (i + 1) (by omega)
      · rfl
    · rw [if_neg hi, dif_neg hi]
theorem runF_eq (n : Nat) : ∀ (s : ByteArray) (i : Nat), s.size ≤ i + n → runF n s i = runB s i := by
  induction n with
  | zero => intro s i h; unfold runB; rw [dif_neg (by omega)]; rfl
  | succ n ih =>
    intro s i h
    unfold runF runB
    by_cases hi : i < s.size
    · rw [if_pos hi, dif_pos hi, getD_at s i hi]
      split
      · rfl
      · exact ih s (i + 1) (by omega)
    · rw [if_neg hi, dif_neg hi]
def wordsF : Nat → ByteArray → Nat → List (List UInt8)
  | 0, _, _ => []
  | n + 1, s, i => if skipF s.size s i < s.size then ((s.data.toList.drop (skipF s.size s i)).take (runF s.size s (skipF s.size s i) - skipF s.size s i)) :: wordsF n s (runF s.size s (skipF s.size s i)) else []
theorem extract_list (s : ByteArray) (i j : Nat) : s.extract i j = ⟨((s.data.toList.drop i).take (j - i)).toArray⟩ := by
  apply ByteArray.ext
  rw [ByteArray.data_extract]
  apply Array.ext'
  simp [Array.toList_extract, List.extract]
theorem wordsF_eq (n : Nat) : ∀ (s : ByteArray) (i : Nat), s.size < i + n → wordsB s i = (wordsF n s i).map fun l => ⟨l.toArray⟩ := by
  induction n with
  | zero => intro s i h; rw [words_none s i (by have := skipB_ge s i; omega)]; rfl
  | succ n ih =>
    intro s i h
    unfold wordsF
    rw [skipF_eq _ s i (by omega), runF_eq _ s _ (by omega)]
    by_cases hi : skipB s i < s.size
    · rw [if_pos hi, words_more s i hi, List.map_cons, ih s _ (by have := skipB_ge s i; have := runB_gt s _ hi (skipB_at s i hi); omega), extract_list]
    · rw [if_neg hi, words_none s i hi]; rfl
end Go.Cm
namespace Go.Proofs
def lineA : List UInt8 := [35, 32, 97]
def lineB : List UInt8 := [32, 32]
def lineS : List UInt8 := [115, 112, 97, 119, 110, 32, 107]
def lineD : List UInt8 := [100, 101, 99, 108, 97, 114, 101]
def lineE : List UInt8 := [101, 110, 100]
theorem words_A : wordsB ⟨lineA.toArray⟩ 0 = [⟨#[35]⟩, ⟨#[97]⟩] := (wordsF_eq 4 _ 0 (by decide)).trans (by rfl)
theorem words_0 : wordsB ⟨([] : List UInt8).toArray⟩ 0 = [] := (wordsF_eq 1 _ 0 (by decide)).trans (by rfl)
theorem words_B : wordsB ⟨lineB.toArray⟩ 0 = [] := (wordsF_eq 3 _ 0 (by decide)).trans (by rfl)
theorem words_S : wordsB ⟨lineS.toArray⟩ 0 = [⟨#[115, 112, 97, 119, 110]⟩, ⟨#[107]⟩] := (wordsF_eq 8 _ 0 (by decide)).trans (by rfl)
theorem words_D : wordsB ⟨lineD.toArray⟩ 0 = [⟨#[100, 101, 99, 108, 97, 114, 101]⟩] := (wordsF_eq 8 _ 0 (by decide)).trans (by rfl)
theorem words_X : wordsB ⟨([32, 32, 35, 32, 114, 117, 108, 101, 115] : List UInt8).toArray⟩ 0 = [⟨#[35]⟩, ⟨#[114, 117, 108, 101, 115]⟩] := (wordsF_eq 10 _ 0 (by decide)).trans (by rfl)
theorem words_Y : wordsB ⟨([32, 114, 117, 108, 101, 115, 32, 49] : List UInt8).toArray⟩ 0 = [⟨#[114, 117, 108, 101, 115]⟩, ⟨#[49]⟩] := (wordsF_eq 9 _ 0 (by decide)).trans (by rfl)
set_option maxRecDepth 20000 in
set_option maxHeartbeats 1000000 in
theorem line_end (bs : Nat) (v : Value) (I : Nat → Prop) (w0 w : World) (hT : Tabs w0) (hg0 : Grow w0 w) (hbs : w0.heap.size ≤ bs) (hS : ShellR w bs true (.slice none 0 0)) (hl : SliceR rdByte I w v lineE) :
    Calls Tryz.prog 4 #[.pointer (some ⟨bs, 0, none⟩), v] w fun e w' => (∃ u, e = .returned (.tuple #[u, .int .i64 0]) ∧ SliceR rdByte (fun b => w.heap.size ≤ b) w' u err90.data.toList) ∧ ∃ d, w' = (w.setCell ⟨bs, 3, none⟩ (.bool false)).ext d := by
    have hD := declared_end bs v I w0 w hT hg0 hbs hS hl
    obtain ⟨a, cap, rfl, hcap⟩ := hl.shape
    obtain ⟨bm, m, B, hm, hne⟩ := hS
    have c3 := B.cell (j := 3) rfl
    have HD := Lib.hid hD
    clear hD hl
    have hlen : lineE.length = 3 := rfl
    rw [hlen] at *
    go_enter Tryz.func4, Tryz.ntmps4
    go_wp2_with (first | (go_at_call 8; refine HD.out.mono ?_; rintro e w2 ⟨rfl, d, rfl⟩) | (refine wpList_bytes_of rfl rfl err90 rfl tstr_u tbytes_u tbyte_u ?_; intro v4 w4 h4 hg4))
    go_ret2
    refine ⟨⟨_, rfl, h4.mono fun b hb => ?_⟩, (Grow.ext _ d).trans hg4⟩
    simp at hb
    omega
theorem grown_of_grow {w w' : World} (h : Grow w w') (r : Option Nat) : w.grownBy w' r := by
  have b := grow_iff.1 h
  exact ⟨b.os, b.tape, b.output, b.size, fun k hk _ => b.block k hk⟩
theorem grown_trans {a b c : World} {r : Option Nat} (h : a.grownBy b r) (k : b.grownBy c r) : a.grownBy c r :=
  ⟨k.os.trans h.os, k.tape.trans h.tape, k.output.trans h.output, Nat.le_trans h.size k.size, fun i hi hne => (k.block i (Nat.lt_of_lt_of_le hi h.size) hne).trans (h.block i hi hne)⟩
theorem grown_setCell (w : World) (b j : Nat) (v : Value) : w.grownBy (w.setCell ⟨b, j, none⟩ v) (some b) :=
  ⟨rfl, rfl, rfl, by simp, fun k hk hne => by
    have : b ≠ k := fun e => hne (by rw [e])
    simp [World.setCell, Array.getElem?_modify, this]⟩
def decL (ls : List (List UInt8)) : Bool := ls == [lineE]
def outL : List (List UInt8) → List UInt8
  | [] => []
  | L :: _ => if L = lineS then err280.data.toList else if L = lineE then err90.data.toList else []
theorem ok_none (w0 : World) (L : List UInt8) (ls : List (List UInt8)) (hw : wordsB ⟨L.toArray⟩ 0 = []) (hn : L.length ≤ 32768) (hq : ∀ c ∈ L, c ≠ 34) (ho : outL (L :: ls) = []) (h1 : decL (L :: ls) = false) (h2 : decL ls = false) : LineOk outL decL w0 L ls := by
  intro bs bm m text I W u hg hbs hbW hmW hS ht hl
  rw [h1] at hS
  refine (line_none bs text u L I W ⟨bm, m, hS⟩ hl hn hq hw).mono ?_
  rintro e w' ⟨rfl, hg'⟩
  rw [ho, h2]
  exact ⟨⟨_, rfl, SliceR.nil _ _⟩, ⟨text, hS.grow hg', fun h => by cases h⟩, grown_of_grow hg' _⟩
theorem ok_hash (w0 : World) (L : List UInt8) (ls : List (List UInt8)) (x : ByteArray) (xs : List ByteArray) (hw : wordsB ⟨L.toArray⟩ 0 = x :: xs) (hx : 0 < x.size) (hx0 : x[0] = 35) (hn : L.length ≤ 32768) (hq : ∀ c ∈ L, c ≠ 34) (ho : outL (L :: ls) = []) (h1 : decL (L :: ls) = false) (h2 : decL ls = false) : LineOk outL decL w0 L ls := by
  intro bs bm m text I W u hg hbs hbW hmW hS ht hl
  rw [h1] at hS
  refine (line_hash bs text u L I W ⟨bm, m, hS⟩ hl hn hq x xs hw hx hx0).mono ?_
  rintro e w' ⟨rfl, hg'⟩
  rw [ho, h2]
  exact ⟨⟨_, rfl, SliceR.nil _ _⟩, ⟨text, hS.grow hg', fun h => by cases h⟩, grown_of_grow hg' _⟩
theorem ok_err (w0 : World) (hT : Tabs w0) (L : List UInt8) (ls : List (List UInt8)) (x : ByteArray) (xs : List ByteArray) (hw : wordsB ⟨L.toArray⟩ 0 = x :: xs) (hx : 0 < x.size) (hx0 : x[0] ≠ 35) (hxd : x.toList ≠ [100, 101, 99, 108, 97, 114, 101])
    (hn : L.length ≤ 32768) (hq : ∀ c ∈ L, c ≠ 34) (ho : outL (L :: ls) = err280.data.toList) (h1 : decL (L :: ls) = false) (h2 : decL ls = false) : LineOk outL decL w0 L ls := by
  intro bs bm m text I W u hg hbs hbW hmW hS ht hl
  rw [h1] at hS
  refine (line_err bs text u L I W (hT.grow hg) ⟨bm, m, hS⟩ hl hn hq x xs hw hx hx0 hxd).mono ?_
  rintro e w' ⟨⟨t, rfl, hr⟩, hg'⟩
  rw [ho, h2]
  exact ⟨⟨_, rfl, hr⟩, ⟨text, hS.grow hg', fun h => by cases h⟩, grown_of_grow hg' _⟩
theorem ok_declare (w0 : World) : LineOk outL decL w0 lineD [lineE] := by
  intro bs bm m text I W u hg hbs hbW hmW hS ht hl
  have h1 : decL [lineD, lineE] = false := by decide
  have h2 : decL [lineE] = true := by decide
  rw [h1] at hS
  refine (line_declare bs text u lineD I W ⟨bm, m, hS⟩ hl (by decide) (by decide) _ words_D (by decide) (by decide) (by rw [ByteArray.toList_eq])).mono ?_
  rintro e w' ⟨rfl, d, rfl⟩
  have hS1 := hS.grow (Grow.ext W d)
  have ho : outL [lineD, lineE] = [] := by decide
  rw [ho, h2]
  refine ⟨⟨_, rfl, SliceR.nil _ _⟩, ⟨.slice none 0 0, ⟨(hS1.1.set 3 (.bool true)).set 4 (.slice none 0 0), ?_, hS.2.2⟩, fun _ => rfl⟩, grown_trans (grown_trans (grown_of_grow (Grow.ext W d) _) (grown_setCell _ bs 3 _)) (grown_setCell _ bs 4 _)⟩
  obtain ⟨es, c, hb, he⟩ := hS1.2.1
  refine ⟨es, c, ?_, he⟩
  have hne : bs ≠ bm := fun e => hS.2.2 e.symm
  simp [World.setCell, Array.getElem?_modify, hne, hb]
theorem ok_end (w0 : World) (hT : Tabs w0) : LineOk outL decL w0 lineE [] := by
  intro bs bm m text I W u hg hbs hbW hmW hS ht hl
  have h1 : decL [lineE] = true := by decide
  have h2 : decL [] = false := by decide
  rw [h1] at hS
  obtain rfl := ht h1
  refine (line_end bs u I w0 W hT hg hbs ⟨bm, m, hS⟩ hl).mono ?_
  rintro e w' ⟨⟨t, rfl, hr⟩, d, rfl⟩
  have ho : outL [lineE] = err90.data.toList := by decide
  rw [ho, h2]
  have hne : bs ≠ bm := fun e => hS.2.2 e.symm
  have hS1 : ShellM (W.setCell ⟨bs, 3, none⟩ (.bool false)) bs bm m false (.slice none 0 0) := by
    refine ⟨hS.1.set 3 (.bool false), ?_, hS.2.2⟩
    obtain ⟨es, c, hb, he⟩ := hS.2.1
    exact ⟨es, c, by simp [World.setCell, Array.getElem?_modify, hne, hb], he⟩
  exact ⟨⟨_, rfl, hr⟩, ⟨_, hS1.grow (Grow.ext _ d), fun h => by cases h⟩, grown_trans (grown_setCell _ bs 3 _) (grown_of_grow (Grow.ext _ d) _)⟩
def lines7 : List (List UInt8) := [lineA, [], lineB, [], lineS, lineD, lineE]
theorem flat7 : flatL lines7 = [35, 32, 97, 10, 10, 32, 32, 10, 10, 115, 112, 97, 119, 110, 32, 107, 10, 100, 101, 99, 108, 97, 114, 101, 10, 101, 110, 100, 10] := by decide
theorem outs7 : outsL outL lines7 = [101, 114, 114, 111, 114, 32, 50, 56, 48, 10, 101, 114, 114, 111, 114, 32, 57, 48, 10] := by decide
theorem run_7 (I : Nat → Prop) (v : Value) (w : World) (hT : Tabs w) (hl : SliceR rdByte I w v [35, 32, 97, 10, 10, 32, 32, 10, 10, 115, 112, 97, 119, 110, 32, 107, 10, 100, 101, 99, 108, 97, 114, 101, 10, 101, 110, 100, 10]) (hI : ∀ b, I b → b < w.heap.size) :
    Calls Tryz.prog 5 #[v] w fun e w' => (∃ u, e = .returned (.tuple #[u, .int .i64 0]) ∧ SliceR rdByte (fun b => w.heap.size ≤ b) w' u [101, 114, 114, 111, 114, 32, 50, 56, 48, 10, 101, 114, 114, 111, 114, 32, 57, 48, 10]) ∧ Grow w w' := by
  rw [← flat7] at hl
  rw [← outs7]
  refine run_spec outL decL lines7 I v w hl hI (by rw [flat7]; decide) (by decide) (by rw [outs7]; decide) (by decide) fun L ls hs => ?_
  have hs' : (L, ls) ∈ [(lineA, [[], lineB, [], lineS, lineD, lineE]), ([], [lineB, [], lineS, lineD, lineE]), (lineB, [[], lineS, lineD, lineE]), ([], [lineS, lineD, lineE]), (lineS, [lineD, lineE]), (lineD, [lineE]), (lineE, [])] := by
    simp only [lines7, List.suffix_cons_iff, List.suffix_nil] at hs
    simp only [List.mem_cons, Prod.mk.injEq, List.not_mem_nil, or_false]
    simpa using hs
  simp only [List.mem_cons, Prod.mk.injEq, List.not_mem_nil, or_false] at hs'
  rcases hs' with ⟨rfl, rfl⟩ | ⟨rfl, rfl⟩ | ⟨rfl, rfl⟩ | ⟨rfl, rfl⟩ | ⟨rfl, rfl⟩ | ⟨rfl, rfl⟩ | ⟨rfl, rfl⟩
  · exact ok_hash w _ _ _ _ words_A (by decide) (by decide) (by decide) (by decide) (by decide) (by decide) (by decide)
  · exact ok_none w _ _ words_0 (by decide) (by decide) (by decide) (by decide) (by decide)
  · exact ok_none w _ _ words_B (by decide) (by decide) (by decide) (by decide) (by decide)
  · exact ok_none w _ _ words_0 (by decide) (by decide) (by decide) (by decide) (by decide)
  · exact ok_err w hT _ _ _ _ words_S (by decide) (by decide) (by rw [ByteArray.toList_eq]; decide) (by decide) (by decide) (by decide) (by decide) (by decide)
  · exact ok_declare w
  · exact ok_end w hT
set_option maxHeartbeats 1000000 in
theorem run_long (n cap : Nat) (a : Option Addr) (hn : 32768 < n) (w : World) : Calls Tryz.prog 5 #[.slice a n cap] w fun e w' => e = .returned (.tuple #[.slice none 0 0, .int .i64 3]) ∧ w = w' := by
    have h1 : decide ((n : Int) > 32768) = true := by simp; omega
    go_enter Tryz.func5, Tryz.ntmps5
    go_wp2
    all_goals (go_ret2; exact ⟨rfl, rfl⟩)
end Go.Proofs
