/-
  Arguments that are rows: a slice that came in, its elements' cells at hand.
-/
import Derived.Test.YtcbogiebdjbmoaaMem
import Derived.Deep.Slices
import Derived.Deep.Fields
namespace Go.Proofs.Ytcbogiebdjbmoaa
open Go.RowKit Go.Deep Go.ChangeShapes Go.WideShapes
set_option linter.unusedVariables false

/-- A slice that is read: so many elements of so many cells. -/
def RowsAt (w : World) (v : Value) (size : Nat) (css : List (List Value)) : Prop :=
  ∃ A cap, v = .slice A css.length cap ∧ css.length ≤ 9223372036854775807 ∧ (0 < css.length → ∃ b off, A = some ⟨b, off, none⟩ ∧ b < w.heap.size ∧ ∀ k x, css[k]? = some x → w.rangeAt b (off + k * size) x)

theorem RowsAt.kept {S : Nat → Prop} {w w1 : World} {v : Value} {size : Nat} {css : List (List Value)} (h : RowsAt w v size css) (k : Kept S w w1) (hS : ∀ b, b < w.heap.size → ¬ S b) : RowsAt w1 v size css := by
  obtain ⟨A, cap, e, hm, hr⟩ := h
  refine ⟨A, cap, e, hm, fun h0 => ?_⟩
  obtain ⟨b, off, eA, hb, hx⟩ := hr h0
  exact ⟨b, off, eA, Nat.lt_of_lt_of_le hb k.size, fun i x hi => rangeAt_kept (hx i x hi) k hb (hS b hb)⟩
/-- .. with blocks below a mark alone. -/
def RowsLow (w : World) (N : Nat) (v : Value) (size : Nat) (css : List (List Value)) : Prop :=
  ∃ A cap, v = .slice A css.length cap ∧ css.length ≤ 9223372036854775807 ∧ (0 < css.length → ∃ b off, A = some ⟨b, off, none⟩ ∧ b < N ∧ b < w.heap.size ∧ ∀ k x, css[k]? = some x → w.rangeAt b (off + k * size) x)
theorem RowsAt.low {w : World} {v : Value} {size : Nat} {css : List (List Value)} (h : RowsAt w v size css) : RowsLow w w.heap.size v size css := by
  obtain ⟨A, cap, e, hm, hr⟩ := h
  refine ⟨A, cap, e, hm, fun h0 => ?_⟩
  obtain ⟨b, off, eA, hb, hx⟩ := hr h0
  exact ⟨b, off, eA, hb, hb, hx⟩
theorem RowsLow.kept {S : Nat → Prop} {w w1 : World} {N : Nat} {v : Value} {size : Nat} {css : List (List Value)} (h : RowsLow w N v size css) (k : Kept S w w1) (hS : ∀ b, b < N → ¬ S b) : RowsLow w1 N v size css := by
  obtain ⟨A, cap, e, hm, hr⟩ := h
  refine ⟨A, cap, e, hm, fun h0 => ?_⟩
  obtain ⟨b, off, eA, hN, hb, hx⟩ := hr h0
  exact ⟨b, off, eA, hN, Nat.lt_of_lt_of_le hb k.size, fun i x hi => rangeAt_kept (hx i x hi) k hb (hS b hN)⟩

theorem run_index_at {P : Program} (T e : TypeId) (ht : P.underlying T = some (.slice e)) (size : Nat) (hs : (P.info? e).map (·.size) = some size) (g off n cap k : Nat) (hk : k < n) (W : World) :
    (Instr.indexAt T (.slice (some ⟨g, off, none⟩) n cap) (.int .i64 k)).run P W = .ok (.pointer (some ⟨g, off + k * size, none⟩)) W := by
  cases hi : P.info? e with
  | none => simp [hi] at hs
  | some i =>
    have hs' : i.size = size := by simpa [hi] using hs
    have h0 : (0 : Int) ≤ (k : Int) := by omega
    have h1 : (k : Int) < (n : Int) := by omega
    simp [Instr.indexAt, asIntOf, run_underlying ht, sizeOf, typeInfo, hi, hs', hk, Result.andThen, Addr.add_mid]

/-- One element: its address, and its cells there. -/
theorem RowsLow.elem {P : Program} {w : World} {N size : Nat} {A : Option Addr} {n cap : Nat} {css : List (List Value)} (h : RowsLow w N (.slice A n cap) size css) {k : Nat} {x : List Value} (hx : css[k]? = some x)
    (T e : TypeId) (ht : P.underlying T = some (.slice e)) (hs : (P.info? e).map (·.size) = some size) :
    ∃ b o, b < N ∧ w.rangeAt b o x ∧ ∀ W, (Instr.indexAt T (.slice A n cap) (.int .i64 k)).run P W = .ok (.pointer (some ⟨b, o, none⟩)) W := by
  obtain ⟨A', cap', e', hm, hr⟩ := h
  injection e' with e1 e2 e3
  subst e1; subst e2; subst e3
  have hk := (List.getElem?_eq_some_iff.1 hx).1
  obtain ⟨b, off, rfl, hN, hb, hx'⟩ := hr (by omega)
  exact ⟨b, off + k * size, hN, hx' k x hx, fun W => run_index_at T e ht size hs b off _ cap k hk W⟩
theorem RowsLow.view {w : World} {N size : Nat} {v : Value} {css : List (List Value)} (h : RowsLow w N v size css) : ∃ A cap, v = .slice A css.length cap ∧ css.length ≤ 9223372036854775807 := by
  obtain ⟨A, cap, e, hm, _⟩ := h
  exact ⟨A, cap, e, hm⟩

theorem spot_none {w : World} {a : Addr} {v : Value} (h : w.cell? a = some v) : a.spot = none := by
  cases hs : a.spot with
  | none => rfl
  | some s =>
    exfalso
    unfold World.cell? at h
    rw [hs] at h
    split at h <;> simp at h

/-- What an argument's reading says of its cells. -/
theorem rows_open {H : Type} {enc : TypeId × Value → H} {P : Program} {w : World} {base : Nat} {spare : Nat → Bool} {held : Bool} {t e : TypeId} {fuel : Nat} {v : Value} {x : DataW H × List MemPlace} (ht : P.underlying t = some (.slice e)) (size : Nat) (hc : P.cellsOf e = size) (hpos : 0 < size)
    (h : DataW.trod enc P w base spare held fuel t [v] = some x) :
    ∃ css, RowsAt w v size css ∧ ∀ cs ∈ css, cs.length = size ∧ ∃ n y, DataW.trod enc P w base spare held n e cs = some y := by
  rcases open_slice ht h with ⟨h0, _⟩ | ⟨a, len, cap, m, n, D, Pl, h0, hb, hl, hm, hmm, _, hi⟩
  · injection h0 with h0 _
    subst h0
    exact ⟨[], ⟨none, 0, rfl, by simp, fun h => by simp at h⟩, fun _ h => by cases h⟩
  · injection h0 with h0 _
    subst h0
    have hlm : len ≤ m := by rw [hmm]; split <;> omega
    obtain ⟨f, hf⟩ := choose_lt (p := fun i cs' => w.cells? base (a.add (i * P.cellsOf e)) (P.cellsOf e) = some cs' ∧ DataW.trod enc P w base spare held n e cs' = some (D i, Pl i)) hi
    have hget : ∀ k x, ((List.range len).map f)[k]? = some x → k < len ∧ x = f k := by
      intro k x hx
      rw [List.getElem?_map] at hx
      by_cases hk : k < len
      · rw [List.getElem?_range hk] at hx
        exact ⟨hk, by simpa using hx.symm⟩
      · rw [List.getElem?_eq_none (by simpa using hk)] at hx
        cases hx
    refine ⟨(List.range len).map f, ⟨some a, cap, by simp, by simp; unfold maxLen at hm; omega, fun h0 => ?_⟩, ?_⟩
    · have h0' : 0 < len := by simpa using h0
      have hcell : ∀ k, k < len → ∀ j, j < size → w.cell? (a.add (k * size + j)) = (f k)[j]? := by
        intro k hk j hj
        obtain ⟨_, hl', hat⟩ := World.cells?_some (hf k (by omega)).1
        rw [hc] at hat hl'
        have := hat j hj
        rw [Go.Deep.add_add] at this
        exact this
      have hlen0 : (f 0).length = size := by
        have := (World.cells?_some (hf 0 (by omega)).1).2.1
        rwa [hc] at this
      have h00 := hcell 0 h0' 0 hpos
      rw [List.getElem?_eq_getElem (by omega)] at h00
      have ha0 : a.add (0 * size + 0) = a := by simp [Addr.add]
      rw [ha0] at h00
      have hs := spot_none h00
      obtain ⟨b, off, sp⟩ := a
      simp at hs
      subst hs
      refine ⟨b, off, rfl, World.block_lt_of_cell? w _ h00, fun k x hx => ?_⟩
      obtain ⟨hk, rfl⟩ := hget k x hx
      intro j u hu
      have hj : j < size := by
        have h1 := (List.getElem?_eq_some_iff.1 hu).1
        have := (World.cells?_some (hf k (by omega)).1).2.1
        rw [hc] at this
        omega
      have := hcell k hk j hj
      rw [Addr.add_mid, hu] at this
      rw [Nat.add_assoc]
      exact this
    · intro cs hcs
      simp only [List.mem_map, List.mem_range] at hcs
      obtain ⟨i, hi', rfl⟩ := hcs
      have hfi := hf i (by omega)
      refine ⟨?_, n, _, hfi.2⟩
      have := (World.cells?_some hfi.1).2.1
      rwa [hc] at this
/-- A struct of one-cell fields: each field's own reading. -/
theorem struct_open {H : Type} {enc : TypeId × Value → H} {P : Program} {w : World} {base : Nat} {spare : Nat → Bool} {held : Bool} {e : TypeId} {fs : Array Field} {fuel : Nat} {cs : List Value} {x : DataW H × List MemPlace} (he : P.underlying e = some (.struct fs))
    (hone : oneCellFields P fs = true) (hl : cs.length = fs.size) (h : DataW.trod enc P w base spare held fuel e cs = some x) :
    ∀ (j : Nat) (f : Field), fs[j]? = some f → ∃ v y n, cs[j]? = some v ∧ DataW.trod enc P w base spare held n f.type [v] = some y := by
  intro j f hj
  obtain ⟨ys, n', hn', hy, hlen, hyl, hf⟩ := DataW.trod_struct he h
  obtain ⟨ho, hk⟩ := hone_of hone j f hj
  have hjl : j < fs.size := (Array.getElem?_eq_some_iff.1 hj).1
  have h1 := hf j f hj
  rw [ho, hk] at h1
  have hone' : (cs.drop j).take 1 = [cs[j]'(by omega)] := by
    rw [List.drop_eq_getElem_cons (by omega)]
    rfl
  rw [hone'] at h1
  exact ⟨_, _, n', List.getElem?_eq_getElem (by omega), h1.trans (List.getElem?_eq_getElem (by omega))⟩
theorem list_of {α β : Type} (f : β → α) (Q : β → Prop) : ∀ (l : List α), (∀ x ∈ l, ∃ y, x = f y ∧ Q y) → ∃ L : List β, l = L.map f ∧ ∀ y ∈ L, Q y
  | [], _ => ⟨[], rfl, fun _ h => by cases h⟩
  | x :: r, h => by
    obtain ⟨y, e, hy⟩ := h x (by simp)
    obtain ⟨L, eL, hL⟩ := list_of f Q r (fun z hz => h z (by simp [hz]))
    refine ⟨y :: L, by rw [e, eL]; rfl, fun z hz => ?_⟩
    rcases List.mem_cons.1 hz with rfl | hz
    · exact hy
    · exact hL z hz
end Go.Proofs.Ytcbogiebdjbmoaa
