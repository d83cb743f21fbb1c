/-
  Words on memory that all proofs of this seat use: what is kept, bytes as cells, laws at an operation for whole arrays and structs. No function of the program.
-/
import Derived.Test.YtcbogiebdjbmoaaRows
import Derived.WalkKit
import Derived.WalkSpells
import Derived.WalkLawsBesides
import Derived.BigQuiet
import Derived.Deep.QuietTactic
import Derived.Deep.MidRow
import Derived.Deep.RegionHeld3
import Derived.Deep.AppendLies
import Derived.Laws.CopyOwn
import Derived.Stop.BytesEq
import Derived.Maps.OwnSet
import Derived.Lib.Hide
import Derived.Maps.Ext
import Derived.StillTailTactics
import Derived.Great.BuildSlice
namespace Go.Proofs.Ytcbogiebdjbmoaa
open Go.RowKit

/-- All blocks but those of S, of those that were there, are as they were; the rest of the world too. -/
structure Kept (S : Nat → Prop) (w w' : World) : Prop where
  os : w'.os = w.os
  tape : w'.tape = w.tape
  output : w'.output = w.output
  size : w.heap.size ≤ w'.heap.size
  block : ∀ i, i < w.heap.size → ¬ S i → w'.heap[i]? = w.heap[i]?

/-- No block. -/
def No : Nat → Prop := fun _ => False

theorem Kept.refl (S : Nat → Prop) (w : World) : Kept S w w := ⟨rfl, rfl, rfl, Nat.le_refl _, fun _ _ _ => rfl⟩
theorem Kept.trans {S : Nat → Prop} {w w1 w2 : World} (h : Kept S w w1) (k : Kept S w1 w2) : Kept S w w2 :=
  ⟨k.os.trans h.os, k.tape.trans h.tape, k.output.trans h.output, Nat.le_trans h.size k.size,
   fun i hi hs => (k.block i (Nat.lt_of_lt_of_le hi h.size) hs).trans (h.block i hi hs)⟩
/-- The second may also touch what is new since. -/
theorem Kept.andThen {S T : Nat → Prop} {w w1 w2 : World} (h : Kept S w w1) (k : Kept T w1 w2) (hT : ∀ i, T i → S i ∨ w.heap.size ≤ i) : Kept S w w2 :=
  ⟨k.os.trans h.os, k.tape.trans h.tape, k.output.trans h.output, Nat.le_trans h.size k.size,
   fun i hi hs => (k.block i (Nat.lt_of_lt_of_le hi h.size) (fun ht => (hT i ht).elim hs (fun h' => by omega))).trans (h.block i hi hs)⟩
theorem Kept.mono {S T : Nat → Prop} {w w1 : World} (h : Kept S w w1) (hS : ∀ i, i < w.heap.size → S i → T i) : Kept T w w1 :=
  ⟨h.os, h.tape, h.output, h.size, fun i hi ht => h.block i hi (fun hs => ht (hS i hi hs))⟩
theorem Kept.of_no {T : Nat → Prop} {w w1 : World} (h : Kept No w w1) : Kept T w w1 := h.mono (fun _ _ h => h.elim)
theorem Kept.alloc {S : Nat → Prop} {w w1 : World} (h : Kept S w w1) (o : Obj) : Kept S w (w1.alloc o) :=
  ⟨h.os, h.tape, h.output, by have := h.size; simp; omega, fun i hi hs => (by rw [heap_alloc_old w1 o (Nat.lt_of_lt_of_le hi h.size)]; exact h.block i hi hs)⟩
theorem Kept.drew {S : Nat → Prop} {w w1 : World} (h : Kept S w w1) : Kept S w w1.drew := ⟨h.os, h.tape, h.output, h.size, h.block⟩
theorem Kept.drewN {S : Nat → Prop} {w w1 : World} (h : Kept S w w1) (n : Nat) : Kept S w (w1.drewN n) := ⟨h.os, h.tape, h.output, h.size, h.block⟩
theorem Kept.setCell {S : Nat → Prop} {w w1 : World} (h : Kept S w w1) (a : Addr) (v : Value) (ha : S a.block ∨ w.heap.size ≤ a.block) : Kept S w (w1.setCell a v) :=
  ⟨h.os, h.tape, h.output, by have := h.size; simp; omega, fun i hi hs => (by
    rw [heap_setCell_other _ _ _ _ (by rintro rfl; exact ha.elim hs (fun h' => by omega))]; exact h.block i hi hs)⟩
theorem Kept.grown {S : Nat → Prop} {w w1 w2 : World} (h : Kept S w w1) {row : Option Nat} (g : w1.grownBy w2 row) (hr : ∀ k, row = some k → S k ∨ w.heap.size ≤ k) : Kept S w w2 :=
  ⟨g.os.trans h.os, g.tape.trans h.tape, g.output.trans h.output, Nat.le_trans h.size g.size,
   fun i hi hs => (g.block i (Nat.lt_of_lt_of_le hi h.size) (by intro e; exact (hr i e.symm).elim hs (fun h' => by omega))).trans (h.block i hi hs)⟩
theorem Kept.below {w w1 : World} (h : Kept No w w1) : Below w.heap.size w w1 := ⟨h.os, h.tape, h.output, h.size, fun i hi => h.block i hi (fun h => h)⟩
theorem Kept.of_below {w w1 : World} (h : Below w.heap.size w w1) : Kept No w w1 := ⟨h.os, h.tape, h.output, h.size, fun i hi _ => h.block i hi⟩

theorem World.heap_setCells_other (b : Nat) : ∀ (vs : List Value) (o : Nat) (w : World) (k : Nat), k ≠ b → (w.setCells b o vs).heap[k]? = w.heap[k]?
  | [], _, _, _, _ => rfl
  | v :: r, o, w, k, h => by rw [World.setCells, World.heap_setCells_other b r (o + 1) _ k h, heap_setCell_other _ _ _ _ h]
theorem World.size_setCells (b : Nat) : ∀ (vs : List Value) (o : Nat) (w : World), (w.setCells b o vs).heap.size = w.heap.size
  | [], _, _ => rfl
  | v :: r, o, w => by rw [World.setCells, World.size_setCells b r (o + 1)]; simp
theorem World.rest_setCells (b : Nat) : ∀ (vs : List Value) (o : Nat) (w : World), (w.setCells b o vs).os = w.os ∧ (w.setCells b o vs).tape = w.tape ∧ (w.setCells b o vs).output = w.output
  | [], _, _ => ⟨rfl, rfl, rfl⟩
  | v :: r, o, w => by rw [World.setCells]; exact World.rest_setCells b r (o + 1) (w.setCell ⟨b, o, none⟩ v)
theorem Kept.setCells {S : Nat → Prop} {w w1 : World} (h : Kept S w w1) (b o : Nat) (vs : List Value) (hb : S b ∨ w.heap.size ≤ b) : Kept S w (w1.setCells b o vs) := by
  obtain ⟨h1, h2, h3⟩ := World.rest_setCells b vs o w1
  exact ⟨h1.trans h.os, h2.trans h.tape, h3.trans h.output, by rw [World.size_setCells]; exact h.size, fun i hi hs => by
    rw [World.heap_setCells_other b vs o w1 i (by rintro rfl; exact hb.elim hs (fun h' => by omega))]; exact h.block i hi hs⟩

theorem splice_cons {α : Type} (L : List α) (o : Nat) (v : α) (r : List α) (h : o < L.length) : splice (L.set o v) (o + 1) r = splice L o (v :: r) := by
  obtain ⟨A, x, B, rfl, rfl⟩ : ∃ A x B, L = A ++ x :: B ∧ o = A.length := ⟨L.take o, L[o], L.drop (o + 1), by simp, by simp; omega⟩
  have e : List.take (A.length + 1) (A ++ v :: B) = A ++ [v] := by rw [List.take_length_add_append]; simp
  simp [splice, Nat.add_assoc, Nat.add_comm 1, e]

/-- The block behind a store of many cells. -/
theorem heap_setCells_same (b : Nat) (t : TypeId) : ∀ (vs : List Value) (o : Nat) (w : World) (C : Array Value), w.heap[b]? = some (.cells C t (0, 0)) → o + vs.length ≤ C.size →
    (w.setCells b o vs).heap[b]? = some (.cells (splice C.toList o vs).toArray t (0, 0))
  | [], o, w, C, h, _ => by simp [World.setCells, splice, h]
  | v :: r, o, w, C, h, hl => by
    simp only [List.length_cons] at hl
    rw [World.setCells, heap_setCells_same b t r (o + 1) _ (C.setIfInBounds o v) (heap_setCell_same w b o C t v h) (by simp; omega)]
    congr 3
    rw [Array.toList_setIfInBounds]
    exact splice_cons _ _ _ _ (by simp; omega)

/-- Only draws lie between. -/
structure Drawn (w w' : World) : Prop where
  heap : w'.heap = w.heap
  os : w'.os = w.os
  tape : w'.tape = w.tape
  output : w'.output = w.output
theorem Drawn.refl (w : World) : Drawn w w := ⟨rfl, rfl, rfl, rfl⟩
theorem Drawn.cell {w w' : World} (h : Drawn w w') (a : Addr) : w'.cell? a = w.cell? a := by simp [World.cell?, h.heap]
theorem Drawn.frozen {w w' : World} (h : Drawn w w') (a : Addr) : w'.frozen? a = w.frozen? a := by simp [World.frozen?, h.heap]
theorem Drawn.range {w w' : World} (h : Drawn w w') {b o : Nat} {cs : List Value} (hr : w.rangeAt b o cs) : w'.rangeAt b o cs := fun j v hv => (h.cell _).trans (hr j v hv)
theorem Drawn.kept {w w' : World} (h : Drawn w w') (S : Nat → Prop) : Kept S w w' := ⟨h.os, h.tape, h.output, by rw [h.heap]; exact Nat.le_refl _, fun i _ _ => by rw [h.heap]⟩
theorem Drawn.drewN (w : World) (n : Nat) : Drawn w (w.drewN n) := ⟨rfl, rfl, rfl, rfl⟩

/-! ### bytes -/
open Go.Extern.Stop (cell)
/-- Bytes as cells. -/
def bcells (bs : List UInt8) : List Value := bs.map cell
theorem bcells_length (bs : List UInt8) : (bcells bs).length = bs.length := by simp [bcells]
theorem bcells_append (a b : List UInt8) : bcells (a ++ b) = bcells a ++ bcells b := by simp [bcells]
theorem bcells_take (n : Nat) (a : List UInt8) : bcells (a.take n) = (bcells a).take n := by simp [bcells, List.map_take]
theorem bcells_drop (n : Nat) (a : List UInt8) : bcells (a.drop n) = (bcells a).drop n := by simp [bcells, List.map_drop]
theorem bcells_one (bs : List UInt8) : ∀ u ∈ bcells bs, u.oneCell' = true := by
  intro u hu
  simp only [bcells, List.mem_map] at hu
  obtain ⟨b, _, rfl⟩ := hu
  rfl
theorem bcells_get (bs : List UInt8) (j : Nat) : (bcells bs)[j]? = bs[j]?.map cell := by simp [bcells]

theorem bcells_all (bs : List UInt8) : (bcells bs).toArray.all (·.oneCell') = true :=
  Array.all_eq_true_iff_forall_mem.2 (fun v hv => bcells_one bs v (by simpa using hv))
theorem bcells_mem (bs : List UInt8) : ∀ v ∈ (bcells bs).toArray, v.oneCell' = true := fun v hv => bcells_one bs v (by simpa using hv)

/-! ### blocks, ranges -/
theorem there_of_block {w : World} {b : Nat} {C : Array Value} {t : TypeId} (h : w.heap[b]? = some (.cells C t (0, 0))) (o n : Nat) (hn : o + n ≤ C.size) : w.there b o n := by
  intro j hj
  refine ⟨?_, frozen_of_row _ _ _ _ _ h⟩
  rw [cell_of_row _ _ _ _ _ _ h, Array.getElem?_eq_getElem (by omega)]
  rfl
theorem range_of_block {w : World} {b : Nat} {C : Array Value} {t : TypeId} {fr : Nat × Nat} (h : w.heap[b]? = some (.cells C t fr)) (o : Nat) (cs : List Value) (hc : ∀ j v, cs[j]? = some v → C[o + j]? = some v) : w.rangeAt b o cs := by
  intro j v hv
  rw [cell_of_row _ _ _ _ _ _ h]
  exact hc j v hv
theorem range_take {w : World} {g : Nat} {cur : Array Value} {t : TypeId} {fr : Nat × Nat} {n : Nat} {L : List Value} (hg : w.heap[g]? = some (.cells cur t fr)) (htk : cur.toList.take n = L) (o m : Nat) : w.rangeAt g o ((L.drop o).take m) := by
  refine range_of_block hg o _ fun j v hv => ?_
  subst htk
  rw [List.getElem?_take] at hv
  split at hv
  · rw [List.getElem?_drop, List.getElem?_take] at hv
    split at hv
    · simpa using hv
    · cases hv
  · cases hv
theorem rangeAt_kept {S : Nat → Prop} {w w1 : World} {g o : Nat} {cs : List Value} (h : w.rangeAt g o cs) (k : Kept S w w1) (hg : g < w.heap.size) (hS : ¬ S g) : w1.rangeAt g o cs := by
  intro j v hv
  rw [← h j v hv]
  exact World.cell?_of_block (k.block g hg hS)
/-- A whole block behind a store of all its cells. -/
theorem heap_setCells_whole (b : Nat) (t : TypeId) (vs : List Value) (w : World) (C : Array Value) (h : w.heap[b]? = some (.cells C t (0, 0))) (hl : vs.length = C.size) :
    (w.setCells b 0 vs).heap[b]? = some (.cells vs.toArray t (0, 0)) := by
  rw [heap_setCells_same b t vs 0 w C h (by omega)]
  have : List.drop vs.length C.toList = [] := List.drop_eq_nil_of_le (by simp [hl])
  simp [splice, this]

/-! ### rows -/
/-- What a row is, nil or not: the address is a letter. -/
theorem row_view {w : World} {base : Nat} {e : TypeId} {size n : Nat} {v : Value} {xs : List Value} (h : w.ownsRow base e size v n xs) :
    ∃ A cap, v = .slice A n cap ∧ n ≤ cap ∧ cap ≤ 9223372036854775807 ∧ (0 < n → ∃ g cur, A = some ⟨g, 0, none⟩ ∧ v.ownBlock = some g ∧ g < w.heap.size ∧ w.heap[g]? = some (.cells cur e (0, 0)) ∧ cur.size = cap * size ∧ cur.toList.take (n * size) = xs) := by
  rcases h.2 with ⟨rfl, rfl⟩ | ⟨g, cap, cur, rfl, _, hg, hnc, hcm, hcs, htk⟩
  · exact ⟨none, 0, rfl, Nat.le_refl _, by omega, fun h => by omega⟩
  · unfold maxLen at hcm
    exact ⟨_, cap, rfl, hnc, by omega, fun _ => ⟨g, cur, rfl, rfl, (Array.getElem?_eq_some_iff.1 hg).1, hg, hcs, htk⟩⟩
theorem row_kept {S : Nat → Prop} {w w1 : World} {base : Nat} {e : TypeId} {size n : Nat} {v : Value} {xs : List Value} (h : w.ownsRow base e size v n xs) (k : Kept S w w1) (hS : ∀ i, v.ownBlock = some i → ¬ S i) : w1.ownsRow base e size v n xs := by
  obtain ⟨h1, h2⟩ := h
  refine ⟨h1, ?_⟩
  rcases h2 with h2 | ⟨g, cap, cur, rfl, hg, hh, r⟩
  · exact .inl h2
  · exact .inr ⟨g, cap, cur, rfl, hg, (k.block g (Array.getElem?_eq_some_iff.1 hh).1 (hS g rfl)).trans hh, r⟩
theorem row_base {w : World} {base base' : Nat} {e : TypeId} {size n : Nat} {v : Value} {xs : List Value} (h : w.ownsRow base e size v n xs) (hb : base' ≤ base) : w.ownsRow base' e size v n xs := by
  obtain ⟨h1, h2⟩ := h
  refine ⟨h1, ?_⟩
  rcases h2 with h2 | ⟨g, cap, cur, rfl, hg, hh, r⟩
  · exact .inl h2
  · exact .inr ⟨g, cap, cur, rfl, by omega, hh, r⟩
theorem row_raise {w : World} {base base' : Nat} {e : TypeId} {size n : Nat} {v : Value} {xs : List Value} (h : w.ownsRow base e size v n xs) (hb : ∀ i, v.ownBlock = some i → base' ≤ i) : w.ownsRow base' e size v n xs := by
  obtain ⟨h1, h2⟩ := h
  refine ⟨h1, ?_⟩
  rcases h2 with h2 | ⟨g, cap, cur, rfl, hg, hh, r⟩
  · exact .inl h2
  · exact .inr ⟨g, cap, cur, rfl, hb g rfl, hh, r⟩
/-- The address of an element. -/
theorem run_index_row {P : Program} (T e : TypeId) (ht : P.underlying T = some (.slice e)) (size : Nat) (hs : (P.info? e).map (·.size) = some size) (g n cap k : Nat) (hk : k < n) (W : World) :
    (Instr.indexAt T (.slice (some ⟨g, 0, none⟩) n cap) (.int .i64 k)).run P W = .ok (.pointer (some ⟨g, k * size, none⟩)) W := by
  cases hi : P.info? e with
  | none => simp [hi] at hs
  | some i =>
    have hs' : i.size = size := by simpa [hi] using hs
    have h0 : (0 : Int) ≤ (k : Int) := by omega
    have h1 : (k : Int) < (n : Int) := by omega
    simp [Instr.indexAt, asIntOf, run_underlying ht, sizeOf, typeInfo, hi, hs', hk, Result.andThen, Addr.add_mid]

theorem setRow_alloc (w : World) (C C' : Array Value) (t : TypeId) : (w.alloc (.cells C t)).setRow w.heap.size C' = w.alloc (.cells C' t) := by
  have e : ((w.alloc (.cells C t)).setRow w.heap.size C').heap = (w.alloc (.cells C' t)).heap := by
    apply Array.ext_getElem?
    intro i
    by_cases hi : i = w.heap.size
    · subst hi
      rw [setRow_heap _ _ C C' t (0, 0) (heap_alloc_new w _), heap_alloc_new]
    · unfold World.setRow
      simp only [Array.getElem?_modify, if_neg (Ne.symm hi)]
      by_cases h : i < w.heap.size
      · rw [heap_alloc_old w _ h, heap_alloc_old w _ h]
      · rw [Array.getElem?_eq_none (by simp; omega), Array.getElem?_eq_none (by simp; omega)]
  cases hq : (w.alloc (.cells C t)).setRow w.heap.size C' with
  | mk a1 a2 a3 a4 a5 =>
    rw [hq] at e
    simp only at e
    subst e
    have h2 : ((w.alloc (.cells C t)).setRow w.heap.size C').tape = w.tape := rfl
    have h3 : ((w.alloc (.cells C t)).setRow w.heap.size C').drawn = w.drawn := rfl
    have h4 : ((w.alloc (.cells C t)).setRow w.heap.size C').os = w.os := rfl
    have h5 : ((w.alloc (.cells C t)).setRow w.heap.size C').output = w.output := rfl
    rw [hq] at h2 h3 h4 h5
    simp only at h2 h3 h4 h5
    subst h2; subst h3; subst h4; subst h5
    rfl

/-- The address of an array's element, elements of one cell. -/
theorem run_index_arr {P : Program} (T e N : Nat) (ht : P.underlying T = some (.array N e)) (hs : (P.info? e).map (·.size) = some 1) (b o k : Nat) (hk : k < N) (W : World) :
    (Instr.indexAt T (.pointer (some ⟨b, o, none⟩)) (.int .i64 k)).run P W = .ok (.pointer (some ⟨b, o + k, none⟩)) W := by
  cases hi : P.info? e with
  | none => simp [hi] at hs
  | some i =>
    have hs' : i.size = 1 := by simpa [hi] using hs
    have h0 : (0 : Int) ≤ (k : Int) := by omega
    have h1 : (k : Int) < (N : Int) := by omega
    simp [Instr.indexAt, asIntOf, Instr.sureAddr, run_underlying ht, sizeOf, typeInfo, hi, hs', hk, Result.andThen, Addr.add_mid]

/-! ### laws at an operation -/
section
variable {P : Program} {ops : Array Oper} {rest : List Oper} {a : Act} {w : World} {Q : Exit → Act → World → Prop}

theorem run_alloc (T : TypeId) (z : Value) (hz : (P.info? T).map (·.zero) = some (some z)) (w : World) :
    (Instr.alloc T true (.tuple #[])).run P w = .ok (.pointer (some ⟨w.heap.size, 0, none⟩)) (w.alloc (.cells z.cells T)) := by
  cases hi : P.info? T with
  | none => simp [hi] at hz
  | some i =>
    have hz' : i.zero = some z := by simpa [hi] using hz
    simp [Instr.alloc, zeroValue, typeInfo, hi, hz', newVar, newRow, newObj, Result.andThen]
    rfl

theorem eval_put_same (a : Act) (d : Tmp) (v : Value) (h : d < a.tmps.size) : (a.put (some d) v).eval (.tmp d) = v := by
  simp [Act.put, Act.eval, h]
theorem eval_put_other (a : Act) (d q : Tmp) (v : Value) (h : q ≠ d) : (a.put (some d) v).eval (.tmp q) = a.eval (.tmp q) := by
  simp [Act.put, Act.eval, Array.getElem?_setIfInBounds_ne (Ne.symm h)]

theorem alloc_setCells (w : World) (Z cs : Array Value) (T : TypeId) (hzs : Z.size = cs.size) : (w.alloc (.cells Z T)).setCells w.heap.size 0 cs.toList = w.alloc (.cells cs T) := by
  have hblk : (w.alloc (.cells Z T)).heap[w.heap.size]? = some (.cells Z T (0, 0)) := heap_alloc_new w _
  have hb := heap_setCells_same w.heap.size T cs.toList 0 _ _ hblk (by simp [hzs])
  have e : (splice Z.toList 0 cs.toList).toArray = cs := by
    have : List.drop cs.size Z.toList = [] := List.drop_eq_nil_of_le (by simp [hzs])
    simp [splice, this]
  rw [e] at hb
  obtain ⟨e1, e2, e3⟩ := World.rest_setCells w.heap.size cs.toList 0 (w.alloc (.cells Z T))
  have e4 : ((w.alloc (.cells Z T)).setCells w.heap.size 0 cs.toList).drawn = w.drawn := by
    have : ∀ (vs : List Value) (o : Nat) (w : World) (b : Nat), (w.setCells b o vs).drawn = w.drawn := by
      intro vs
      induction vs with
      | nil => intro o w b; rfl
      | cons v r ih => intro o w b; rw [World.setCells, ih]; rfl
    rw [this]; rfl
  have e5 : ((w.alloc (.cells Z T)).setCells w.heap.size 0 cs.toList).heap = (w.alloc (.cells cs T)).heap := by
    apply Array.ext_getElem?
    intro i
    by_cases hi : i = w.heap.size
    · subst hi; rw [hb, heap_alloc_new]
    · rw [World.heap_setCells_other _ _ _ _ _ hi]
      by_cases h : i < w.heap.size
      · rw [heap_alloc_old w _ h, heap_alloc_old w _ h]
      · rw [Array.getElem?_eq_none (by simp; omega), Array.getElem?_eq_none (by simp; omega)]
  cases hq : (w.alloc (.cells Z T)).setCells w.heap.size 0 cs.toList with
  | mk a1 a2 a3 a4 a5 =>
    rw [hq] at e1 e2 e3 e4 e5
    simp only at e1 e2 e3 e4 e5
    subst e1; subst e2; subst e3; subst e4; subst e5
    rfl

theorem there_alloc_new (w : World) (Z : Array Value) (T : TypeId) : (w.alloc (.cells Z T)).there w.heap.size 0 Z.size := there_of_block (heap_alloc_new w _) 0 _ (by omega)
theorem wp_alloc {o : Oper} {K : Act → World → Prop} (T : TypeId) (ho : o.op = .alloc T) (z : Value) (hz : (P.info? T).map (·.zero) = some (some z))
    (h : K (a.put o.dst (.pointer (some ⟨w.heap.size, 0, none⟩))) (w.alloc (.cells z.cells T))) : o.wp P a w K Q := by
  unfold Oper.wp execOp
  simp only [ho, Sem.run_bind, run_alloc T z hz w, Result.andThen_ok, Sem.run_pure, Oper.upon_value]
  exact h

theorem wp_copy_row {o : Oper} {K : Act → World → Prop} (d s : Operand) (dT sT : TypeId) (ho : o.op = .call { callee := .builtin .copy, args := #[d, s], argTypes := #[dT, sT] }) (elem : TypeId) (hu : P.underlying dT = some (.slice elem)) (hs : (P.info? elem).map (·.size) = some 1)
    (g o' dLen dCap : Nat) (ad : Addr) (sLen sCap : Nat) (hd : a.eval d = .slice (some ⟨g, o', none⟩) dLen dCap) (hsv : a.eval s = .slice (some ad) sLen sCap) (cur : Array Value) (t : TypeId) (cs : List Value)
    (hg : w.heap[g]? = some (.cells cur t (0, 0))) (hn : cs.length = Nat.min sLen dLen) (hsrc : ∀ j v, cs[j]? = some v → w.cell? (ad.add j) = some v) (hfit : o' + cs.length ≤ cur.size) (h1 : ∀ v ∈ cs, v.oneCell' = true)
    (h : K (a.put o.dst (goInt cs.length)) (w.setRow g (cur.toList.take o' ++ cs ++ cur.toList.drop (o' + cs.length)).toArray)) : o.wp P a w K Q := by
  have hrun := run_copy_row P w dT sT o.type elem g o' dLen dCap ad sLen sCap cur t cs hu hs hg hn hsrc hfit h1
  unfold Oper.wp execOp
  simp only [ho, resolve, invoke, builtin, Sem.run_bind, Sem.run_pure, Result.andThen_ok, List.map_toArray, List.map_cons, List.map_nil, hd, hsv, hrun]
  exact h
theorem Kept.setRow {S : Nat → Prop} {w0 w1 : World} (h : Kept S w0 w1) (g : Nat) (cs : Array Value) (hg : S g ∨ w0.heap.size ≤ g) : Kept S w0 (w1.setRow g cs) :=
  ⟨h.os, h.tape, h.output, by rw [size_setRow]; exact h.size, fun i hi hs => by
    rw [setRow_other w1 g i cs (by rintro rfl; exact hg.elim hs (fun h' => by omega))]; exact h.block i hi hs⟩

/-- 'x := v' of a local whose address is taken, of many cells: the block is laid and filled. -/
theorem wpList_alloc_fill {o1 o2 : Oper} (hg1 : o1.guard = none) (hg2 : o2.guard = none) (T : TypeId) (d : Tmp) (h1 : o1.op = .alloc T) (hd1 : o1.dst = some d)
    (q : Tmp) (h2 : o2.op = .store T (.tmp d) (.tmp q)) (hqd : q ≠ d) (hdz : d < a.tmps.size) (hd2 : o2.dst = none) (cs : Array Value) (z : Value) (hz : (P.info? T).map (·.zero) = some (some z)) (hs : (P.info? T).map (·.size) = some cs.size) (hzs : z.cells.size = cs.size)
    (hy : a.eval (.tmp q) = .agg cs)
    (hone : ∀ v ∈ cs, v.oneCell' = true)
    (h : wpList P ops Q rest (a.put (some d) (.pointer (some ⟨w.heap.size, 0, none⟩))) (w.alloc (.cells cs T))) : wpList P ops Q (o1 :: o2 :: rest) a w := by
  refine wpList_plain hg1 fun K hK => ?_
  unfold Oper.wp execOp
  simp only [h1, Sem.run_bind, run_alloc T z hz w, Result.andThen_ok, Sem.run_pure, Oper.upon_value, hd1]
  refine hK _ _ (wpList_plain hg2 fun K' hK' => ?_)
  have hblk : (w.alloc (.cells z.cells T)).heap[w.heap.size]? = some (.cells z.cells T (0, 0)) := heap_alloc_new w _
  have hthere : (w.alloc (.cells z.cells T)).there w.heap.size 0 cs.size := by
    intro j hj
    refine ⟨?_, frozen_of_row _ _ _ _ _ hblk⟩
    rw [cell_of_row _ _ _ _ _ _ hblk]
    simp [hzs, hj]
  refine wp_store_mid T (.tmp d) (.tmp q) h2 w.heap.size 0 cs (eval_put_same a d _ hdz) ((eval_put_other a d q _ hqd).trans hy) hthere hs (Array.all_eq_true_iff_forall_mem.2 hone) ?_
  refine hK' _ _ ?_
  rw [alloc_setCells w z.cells cs T hzs, hd2]
  exact h

/-- A slice literal of one element. -/
theorem run_buildSlice_one (t e : TypeId) (v : Value) (s : Nat) (hu : P.underlying t = some (.slice e)) (hsz : (P.info? e).map (·.size) = some s) (hz : ((P.info? e).bind (·.zero)).isSome = true)
    (hs : 0 < s) (hsmall : s ≤ 2 ^ 24) (h1 : v.cells.size = s) (w : World) :
    (Instr.buildSlice t 1 #[(0, v)]).run P w = .ok (.slice (some ⟨w.heap.size, 0, none⟩) 1 1) (w.alloc (.cells v.cells e)) := by
  cases hie : P.info? e with
  | none => simp [hie] at hsz
  | some ie =>
    simp only [hie, Option.map_some, Option.some.injEq, Option.bind_some] at hsz hz
    obtain ⟨z, hzz⟩ := Option.isSome_iff_exists.1 hz
    have hf := Great.fill_whole hs [v] ((Array.range (1 * ie.size)).map (z.cells[· % z.cells.size]!)) (by simp [h1]) (by simp [hsz])
    have := run_buildSlice (P := P) w t e 1 #[(0, v)] v.cells ie z hu hie hzz (by rw [hsz]; omega) (by rw [hsz]; omega) (by rw [hsz]; simpa [hsz] using hf)
    exact this

theorem wp_buildSlice_one {o : Oper} {K : Act → World → Prop} (t e : TypeId) (x : Operand) (ho : o.op = .buildSlice t 1 #[(0, x)]) (v : Value) (hx : a.eval x = v) (s : Nat) (hu : P.underlying t = some (.slice e)) (hsz : (P.info? e).map (·.size) = some s) (hz : ((P.info? e).bind (·.zero)).isSome = true)
    (hs : 0 < s) (hsmall : s ≤ 2 ^ 24) (h1 : v.cells.size = s) (h : K (a.put o.dst (.slice (some ⟨w.heap.size, 0, none⟩) 1 1)) (w.alloc (.cells v.cells e))) : o.wp P a w K Q := by
  unfold Oper.wp execOp
  have e1 : (#[(0, x)] : Array (Nat × Operand)).map (fun (i, y) => (i, a.eval y)) = #[(0, v)] := by simp [hx]
  simp only [ho, Sem.run_bind, e1, run_buildSlice_one t e v s hu hsz hz hs hsmall h1 w, Result.andThen_ok]
  exact h

/-- A whole array is read, in the head of a region that draws its order. -/
theorem wpStill_load_mid {o : Oper} {R : Act → Prop} (hg : o.guard = none) (ty : TypeId) (x : Operand) (ho : o.op = .load ty x)
    (b o' : Nat) (hx : a.eval x = .pointer (some ⟨b, o', none⟩)) (cs : List Value) (d : TypeDesc) (hc : w.rangeAt b o' cs)
    (hu : P.underlying ty = some d) (hd : d.isRow = true) (hi : (P.info? ty).map (·.size) = some cs.length)
    (h : wpStill P ops w R rest (a.put o.dst (.agg cs.toArray))) : wpStill P ops w R (o :: rest) a := by
  refine wpStill_step fun K hK => ?_
  rw [if_pos (by simp [Region.wanted, hg])]
  unfold Oper.still execOp
  simp only [ho, hx, Instr.loadAt, Instr.sureAddr, Sem.run_bind, Sem.run_pure, Result.andThen_ok, run_loadVar_mid w b o' ty cs d hc hu hd hi, Oper.stillUpon_value]
  exact hK _ h

/-- A region that draws its order, and ends in a tail whose order is forced: its head only reads; the world behind the draw is a letter. -/
theorem region_tail {id : Nat} {l : List Oper} (n : Nat) (hm : P.follows .mixedOrders = true) (hB : Region.lexTailB .any l.toArray n = true)
    (h : ∀ w2, Drawn w w2 → wpStill P l.toArray w2 (fun a' => wpList P l.toArray Q (l.drop n) a' w2) (l.take n) a) : (Code.region id l.toArray true).wp P Q a w :=
  wp_region_still_tail n hm hB (h _ ⟨rfl, rfl, rfl, rfl⟩)

/-! ### a region that draws its order, step by step: what only reads is taken first; S is what the reads lean on -/
section
variable {md : Region.Mode} {S : World → Prop} {i : Nat} {oi : Oper} {fuel : Nat} {listed : Array Bool}
theorem arr_get {α : Type} (ops : Array α) (i : Nat) (o : α) (h : ops.toList[i]? = some o) : ops[i]? = some o := by simpa using h
theorem hold_take {v : Value} (hi : ops.toList[i]? = some oi)
    (hs : Region.noSelect ops = true) (hf : Region.free md ops listed i = true) (hr : (Region.ready md ops listed).contains i = true)
    (hQ : ∀ c a w, Q (.panic c) (a.put oi.dst v) w → Q (.panic c) a w) (hg : oi.guard = none) (hy : ∀ w, S w → (execOp a.eval oi).run P w = .ok (.value v) w) (hS : S w)
    (h : wpAnyH P md ops Q S fuel (listed.setIfInBounds i true) (a.put oi.dst v) w) : wpAnyH P md ops Q S (fuel + 1) listed a w :=
  wpAnyH_take (arr_get _ _ _ hi) hs hf hr hQ (.inl ⟨by simp [Region.wanted, hg], hy⟩) hS h
theorem hold_step (hr : Region.ready md ops listed = [i]) (hi : ops.toList[i]? = some oi) (hg : oi.guard = none)
    (h : ∀ K' : Act → World → Prop, Shut (∀ a w, S w → (S w → wpAnyH P md ops Q S fuel (listed.setIfInBounds i true) a w) → K' a w) → Oper.wp P oi a w K' Q) : wpAnyH P md ops Q S (fuel + 1) listed a w :=
  wpAnyH_ready hr (by simp) (AllReadyH.cons (arr_get _ _ _ hi) (fun K hK => by rw [if_pos (by simp [Region.wanted, hg])]; exact h K hK) AllReadyH.nil)
theorem hold_two {j : Nat} {oj : Oper} (hr : Region.ready md ops listed = [i, j]) (hi : ops.toList[i]? = some oi) (hg : oi.guard = none) (hj : ops.toList[j]? = some oj) (hg' : oj.guard = none)
    (h : ∀ K' : Act → World → Prop, Shut (∀ a w, S w → (S w → wpAnyH P md ops Q S fuel (listed.setIfInBounds i true) a w) → K' a w) → Oper.wp P oi a w K' Q)
    (h' : ∀ K' : Act → World → Prop, Shut (∀ a w, S w → (S w → wpAnyH P md ops Q S fuel (listed.setIfInBounds j true) a w) → K' a w) → Oper.wp P oj a w K' Q) : wpAnyH P md ops Q S (fuel + 1) listed a w :=
  wpAnyH_ready hr (by simp) (AllReadyH.cons (arr_get _ _ _ hi) (fun K hK => by rw [if_pos (by simp [Region.wanted, hg])]; exact h K hK)
    (AllReadyH.cons (arr_get _ _ _ hj) (fun K hK => by rw [if_pos (by simp [Region.wanted, hg'])]; exact h' K hK) AllReadyH.nil))
/-- A whole array is read. -/
theorem held_load_mid {o : Oper} (ty : TypeId) (x : Operand) (ho : o.op = .load ty x)
    (b o' : Nat) (hx : a.eval x = .pointer (some ⟨b, o', none⟩)) (cs : List Value) (d : TypeDesc) (hc : ∀ w, S w → w.rangeAt b o' cs)
    (hu : P.underlying ty = some d) (hd : d.isRow = true) (hi : (P.info? ty).map (·.size) = some cs.length) :
    ∀ w, S w → (execOp a.eval o).run P w = .ok (.value (.agg cs.toArray)) w := by
  intro w hw
  unfold execOp
  simp only [ho, hx, Instr.loadAt, Instr.sureAddr, Sem.run_bind, Sem.run_pure, Result.andThen_ok, run_loadVar_mid w b o' ty cs d (hc w hw) hu hd hi]
end

/-- '==' of two arrays of bytes. -/
theorem wpList_eql_bytes {o : Oper} (hg : o.guard = none) (T e : TypeId) (n : Nat) (x y : Operand) (T' : TypeId) (ho : o.op = .binOp .eql T x y T') (xs ys : List UInt8)
    (hx : a.eval x = .agg (bcells xs).toArray) (hy : a.eval y = .agg (bcells ys).toArray) (ht : P.underlying T = some (.array n e)) (he : P.underlying e = some (.int .u8)) (hs : (P.info? e).map (·.size) = some 1)
    (hq : P.eqGuardType P.depth T = false) (hlx : xs.length = n) (hly : ys.length = n) (v : Bool) (hv : (xs == ys) = v)
    (h : wpList P ops Q rest (a.put o.dst (.bool v)) w) : wpList P ops Q (o :: rest) a w := by
  refine wpList_plain hg fun K hK => ?_
  have hsz : ∀ w, (sizeOf e).run P w = .ok 1 w := by
    intro w
    cases hi : P.info? e with
    | none => simp [hi] at hs
    | some i =>
      have hs' : i.size = 1 := by simpa [hi] using hs
      simp [sizeOf, typeInfo, hi, hs']
  have h1 := run_eql_bytes (P := P) w T e n ht he hsz xs ys hlx hly
  have h2 : (eqGuard .eql T x y (.agg (bcells xs).toArray) (.agg (bcells ys).toArray)).run P w = .ok () w := by
    simp [eqGuard, hq]
  unfold Oper.wp execOp
  simp only [ho, hx, hy, Sem.run_bind, h2, Result.andThen_ok]
  unfold bcells
  rw [h1, hv]
  exact hK _ _ h
end
end Go.Proofs.Ytcbogiebdjbmoaa
