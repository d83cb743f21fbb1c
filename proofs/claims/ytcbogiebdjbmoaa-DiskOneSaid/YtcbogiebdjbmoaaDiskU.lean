/-
  The disk's Turn: a byte is turned, sure and not.
-/
import Derived.Test.YtcbogiebdjbmoaaDiskB
import Derived.Test.YtcbogiebdjbmoaaOrd
set_option linter.unusedVariables false
set_option linter.unusedSimpArgs false
namespace Go.Proofs.Ytcbogiebdjbmoaa
open Go.RowKit Go.Maps
open Go.Extern.Stop (cell)

theorem bits_xor_u8 (a b : UInt8) : bits .xor .u8 (a.toNat : Int) (b.toNat : Int) = ((a ^^^ b).toNat : Int) := by
  have ha := a.toNat_lt
  have hb := b.toNat_lt
  have hx : a.toNat ^^^ b.toNat < 2 ^ 8 := Nat.xor_lt_two_pow (by omega) (by omega)
  have h1 : (BitVec.ofInt 8 (a.toNat : Int)).toNat = a.toNat := by
    rw [BitVec.ofInt_natCast, BitVec.toNat_ofNat]; exact Nat.mod_eq_of_lt (by omega)
  have h2 : (BitVec.ofInt 8 (b.toNat : Int)).toNat = b.toNat := by
    rw [BitVec.ofInt_natCast, BitVec.toNat_ofNat]; exact Nat.mod_eq_of_lt (by omega)
  show IntKind.u8.wrap ((BitVec.ofInt 8 (a.toNat : Int) ^^^ BitVec.ofInt 8 (b.toNat : Int)).toNat : Int) = _
  rw [BitVec.toNat_xor, h1, h2, UInt8.toNat_xor]
  rw [IntKind.wrap_u8]
  omega

/-- The first k writes are turned. -/
def turnW (a : Int) (place : Nat) (by_ : UInt8) (x : Int × List UInt8) : Int × List UInt8 := if x.1 = a then (x.1, turnB x.2 place by_) else x
def Dk.turnTo (D : Dk) (a : Int) (place : Nat) (by_ : UInt8) (k : Nat) : Dk :=
  { D with sure := setAt D.sure a (turnB (D.sure a) place by_), pend := (D.pend.take k).map (turnW a place by_) ++ D.pend.drop k }
theorem Dk.turnTo_all (D : Dk) (a : Int) (place : Nat) (by_ : UInt8) : D.turnTo a place by_ D.pend.length = D.turn a place by_ := by
  simp [Dk.turnTo, Dk.turn, turnW]
theorem turnW_len (a : Int) (place : Nat) (by_ : UInt8) (x : Int × List UInt8) : (turnW a place by_ x).2.length = x.2.length ∧ (turnW a place by_ x).1 = x.1 := by
  unfold turnW
  split
  · exact ⟨turnB_length _ _ _, rfl⟩
  · exact ⟨rfl, rfl⟩
theorem Dk.Ok.turnTo {D : Dk} (ok : D.Ok) {a : Int} (h0 : 0 ≤ a) (h1 : a < D.size) (place : Nat) (by_ : UInt8) (k : Nat) : (D.turnTo a place by_ k).Ok where
  pos := ok.pos
  most := ok.most
  sure := (ok.turn h0 h1 place by_).sure
  out := (ok.turn h0 h1 place by_).out
  pend := fun x hx => by
    simp only [Dk.turnTo, List.mem_append, List.mem_map] at hx
    rcases hx with ⟨y, hy, rfl⟩ | hx
    · have := ok.pend y (List.mem_of_mem_take hy)
      obtain ⟨e1, e2⟩ := turnW_len a place by_ y
      rw [e1, e2]
      exact this
    · exact ok.pend x (List.mem_of_mem_drop hx)
  after := ok.after
  err := ok.err
theorem Dk.turnTo_len (D : Dk) (a : Int) (place : Nat) (by_ : UInt8) (k : Nat) : (D.turnTo a place by_ k).pend.length = D.pend.length := by
  simp [Dk.turnTo]; omega
theorem Dk.turnTo_get {D : Dk} {k : Nat} {x : Int × List UInt8} (hx : D.pend[k]? = some x) (a : Int) (place : Nat) (by_ : UInt8) : (D.turnTo a place by_ k).pend[k]? = some x := by
  have hk : k < D.pend.length := (List.getElem?_eq_some_iff.1 hx).1
  have hl : ((D.pend.take k).map (turnW a place by_)).length = k := by simp; omega
  simp only [Dk.turnTo]
  rw [List.getElem?_append_right (by omega), hl, Nat.sub_self, List.getElem?_drop]
  exact hx
theorem Dk.turnTo_succ {D : Dk} {k : Nat} {x : Int × List UInt8} (hx : D.pend[k]? = some x) (a : Int) (place : Nat) (by_ : UInt8) :
    (D.turnTo a place by_ (k + 1)).pend = (D.turnTo a place by_ k).pend.set k (turnW a place by_ x) := by
  have hk : k < D.pend.length := (List.getElem?_eq_some_iff.1 hx).1
  have hl : ((D.pend.take k).map (turnW a place by_)).length = k := by simp; omega
  simp only [Dk.turnTo]
  rw [List.set_append_right _ _ (by omega), hl, Nat.sub_self, List.take_add_one, hx]
  have hd : D.pend.drop k = x :: D.pend.drop (k + 1) := by
    rw [List.drop_eq_getElem_cons hk]
    congr 1
    exact (List.getElem?_eq_some_iff.1 hx).2
  rw [hd]
  simp
theorem set_same {α : Type} (l : List α) (k : Nat) (x : α) (h : l[k]? = some x) : l.set k x = l := by
  apply List.ext_getElem?
  intro i
  by_cases hi : k = i
  · subst hi
    rw [List.getElem?_set_self (List.getElem?_eq_some_iff.1 h).1, h]
  · rw [List.getElem?_set_ne hi]
theorem Dk.turnTo_ext {D : Dk} {a : Int} {place : Nat} {by_ : UInt8} {k k' : Nat} (h : (D.turnTo a place by_ k).pend = (D.turnTo a place by_ k').pend) : D.turnTo a place by_ k = D.turnTo a place by_ k' := by
  simp only [Dk.turnTo] at h ⊢
  rw [h]
theorem Dk.turnTo_skip {D : Dk} {k : Nat} {x : Int × List UInt8} (hx : D.pend[k]? = some x) {a : Int} (place : Nat) (by_ : UInt8) (hne : x.1 ≠ a) : D.turnTo a place by_ (k + 1) = D.turnTo a place by_ k := by
  refine Dk.turnTo_ext ?_
  rw [Dk.turnTo_succ hx]
  have : turnW a place by_ x = x := by unfold turnW; rw [if_neg hne]
  rw [this]
  exact set_same _ _ _ (Dk.turnTo_get hx _ _ _)
/-- A byte within the writes' cells. -/
theorem pcells_set : ∀ (l : List (Int × List UInt8)), (∀ x ∈ l, x.2.length = 256) → ∀ k x, l[k]? = some x → ∀ (j : Nat) (u : UInt8), j < 256 → (pcells l).set (k * 257 + 1 + j) (cell u) = pcells (l.set k (x.1, x.2.set j u))
  | [], _, k, x, h, _, _, _ => by simp at h
  | y :: r, hl, k, x, h, j, u, hj => by
    have hy : (wcells y).length = 257 := wcells_length (hl y (by simp))
    have e2 : ∀ z, pcells (z :: r) = wcells z ++ pcells r := fun z => by simp [pcells]
    cases k with
    | zero =>
      simp at h
      subst h
      rw [List.set_cons_zero, e2, e2, List.set_append_left _ _ (by omega)]
      congr 1
      simp [wcells, Nat.add_comm 1 j, bcells, List.map_set]
    | succ k =>
      have ih := pcells_set r (fun x hx => hl x (by simp [hx])) k x (by simpa using h) j u hj
      have e3 : (k + 1) * 257 + 1 + j = 257 + (k * 257 + 1 + j) := by omega
      rw [List.set_cons_succ, e2, e3, List.set_append_right _ _ (by omega), hy, Nat.add_sub_cancel_left, ih]
      simp [pcells]

theorem DiskAt.stored {w : World} {p m g n cap : Nat} {D D' : Dk} (h : DiskAt w p m (.slice (some ⟨g, 0, none⟩) n cap) D) (j : Nat) (v : Value) (hok : D'.Ok)
    (h1 : D'.size = D.size) (h2 : D'.sure = D.sure) (h3 : D'.pend.length = D.pend.length) (h4 : pcells D'.pend = (pcells D.pend).set j v) (h5 : D'.planned = D.planned) (h6 : D'.after = D.after) (h7 : D'.err = D.err) :
    DiskAt (w.setCell ⟨g, j, none⟩ v) p m (.slice (some ⟨g, 0, none⟩) n cap) D' := by
  obtain ⟨hp, hm, hl⟩ := h.own g rfl
  have k : Kept (· = g) w (w.setCell ⟨g, j, none⟩ v) := Kept.setCell (S := (· = g)) (Kept.refl _ w) _ _ (.inl rfl)
  have hn : n = D.pend.length := by
    obtain ⟨A, c, e, _⟩ := h.view
    injection e
  subst hn
  refine ⟨hok, ?_, ?_, ?_⟩
  · rw [k.block p h.plt (fun e => hp e.symm), h.head]
    simp only [Go.Proofs.Ytcbogiebdjbmoaa.head, h1, h5, h6, h7]
  · rw [h1, h2]; exact h.map.kept k (fun e => hm e.symm)
  · rw [h3, h4]
    exact (h.row.stored j v).1

end Go.Proofs.Ytcbogiebdjbmoaa
