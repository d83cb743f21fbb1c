/-
  The law's own op and its Bytes, walked.
-/
import Derived.Test.YtcbogiebdjbmoaaDiskV
set_option linter.unusedVariables false
set_option linter.unusedSimpArgs false
namespace Go.Proofs.Ytcbogiebdjbmoaa
open Go.RowKit Go.Maps
open Go.Extern.Stop (cell)

/-- An op of the law. -/
structure Opp where
  kind : Int
  at_ : Int
  n : Int
  torn : Int
  fill : UInt8
  bad : Bool
  e : Int

def opA (o : Opp) : Array Value := #[.int .i64 o.kind, .int .i64 o.at_, .int .i64 o.n, .int .i64 o.torn, .int .u8 o.fill.toNat, .bool o.bad, .int .i64 o.e]
def fillB (f : UInt8) (k : Nat) : List UInt8 := (List.range k).map fun i => f + UInt8.ofNat i
def opBytes (o : Opp) : List UInt8 := fillB o.fill 256 ++ if o.bad then [1] else []
theorem fillB_length (f : UInt8) (k : Nat) : (fillB f k).length = k := by simp [fillB]
theorem fillB_succ (f : UInt8) (k : Nat) : fillB f (k + 1) = fillB f k ++ [f + UInt8.ofNat k] := by simp [fillB, List.range_succ]

theorem fill_val (f : UInt8) (k : Nat) : ((f.toNat : Int) + (k : Int)) % 256 = ((f + UInt8.ofNat k).toNat : Int) := by
  rw [UInt8.toNat_add, UInt8.toNat_ofNat']
  omega

set_option maxHeartbeats 1000000 in
set_option maxRecDepth 100000 in
theorem bytes_any (o : Opp) (w : World) :
    Calls Try.prog 15 #[.agg (opA o)] w fun e w' => ∃ g cap, e = .returned (.slice (some ⟨g, 0, none⟩) (opBytes o).length cap) ∧ w'.ownsRow w.heap.size 5 1 (.slice (some ⟨g, 0, none⟩) (opBytes o).length cap) (opBytes o).length (bcells (opBytes o)) ∧ Kept No w w' ∧ w.heap.size ≤ g := by
  obtain ⟨i5, hi, hz0, hz1, hz2⟩ := info_parts info5
  unfold opA
  go_enter Try.func15, Try.ntmps15
  go_wp2_with fail
  go_loopw [4, 3] (fun i v wr => ∃ k : Nat, k ≤ 256 ∧ i = .int .i64 k ∧ wr.ownsRow (w.heap.size + 1) 5 1 v k (bcells (fillB o.fill k)) ∧ wr.heap[w.heap.size]? = some (.cells (opA o) 33 (0, 0)) ∧ Kept No w wr) (fun i _ _ => 256 - (intOf i).toNat)
  case atStart => exact ⟨0, by omega, rfl, own_nil' _ _ _ _, heap_alloc_new w _, (Kept.refl No w).alloc _⟩
  case round =>
    obtain ⟨k, hk, rfl, hown, hB, hK⟩ := hrel
    have hc4 : wr.cell? ⟨w.heap.size, 4, none⟩ = some (.int .u8 o.fill.toNat) := cell_of_row _ _ 4 _ _ _ hB
    have hc5 : wr.cell? ⟨w.heap.size, 5, none⟩ = some (.bool o.bad) := cell_of_row _ _ 5 _ _ _ hB
    have HB := Lib.hid hB
    clear hB
    by_cases hlt : k < 256
    · go_wp2_with (first
        | (at_builtin; go_must (refine wpList_append_lies _ rfl _ _ 28 rfl (w.heap.size + 1) 5 i5 (.int .u8 0) 1 1 Try.underlying28 hi hz0 hz1 hz2 rfl (by decide) _ k _ rfl (hown.alloc _) ⟨wr.heap.size, 0, none⟩ 1 1 [.int .u8 (((o.fill.toNat : Int) + (k : Int)) % 256)] rfl rfl (cell_one_new _ _ _) (fun x hx => by simp at hx; subst hx; rfl) (by decide) (by unfold maxLen; omega) (by omega) (by have := hK.size; have := (Array.getElem?_eq_some_iff.1 HB.out).1; simp; omega) (wr.heap.size + 1) (by simp) ?_); intro g cap w3 hown3 hgrow hat hlt3))
      go_roundw
      case rel =>
        have hne : (some w.heap.size) ≠ u3.ownBlock := fun e => by have := (hown.lt _ e.symm).1; omega
        refine ⟨k + 1, by omega, by go_num, ?_, ?_, (hK.alloc _).grown hgrow (fun q hq => .inr (by have := (hown.lt q hq).1; omega))⟩
        · rw [fillB_succ, bcells_append]
          rw [fill_val] at hown3
          exact hown3
        · rw [hgrow.block _ (by have := (Array.getElem?_eq_some_iff.1 HB.out).1; simp; omega) hne, heap_alloc_old _ _ (Array.getElem?_eq_some_iff.1 HB.out).1]
          exact HB.out
      case measure => simp [intOf]; omega
    · obtain rfl : k = 256 := by omega
      cases hb : o.bad with
      | false =>
        rw [hb] at hc5
        go_wp2_with fail
        go_ret
        have hb' : opBytes o = fillB o.fill 256 := by simp [opBytes, hb]
        have hl : (opBytes o).length = 256 := by simp [hb', fillB_length]
        obtain ⟨g, cap, rfl⟩ : ∃ g cap, u3 = .slice (some ⟨g, 0, none⟩) 256 cap := by
          rcases hown.2 with ⟨_, h⟩ | ⟨g3, cap3, _, h, _⟩
          · omega
          · exact ⟨g3, cap3, h⟩
        refine ⟨g, cap, by rw [hl]; rfl, ?_, hK, ?_⟩
        · rw [hl, hb']
          exact row_base hown (by omega)
        · have := (hown.lt g rfl).1
          omega
      | true =>
        rw [hb] at hc5
        go_wp2_with (first
          | (at_builtin; go_must (refine wpList_append_lies _ rfl _ _ 28 rfl (w.heap.size + 1) 5 i5 (.int .u8 0) 1 1 Try.underlying28 hi hz0 hz1 hz2 rfl (by decide) _ 256 _ rfl (hown.alloc _) ⟨wr.heap.size, 0, none⟩ 1 1 [.int .u8 1] rfl rfl (cell_one_new _ _ _) (fun x hx => by simp at hx; subst hx; rfl) (by decide) (by unfold maxLen; omega) (by omega) (by have := hK.size; have := (Array.getElem?_eq_some_iff.1 HB.out).1; simp; omega) (wr.heap.size + 1) (by simp) ?_); intro g cap w3 hown3 hgrow hat hlt3))
        go_ret
        have hb' : opBytes o = fillB o.fill 256 ++ [1] := by simp [opBytes, hb]
        have hl : (opBytes o).length = 257 := by simp [hb', fillB_length]
        refine ⟨g, cap, by rw [hl]; rfl, ?_, (hK.alloc _).grown hgrow (fun q hq => .inr (by have := (hown.lt q hq).1; omega)), ?_⟩
        · rw [hl, hb', bcells_append]
          exact row_base hown3 (by omega)
        · have := (hown3.lt g rfl).1
          omega
end Go.Proofs.Ytcbogiebdjbmoaa
