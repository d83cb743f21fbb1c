/-
  The disk's Fail, New and Turn.
-/
import Derived.Test.YtcbogiebdjbmoaaDiskB
import Derived.Test.YtcbogiebdjbmoaaOrd
set_option linter.unusedVariables false
set_option linter.unusedSimpArgs false
namespace Go.Proofs.Ytcbogiebdjbmoaa
open Go.RowKit Go.Maps
open Go.Extern.Stop (cell)

set_option maxHeartbeats 400000 in
theorem fail_bad (p m : Nat) (pv : Value) (D : Dk) (after e0 : Int) (w : World) (h : DiskAt w p m pv D) (he : e0 ≠ 160) (he' : e0 ≠ 7) :
    Calls Try.prog 39 #[.pointer (some ⟨p, 0, none⟩), .int .i64 after, .int .i64 e0] w fun e w' => e = .returned (.int .i64 1) ∧ w = w' := by
  have c0 := h.c0
  have hp := h.ok.pos
  have h1 : (e0 != 160) = true := by simp [he]
  have h2 : (e0 != 7) = true := by simp [he']
  clear h
  go_enter Try.func39, Try.ntmps39
  go_wp2_with (go_at_call 34; refine (made_yes _ _ _ c0 (by omega)).mono ?_; rintro e w' ⟨rfl, rfl⟩)
  go_ret
  exact ⟨rfl, rfl⟩

set_option maxHeartbeats 400000 in
theorem fail_ok (p m : Nat) (pv : Value) (D : Dk) (after e0 : Int) (w : World) (h : DiskAt w p m pv D) (he : e0 = 160 ∨ e0 = 7) (ha : -9223372036854775808 ≤ after ∧ after ≤ 9223372036854775807) :
    Calls Try.prog 39 #[.pointer (some ⟨p, 0, none⟩), .int .i64 after, .int .i64 e0] w fun e w' => e = .returned (.int .i64 0) ∧ DiskAt w' p m pv (D.fail after e0) ∧ Kept (· = p) w w' := by
  have c0 := h.c0
  have c3 := h.c3
  have c4 := h.c4
  have c5 := h.c5
  have f3 := h.fr 3
  have f4 := h.fr 4
  have f5 := h.fr 5
  have hp := h.ok.pos
  have H := Lib.hid h
  clear h
  rcases he with rfl | rfl
  all_goals
    go_enter Try.func39, Try.ntmps39
    go_wp2_with (go_at_call 34; refine (made_yes _ _ _ c0 (by omega)).mono ?_; rintro e w' ⟨rfl, rfl⟩)
    go_ret
    refine ⟨rfl, H.out.turned ?_ ?_ (H.out.ok.fail ha (by decide)) rfl rfl rfl, ?_⟩
    · exact Kept.setCell (S := (· = p)) (Kept.setCell (S := (· = p)) (Kept.setCell (S := (· = p)) (Kept.refl _ w) _ _ (.inl rfl)) _ _ (.inl rfl)) _ _ (.inl rfl)
    · rw [heap_setCell_same _ p 5 _ _ _ (heap_setCell_same _ p 4 _ _ _ (heap_setCell_same w p 3 _ _ _ H.out.head))]
      rfl
    · exact Kept.setCell (S := (· = p)) (Kept.setCell (S := (· = p)) (Kept.setCell (S := (· = p)) (Kept.refl _ w) _ _ (.inl rfl)) _ _ (.inl rfl)) _ _ (.inl rfl)

set_option maxHeartbeats 400000 in
theorem new_bad (n : Int) (w : World) (h : n < 1 ∨ 65536 < n) :
    Calls Try.prog 16 #[.int .i64 n] w fun e w' => e = .returned (.tuple #[.pointer none, .int .i64 1]) ∧ w = w' := by
  rcases h with h | h
  · go_enter Try.func16, Try.ntmps16
    go_wp2
    go_ret2
    exact ⟨rfl, rfl⟩
  · go_enter Try.func16, Try.ntmps16
    go_wp2
    go_ret2
    exact ⟨rfl, rfl⟩

set_option maxHeartbeats 400000 in
theorem new_ok (n : Nat) (w : World) (h0 : 1 ≤ n) (h1 : n ≤ 65536) :
    Calls Try.prog 16 #[.int .i64 n] w fun e w' => e = .returned (.tuple #[.pointer (some ⟨w.heap.size + 1, 0, none⟩), .int .i64 0]) ∧ DiskAt w' (w.heap.size + 1) w.heap.size (.slice none 0 0) (Dk.new n) ∧ Kept No w w' ∧ w'.heap.size = w.heap.size + 2 := by
  have hmm := @run_makeMap Try.prog
  go_enter Try.func16, Try.ntmps16
  go_wp2
  go_ret2
  refine ⟨rfl, ⟨Dk.Ok.new (by omega) h1, ?_, ?_, own_nil' _ _ _ _⟩, ((Kept.refl No w).alloc _).alloc _, by simp⟩
  · have := heap_alloc_new (w.alloc (.map #[] 0)) (.cells #[.int .i64 n, .map (some w.heap.size), .slice none 0 0, .bool false, .int .i64 0, .int .i64 0] 60)
    simpa [head, Dk.new] using this
  · refine ⟨0, .map [], (World.ownsMap_made w Try.prog 3 vR).alloc _, fun a => rfl, fun k hk => ?_⟩
    cases hk
end Go.Proofs.Ytcbogiebdjbmoaa
