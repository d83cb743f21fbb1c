/-
  The disk's small calls: made, has, put, plan, Size, Pending.
-/
import Derived.Test.YtcbogiebdjbmoaaDiskD
set_option linter.unusedVariables false
set_option linter.unusedSimpArgs false
namespace Go.Proofs.Ytcbogiebdjbmoaa
open Go.RowKit Go.Maps
open Go.Extern.Stop (cell)

set_option maxHeartbeats 400000 in
theorem made_yes (p : Nat) (size : Int) (w : World) (h0 : w.cell? ⟨p, 0, none⟩ = some (.int .i64 size)) (hs : 0 < size) :
    Calls Try.prog 34 #[.pointer (some ⟨p, 0, none⟩)] w fun e w' => e = .returned (.bool true) ∧ w = w' := by
  go_enter Try.func34, Try.ntmps34
  go_wp2
  go_ret
  exact ⟨rfl, rfl⟩
set_option maxHeartbeats 400000 in
theorem made_no (p : Nat) (w : World) (h0 : w.cell? ⟨p, 0, none⟩ = some (.int .i64 0)) :
    Calls Try.prog 34 #[.pointer (some ⟨p, 0, none⟩)] w fun e w' => e = .returned (.bool false) ∧ w = w' := by
  go_enter Try.func34, Try.ntmps34
  go_wp2
  go_ret
  exact ⟨rfl, rfl⟩
set_option maxHeartbeats 400000 in
theorem made_nil (w : World) :
    Calls Try.prog 34 #[.pointer none] w fun e w' => e = .returned (.bool false) ∧ w = w' := by
  go_enter Try.func34, Try.ntmps34
  go_wp2
  go_ret
  exact ⟨rfl, rfl⟩

theorem DiskAt.c0 {w : World} {p m : Nat} {pv : Value} {D : Dk} (h : DiskAt w p m pv D) : w.cell? ⟨p, 0, none⟩ = some (.int .i64 D.size) := cell_of_row w p 0 _ _ _ h.head
theorem DiskAt.c1 {w : World} {p m : Nat} {pv : Value} {D : Dk} (h : DiskAt w p m pv D) : w.cell? ⟨p, 1, none⟩ = some (.map (some m)) := cell_of_row w p 1 _ _ _ h.head
theorem DiskAt.c2 {w : World} {p m : Nat} {pv : Value} {D : Dk} (h : DiskAt w p m pv D) : w.cell? ⟨p, 2, none⟩ = some pv := cell_of_row w p 2 _ _ _ h.head
theorem DiskAt.c3 {w : World} {p m : Nat} {pv : Value} {D : Dk} (h : DiskAt w p m pv D) : w.cell? ⟨p, 3, none⟩ = some (.bool D.planned) := cell_of_row w p 3 _ _ _ h.head
theorem DiskAt.c4 {w : World} {p m : Nat} {pv : Value} {D : Dk} (h : DiskAt w p m pv D) : w.cell? ⟨p, 4, none⟩ = some (.int .i64 D.after) := cell_of_row w p 4 _ _ _ h.head
theorem DiskAt.c5 {w : World} {p m : Nat} {pv : Value} {D : Dk} (h : DiskAt w p m pv D) : w.cell? ⟨p, 5, none⟩ = some (.int .i64 D.err) := cell_of_row w p 5 _ _ _ h.head
theorem DiskAt.fr {w : World} {p m : Nat} {pv : Value} {D : Dk} (h : DiskAt w p m pv D) (j : Nat) : w.frozen? ⟨p, j, none⟩ = false := frozen_of_row w p j _ _ h.head

set_option maxHeartbeats 400000 in
theorem has_any (p m : Nat) (pv : Value) (D : Dk) (at_ : Int) (w : World) (h : DiskAt w p m pv D) :
    Calls Try.prog 38 #[.pointer (some ⟨p, 0, none⟩), .int .i64 at_] w fun e w' => e = .returned (.int .i64 (if 0 ≤ at_ ∧ at_ < D.size then 0 else 1)) ∧ w = w' := by
  have c0 := h.c0
  have hp := h.ok.pos
  have hm := h.ok.most
  clear h
  by_cases h1 : 0 ≤ at_
  · by_cases h2 : at_ < D.size
    · rw [if_pos ⟨h1, h2⟩]
      go_enter Try.func38, Try.ntmps38
      go_wp2_with (go_at_call 34; refine (made_yes _ _ _ c0 (by omega)).mono ?_; rintro e w' ⟨rfl, rfl⟩)
      go_ret
      exact ⟨rfl, rfl⟩
    · rw [if_neg (by omega)]
      go_enter Try.func38, Try.ntmps38
      go_wp2_with (go_at_call 34; refine (made_yes _ _ _ c0 (by omega)).mono ?_; rintro e w' ⟨rfl, rfl⟩)
      go_ret
      exact ⟨rfl, rfl⟩
  · rw [if_neg (by omega)]
    go_enter Try.func38, Try.ntmps38
    go_wp2_with (go_at_call 34; refine (made_yes _ _ _ c0 (by omega)).mono ?_; rintro e w' ⟨rfl, rfl⟩)
    go_ret
    exact ⟨rfl, rfl⟩

set_option maxHeartbeats 400000 in
theorem size_any (p m : Nat) (pv : Value) (D : Dk) (w : World) (h : DiskAt w p m pv D) :
    Calls Try.prog 20 #[.pointer (some ⟨p, 0, none⟩)] w fun e w' => e = .returned (.int .i64 D.size) ∧ w = w' := by
  have c0 := h.c0
  have hp := h.ok.pos
  clear h
  go_enter Try.func20, Try.ntmps20
  go_wp2_with (go_at_call 34; refine (made_yes _ _ _ c0 (by omega)).mono ?_; rintro e w' ⟨rfl, rfl⟩)
  go_ret
  exact ⟨rfl, rfl⟩

set_option maxHeartbeats 400000 in
theorem pending_any (p m : Nat) (pv : Value) (D : Dk) (w : World) (h : DiskAt w p m pv D) :
    Calls Try.prog 19 #[.pointer (some ⟨p, 0, none⟩)] w fun e w' => e = .returned (.int .i64 D.pend.length) ∧ w = w' := by
  have c0 := h.c0
  have c2 := h.c2
  have hp := h.ok.pos
  obtain ⟨A, cap, rfl, hnc, hcm, hA⟩ := row_view h.row
  clear h hA
  go_enter Try.func19, Try.ntmps19
  go_wp2_with (go_at_call 34; refine (made_yes _ _ _ c0 (by omega)).mono ?_; rintro e w' ⟨rfl, rfl⟩)
  go_ret
  exact ⟨rfl, rfl⟩

/-- A pending write's place. -/
theorem DiskAt.elem {w : World} {p m n cap : Nat} {A : Option Addr} {D : Dk} (h : DiskAt w p m (.slice A n cap) D) {k : Nat} {x : Int × List UInt8} (hx : D.pend[k]? = some x) :
    ∃ g, g < w.heap.size ∧ A = some ⟨g, 0, none⟩ ∧ w.rangeAt g (k * 257) (wcells x) ∧ ∀ q, k < q → ∀ W, (Instr.indexAt 58 (.slice A q cap) (.int .i64 k)).run Try.prog W = .ok (.pointer (some ⟨g, k * 257, none⟩)) W := by
  have hk : k < D.pend.length := (List.getElem?_eq_some_iff.1 hx).1
  obtain ⟨A', cap', e, hnc, hcm, hA⟩ := row_view h.row
  injection e with e1 e2 e3
  subst e1; subst e2; subst e3
  obtain ⟨g, cur, rfl, _, hg, hh, _, htk⟩ := hA (by omega)
  refine ⟨g, hg, rfl, ?_, fun q hq => run_index_row 58 74 Try.underlying58 257 size74 g q cap k hq⟩
  rw [← pcells_range D.pend (fun y hy => (h.ok.pend y hy).1) k x hx]
  exact range_take hh htk _ _
theorem DiskAt.view {w : World} {p m : Nat} {pv : Value} {D : Dk} (h : DiskAt w p m pv D) : ∃ A cap, pv = .slice A D.pend.length cap ∧ D.pend.length ≤ cap ∧ cap ≤ 9223372036854775807 := by
  obtain ⟨A, cap, e, hnc, hcm, _⟩ := row_view h.row
  exact ⟨A, cap, e, hnc, hcm⟩
theorem Dk.upto_zero (D : Dk) : D.upto 0 = D := by
  have : (fun a => lastW (D.pend.take 0) a (D.sure a)) = D.sure := by funext a; simp [lastW]
  unfold Dk.upto
  rw [this]
theorem Dk.upto_succ {D : Dk} {k : Nat} {x : Int × List UInt8} (hx : D.pend[k]? = some x) : (D.upto k).put x.1 x.2 = D.upto (k + 1) := by
  unfold Dk.put Dk.upto
  congr 1
  funext a
  rw [lastW_take hx]
  unfold setAt
  by_cases e : a = x.1
  · rw [if_pos e, if_pos e.symm]
  · rw [if_neg e, if_neg (Ne.symm e)]
theorem Dk.plan_none {D : Dk} (h : D.planned = false) : D.plan = D ∧ D.planErr = 0 := by simp [Dk.plan, Dk.planErr, h]
theorem Dk.plan_more {D : Dk} (h : D.planned = true) (h' : 0 < D.after) : D.plan = { D with after := D.after - 1 } ∧ D.planErr = 0 := by simp [Dk.plan, Dk.planErr, h, h']
theorem Dk.plan_now {D : Dk} (h : D.planned = true) (h' : ¬ 0 < D.after) : D.plan = { D with planned := false } ∧ D.planErr = D.err := by simp [Dk.plan, Dk.planErr, h, h']

set_option maxHeartbeats 400000 in
theorem plan_any (p m : Nat) (pv : Value) (D : Dk) (w : World) (h : DiskAt w p m pv D) :
    Calls Try.prog 35 #[.pointer (some ⟨p, 0, none⟩)] w fun e w' => e = .returned (.int .i64 D.planErr) ∧ DiskAt w' p m pv D.plan ∧ Kept (· = p) w w' := by
  have H := Lib.hid h
  have c3 := h.c3
  have c4 := h.c4
  have c5 := h.c5
  have f3 := h.fr 3
  have f4 := h.fr 4
  have ha := h.ok.after
  clear h
  cases hpl : D.planned with
  | false =>
    obtain ⟨e1, e2⟩ := Dk.plan_none hpl
    rw [e1, e2]
    rw [hpl] at c3
    clear e1 e2 hpl
    go_enter Try.func35, Try.ntmps35
    go_wp2
    go_ret
    exact ⟨rfl, H.out, Kept.refl _ _⟩
  | true =>
    rw [hpl] at c3
    by_cases h0 : 0 < D.after
    · obtain ⟨e1, e2⟩ := Dk.plan_more hpl h0
      have E1 := Lib.hid e1
      have E2 := Lib.hid e2
      have HP := Lib.hid hpl
      clear e1 e2 hpl
      go_enter Try.func35, Try.ntmps35
      go_wp2
      go_ret
      rw [E1.out, E2.out]
      refine ⟨rfl, H.out.turned ((Kept.refl _ w).setCell _ _ (.inl rfl)) ?_ ?_ rfl rfl rfl, (Kept.refl _ w).setCell _ _ (.inl rfl)⟩
      · rw [heap_setCell_same w p 4 _ _ _ H.out.head]
        rfl
      · have := H.out.ok.plan
        rwa [E1.out] at this
    · obtain ⟨e1, e2⟩ := Dk.plan_now hpl h0
      have E1 := Lib.hid e1
      have E2 := Lib.hid e2
      have HP := Lib.hid hpl
      clear e1 e2 hpl
      go_enter Try.func35, Try.ntmps35
      go_wp2
      go_ret
      rw [E1.out, E2.out]
      refine ⟨rfl, H.out.turned ((Kept.refl _ w).setCell _ _ (.inl rfl)) ?_ ?_ rfl rfl rfl, (Kept.refl _ w).setCell _ _ (.inl rfl)⟩
      · rw [heap_setCell_same w p 3 _ _ _ H.out.head]
        rfl
      · have := H.out.ok.plan
        rwa [E1.out] at this

end Go.Proofs.Ytcbogiebdjbmoaa
