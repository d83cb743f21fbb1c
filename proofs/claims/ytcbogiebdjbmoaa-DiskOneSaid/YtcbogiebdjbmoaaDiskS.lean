/-
  The disk's Sync: all writes are sure, or the plan's error.
-/
import Derived.Test.YtcbogiebdjbmoaaDiskB
set_option linter.unusedVariables false
set_option linter.unusedSimpArgs false
namespace Go.Proofs.Ytcbogiebdjbmoaa
open Go.RowKit Go.Maps
open Go.Extern.Stop (cell)

set_option maxHeartbeats 400000 in
theorem sync_plan (p m : Nat) (pv : Value) (D : Dk) (w : World) (h : DiskAt w p m pv D) (he : D.planErr ≠ 0) :
    Calls Try.prog 10 #[.pointer (some ⟨p, 0, none⟩)] w fun e w' => e = .returned (.int .i64 D.planErr) ∧ DiskAt w' p m pv D.plan ∧ Kept (· = p) w w' := by
  have c0 := h.c0
  have hp := h.ok.pos
  have HP := Lib.hid (plan_any p m pv D w h)
  clear h
  go_enter Try.func10, Try.ntmps10
  go_wp2_with (go_at_call 34; refine (made_yes _ _ _ c0 (by omega)).mono ?_; rintro e w' ⟨rfl, rfl⟩)
  refine HP.out.mono ?_
  rintro e w1 ⟨rfl, hd1, hk1⟩
  have HD := Lib.hid hd1
  clear hd1
  go_wp2_with fail
  go_ret
  exact ⟨rfl, HD.out, hk1⟩

set_option maxHeartbeats 400000 in
set_option maxRecDepth 100000 in
theorem sync_in (p m : Nat) (pv : Value) (D : Dk) (w : World) (h : DiskAt w p m pv D) (he : D.planErr = 0) :
    Calls Try.prog 10 #[.pointer (some ⟨p, 0, none⟩)] w fun e w' => e = .returned (.int .i64 0) ∧ DiskAt w' p m (.slice none 0 0) D.plan.flush ∧ Kept (fun i => i = p ∨ i = m) w w' := by
  have c0 := h.c0
  have hpos := h.ok.pos
  have hp := plan_any p m pv D w h
  rw [he] at hp
  generalize D.plan = D1 at hp ⊢
  have HP := Lib.hid hp
  clear h hp he
  go_enter Try.func10, Try.ntmps10
  go_wp2_with (go_at_call 34; refine (made_yes _ _ _ c0 (by omega)).mono ?_; rintro e w' ⟨rfl, rfl⟩)
  refine HP.out.mono ?_
  rintro e w1 ⟨rfl, hd1, hk1⟩
  clear c0 hpos
  obtain ⟨A, cap, rfl, hnc, hcm⟩ := hd1.view
  have c2 := hd1.c2
  have hpl1 := hd1.plt
  have HD := Lib.hid hd1
  clear hd1
  go_wp2_with fail
  go_loopw [19] (fun i wr => ∃ k : Nat, k ≤ D1.pend.length ∧ i = .int .i64 k ∧ DiskAt wr p m (.slice A D1.pend.length cap) (D1.upto k) ∧ Kept (· = m) w1 wr) (fun i _ => D1.pend.length - (intOf i).toNat)
  case atStart => exact ⟨0, Nat.zero_le _, rfl, by rw [Dk.upto_zero]; exact HD.out, Kept.refl _ _⟩
  case round =>
    obtain ⟨k, hk, rfl, hd, hK⟩ := hrel
    by_cases hlt : k < D1.pend.length
    · obtain ⟨x, hx⟩ : ∃ x, D1.pend[k]? = some x := ⟨_, List.getElem?_eq_getElem hlt⟩
      obtain ⟨g, hgl, -, hrg, hidx0⟩ := hd.elem (x := x) (k := k) hx
      have hidx := hidx0 _ hlt
      clear hidx0
      have hpx := HD.out.ok.pend x (List.mem_of_getElem? hx)
      have hx256 := Lib.hid hpx.1
      have hca : (wr.alloc (.cells (wcells x).toArray 74)).cell? ⟨wr.heap.size, 0, none⟩ = some (.int .i64 x.1) := by
        rw [cell_of_row _ _ _ _ _ _ (heap_alloc_new wr _)]; rfl
      have hrb : (wr.alloc (.cells (wcells x).toArray 74)).rangeAt wr.heap.size 1 (bcells x.2) := by
        refine range_of_block (heap_alloc_new wr _) _ _ fun j v hj => ?_
        rw [Nat.add_comm]
        simpa [wcells] using hj
      have HPUT : Hid (Calls Try.prog 36 #[.pointer (some ⟨p, 0, none⟩), .int .i64 x.1, (.agg (bcells x.2).toArray)] (wr.alloc (.cells (wcells x).toArray 74)) fun e w' => e = .returned (.tuple #[]) ∧ DiskAt w' p m (.slice A D1.pend.length cap) (D1.upto (k + 1)) ∧ Kept (· = m) (wr.alloc (.cells (wcells x).toArray 74)) w') := by
        show Calls _ _ _ _ _
        rw [← Dk.upto_succ hx]
        exact put_any p m _ _ x.1 x.2 _ (hd.kept ((Kept.refl No wr).alloc _) (fun h => h) (fun h => h) (fun _ _ h => h)) hpx.2.1 hpx.2.2 hpx.1
      clear hx hpx hd
      go_wp2_with (first
        | (with_reducible show wpList _ _ _ (⟨_, .load 74 _, _, _, _, _⟩ :: _) _ _; go_must (refine wpList_load_mid rfl 74 _ rfl g (k * 257) rfl (wcells x) _ hrg Try.underlying74 rfl (size74l hx256.out) ?_))
        | (with_reducible show wpList _ _ _ (⟨_, .alloc 74, _, _, _, _⟩ :: ⟨_, .store 74 _ _, _, _, _, _⟩ :: _) _ _; go_must (refine wpList_alloc_fill rfl rfl 74 5 rfl rfl 22 rfl (by decide) (by simp [Act.put]) rfl (wcells x).toArray _ zero74 (size74a hx256.out) (cells74 hx256.out) rfl (wcells_mem _) ?_))
        | (with_reducible show wpList _ _ _ (⟨_, .load 72 _, _, _, _, _⟩ :: _) _ _; go_must (refine wpList_load_mid rfl 72 _ rfl wr.heap.size 1 rfl (bcells x.2) _ hrb Try.underlying72 rfl (size72l hx256.out) ?_))
        | (go_at_call 36; go_must (refine HPUT.out.mono ?_); rintro e w3 ⟨rfl, hd3, hk3⟩))
      go_roundw
      case rel => exact ⟨k + 1, by omega, by go_num, by assumption, (hK.alloc _).trans (by assumption)⟩
      case measure => simp [intOf]; omega
    · obtain rfl : k = D1.pend.length := by omega
      have hpw := hd.plt
      have hfr2 := hd.fr 2
      have hc2 := hd.c2
      have HDW := Lib.hid hd
      clear hd
      go_wp2_with fail
      go_ret
      have k1 : Kept (· = p) wr (wr.setCell ⟨p, 2, none⟩ (.slice none 0 0)) := (Kept.refl _ wr).setCell _ _ (.inl rfl)
      refine ⟨rfl, ?_, ?_⟩
      · rw [← Dk.upto_all]
        refine ⟨HDW.out.ok.none, ?_, HDW.out.map.kept k1 HDW.out.mp, own_nil' _ _ _ _⟩
        rw [heap_setCell_same wr p 2 _ _ _ HDW.out.head]
        rfl
      · exact (hk1.mono (fun _ _ h => .inl h)).andThen ((hK.mono (T := fun i => i = p ∨ i = m) (fun _ _ h => .inr h)).trans (k1.mono (fun _ _ h => .inl h))) (fun i h => .inl h)
end Go.Proofs.Ytcbogiebdjbmoaa
