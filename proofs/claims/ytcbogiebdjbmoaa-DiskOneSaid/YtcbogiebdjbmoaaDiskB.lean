/-
  The disk's put: a sector's bytes are sure.
-/
import Derived.Test.YtcbogiebdjbmoaaDiskA
set_option linter.unusedVariables false
set_option linter.unusedSimpArgs false
namespace Go.Proofs.Ytcbogiebdjbmoaa
open Go.RowKit Go.Maps
open Go.Extern.Stop (cell)

theorem quiet72 : Try.prog.eqGuardType Try.prog.depth 72 = false := by kernel_rfl
set_option maxHeartbeats 400000 in
set_option maxRecDepth 100000 in
theorem put_any (p m : Nat) (pv : Value) (D : Dk) (a : Int) (b : List UInt8) (w : World) (h : DiskAt w p m pv D) (h0 : 0 ≤ a) (h1 : a < D.size) (hb : b.length = 256) :
    Calls Try.prog 36 #[.pointer (some ⟨p, 0, none⟩), .int .i64 a, (.agg (bcells b).toArray)] w fun e w' => e = .returned (.tuple #[]) ∧ DiskAt w' p m pv (D.put a b) ∧ Kept (· = m) w w' := by
  have H := Lib.hid h
  have c1 := h.c1
  have hpl := h.plt
  have hN := h.ok.most
  have HR : Hid ((w.alloc (.cells (bcells b).toArray 72)).rangeAt w.heap.size 0 (bcells b)) := range_of_block (heap_alloc_new w _) _ _ (by intro j v hj; simpa using hj)
  have HS : Hid ((Try.prog.info? 72).map (·.size) = some (bcells b).length) := by show _ = _; rw [size72, bcells_length, hb]
  have HB := Lib.hid hb
  have HM : Hid (SureMap (w.alloc (.cells (bcells b).toArray 72)) m D.size D.sure) := h.map.kept ((Kept.refl No w).alloc _) (fun h => h)
  clear h hb
  have key : ∀ w2 w3, Kept No w w2 → Kept (· = m) w2 w3 → SureMap w3 m D.size (setAt D.sure a b) → DiskAt w3 p m pv (D.put a b) ∧ Kept (· = m) w w3 := by
    intro w2 w3 k1 k2 hs
    have k : Kept (· = m) w w3 := k1.of_no.trans k2
    exact ⟨⟨H.out.ok.put h0 h1 HB.out, (k.block p H.out.plt (fun e => H.out.mp e.symm)).trans H.out.head, hs, row_kept H.out.row k (fun i hi => (H.out.own i hi).2.1)⟩, k⟩
  have KEY := Lib.hid key
  clear key
  cases hz : (b == zb) with
  | true =>
    obtain ⟨w3, hrun, hs3, hk3⟩ := HM.out.dropped a h0 h1 hN 0
    have HS3 := Lib.hid hs3
    have HZ : Hid (b = zb) := by show _ = _; simpa using hz
    have HZ' := Lib.hid hz
    clear hs3 hz
    go_enter Try.func36, Try.ntmps36
    go_wp2_with (first
      | (with_reducible show wpList _ _ _ (⟨_, .load 72 _, _, _, _, _⟩ :: _) _ _; go_must (refine wpList_load_mid rfl 72 _ rfl w.heap.size 0 rfl (bcells b) _ HR.out Try.underlying72 rfl HS.out ?_))
      | (with_reducible show wpList _ _ _ (⟨_, .binOp .eql 72 _ _ _, _, _, _, _⟩ :: _) _ _; go_must (refine wpList_eql_bytes rfl 72 5 256 _ _ _ rfl b zb rfl rfl Try.underlying72 Try.underlying5 size5 quiet72 HB.out zb_length true HZ'.out ?_)))
    refine bodyPost_ret (results_none rfl _ _ _) rfl ?_
    exact ⟨rfl, KEY.out _ _ ((Kept.refl No w).alloc _) hk3 (by rw [HZ.out]; exact HS3.out)⟩
  | false =>
    have HZ' := Lib.hid hz
    clear hz
    go_enter Try.func36, Try.ntmps36
    go_wp2_with (first
      | (with_reducible show wpList _ _ _ (⟨_, .load 72 _, _, _, _, _⟩ :: _) _ _; go_must (refine wpList_load_mid rfl 72 _ rfl w.heap.size 0 rfl (bcells b) _ HR.out Try.underlying72 rfl HS.out ?_))
      | (with_reducible show wpList _ _ _ (⟨_, .binOp .eql 72 _ _ _, _, _, _, _⟩ :: _) _ _; go_must (refine wpList_eql_bytes rfl 72 5 256 _ _ _ rfl b zb rfl rfl Try.underlying72 Try.underlying5 size5 quiet72 HB.out zb_length false HZ'.out ?_)))
    refine region_tail 6 (by kernel_rfl) (by kernel_rfl) ?_
    intro w2 hd
    have c1' := (hd.cell ⟨p, 1, none⟩).trans ((World.cell?_alloc_lt w _ _ hpl).trans c1)
    have hr := hd.range HR.out
    simp only [List.take_succ_cons, List.take_zero, List.drop_succ_cons, List.drop_zero]
    iterate 5 still_step
    refine wpStill_load_mid rfl 72 _ rfl w.heap.size 0 rfl (bcells b) _ hr Try.underlying72 rfl HS.out ?_
    refine wpStill_nil ?_
    obtain ⟨w3, hrun, hs3, hk3⟩ := (HM.out.kept (hd.kept No) (fun h => h)).stored a b h0 h1 hN
    have hrun : (Instr.mapUpdate 57 (.map (some m)) (.int .i64 a) (.agg (bcells b).toArray)).run Try.prog w2 = .ok () w3 := hrun
    have HS3 := Lib.hid hs3
    clear hs3
    go_wp2
    go_end0
    exact ⟨rfl, KEY.out _ _ (((Kept.refl No w).alloc _).trans (hd.kept No)) hk3 HS3.out⟩
end Go.Proofs.Ytcbogiebdjbmoaa
