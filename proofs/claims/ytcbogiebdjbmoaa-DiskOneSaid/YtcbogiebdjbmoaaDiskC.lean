/-
  The disk's Crash: a beginning of what is pending is sure, the next write torn.
-/
import Derived.Test.YtcbogiebdjbmoaaDiskB
import Derived.Test.YtcbogiebdjbmoaaOrd
set_option linter.unusedVariables false
set_option linter.unusedSimpArgs false
namespace Go.Proofs.Ytcbogiebdjbmoaa
open Go.RowKit Go.Maps
open Go.Extern.Stop (cell)

/-- Behind the beginning: all is sure that is. -/
def Dk.ended (D : Dk) : Dk := { D with pend := [], planned := false }
theorem Dk.Ok.ended {D : Dk} (ok : D.Ok) : D.ended.Ok := ⟨ok.pos, ok.most, ok.sure, ok.out, fun x hx => (by cases hx), ok.after, ok.err⟩
theorem DiskAt.ended {w w' : World} {p m : Nat} {pv : Value} {D : Dk} (h : DiskAt w p m pv D) (k : Kept (· = p) w w') (hb : w'.heap[p]? = some (.cells (((Go.Proofs.Ytcbogiebdjbmoaa.head m pv D).setIfInBounds 2 (.slice none 0 0)).setIfInBounds 3 (.bool false)) 60 (0, 0))) : DiskAt w' p m (.slice none 0 0) D.ended :=
  ⟨h.ok.ended, by rw [hb]; rfl, h.map.kept k h.mp, own_nil' _ _ _ _⟩

theorem minlen {x : List UInt8} (hx : x.length = 256) (T : Nat) : ((bcells x).take T).length = Nat.min 256 T := by
  rw [List.length_take, bcells_length, hx]
  exact Nat.min_comm _ _
theorem copyfit {x b : List UInt8} {T : Nat} (hx : x.length = 256) (hb : b.length = 256) (hT : T ≤ 256) : 0 + ((bcells x).take T).length ≤ (bcells b).toArray.size := by
  rw [List.length_take, bcells_length, List.size_toArray, bcells_length, hx, hb]
  omega
set_option maxHeartbeats 1000000 in
set_option maxRecDepth 100000 in
theorem crash_mid (p m : Nat) (pv : Value) (D : Dk) (N : Nat) (torn : Int) (T : Nat) (w : World) (h : DiskAt w p m pv D) (hN : N ≤ D.pend.length) (hT : (torn < 0 ∧ T = 0) ∨ (0 ≤ torn ∧ torn ≤ 256 ∧ torn = T) ∨ (256 < torn ∧ T = 256)) :
    Calls Try.prog 14 #[.pointer (some ⟨p, 0, none⟩), .int .i64 N, .int .i64 torn] w fun e w' => e = .returned (.int .i64 0) ∧ DiskAt w' p m (.slice none 0 0) (D.torn N T).ended ∧ Kept (fun i => i = p ∨ i = m) w w' := by
  have c0 := h.c0
  have hpos := h.ok.pos
  obtain ⟨A, cap, rfl, hnc, hcm⟩ := h.view
  have c2 := h.c2
  have hpl1 := h.plt
  have HD := Lib.hid h
  have HT := Lib.hid hT
  clear h hT
  go_enter Try.func14, Try.ntmps14
  go_wp2_with (go_at_call 34; refine (made_yes _ _ _ c0 (by omega)).mono ?_; rintro e w' ⟨rfl, rfl⟩)
  clear c2
  go_loopw [30] (fun i wr => ∃ k : Nat, k ≤ N ∧ i = .int .i64 k ∧ DiskAt wr p m (.slice A D.pend.length cap) (D.upto k) ∧ Kept (· = m) w wr) (fun i _ => N - (intOf i).toNat)
  case atStart => exact ⟨0, Nat.zero_le _, rfl, by rw [Dk.upto_zero]; exact HD.out, Kept.refl _ _⟩
  case round =>
    obtain ⟨k, hk, rfl, hd, hK⟩ := hrel
    by_cases hlt : k < N
    · obtain ⟨x, hx⟩ : ∃ x, D.pend[k]? = some x := ⟨_, List.getElem?_eq_getElem (by omega)⟩
      obtain ⟨g, hgl, -, hrg, hidx0⟩ := hd.elem (x := x) (k := k) hx
      have hidx := hidx0 N hlt
      have hpx := HD.out.ok.pend x (List.mem_of_getElem? hx)
      have hx256 := Lib.hid hpx.1
      have hca : (wr.alloc (.cells (wcells x).toArray 74)).cell? ⟨wr.heap.size, 0, none⟩ = some (.int .i64 x.1) := by
        rw [cell_of_row _ _ _ _ _ _ (heap_alloc_new wr _)]; rfl
      have hrb : (wr.alloc (.cells (wcells x).toArray 74)).rangeAt wr.heap.size 1 (bcells x.2) := by
        refine range_of_block (heap_alloc_new wr _) _ _ fun j v hj => ?_
        rw [Nat.add_comm]
        simpa [wcells] using hj
      have HPUT : Hid (Calls Try.prog 36 #[.pointer (some ⟨p, 0, none⟩), .int .i64 x.1, (.agg (bcells x.2).toArray)] (wr.alloc (.cells (wcells x).toArray 74)) fun e w' => e = .returned (.tuple #[]) ∧ DiskAt w' p m (.slice A D.pend.length cap) (D.upto (k + 1)) ∧ Kept (· = m) (wr.alloc (.cells (wcells x).toArray 74)) w') := by
        show Calls _ _ _ _ _
        rw [← Dk.upto_succ hx]
        exact put_any p m _ _ x.1 x.2 _ (hd.kept ((Kept.refl No wr).alloc _) (fun h => h) (fun h => h) (fun _ _ h => h)) hpx.2.1 hpx.2.2 hpx.1
      clear hx hpx hd hidx0
      go_wp2_with (first
        | (with_reducible show wpList _ _ _ (⟨_, .load 74 _, _, _, _, _⟩ :: _) _ _; go_must (refine wpList_load_mid rfl 74 _ rfl g (k * 257) rfl (wcells x) _ hrg Try.underlying74 rfl (size74l hx256.out) ?_))
        | (with_reducible show wpList _ _ _ (⟨_, .alloc 74, _, _, _, _⟩ :: ⟨_, .store 74 _ _, _, _, _, _⟩ :: _) _ _; go_must (refine wpList_alloc_fill rfl rfl 74 9 rfl rfl 33 rfl (by decide) (by simp [Act.put]) rfl (wcells x).toArray _ zero74 (size74a hx256.out) (cells74 hx256.out) rfl (wcells_mem _) ?_))
        | (with_reducible show wpList _ _ _ (⟨_, .load 72 _, _, _, _, _⟩ :: _) _ _; go_must (refine wpList_load_mid rfl 72 _ rfl wr.heap.size 1 rfl (bcells x.2) _ hrb Try.underlying72 rfl (size72l hx256.out) ?_))
        | (go_at_call 36; go_must (refine HPUT.out.mono ?_); rintro e w3 ⟨rfl, hd3, hk3⟩))
      go_roundw
      case rel => exact ⟨k + 1, by omega, by go_num, by assumption, (hK.alloc _).trans (by assumption)⟩
      case measure => simp [intOf]; omega
    · obtain rfl : N = k := by omega
      have hpw := hd.plt
      have hfr2 := hd.fr 2
      have hfr3 := hd.fr 3
      have hc1 := hd.c1
      have hc2 := hd.c2
      have hc3 := hd.c3
      have hwle := hK.size
      have HDW := Lib.hid hd
      have HK := Lib.hid hK
      clear hd hK
      by_cases hlast : N < D.pend.length
      · obtain ⟨x, hx⟩ : ∃ x, D.pend[N]? = some x := ⟨_, List.getElem?_eq_getElem hlast⟩
        obtain ⟨g, hgl, -, hrg, hidx0⟩ := HDW.out.elem (x := x) hx
        have hidx : ∀ W, (Instr.indexAt 58 (.slice A D.pend.length cap) (.int .i64 N)).run Try.prog W = .ok (.pointer (some ⟨g, N * 257, none⟩)) W := hidx0 _ hlast
        have hpx := HD.out.ok.pend x (List.mem_of_getElem? hx)
        have hx256 := Lib.hid hpx.1
        have HX := Lib.hid hx
        have HPX := Lib.hid hpx
        clear hx hpx hidx0
        go_wp2_with (first
          | (with_reducible show wpList _ _ _ (⟨_, .load 74 _, _, _, _, _⟩ :: _) _ _; go_must (refine wpList_load_mid rfl 74 _ rfl g (N * 257) rfl (wcells x) _ hrg Try.underlying74 rfl (size74l hx256.out) ?_))
          | (with_reducible show wpList _ _ _ (⟨_, .alloc 74, _, _, _, _⟩ :: ⟨_, .store 74 _ _, _, _, _, _⟩ :: _) _ _; go_must (refine wpList_alloc_fill rfl rfl 74 10 rfl rfl 54 rfl (by decide) (by simp [Act.put]) rfl (wcells x).toArray _ zero74 (size74a hx256.out) (cells74 hx256.out) rfl (wcells_mem _) ?_)))
        obtain ⟨W, hW⟩ : ∃ W, W = wr.alloc (.cells (wcells x).toArray 74) := ⟨_, rfl⟩
        have kW : Kept No wr W := by rw [hW]; exact (Kept.refl No wr).alloc _
        have cB : W.cell? ⟨wr.heap.size, 0, none⟩ = some (.int .i64 x.1) := by rw [hW, cell_of_row _ _ _ _ _ _ (heap_alloc_new wr _)]; rfl
        have rB : Hid (W.rangeAt wr.heap.size 1 (bcells x.2)) := by
          show W.rangeAt _ _ _
          rw [hW]
          refine range_of_block (heap_alloc_new wr _) _ _ fun j v hj => ?_
          rw [Nat.add_comm]
          simpa [wcells] using hj
        have hBW : wr.heap.size < W.heap.size := by rw [hW]; simp
        have c1W := kW.cellAt hc1
        have HDx : Hid (DiskAt W p m (.slice A D.pend.length cap) (D.upto N)) := HDW.out.kept kW (fun h => h) (fun h => h) (fun _ _ h => h)
        have hN := HD.out.ok.most
        have hxw : (Lit.int .i64 x.1).wf = true := by have := HPX.out; exact WalkArith.wf_i64 (by omega)
        rw [← hW]
        clear hW hrg hidx hgl
        refine any_start (by kernel_rfl) fun w2 hd2 => ?_
        have kW2 : Kept No W w2 := hd2.kept No
        refine any_take0 (i := 0) (v := ?v1) rfl (by kernel_rfl) (by kernel_rfl) (by kernel_rfl) (fun _ _ _ h => h) rfl ?hy1 ?_
        case hy1 => intro w'; go_simp; try with_reducible rfl
        simp only [Act.put, List.setIfInBounds_toArray, List.set_cons_zero, List.set_cons_succ]
        refine any_take0 (i := 1) (v := ?v2) rfl (by kernel_rfl) (by kernel_rfl) (by kernel_rfl) (fun _ _ _ h => h) rfl ?hy2 ?_
        case hy2 => intro w'; go_simp; try with_reducible rfl
        simp only [Act.put, List.setIfInBounds_toArray, List.set_cons_zero, List.set_cons_succ]
        refine any_take0 (i := 2) (v := ?v3) rfl (by kernel_rfl) (by kernel_rfl) (by kernel_rfl) (fun _ _ _ h => h) rfl ?hy3 ?_
        case hy3 => intro w'; go_simp; try with_reducible rfl
        simp only [Act.put, List.setIfInBounds_toArray, List.set_cons_zero, List.set_cons_succ]
        refine any_take0 (i := 4) (v := ?v4) rfl (by kernel_rfl) (by kernel_rfl) (by kernel_rfl) (fun _ _ _ h => h) rfl ?hy4 ?_
        case hy4 => intro w'; go_simp; try with_reducible rfl
        simp only [Act.put, List.setIfInBounds_toArray, List.set_cons_zero, List.set_cons_succ]
        refine any_take (i := 3) (v := ?v5) rfl (by kernel_rfl) (by kernel_rfl) (by kernel_rfl) (by kernel_rfl) (fun _ _ _ h => h) rfl kW2 ?hy5 ?_
        case hy5 => intro w' hw'; have hc := hw'.cellAt c1W; go_simp; try with_reducible rfl
        simp only [Act.put, List.setIfInBounds_toArray, List.set_cons_zero, List.set_cons_succ]
        refine any_take (i := 5) (v := ?v6) rfl (by kernel_rfl) (by kernel_rfl) (by kernel_rfl) (by kernel_rfl) (fun _ _ _ h => h) rfl kW2 ?hy6 ?_
        case hy6 => intro w' hw'; have hc := hw'.cellAt cB; go_simp; try with_reducible rfl
        simp only [Act.put, List.setIfInBounds_toArray, List.set_cons_zero, List.set_cons_succ]
        refine any_take (i := 6) (v := ?v7) rfl (by kernel_rfl) (by kernel_rfl) (by kernel_rfl) (by kernel_rfl) (fun _ _ _ h => h) rfl kW2 ?hy7 ?_
        case hy7 => intro w' hw'; have hl := lookS (HDx.out.map.kept hw' (fun h => h)) x.1 hxw; unfold blkV at hl; go_simp; try with_reducible rfl
        simp only [Act.put, List.setIfInBounds_toArray, List.set_cons_zero, List.set_cons_succ]
        refine any_step (i := 7) (by kernel_rfl) rfl rfl (fun K hK => ?_)
        refine wp_alloc 72 rfl _ zero72 ?_
        refine hK.out _ _ ?_
        clear hK K
        simp only [Act.put, List.setIfInBounds_toArray, List.set_cons_zero, List.set_cons_succ]
        refine any_step (i := 8) (by kernel_rfl) rfl rfl (fun K hK => ?_)
        refine wp_store_mid 72 _ _ rfl w2.heap.size 0 (bcells ((D.upto N).sure x.1)).toArray rfl rfl ?ht (size72a ((HD.out.ok.upto N).sure _)) (bcells_all _) ?_
        case ht => rw [← cells72 ((HD.out.ok.upto N).sure x.1)]; exact there_alloc_new _ _ _
        rw [alloc_setCells _ _ _ _ (cells72 ((HD.out.ok.upto N).sure x.1))]
        refine hK.out _ _ ?_
        clear hK K
        simp only [Act.put, List.setIfInBounds_toArray, List.set_cons_zero, List.set_cons_succ]
        refine any_done (by kernel_rfl) ?_ _
        obtain ⟨b, hb⟩ : ∃ b, b = (D.upto N).sure x.1 := ⟨_, rfl⟩
        have HB := Lib.hid hb
        have hb256 : Hid (b.length = 256) := by show _ = _; rw [hb]; exact (HD.out.ok.upto N).sure x.1
        rw [← hb]
        clear hb
        have hbV := heap_alloc_new w2 (.cells (bcells b).toArray 72)
        have kV : Kept No W (w2.alloc (.cells (bcells b).toArray 72)) := kW2.alloc _
        have hB72 : W.heap.size ≤ w2.heap.size := kW2.size
        generalize w2.alloc (.cells (bcells b).toArray 72) = V at hbV kV ⊢
        have HT256 : Hid (T ≤ 256) := by have := HT.out; show _ ≤ _; omega
        go_wp2
        rcases HT.out with ⟨ht1, rfl⟩ | ⟨ht1, ht2, rfl⟩ | ⟨ht1, rfl⟩
        ·
          refine any_start (by kernel_rfl) fun w4 hd4 => ?_
          refine any_take0 (i := 0) (v := ?v8) rfl (by kernel_rfl) (by kernel_rfl) (by kernel_rfl) (fun _ _ _ h => h) rfl ?hy8 ?_
          case hy8 => intro w'; go_simp; try with_reducible rfl
          simp only [Act.put, List.setIfInBounds_toArray, List.set_cons_zero, List.set_cons_succ]
          refine any_take0 (i := 1) (v := ?v9) rfl (by kernel_rfl) (by kernel_rfl) (by kernel_rfl) (fun _ _ _ h => h) rfl ?hy9 ?_
          case hy9 => intro w'; go_simp; try with_reducible rfl
          simp only [Act.put, List.setIfInBounds_toArray, List.set_cons_zero, List.set_cons_succ]
          refine any_take0 (i := 2) (v := ?v10) rfl (by kernel_rfl) (by kernel_rfl) (by kernel_rfl) (fun _ _ _ h => h) rfl ?hy10 ?_
          case hy10 => intro w'; go_simp; try with_reducible rfl
          simp only [Act.put, List.setIfInBounds_toArray, List.set_cons_zero, List.set_cons_succ]
          refine any_take0 (i := 3) (v := ?v11) rfl (by kernel_rfl) (by kernel_rfl) (by kernel_rfl) (fun _ _ _ h => h) rfl ?hy11 ?_
          case hy11 => intro w'; go_simp; try with_reducible rfl
          simp only [Act.put, List.setIfInBounds_toArray, List.set_cons_zero, List.set_cons_succ]
          refine any_take0 (i := 4) (v := ?v12) rfl (by kernel_rfl) (by kernel_rfl) (by kernel_rfl) (fun _ _ _ h => h) rfl ?hy12 ?_
          case hy12 => intro w'; go_simp; try with_reducible rfl
          simp only [Act.put, List.setIfInBounds_toArray, List.set_cons_zero, List.set_cons_succ]
          refine any_take0 (i := 5) (v := ?v13) rfl (by kernel_rfl) (by kernel_rfl) (by kernel_rfl) (fun _ _ _ h => h) rfl ?hy13 ?_
          case hy13 => intro w'; go_simp; try with_reducible rfl
          simp only [Act.put, List.setIfInBounds_toArray, List.set_cons_zero, List.set_cons_succ]
          refine any_step (i := 6) (by kernel_rfl) rfl rfl (fun K hK => ?_)
          refine wp_copy_row _ _ 28 28 rfl 5 Try.underlying28 size5 w2.heap.size 0 0 256 ⟨wr.heap.size, 1, none⟩ 256 256 rfl rfl (bcells b).toArray 72 ((bcells x.2).take 0) (by rw [hd4.heap]; exact hbV) (minlen hx256.out _) (fun j v hv => ?hsrc0) (copyfit hx256.out hb256.out HT256.out) (fun v hv => bcells_one _ v (List.mem_of_mem_take hv)) ?_
          case hsrc0 =>
            rw [Addr.add_mid, hd4.cell, World.cell?_of_block (kV.block _ hBW (fun h => h))]
            rw [List.getElem?_take] at hv
            split at hv
            · exact rB.out j v hv
            · cases hv
          refine hK.out _ _ ?_
          clear hK K
          simp only [Act.put, List.setIfInBounds_toArray, List.set_cons_zero, List.set_cons_succ]
          refine any_done (by kernel_rfl) ?_ _
          have hrow0 : ((bcells b).toArray.toList.take 0 ++ (bcells x.2).take 0 ++ (bcells b).toArray.toList.drop (0 + ((bcells x.2).take 0).length)) = bcells (tear 0 x.2 b) := by
            have := HT256.out
            have e : ((bcells x.2).take 0).length = 0 := by rw [List.length_take, bcells_length, hx256.out]; omega
            rw [e, List.take_zero, List.nil_append, Nat.zero_add]
            simp only [tear, bcells_append, bcells_take, bcells_drop]
          rw [hrow0]
          have hb5 := setRow_heap w4 w2.heap.size (bcells b).toArray (bcells (tear 0 x.2 b)).toArray 72 (0, 0) (by rw [hd4.heap]; exact hbV)
          have k5 : Kept No W (w4.setRow w2.heap.size (bcells (tear 0 x.2 b)).toArray) := (kV.trans (hd4.kept No)).setRow _ _ (.inr hB72)
          generalize w4.setRow w2.heap.size (bcells (tear 0 x.2 b)).toArray = w5 at hb5 k5 ⊢
          have cB5 := k5.cellAt cB
          have rB5 : Hid (w5.rangeAt w2.heap.size 0 (bcells (tear 0 x.2 b))) := range_of_block hb5 _ _ (by intro j v hj; simpa using hj)
          have ht5 : Hid ((tear 0 x.2 b).length = 256) := tear_length hx256.out hb256.out HT256.out
          have HP5 := Lib.hid (put_any p m _ _ x.1 (tear 0 x.2 b) w5 (HDx.out.kept k5 (fun h => h) (fun h => h) (fun _ _ h => h)) HPX.out.2.1 HPX.out.2.2 ht5.out)
          clear hb5 hrow0
          go_wp2_with (with_reducible show wpList _ _ _ (⟨_, .load 72 _, _, _, _, _⟩ :: _) _ _; go_must (refine wpList_load_mid rfl 72 _ rfl w2.heap.size 0 rfl (bcells (tear 0 x.2 b)) _ rB5.out Try.underlying72 rfl (size72l ht5.out) ?_))
          refine HP5.out.mono ?_
          rintro e w6 ⟨rfl, hd6, hk6⟩
          have h2 := hd6.c2
          have h3 := hd6.c3
          have f2 := hd6.fr 2
          have f3 := hd6.fr 3
          have HD6 := Lib.hid hd6
          have HK6 := Lib.hid hk6
          clear hd6 hk6
          go_wp2_with fail
          go_ret
          have k1 : Kept (· = p) w6 ((w6.setCell ⟨p, 2, none⟩ (.slice none 0 0)).setCell ⟨p, 3, none⟩ (.bool false)) := Kept.setCell (S := (· = p)) (Kept.setCell (S := (· = p)) (Kept.refl _ w6) _ _ (.inl rfl)) _ _ (.inl rfl)
          have e : D.torn N 0 = (D.upto N).put x.1 (tear 0 x.2 b) := by
            unfold Dk.torn
            rw [HX.out, HB.out]
          refine ⟨rfl, ?_, ?_⟩
          · rw [e]
            refine HD6.out.ended k1 ?_
            rw [heap_setCell_same _ p 3 _ _ _ (heap_setCell_same w6 p 2 _ _ _ HD6.out.head)]
          · have kk : Kept (fun i => i = p ∨ i = m) w wr := HK.out.mono (fun _ _ h => .inr h)
            exact (((kk.trans kW.of_no).trans k5.of_no).trans (HK6.out.mono (fun _ _ h => .inr h))).trans (k1.mono (fun _ _ h => .inl h))
        ·
          have f1 : ¬ ((T : Int) < 0) := by omega
          have f2 : ¬ ((256 : Int) < (T : Int)) := by omega
          have f3 : (T : Int) ≤ 256 := by omega
          refine any_start (by kernel_rfl) fun w4 hd4 => ?_
          refine any_take0 (i := 0) (v := ?v14) rfl (by kernel_rfl) (by kernel_rfl) (by kernel_rfl) (fun _ _ _ h => h) rfl ?hy14 ?_
          case hy14 => intro w'; go_simp; try with_reducible rfl
          simp only [Act.put, List.setIfInBounds_toArray, List.set_cons_zero, List.set_cons_succ]
          refine any_take0 (i := 1) (v := ?v15) rfl (by kernel_rfl) (by kernel_rfl) (by kernel_rfl) (fun _ _ _ h => h) rfl ?hy15 ?_
          case hy15 => intro w'; go_simp; try with_reducible rfl
          simp only [Act.put, List.setIfInBounds_toArray, List.set_cons_zero, List.set_cons_succ]
          refine any_take0 (i := 2) (v := ?v16) rfl (by kernel_rfl) (by kernel_rfl) (by kernel_rfl) (fun _ _ _ h => h) rfl ?hy16 ?_
          case hy16 => intro w'; go_simp; try with_reducible rfl
          simp only [Act.put, List.setIfInBounds_toArray, List.set_cons_zero, List.set_cons_succ]
          refine any_take0 (i := 3) (v := ?v17) rfl (by kernel_rfl) (by kernel_rfl) (by kernel_rfl) (fun _ _ _ h => h) rfl ?hy17 ?_
          case hy17 => intro w'; go_simp; try with_reducible rfl
          simp only [Act.put, List.setIfInBounds_toArray, List.set_cons_zero, List.set_cons_succ]
          refine any_take0 (i := 4) (v := ?v18) rfl (by kernel_rfl) (by kernel_rfl) (by kernel_rfl) (fun _ _ _ h => h) rfl ?hy18 ?_
          case hy18 => intro w'; go_simp; try with_reducible rfl
          simp only [Act.put, List.setIfInBounds_toArray, List.set_cons_zero, List.set_cons_succ]
          refine any_take0 (i := 5) (v := ?v19) rfl (by kernel_rfl) (by kernel_rfl) (by kernel_rfl) (fun _ _ _ h => h) rfl ?hy19 ?_
          case hy19 => intro w'; go_simp; try with_reducible rfl
          simp only [Act.put, List.setIfInBounds_toArray, List.set_cons_zero, List.set_cons_succ]
          refine any_step (i := 6) (by kernel_rfl) rfl rfl (fun K hK => ?_)
          refine wp_copy_row _ _ 28 28 rfl 5 Try.underlying28 size5 w2.heap.size 0 T 256 ⟨wr.heap.size, 1, none⟩ 256 256 rfl rfl (bcells b).toArray 72 ((bcells x.2).take T) (by rw [hd4.heap]; exact hbV) (minlen hx256.out _) (fun j v hv => ?hsrcT) (copyfit hx256.out hb256.out HT256.out) (fun v hv => bcells_one _ v (List.mem_of_mem_take hv)) ?_
          case hsrcT =>
            rw [Addr.add_mid, hd4.cell, World.cell?_of_block (kV.block _ hBW (fun h => h))]
            rw [List.getElem?_take] at hv
            split at hv
            · exact rB.out j v hv
            · cases hv
          refine hK.out _ _ ?_
          clear hK K
          simp only [Act.put, List.setIfInBounds_toArray, List.set_cons_zero, List.set_cons_succ]
          refine any_done (by kernel_rfl) ?_ _
          have hrowT : ((bcells b).toArray.toList.take 0 ++ (bcells x.2).take T ++ (bcells b).toArray.toList.drop (0 + ((bcells x.2).take T).length)) = bcells (tear T x.2 b) := by
            have := HT256.out
            have e : ((bcells x.2).take T).length = T := by rw [List.length_take, bcells_length, hx256.out]; omega
            rw [e, List.take_zero, List.nil_append, Nat.zero_add]
            simp only [tear, bcells_append, bcells_take, bcells_drop]
          rw [hrowT]
          have hb5 := setRow_heap w4 w2.heap.size (bcells b).toArray (bcells (tear T x.2 b)).toArray 72 (0, 0) (by rw [hd4.heap]; exact hbV)
          have k5 : Kept No W (w4.setRow w2.heap.size (bcells (tear T x.2 b)).toArray) := (kV.trans (hd4.kept No)).setRow _ _ (.inr hB72)
          generalize w4.setRow w2.heap.size (bcells (tear T x.2 b)).toArray = w5 at hb5 k5 ⊢
          have cB5 := k5.cellAt cB
          have rB5 : Hid (w5.rangeAt w2.heap.size 0 (bcells (tear T x.2 b))) := range_of_block hb5 _ _ (by intro j v hj; simpa using hj)
          have ht5 : Hid ((tear T x.2 b).length = 256) := tear_length hx256.out hb256.out HT256.out
          have HP5 := Lib.hid (put_any p m _ _ x.1 (tear T x.2 b) w5 (HDx.out.kept k5 (fun h => h) (fun h => h) (fun _ _ h => h)) HPX.out.2.1 HPX.out.2.2 ht5.out)
          clear hb5 hrowT
          go_wp2_with (with_reducible show wpList _ _ _ (⟨_, .load 72 _, _, _, _, _⟩ :: _) _ _; go_must (refine wpList_load_mid rfl 72 _ rfl w2.heap.size 0 rfl (bcells (tear T x.2 b)) _ rB5.out Try.underlying72 rfl (size72l ht5.out) ?_))
          refine HP5.out.mono ?_
          rintro e w6 ⟨rfl, hd6, hk6⟩
          have h2 := hd6.c2
          have h3 := hd6.c3
          have f2 := hd6.fr 2
          have f3 := hd6.fr 3
          have HD6 := Lib.hid hd6
          have HK6 := Lib.hid hk6
          clear hd6 hk6
          go_wp2_with fail
          go_ret
          have k1 : Kept (· = p) w6 ((w6.setCell ⟨p, 2, none⟩ (.slice none 0 0)).setCell ⟨p, 3, none⟩ (.bool false)) := Kept.setCell (S := (· = p)) (Kept.setCell (S := (· = p)) (Kept.refl _ w6) _ _ (.inl rfl)) _ _ (.inl rfl)
          have e : D.torn N T = (D.upto N).put x.1 (tear T x.2 b) := by
            unfold Dk.torn
            rw [HX.out, HB.out]
          refine ⟨rfl, ?_, ?_⟩
          · rw [e]
            refine HD6.out.ended k1 ?_
            rw [heap_setCell_same _ p 3 _ _ _ (heap_setCell_same w6 p 2 _ _ _ HD6.out.head)]
          · have kk : Kept (fun i => i = p ∨ i = m) w wr := HK.out.mono (fun _ _ h => .inr h)
            exact (((kk.trans kW.of_no).trans k5.of_no).trans (HK6.out.mono (fun _ _ h => .inr h))).trans (k1.mono (fun _ _ h => .inl h))
        ·
          have f1 : ¬ (torn < 0) := by omega
          refine any_start (by kernel_rfl) fun w4 hd4 => ?_
          refine any_take0 (i := 0) (v := ?v20) rfl (by kernel_rfl) (by kernel_rfl) (by kernel_rfl) (fun _ _ _ h => h) rfl ?hy20 ?_
          case hy20 => intro w'; go_simp; try with_reducible rfl
          simp only [Act.put, List.setIfInBounds_toArray, List.set_cons_zero, List.set_cons_succ]
          refine any_take0 (i := 1) (v := ?v21) rfl (by kernel_rfl) (by kernel_rfl) (by kernel_rfl) (fun _ _ _ h => h) rfl ?hy21 ?_
          case hy21 => intro w'; go_simp; try with_reducible rfl
          simp only [Act.put, List.setIfInBounds_toArray, List.set_cons_zero, List.set_cons_succ]
          refine any_take0 (i := 2) (v := ?v22) rfl (by kernel_rfl) (by kernel_rfl) (by kernel_rfl) (fun _ _ _ h => h) rfl ?hy22 ?_
          case hy22 => intro w'; go_simp; try with_reducible rfl
          simp only [Act.put, List.setIfInBounds_toArray, List.set_cons_zero, List.set_cons_succ]
          refine any_take0 (i := 3) (v := ?v23) rfl (by kernel_rfl) (by kernel_rfl) (by kernel_rfl) (fun _ _ _ h => h) rfl ?hy23 ?_
          case hy23 => intro w'; go_simp; try with_reducible rfl
          simp only [Act.put, List.setIfInBounds_toArray, List.set_cons_zero, List.set_cons_succ]
          refine any_take0 (i := 4) (v := ?v24) rfl (by kernel_rfl) (by kernel_rfl) (by kernel_rfl) (fun _ _ _ h => h) rfl ?hy24 ?_
          case hy24 => intro w'; go_simp; try with_reducible rfl
          simp only [Act.put, List.setIfInBounds_toArray, List.set_cons_zero, List.set_cons_succ]
          refine any_take0 (i := 5) (v := ?v25) rfl (by kernel_rfl) (by kernel_rfl) (by kernel_rfl) (fun _ _ _ h => h) rfl ?hy25 ?_
          case hy25 => intro w'; go_simp; try with_reducible rfl
          simp only [Act.put, List.setIfInBounds_toArray, List.set_cons_zero, List.set_cons_succ]
          refine any_step (i := 6) (by kernel_rfl) rfl rfl (fun K hK => ?_)
          refine wp_copy_row _ _ 28 28 rfl 5 Try.underlying28 size5 w2.heap.size 0 256 256 ⟨wr.heap.size, 1, none⟩ 256 256 rfl rfl (bcells b).toArray 72 ((bcells x.2).take 256) (by rw [hd4.heap]; exact hbV) (minlen hx256.out _) (fun j v hv => ?hsrc256) (copyfit hx256.out hb256.out HT256.out) (fun v hv => bcells_one _ v (List.mem_of_mem_take hv)) ?_
          case hsrc256 =>
            rw [Addr.add_mid, hd4.cell, World.cell?_of_block (kV.block _ hBW (fun h => h))]
            rw [List.getElem?_take] at hv
            split at hv
            · exact rB.out j v hv
            · cases hv
          refine hK.out _ _ ?_
          clear hK K
          simp only [Act.put, List.setIfInBounds_toArray, List.set_cons_zero, List.set_cons_succ]
          refine any_done (by kernel_rfl) ?_ _
          have hrow256 : ((bcells b).toArray.toList.take 0 ++ (bcells x.2).take 256 ++ (bcells b).toArray.toList.drop (0 + ((bcells x.2).take 256).length)) = bcells (tear 256 x.2 b) := by
            have := HT256.out
            have e : ((bcells x.2).take 256).length = 256 := by rw [List.length_take, bcells_length, hx256.out]; omega
            rw [e, List.take_zero, List.nil_append, Nat.zero_add]
            simp only [tear, bcells_append, bcells_take, bcells_drop]
          rw [hrow256]
          have hb5 := setRow_heap w4 w2.heap.size (bcells b).toArray (bcells (tear 256 x.2 b)).toArray 72 (0, 0) (by rw [hd4.heap]; exact hbV)
          have k5 : Kept No W (w4.setRow w2.heap.size (bcells (tear 256 x.2 b)).toArray) := (kV.trans (hd4.kept No)).setRow _ _ (.inr hB72)
          generalize w4.setRow w2.heap.size (bcells (tear 256 x.2 b)).toArray = w5 at hb5 k5 ⊢
          have cB5 := k5.cellAt cB
          have rB5 : Hid (w5.rangeAt w2.heap.size 0 (bcells (tear 256 x.2 b))) := range_of_block hb5 _ _ (by intro j v hj; simpa using hj)
          have ht5 : Hid ((tear 256 x.2 b).length = 256) := tear_length hx256.out hb256.out HT256.out
          have HP5 := Lib.hid (put_any p m _ _ x.1 (tear 256 x.2 b) w5 (HDx.out.kept k5 (fun h => h) (fun h => h) (fun _ _ h => h)) HPX.out.2.1 HPX.out.2.2 ht5.out)
          clear hb5 hrow256
          go_wp2_with (with_reducible show wpList _ _ _ (⟨_, .load 72 _, _, _, _, _⟩ :: _) _ _; go_must (refine wpList_load_mid rfl 72 _ rfl w2.heap.size 0 rfl (bcells (tear 256 x.2 b)) _ rB5.out Try.underlying72 rfl (size72l ht5.out) ?_))
          refine HP5.out.mono ?_
          rintro e w6 ⟨rfl, hd6, hk6⟩
          have h2 := hd6.c2
          have h3 := hd6.c3
          have f2 := hd6.fr 2
          have f3 := hd6.fr 3
          have HD6 := Lib.hid hd6
          have HK6 := Lib.hid hk6
          clear hd6 hk6
          go_wp2_with fail
          go_ret
          have k1 : Kept (· = p) w6 ((w6.setCell ⟨p, 2, none⟩ (.slice none 0 0)).setCell ⟨p, 3, none⟩ (.bool false)) := Kept.setCell (S := (· = p)) (Kept.setCell (S := (· = p)) (Kept.refl _ w6) _ _ (.inl rfl)) _ _ (.inl rfl)
          have e : D.torn N 256 = (D.upto N).put x.1 (tear 256 x.2 b) := by
            unfold Dk.torn
            rw [HX.out, HB.out]
          refine ⟨rfl, ?_, ?_⟩
          · rw [e]
            refine HD6.out.ended k1 ?_
            rw [heap_setCell_same _ p 3 _ _ _ (heap_setCell_same w6 p 2 _ _ _ HD6.out.head)]
          · have kk : Kept (fun i => i = p ∨ i = m) w wr := HK.out.mono (fun _ _ h => .inr h)
            exact (((kk.trans kW.of_no).trans k5.of_no).trans (HK6.out.mono (fun _ _ h => .inr h))).trans (k1.mono (fun _ _ h => .inl h))
      · go_wp2_with fail
        go_ret
        have k1 : Kept (· = p) wr ((wr.setCell ⟨p, 2, none⟩ (.slice none 0 0)).setCell ⟨p, 3, none⟩ (.bool false)) := Kept.setCell (S := (· = p)) (Kept.setCell (S := (· = p)) (Kept.refl _ wr) _ _ (.inl rfl)) _ _ (.inl rfl)
        have e : D.torn N T = D.upto N := by
          unfold Dk.torn
          rw [List.getElem?_eq_none (by omega)]
        refine ⟨rfl, ?_, ?_⟩
        · rw [e]
          refine HDW.out.ended k1 ?_
          rw [heap_setCell_same _ p 3 _ _ _ (heap_setCell_same wr p 2 _ _ _ HDW.out.head)]
        · exact (HK.out.mono (T := fun i => i = p ∨ i = m) (fun _ _ h => .inr h)).trans (k1.mono (fun _ _ h => .inl h))
set_option maxHeartbeats 1000000 in
set_option maxRecDepth 100000 in
theorem crash_low (p m : Nat) (pv : Value) (D : Dk) (keep : Int) (torn : Int) (T : Nat) (w : World) (h : DiskAt w p m pv D) (hk0 : keep < 0) (hT : (torn < 0 ∧ T = 0) ∨ (0 ≤ torn ∧ torn ≤ 256 ∧ torn = T) ∨ (256 < torn ∧ T = 256)) :
    Calls Try.prog 14 #[.pointer (some ⟨p, 0, none⟩), .int .i64 keep, .int .i64 torn] w fun e w' => e = .returned (.int .i64 0) ∧ DiskAt w' p m (.slice none 0 0) (D.torn 0 T).ended ∧ Kept (fun i => i = p ∨ i = m) w w' := by
  have c0 := h.c0
  have hpos := h.ok.pos
  obtain ⟨A, cap, rfl, hnc, hcm⟩ := h.view
  have c2 := h.c2
  have hpl1 := h.plt
  have HD := Lib.hid h
  have HT := Lib.hid hT
  clear h hT
  go_enter Try.func14, Try.ntmps14
  go_wp2_with (go_at_call 34; refine (made_yes _ _ _ c0 (by omega)).mono ?_; rintro e w' ⟨rfl, rfl⟩)
  clear c2
  go_loopw [30] (fun i wr => ∃ k : Nat, k ≤ 0 ∧ i = .int .i64 k ∧ DiskAt wr p m (.slice A D.pend.length cap) (D.upto k) ∧ Kept (· = m) w wr) (fun i _ => 0 - (intOf i).toNat)
  case atStart => exact ⟨0, Nat.zero_le _, rfl, by rw [Dk.upto_zero]; exact HD.out, Kept.refl _ _⟩
  case round =>
    obtain ⟨k, hk, rfl, hd, hK⟩ := hrel
    by_cases hlt : k < 0
    · exact absurd hlt (Nat.not_lt_zero _)
    · obtain rfl : 0 = k := by omega
      have hpw := hd.plt
      have hfr2 := hd.fr 2
      have hfr3 := hd.fr 3
      have hc1 := hd.c1
      have hc2 := hd.c2
      have hc3 := hd.c3
      have hwle := hK.size
      have HDW := Lib.hid hd
      have HK := Lib.hid hK
      clear hd hK
      by_cases hlast : 0 < D.pend.length
      · obtain ⟨x, hx⟩ : ∃ x, D.pend[0]? = some x := ⟨_, List.getElem?_eq_getElem hlast⟩
        obtain ⟨g, hgl, -, hrg, hidx0⟩ := HDW.out.elem (x := x) hx
        have hidx : ∀ W, (Instr.indexAt 58 (.slice A D.pend.length cap) (.int .i64 0)).run Try.prog W = .ok (.pointer (some ⟨g, 0 * 257, none⟩)) W := hidx0 _ hlast
        have hpx := HD.out.ok.pend x (List.mem_of_getElem? hx)
        have hx256 := Lib.hid hpx.1
        have HX := Lib.hid hx
        have HPX := Lib.hid hpx
        clear hx hpx hidx0
        go_wp2_with (first
          | (with_reducible show wpList _ _ _ (⟨_, .load 74 _, _, _, _, _⟩ :: _) _ _; go_must (refine wpList_load_mid rfl 74 _ rfl g (0 * 257) rfl (wcells x) _ hrg Try.underlying74 rfl (size74l hx256.out) ?_))
          | (with_reducible show wpList _ _ _ (⟨_, .alloc 74, _, _, _, _⟩ :: ⟨_, .store 74 _ _, _, _, _, _⟩ :: _) _ _; go_must (refine wpList_alloc_fill rfl rfl 74 10 rfl rfl 54 rfl (by decide) (by simp [Act.put]) rfl (wcells x).toArray _ zero74 (size74a hx256.out) (cells74 hx256.out) rfl (wcells_mem _) ?_)))
        obtain ⟨W, hW⟩ : ∃ W, W = wr.alloc (.cells (wcells x).toArray 74) := ⟨_, rfl⟩
        have kW : Kept No wr W := by rw [hW]; exact (Kept.refl No wr).alloc _
        have cB : W.cell? ⟨wr.heap.size, 0, none⟩ = some (.int .i64 x.1) := by rw [hW, cell_of_row _ _ _ _ _ _ (heap_alloc_new wr _)]; rfl
        have rB : Hid (W.rangeAt wr.heap.size 1 (bcells x.2)) := by
          show W.rangeAt _ _ _
          rw [hW]
          refine range_of_block (heap_alloc_new wr _) _ _ fun j v hj => ?_
          rw [Nat.add_comm]
          simpa [wcells] using hj
        have hBW : wr.heap.size < W.heap.size := by rw [hW]; simp
        have c1W := kW.cellAt hc1
        have HDx : Hid (DiskAt W p m (.slice A D.pend.length cap) (D.upto 0)) := HDW.out.kept kW (fun h => h) (fun h => h) (fun _ _ h => h)
        have hN := HD.out.ok.most
        have hxw : (Lit.int .i64 x.1).wf = true := by have := HPX.out; exact WalkArith.wf_i64 (by omega)
        rw [← hW]
        clear hW hrg hidx hgl
        refine any_start (by kernel_rfl) fun w2 hd2 => ?_
        have kW2 : Kept No W w2 := hd2.kept No
        refine any_take0 (i := 0) (v := ?v26) rfl (by kernel_rfl) (by kernel_rfl) (by kernel_rfl) (fun _ _ _ h => h) rfl ?hy26 ?_
        case hy26 => intro w'; go_simp; try with_reducible rfl
        simp only [Act.put, List.setIfInBounds_toArray, List.set_cons_zero, List.set_cons_succ]
        refine any_take0 (i := 1) (v := ?v27) rfl (by kernel_rfl) (by kernel_rfl) (by kernel_rfl) (fun _ _ _ h => h) rfl ?hy27 ?_
        case hy27 => intro w'; go_simp; try with_reducible rfl
        simp only [Act.put, List.setIfInBounds_toArray, List.set_cons_zero, List.set_cons_succ]
        refine any_take0 (i := 2) (v := ?v28) rfl (by kernel_rfl) (by kernel_rfl) (by kernel_rfl) (fun _ _ _ h => h) rfl ?hy28 ?_
        case hy28 => intro w'; go_simp; try with_reducible rfl
        simp only [Act.put, List.setIfInBounds_toArray, List.set_cons_zero, List.set_cons_succ]
        refine any_take0 (i := 4) (v := ?v29) rfl (by kernel_rfl) (by kernel_rfl) (by kernel_rfl) (fun _ _ _ h => h) rfl ?hy29 ?_
        case hy29 => intro w'; go_simp; try with_reducible rfl
        simp only [Act.put, List.setIfInBounds_toArray, List.set_cons_zero, List.set_cons_succ]
        refine any_take (i := 3) (v := ?v30) rfl (by kernel_rfl) (by kernel_rfl) (by kernel_rfl) (by kernel_rfl) (fun _ _ _ h => h) rfl kW2 ?hy30 ?_
        case hy30 => intro w' hw'; have hc := hw'.cellAt c1W; go_simp; try with_reducible rfl
        simp only [Act.put, List.setIfInBounds_toArray, List.set_cons_zero, List.set_cons_succ]
        refine any_take (i := 5) (v := ?v31) rfl (by kernel_rfl) (by kernel_rfl) (by kernel_rfl) (by kernel_rfl) (fun _ _ _ h => h) rfl kW2 ?hy31 ?_
        case hy31 => intro w' hw'; have hc := hw'.cellAt cB; go_simp; try with_reducible rfl
        simp only [Act.put, List.setIfInBounds_toArray, List.set_cons_zero, List.set_cons_succ]
        refine any_take (i := 6) (v := ?v32) rfl (by kernel_rfl) (by kernel_rfl) (by kernel_rfl) (by kernel_rfl) (fun _ _ _ h => h) rfl kW2 ?hy32 ?_
        case hy32 => intro w' hw'; have hl := lookS (HDx.out.map.kept hw' (fun h => h)) x.1 hxw; unfold blkV at hl; go_simp; try with_reducible rfl
        simp only [Act.put, List.setIfInBounds_toArray, List.set_cons_zero, List.set_cons_succ]
        refine any_step (i := 7) (by kernel_rfl) rfl rfl (fun K hK => ?_)
        refine wp_alloc 72 rfl _ zero72 ?_
        refine hK.out _ _ ?_
        clear hK K
        simp only [Act.put, List.setIfInBounds_toArray, List.set_cons_zero, List.set_cons_succ]
        refine any_step (i := 8) (by kernel_rfl) rfl rfl (fun K hK => ?_)
        refine wp_store_mid 72 _ _ rfl w2.heap.size 0 (bcells ((D.upto 0).sure x.1)).toArray rfl rfl ?ht (size72a ((HD.out.ok.upto 0).sure _)) (bcells_all _) ?_
        case ht => rw [← cells72 ((HD.out.ok.upto 0).sure x.1)]; exact there_alloc_new _ _ _
        rw [alloc_setCells _ _ _ _ (cells72 ((HD.out.ok.upto 0).sure x.1))]
        refine hK.out _ _ ?_
        clear hK K
        simp only [Act.put, List.setIfInBounds_toArray, List.set_cons_zero, List.set_cons_succ]
        refine any_done (by kernel_rfl) ?_ _
        obtain ⟨b, hb⟩ : ∃ b, b = (D.upto 0).sure x.1 := ⟨_, rfl⟩
        have HB := Lib.hid hb
        have hb256 : Hid (b.length = 256) := by show _ = _; rw [hb]; exact (HD.out.ok.upto 0).sure x.1
        rw [← hb]
        clear hb
        have hbV := heap_alloc_new w2 (.cells (bcells b).toArray 72)
        have kV : Kept No W (w2.alloc (.cells (bcells b).toArray 72)) := kW2.alloc _
        have hB72 : W.heap.size ≤ w2.heap.size := kW2.size
        generalize w2.alloc (.cells (bcells b).toArray 72) = V at hbV kV ⊢
        have HT256 : Hid (T ≤ 256) := by have := HT.out; show _ ≤ _; omega
        go_wp2
        rcases HT.out with ⟨ht1, rfl⟩ | ⟨ht1, ht2, rfl⟩ | ⟨ht1, rfl⟩
        ·
          refine any_start (by kernel_rfl) fun w4 hd4 => ?_
          refine any_take0 (i := 0) (v := ?v33) rfl (by kernel_rfl) (by kernel_rfl) (by kernel_rfl) (fun _ _ _ h => h) rfl ?hy33 ?_
          case hy33 => intro w'; go_simp; try with_reducible rfl
          simp only [Act.put, List.setIfInBounds_toArray, List.set_cons_zero, List.set_cons_succ]
          refine any_take0 (i := 1) (v := ?v34) rfl (by kernel_rfl) (by kernel_rfl) (by kernel_rfl) (fun _ _ _ h => h) rfl ?hy34 ?_
          case hy34 => intro w'; go_simp; try with_reducible rfl
          simp only [Act.put, List.setIfInBounds_toArray, List.set_cons_zero, List.set_cons_succ]
          refine any_take0 (i := 2) (v := ?v35) rfl (by kernel_rfl) (by kernel_rfl) (by kernel_rfl) (fun _ _ _ h => h) rfl ?hy35 ?_
          case hy35 => intro w'; go_simp; try with_reducible rfl
          simp only [Act.put, List.setIfInBounds_toArray, List.set_cons_zero, List.set_cons_succ]
          refine any_take0 (i := 3) (v := ?v36) rfl (by kernel_rfl) (by kernel_rfl) (by kernel_rfl) (fun _ _ _ h => h) rfl ?hy36 ?_
          case hy36 => intro w'; go_simp; try with_reducible rfl
          simp only [Act.put, List.setIfInBounds_toArray, List.set_cons_zero, List.set_cons_succ]
          refine any_take0 (i := 4) (v := ?v37) rfl (by kernel_rfl) (by kernel_rfl) (by kernel_rfl) (fun _ _ _ h => h) rfl ?hy37 ?_
          case hy37 => intro w'; go_simp; try with_reducible rfl
          simp only [Act.put, List.setIfInBounds_toArray, List.set_cons_zero, List.set_cons_succ]
          refine any_take0 (i := 5) (v := ?v38) rfl (by kernel_rfl) (by kernel_rfl) (by kernel_rfl) (fun _ _ _ h => h) rfl ?hy38 ?_
          case hy38 => intro w'; go_simp; try with_reducible rfl
          simp only [Act.put, List.setIfInBounds_toArray, List.set_cons_zero, List.set_cons_succ]
          refine any_step (i := 6) (by kernel_rfl) rfl rfl (fun K hK => ?_)
          refine wp_copy_row _ _ 28 28 rfl 5 Try.underlying28 size5 w2.heap.size 0 0 256 ⟨wr.heap.size, 1, none⟩ 256 256 rfl rfl (bcells b).toArray 72 ((bcells x.2).take 0) (by rw [hd4.heap]; exact hbV) (minlen hx256.out _) (fun j v hv => ?hsrc0) (copyfit hx256.out hb256.out HT256.out) (fun v hv => bcells_one _ v (List.mem_of_mem_take hv)) ?_
          case hsrc0 =>
            rw [Addr.add_mid, hd4.cell, World.cell?_of_block (kV.block _ hBW (fun h => h))]
            rw [List.getElem?_take] at hv
            split at hv
            · exact rB.out j v hv
            · cases hv
          refine hK.out _ _ ?_
          clear hK K
          simp only [Act.put, List.setIfInBounds_toArray, List.set_cons_zero, List.set_cons_succ]
          refine any_done (by kernel_rfl) ?_ _
          have hrow0 : ((bcells b).toArray.toList.take 0 ++ (bcells x.2).take 0 ++ (bcells b).toArray.toList.drop (0 + ((bcells x.2).take 0).length)) = bcells (tear 0 x.2 b) := by
            have := HT256.out
            have e : ((bcells x.2).take 0).length = 0 := by rw [List.length_take, bcells_length, hx256.out]; omega
            rw [e, List.take_zero, List.nil_append, Nat.zero_add]
            simp only [tear, bcells_append, bcells_take, bcells_drop]
          rw [hrow0]
          have hb5 := setRow_heap w4 w2.heap.size (bcells b).toArray (bcells (tear 0 x.2 b)).toArray 72 (0, 0) (by rw [hd4.heap]; exact hbV)
          have k5 : Kept No W (w4.setRow w2.heap.size (bcells (tear 0 x.2 b)).toArray) := (kV.trans (hd4.kept No)).setRow _ _ (.inr hB72)
          generalize w4.setRow w2.heap.size (bcells (tear 0 x.2 b)).toArray = w5 at hb5 k5 ⊢
          have cB5 := k5.cellAt cB
          have rB5 : Hid (w5.rangeAt w2.heap.size 0 (bcells (tear 0 x.2 b))) := range_of_block hb5 _ _ (by intro j v hj; simpa using hj)
          have ht5 : Hid ((tear 0 x.2 b).length = 256) := tear_length hx256.out hb256.out HT256.out
          have HP5 := Lib.hid (put_any p m _ _ x.1 (tear 0 x.2 b) w5 (HDx.out.kept k5 (fun h => h) (fun h => h) (fun _ _ h => h)) HPX.out.2.1 HPX.out.2.2 ht5.out)
          clear hb5 hrow0
          go_wp2_with (with_reducible show wpList _ _ _ (⟨_, .load 72 _, _, _, _, _⟩ :: _) _ _; go_must (refine wpList_load_mid rfl 72 _ rfl w2.heap.size 0 rfl (bcells (tear 0 x.2 b)) _ rB5.out Try.underlying72 rfl (size72l ht5.out) ?_))
          refine HP5.out.mono ?_
          rintro e w6 ⟨rfl, hd6, hk6⟩
          have h2 := hd6.c2
          have h3 := hd6.c3
          have f2 := hd6.fr 2
          have f3 := hd6.fr 3
          have HD6 := Lib.hid hd6
          have HK6 := Lib.hid hk6
          clear hd6 hk6
          go_wp2_with fail
          go_ret
          have k1 : Kept (· = p) w6 ((w6.setCell ⟨p, 2, none⟩ (.slice none 0 0)).setCell ⟨p, 3, none⟩ (.bool false)) := Kept.setCell (S := (· = p)) (Kept.setCell (S := (· = p)) (Kept.refl _ w6) _ _ (.inl rfl)) _ _ (.inl rfl)
          have e : D.torn 0 0 = (D.upto 0).put x.1 (tear 0 x.2 b) := by
            unfold Dk.torn
            rw [HX.out, HB.out]
          refine ⟨rfl, ?_, ?_⟩
          · rw [e]
            refine HD6.out.ended k1 ?_
            rw [heap_setCell_same _ p 3 _ _ _ (heap_setCell_same w6 p 2 _ _ _ HD6.out.head)]
          · have kk : Kept (fun i => i = p ∨ i = m) w wr := HK.out.mono (fun _ _ h => .inr h)
            exact (((kk.trans kW.of_no).trans k5.of_no).trans (HK6.out.mono (fun _ _ h => .inr h))).trans (k1.mono (fun _ _ h => .inl h))
        ·
          have f1 : ¬ ((T : Int) < 0) := by omega
          have f2 : ¬ ((256 : Int) < (T : Int)) := by omega
          have f3 : (T : Int) ≤ 256 := by omega
          refine any_start (by kernel_rfl) fun w4 hd4 => ?_
          refine any_take0 (i := 0) (v := ?v39) rfl (by kernel_rfl) (by kernel_rfl) (by kernel_rfl) (fun _ _ _ h => h) rfl ?hy39 ?_
          case hy39 => intro w'; go_simp; try with_reducible rfl
          simp only [Act.put, List.setIfInBounds_toArray, List.set_cons_zero, List.set_cons_succ]
          refine any_take0 (i := 1) (v := ?v40) rfl (by kernel_rfl) (by kernel_rfl) (by kernel_rfl) (fun _ _ _ h => h) rfl ?hy40 ?_
          case hy40 => intro w'; go_simp; try with_reducible rfl
          simp only [Act.put, List.setIfInBounds_toArray, List.set_cons_zero, List.set_cons_succ]
          refine any_take0 (i := 2) (v := ?v41) rfl (by kernel_rfl) (by kernel_rfl) (by kernel_rfl) (fun _ _ _ h => h) rfl ?hy41 ?_
          case hy41 => intro w'; go_simp; try with_reducible rfl
          simp only [Act.put, List.setIfInBounds_toArray, List.set_cons_zero, List.set_cons_succ]
          refine any_take0 (i := 3) (v := ?v42) rfl (by kernel_rfl) (by kernel_rfl) (by kernel_rfl) (fun _ _ _ h => h) rfl ?hy42 ?_
          case hy42 => intro w'; go_simp; try with_reducible rfl
          simp only [Act.put, List.setIfInBounds_toArray, List.set_cons_zero, List.set_cons_succ]
          refine any_take0 (i := 4) (v := ?v43) rfl (by kernel_rfl) (by kernel_rfl) (by kernel_rfl) (fun _ _ _ h => h) rfl ?hy43 ?_
          case hy43 => intro w'; go_simp; try with_reducible rfl
          simp only [Act.put, List.setIfInBounds_toArray, List.set_cons_zero, List.set_cons_succ]
          refine any_take0 (i := 5) (v := ?v44) rfl (by kernel_rfl) (by kernel_rfl) (by kernel_rfl) (fun _ _ _ h => h) rfl ?hy44 ?_
          case hy44 => intro w'; go_simp; try with_reducible rfl
          simp only [Act.put, List.setIfInBounds_toArray, List.set_cons_zero, List.set_cons_succ]
          refine any_step (i := 6) (by kernel_rfl) rfl rfl (fun K hK => ?_)
          refine wp_copy_row _ _ 28 28 rfl 5 Try.underlying28 size5 w2.heap.size 0 T 256 ⟨wr.heap.size, 1, none⟩ 256 256 rfl rfl (bcells b).toArray 72 ((bcells x.2).take T) (by rw [hd4.heap]; exact hbV) (minlen hx256.out _) (fun j v hv => ?hsrcT) (copyfit hx256.out hb256.out HT256.out) (fun v hv => bcells_one _ v (List.mem_of_mem_take hv)) ?_
          case hsrcT =>
            rw [Addr.add_mid, hd4.cell, World.cell?_of_block (kV.block _ hBW (fun h => h))]
            rw [List.getElem?_take] at hv
            split at hv
            · exact rB.out j v hv
            · cases hv
          refine hK.out _ _ ?_
          clear hK K
          simp only [Act.put, List.setIfInBounds_toArray, List.set_cons_zero, List.set_cons_succ]
          refine any_done (by kernel_rfl) ?_ _
          have hrowT : ((bcells b).toArray.toList.take 0 ++ (bcells x.2).take T ++ (bcells b).toArray.toList.drop (0 + ((bcells x.2).take T).length)) = bcells (tear T x.2 b) := by
            have := HT256.out
            have e : ((bcells x.2).take T).length = T := by rw [List.length_take, bcells_length, hx256.out]; omega
            rw [e, List.take_zero, List.nil_append, Nat.zero_add]
            simp only [tear, bcells_append, bcells_take, bcells_drop]
          rw [hrowT]
          have hb5 := setRow_heap w4 w2.heap.size (bcells b).toArray (bcells (tear T x.2 b)).toArray 72 (0, 0) (by rw [hd4.heap]; exact hbV)
          have k5 : Kept No W (w4.setRow w2.heap.size (bcells (tear T x.2 b)).toArray) := (kV.trans (hd4.kept No)).setRow _ _ (.inr hB72)
          generalize w4.setRow w2.heap.size (bcells (tear T x.2 b)).toArray = w5 at hb5 k5 ⊢
          have cB5 := k5.cellAt cB
          have rB5 : Hid (w5.rangeAt w2.heap.size 0 (bcells (tear T x.2 b))) := range_of_block hb5 _ _ (by intro j v hj; simpa using hj)
          have ht5 : Hid ((tear T x.2 b).length = 256) := tear_length hx256.out hb256.out HT256.out
          have HP5 := Lib.hid (put_any p m _ _ x.1 (tear T x.2 b) w5 (HDx.out.kept k5 (fun h => h) (fun h => h) (fun _ _ h => h)) HPX.out.2.1 HPX.out.2.2 ht5.out)
          clear hb5 hrowT
          go_wp2_with (with_reducible show wpList _ _ _ (⟨_, .load 72 _, _, _, _, _⟩ :: _) _ _; go_must (refine wpList_load_mid rfl 72 _ rfl w2.heap.size 0 rfl (bcells (tear T x.2 b)) _ rB5.out Try.underlying72 rfl (size72l ht5.out) ?_))
          refine HP5.out.mono ?_
          rintro e w6 ⟨rfl, hd6, hk6⟩
          have h2 := hd6.c2
          have h3 := hd6.c3
          have f2 := hd6.fr 2
          have f3 := hd6.fr 3
          have HD6 := Lib.hid hd6
          have HK6 := Lib.hid hk6
          clear hd6 hk6
          go_wp2_with fail
          go_ret
          have k1 : Kept (· = p) w6 ((w6.setCell ⟨p, 2, none⟩ (.slice none 0 0)).setCell ⟨p, 3, none⟩ (.bool false)) := Kept.setCell (S := (· = p)) (Kept.setCell (S := (· = p)) (Kept.refl _ w6) _ _ (.inl rfl)) _ _ (.inl rfl)
          have e : D.torn 0 T = (D.upto 0).put x.1 (tear T x.2 b) := by
            unfold Dk.torn
            rw [HX.out, HB.out]
          refine ⟨rfl, ?_, ?_⟩
          · rw [e]
            refine HD6.out.ended k1 ?_
            rw [heap_setCell_same _ p 3 _ _ _ (heap_setCell_same w6 p 2 _ _ _ HD6.out.head)]
          · have kk : Kept (fun i => i = p ∨ i = m) w wr := HK.out.mono (fun _ _ h => .inr h)
            exact (((kk.trans kW.of_no).trans k5.of_no).trans (HK6.out.mono (fun _ _ h => .inr h))).trans (k1.mono (fun _ _ h => .inl h))
        ·
          have f1 : ¬ (torn < 0) := by omega
          refine any_start (by kernel_rfl) fun w4 hd4 => ?_
          refine any_take0 (i := 0) (v := ?v45) rfl (by kernel_rfl) (by kernel_rfl) (by kernel_rfl) (fun _ _ _ h => h) rfl ?hy45 ?_
          case hy45 => intro w'; go_simp; try with_reducible rfl
          simp only [Act.put, List.setIfInBounds_toArray, List.set_cons_zero, List.set_cons_succ]
          refine any_take0 (i := 1) (v := ?v46) rfl (by kernel_rfl) (by kernel_rfl) (by kernel_rfl) (fun _ _ _ h => h) rfl ?hy46 ?_
          case hy46 => intro w'; go_simp; try with_reducible rfl
          simp only [Act.put, List.setIfInBounds_toArray, List.set_cons_zero, List.set_cons_succ]
          refine any_take0 (i := 2) (v := ?v47) rfl (by kernel_rfl) (by kernel_rfl) (by kernel_rfl) (fun _ _ _ h => h) rfl ?hy47 ?_
          case hy47 => intro w'; go_simp; try with_reducible rfl
          simp only [Act.put, List.setIfInBounds_toArray, List.set_cons_zero, List.set_cons_succ]
          refine any_take0 (i := 3) (v := ?v48) rfl (by kernel_rfl) (by kernel_rfl) (by kernel_rfl) (fun _ _ _ h => h) rfl ?hy48 ?_
          case hy48 => intro w'; go_simp; try with_reducible rfl
          simp only [Act.put, List.setIfInBounds_toArray, List.set_cons_zero, List.set_cons_succ]
          refine any_take0 (i := 4) (v := ?v49) rfl (by kernel_rfl) (by kernel_rfl) (by kernel_rfl) (fun _ _ _ h => h) rfl ?hy49 ?_
          case hy49 => intro w'; go_simp; try with_reducible rfl
          simp only [Act.put, List.setIfInBounds_toArray, List.set_cons_zero, List.set_cons_succ]
          refine any_take0 (i := 5) (v := ?v50) rfl (by kernel_rfl) (by kernel_rfl) (by kernel_rfl) (fun _ _ _ h => h) rfl ?hy50 ?_
          case hy50 => intro w'; go_simp; try with_reducible rfl
          simp only [Act.put, List.setIfInBounds_toArray, List.set_cons_zero, List.set_cons_succ]
          refine any_step (i := 6) (by kernel_rfl) rfl rfl (fun K hK => ?_)
          refine wp_copy_row _ _ 28 28 rfl 5 Try.underlying28 size5 w2.heap.size 0 256 256 ⟨wr.heap.size, 1, none⟩ 256 256 rfl rfl (bcells b).toArray 72 ((bcells x.2).take 256) (by rw [hd4.heap]; exact hbV) (minlen hx256.out _) (fun j v hv => ?hsrc256) (copyfit hx256.out hb256.out HT256.out) (fun v hv => bcells_one _ v (List.mem_of_mem_take hv)) ?_
          case hsrc256 =>
            rw [Addr.add_mid, hd4.cell, World.cell?_of_block (kV.block _ hBW (fun h => h))]
            rw [List.getElem?_take] at hv
            split at hv
            · exact rB.out j v hv
            · cases hv
          refine hK.out _ _ ?_
          clear hK K
          simp only [Act.put, List.setIfInBounds_toArray, List.set_cons_zero, List.set_cons_succ]
          refine any_done (by kernel_rfl) ?_ _
          have hrow256 : ((bcells b).toArray.toList.take 0 ++ (bcells x.2).take 256 ++ (bcells b).toArray.toList.drop (0 + ((bcells x.2).take 256).length)) = bcells (tear 256 x.2 b) := by
            have := HT256.out
            have e : ((bcells x.2).take 256).length = 256 := by rw [List.length_take, bcells_length, hx256.out]; omega
            rw [e, List.take_zero, List.nil_append, Nat.zero_add]
            simp only [tear, bcells_append, bcells_take, bcells_drop]
          rw [hrow256]
          have hb5 := setRow_heap w4 w2.heap.size (bcells b).toArray (bcells (tear 256 x.2 b)).toArray 72 (0, 0) (by rw [hd4.heap]; exact hbV)
          have k5 : Kept No W (w4.setRow w2.heap.size (bcells (tear 256 x.2 b)).toArray) := (kV.trans (hd4.kept No)).setRow _ _ (.inr hB72)
          generalize w4.setRow w2.heap.size (bcells (tear 256 x.2 b)).toArray = w5 at hb5 k5 ⊢
          have cB5 := k5.cellAt cB
          have rB5 : Hid (w5.rangeAt w2.heap.size 0 (bcells (tear 256 x.2 b))) := range_of_block hb5 _ _ (by intro j v hj; simpa using hj)
          have ht5 : Hid ((tear 256 x.2 b).length = 256) := tear_length hx256.out hb256.out HT256.out
          have HP5 := Lib.hid (put_any p m _ _ x.1 (tear 256 x.2 b) w5 (HDx.out.kept k5 (fun h => h) (fun h => h) (fun _ _ h => h)) HPX.out.2.1 HPX.out.2.2 ht5.out)
          clear hb5 hrow256
          go_wp2_with (with_reducible show wpList _ _ _ (⟨_, .load 72 _, _, _, _, _⟩ :: _) _ _; go_must (refine wpList_load_mid rfl 72 _ rfl w2.heap.size 0 rfl (bcells (tear 256 x.2 b)) _ rB5.out Try.underlying72 rfl (size72l ht5.out) ?_))
          refine HP5.out.mono ?_
          rintro e w6 ⟨rfl, hd6, hk6⟩
          have h2 := hd6.c2
          have h3 := hd6.c3
          have f2 := hd6.fr 2
          have f3 := hd6.fr 3
          have HD6 := Lib.hid hd6
          have HK6 := Lib.hid hk6
          clear hd6 hk6
          go_wp2_with fail
          go_ret
          have k1 : Kept (· = p) w6 ((w6.setCell ⟨p, 2, none⟩ (.slice none 0 0)).setCell ⟨p, 3, none⟩ (.bool false)) := Kept.setCell (S := (· = p)) (Kept.setCell (S := (· = p)) (Kept.refl _ w6) _ _ (.inl rfl)) _ _ (.inl rfl)
          have e : D.torn 0 256 = (D.upto 0).put x.1 (tear 256 x.2 b) := by
            unfold Dk.torn
            rw [HX.out, HB.out]
          refine ⟨rfl, ?_, ?_⟩
          · rw [e]
            refine HD6.out.ended k1 ?_
            rw [heap_setCell_same _ p 3 _ _ _ (heap_setCell_same w6 p 2 _ _ _ HD6.out.head)]
          · have kk : Kept (fun i => i = p ∨ i = m) w wr := HK.out.mono (fun _ _ h => .inr h)
            exact (((kk.trans kW.of_no).trans k5.of_no).trans (HK6.out.mono (fun _ _ h => .inr h))).trans (k1.mono (fun _ _ h => .inl h))
      · go_wp2_with fail
        go_ret
        have k1 : Kept (· = p) wr ((wr.setCell ⟨p, 2, none⟩ (.slice none 0 0)).setCell ⟨p, 3, none⟩ (.bool false)) := Kept.setCell (S := (· = p)) (Kept.setCell (S := (· = p)) (Kept.refl _ wr) _ _ (.inl rfl)) _ _ (.inl rfl)
        have e : D.torn 0 T = D.upto 0 := by
          unfold Dk.torn
          rw [List.getElem?_eq_none (by omega)]
        refine ⟨rfl, ?_, ?_⟩
        · rw [e]
          refine HDW.out.ended k1 ?_
          rw [heap_setCell_same _ p 3 _ _ _ (heap_setCell_same wr p 2 _ _ _ HDW.out.head)]
        · exact (HK.out.mono (T := fun i => i = p ∨ i = m) (fun _ _ h => .inr h)).trans (k1.mono (fun _ _ h => .inl h))
set_option maxHeartbeats 1000000 in
set_option maxRecDepth 100000 in
theorem crash_high (p m : Nat) (pv : Value) (D : Dk) (keep : Int) (torn : Int) (T : Nat) (w : World) (h : DiskAt w p m pv D) (hk0 : (D.pend.length : Int) < keep) (hT : (torn < 0 ∧ T = 0) ∨ (0 ≤ torn ∧ torn ≤ 256 ∧ torn = T) ∨ (256 < torn ∧ T = 256)) :
    Calls Try.prog 14 #[.pointer (some ⟨p, 0, none⟩), .int .i64 keep, .int .i64 torn] w fun e w' => e = .returned (.int .i64 0) ∧ DiskAt w' p m (.slice none 0 0) (D.torn D.pend.length T).ended ∧ Kept (fun i => i = p ∨ i = m) w w' := by
  have c0 := h.c0
  have hpos := h.ok.pos
  obtain ⟨A, cap, rfl, hnc, hcm⟩ := h.view
  have c2 := h.c2
  have hpl1 := h.plt
  have HD := Lib.hid h
  have HT := Lib.hid hT
  clear h hT
  go_enter Try.func14, Try.ntmps14
  go_wp2_with (go_at_call 34; refine (made_yes _ _ _ c0 (by omega)).mono ?_; rintro e w' ⟨rfl, rfl⟩)
  clear c2
  go_loopw [30] (fun i wr => ∃ k : Nat, k ≤ D.pend.length ∧ i = .int .i64 k ∧ DiskAt wr p m (.slice A D.pend.length cap) (D.upto k) ∧ Kept (· = m) w wr) (fun i _ => D.pend.length - (intOf i).toNat)
  case atStart => exact ⟨0, Nat.zero_le _, rfl, by rw [Dk.upto_zero]; exact HD.out, Kept.refl _ _⟩
  case round =>
    obtain ⟨k, hk, rfl, hd, hK⟩ := hrel
    by_cases hlt : k < D.pend.length
    · obtain ⟨x, hx⟩ : ∃ x, D.pend[k]? = some x := ⟨_, List.getElem?_eq_getElem (by omega)⟩
      obtain ⟨g, hgl, -, hrg, hidx0⟩ := hd.elem (x := x) (k := k) hx
      have hidx := hidx0 D.pend.length hlt
      have hpx := HD.out.ok.pend x (List.mem_of_getElem? hx)
      have hx256 := Lib.hid hpx.1
      have hca : (wr.alloc (.cells (wcells x).toArray 74)).cell? ⟨wr.heap.size, 0, none⟩ = some (.int .i64 x.1) := by
        rw [cell_of_row _ _ _ _ _ _ (heap_alloc_new wr _)]; rfl
      have hrb : (wr.alloc (.cells (wcells x).toArray 74)).rangeAt wr.heap.size 1 (bcells x.2) := by
        refine range_of_block (heap_alloc_new wr _) _ _ fun j v hj => ?_
        rw [Nat.add_comm]
        simpa [wcells] using hj
      have HPUT : Hid (Calls Try.prog 36 #[.pointer (some ⟨p, 0, none⟩), .int .i64 x.1, (.agg (bcells x.2).toArray)] (wr.alloc (.cells (wcells x).toArray 74)) fun e w' => e = .returned (.tuple #[]) ∧ DiskAt w' p m (.slice A D.pend.length cap) (D.upto (k + 1)) ∧ Kept (· = m) (wr.alloc (.cells (wcells x).toArray 74)) w') := by
        show Calls _ _ _ _ _
        rw [← Dk.upto_succ hx]
        exact put_any p m _ _ x.1 x.2 _ (hd.kept ((Kept.refl No wr).alloc _) (fun h => h) (fun h => h) (fun _ _ h => h)) hpx.2.1 hpx.2.2 hpx.1
      clear hx hpx hd hidx0
      go_wp2_with (first
        | (with_reducible show wpList _ _ _ (⟨_, .load 74 _, _, _, _, _⟩ :: _) _ _; go_must (refine wpList_load_mid rfl 74 _ rfl g (k * 257) rfl (wcells x) _ hrg Try.underlying74 rfl (size74l hx256.out) ?_))
        | (with_reducible show wpList _ _ _ (⟨_, .alloc 74, _, _, _, _⟩ :: ⟨_, .store 74 _ _, _, _, _, _⟩ :: _) _ _; go_must (refine wpList_alloc_fill rfl rfl 74 9 rfl rfl 33 rfl (by decide) (by simp [Act.put]) rfl (wcells x).toArray _ zero74 (size74a hx256.out) (cells74 hx256.out) rfl (wcells_mem _) ?_))
        | (with_reducible show wpList _ _ _ (⟨_, .load 72 _, _, _, _, _⟩ :: _) _ _; go_must (refine wpList_load_mid rfl 72 _ rfl wr.heap.size 1 rfl (bcells x.2) _ hrb Try.underlying72 rfl (size72l hx256.out) ?_))
        | (go_at_call 36; go_must (refine HPUT.out.mono ?_); rintro e w3 ⟨rfl, hd3, hk3⟩))
      go_roundw
      case rel => exact ⟨k + 1, by omega, by go_num, by assumption, (hK.alloc _).trans (by assumption)⟩
      case measure => simp [intOf]; omega
    · obtain rfl : D.pend.length = k := by omega
      have hpw := hd.plt
      have hfr2 := hd.fr 2
      have hfr3 := hd.fr 3
      have hc1 := hd.c1
      have hc2 := hd.c2
      have hc3 := hd.c3
      have hwle := hK.size
      have HDW := Lib.hid hd
      have HK := Lib.hid hK
      clear hd hK
      by_cases hlast : D.pend.length < D.pend.length
      · exact absurd hlast (Nat.lt_irrefl _)
      · go_wp2_with fail
        go_ret
        have k1 : Kept (· = p) wr ((wr.setCell ⟨p, 2, none⟩ (.slice none 0 0)).setCell ⟨p, 3, none⟩ (.bool false)) := Kept.setCell (S := (· = p)) (Kept.setCell (S := (· = p)) (Kept.refl _ wr) _ _ (.inl rfl)) _ _ (.inl rfl)
        have e : D.torn D.pend.length T = D.upto D.pend.length := by
          unfold Dk.torn
          rw [List.getElem?_eq_none (by omega)]
        refine ⟨rfl, ?_, ?_⟩
        · rw [e]
          refine HDW.out.ended k1 ?_
          rw [heap_setCell_same _ p 3 _ _ _ (heap_setCell_same wr p 2 _ _ _ HDW.out.head)]
        · exact (HK.out.mono (T := fun i => i = p ∨ i = m) (fun _ _ h => .inr h)).trans (k1.mono (fun _ _ h => .inl h))

theorem Dk.crash_ended (D : Dk) (keep torn : Int) : D.crash keep torn = (D.torn (min (max keep 0).toNat D.pend.length) (min (max torn 0).toNat 256)).ended := rfl
theorem crash_any (p m : Nat) (pv : Value) (D : Dk) (keep torn : Int) (w : World) (h : DiskAt w p m pv D) :
    Calls Try.prog 14 #[.pointer (some ⟨p, 0, none⟩), .int .i64 keep, .int .i64 torn] w fun e w' => e = .returned (.int .i64 0) ∧ DiskAt w' p m (.slice none 0 0) (D.crash keep torn) ∧ Kept (fun i => i = p ∨ i = m) w w' := by
  rw [Dk.crash_ended]
  have hT : ∀ T, T = min (max torn 0).toNat 256 → ((torn < 0 ∧ T = 0) ∨ (0 ≤ torn ∧ torn ≤ 256 ∧ torn = T) ∨ (256 < torn ∧ T = 256)) := fun T h => by omega
  by_cases h1 : keep < 0
  · rw [show min (max keep 0).toNat D.pend.length = 0 from by omega]
    exact crash_low p m pv D keep torn _ w h h1 (hT _ rfl)
  · by_cases h2 : (D.pend.length : Int) < keep
    · rw [show min (max keep 0).toNat D.pend.length = D.pend.length from by omega]
      exact crash_high p m pv D keep torn _ w h h2 (hT _ rfl)
    · obtain ⟨N, rfl⟩ := Int.eq_ofNat_of_zero_le (show 0 ≤ keep by omega)
      rw [show min (max (N : Int) 0).toNat D.pend.length = N from by omega]
      exact crash_mid p m pv D N torn _ w h (by omega) (hT _ rfl)
end Go.Proofs.Ytcbogiebdjbmoaa
