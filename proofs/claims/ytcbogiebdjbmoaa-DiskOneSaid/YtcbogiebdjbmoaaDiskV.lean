/-
  The disk's Turn, walked.
-/
import Derived.Test.YtcbogiebdjbmoaaDiskU
set_option linter.unusedVariables false
set_option linter.unusedSimpArgs false
namespace Go.Proofs.Ytcbogiebdjbmoaa
open Go.RowKit Go.Maps
open Go.Extern.Stop (cell)

set_option maxHeartbeats 1000000 in
set_option maxRecDepth 100000 in
theorem turn_in (p m : Nat) (pv : Value) (D : Dk) (at_ : Int) (place : Nat) (by_ : UInt8) (w : World) (h : DiskAt w p m pv D) (h0 : 0 ≤ at_) (h1 : at_ < D.size) (hpl : place < 256) :
    Calls Try.prog 40 #[.pointer (some ⟨p, 0, none⟩), .int .i64 at_, .int .i64 place, .int .u8 by_.toNat] w fun e w' => e = .returned (.int .i64 0) ∧ DiskAt w' p m pv (D.turn at_ place by_) ∧ Kept (fun i => i = m ∨ pv.ownBlock = some i) w w' := by
  have c1 := h.c1
  have hN := h.ok.most
  have hl := lookS h.map at_ (by exact WalkArith.wf_i64 (by omega))
  have hc := has_any p m pv D at_ w h
  rw [if_pos ⟨h0, h1⟩] at hc
  have HC := Lib.hid hc
  have hb256 := Lib.hid (h.ok.sure at_)
  have hpw := h.plt
  have H := Lib.hid h
  obtain ⟨b, hb⟩ : ∃ b, b = D.sure at_ := ⟨_, rfl⟩
  rw [← hb] at hl hb256
  have HB := Lib.hid hb
  obtain ⟨c, hc'⟩ : ∃ c, c = b.getD place 0 := ⟨_, rfl⟩
  have HCC := Lib.hid hc'
  have cb : (w.alloc (.cells (bcells b).toArray 72)).cell? ⟨w.heap.size, place, none⟩ = some (.int .u8 c.toNat) := by
    rw [cell_of_row _ _ _ _ _ _ (heap_alloc_new w _)]
    have hlt : place < b.length := by rw [hb256.out]; exact hpl
    simp [bcells_get, hc', List.getElem?_eq_getElem hlt, List.getD_eq_getElem?_getD, cell]
  have hxor := bits_xor_u8 c by_
  have hia := run_index_arr (P := Try.prog) 72 5 256 Try.underlying72 size5 w.heap.size 0 place hpl
  rw [Nat.zero_add] at hia
  have i0 : (0 : Int) ≤ (place : Int) := by omega
  have i1 : (place : Int) < 256 := by omega
  clear hc h hb hc'
  unfold blkV at hl
  go_enter Try.func40, Try.ntmps40
  go_wp2_with fail
  refine HC.out.mono ?_
  rintro e w' ⟨rfl, rfl⟩
  have hset : (bcells b).set place (.int .u8 ((c.toNat ^^^ by_.toNat : Nat) : Int)) = bcells (turnB b place by_) := by
    unfold turnB
    rw [← HCC.out]
    simp [bcells, List.map_set, cell]
  have HW1 : Hid ((w.alloc (.cells ((bcells b).set place (.int .u8 ((c.toNat ^^^ by_.toNat : Nat) : Int))).toArray 72)).rangeAt w.heap.size 0 (bcells (turnB b place by_))) := by
    show World.rangeAt _ _ _ _
    rw [hset]
    exact range_of_block (heap_alloc_new w _) _ _ (by intro j v hj; simpa using hj)
  have ht256 : Hid ((turnB b place by_).length = 256) := by show _ = _; rw [turnB_length]; exact hb256.out
  have HPUT := Lib.hid (put_any p m pv D at_ (turnB b place by_) _ (H.out.kept ((Kept.refl No w).alloc (.cells ((bcells b).set place (.int .u8 ((c.toNat ^^^ by_.toNat : Nat) : Int))).toArray 72)) (fun h => h) (fun h => h) (fun _ _ h => h)) h0 h1 ht256.out)
  clear hset
  go_wp2_with (first
    | (with_reducible show wpList _ _ _ (⟨_, .alloc 72, _, _, _, _⟩ :: ⟨_, .store 72 _ _, _, _, _, _⟩ :: _) _ _; go_must (refine wpList_alloc_fill rfl rfl 72 10 rfl rfl 29 rfl (by decide) (by simp) rfl (bcells b).toArray _ zero72 (size72a hb256.out) (cells72 hb256.out) rfl (bcells_mem _) ?_))
    | (with_reducible show wpList _ _ _ (⟨_, .load 72 _, _, _, _, _⟩ :: _) _ _; go_must (refine wpList_load_mid rfl 72 _ rfl w.heap.size 0 rfl (bcells (turnB b place by_)) _ HW1.out Try.underlying72 rfl (size72l ht256.out) ?_)))
  refine HPUT.out.mono ?_
  rintro e w3 ⟨rfl, hd3, hk3⟩
  have hk3' : Kept (fun i => i = m) w w3 := Kept.trans (((Kept.refl No w).alloc _).of_no) hk3
  have hv : ∃ A cap, pv = .slice A D.pend.length cap ∧ D.pend.length ≤ cap ∧ cap ≤ 9223372036854775807 := hd3.view
  obtain ⟨A, cap, rfl, hnc, hcm⟩ := hv
  have c2 := hd3.c2
  have hp3 := hd3.plt
  have HD3 : Hid (DiskAt w3 p m (.slice A D.pend.length cap) (D.turnTo at_ place by_ 0)) := by
    show DiskAt _ _ _ _ _
    have e : D.turnTo at_ place by_ 0 = D.put at_ (turnB b place by_) := by
      rw [HB.out]
      simp [Dk.turnTo, Dk.put]
    rw [e]
    exact hd3
  have HK3 := Lib.hid hk3'
  have hpw3 : w.heap.size ≤ w3.heap.size := hk3'.size
  clear hd3 hk3 hk3' cb hxor hia hl c1
  go_wp2_with fail
  go_loopw [45] (fun i wr => ∃ k : Nat, k ≤ D.pend.length ∧ i = .int .i64 k ∧ DiskAt wr p m (.slice A D.pend.length cap) (D.turnTo at_ place by_ k) ∧ Kept (fun i => (Value.slice A D.pend.length cap).ownBlock = some i) w3 wr) (fun i _ => D.pend.length - (intOf i).toNat)
  case atStart => exact ⟨0, Nat.zero_le _, rfl, HD3.out, Kept.refl _ _⟩
  case round =>
    obtain ⟨k, hk, rfl, hd, hK⟩ := hrel
    by_cases hlt : k < D.pend.length
    · obtain ⟨x, hx⟩ : ∃ x, D.pend[k]? = some x := ⟨_, List.getElem?_eq_getElem hlt⟩
      obtain ⟨g, hgl, hAg, hrg, hidx0⟩ := hd.elem (Dk.turnTo_get hx at_ place by_)
      have hidx := hidx0 _ hlt
      have hpx := H.out.ok.pend x (List.mem_of_getElem? hx)
      have hcx : wr.cell? ⟨g, k * 257, none⟩ = some (.int .i64 x.1) := hrg 0 _ rfl
      have hcr := hd.c2
      have hpr := hd.plt
      obtain ⟨d, hdd⟩ : ∃ d, d = x.2.getD place 0 := ⟨_, rfl⟩
      have hcb : wr.cell? ⟨g, k * 257 + 1 + place, none⟩ = some (.int .u8 d.toNat) := by
        have hlt : place < x.2.length := by rw [hpx.1]; exact hpl
        have := hrg (1 + place) (cell d) (by simp [wcells, Nat.add_comm 1 place, bcells_get, hdd, List.getElem?_eq_getElem hlt, List.getD_eq_getElem?_getD])
        rw [← Nat.add_assoc] at this
        exact this
      have hfb : wr.frozen? ⟨g, k * 257 + 1 + place, none⟩ = false := by
        rcases hd.row.2 with ⟨e, _⟩ | ⟨g', cap', cur, e, _, hg, _⟩
        · injection e with e1; rw [hAg] at e1; cases e1
        · injection e with e1; rw [hAg] at e1; injection e1 with e1; injection e1 with e1; subst e1
          exact frozen_of_row _ _ _ _ _ hg
      have hxor := bits_xor_u8 d by_
      have hia2 := run_index_arr (P := Try.prog) 72 5 256 Try.underlying72 size5 g (k * 257 + 1) place hpl
      have HX := Lib.hid hx
      have HD := Lib.hid hd
      have HK := Lib.hid hK
      have HDD := Lib.hid hdd
      have HPX := Lib.hid hpx
      have HAG := Lib.hid hAg
      clear hx hd hK hdd hpx hAg hrg hidx0
      cases hxa : (x.1 == at_) with
      | false =>
        go_wp2_with fail
        go_roundw
        case rel =>
          refine ⟨k + 1, by omega, by go_num, ?_, HK.out⟩
          rw [Dk.turnTo_skip HX.out place by_ (by simpa using hxa)]
          exact HD.out
        case measure => simp [intOf]; omega
      | true =>
        go_wp2_with fail
        refine any_start (by kernel_rfl) fun w4 hd4 => ?_
        have kW4 : Kept No wr w4 := hd4.kept No
        refine any_take0 (i := 0) (v := ?v1) rfl (by kernel_rfl) (by kernel_rfl) (by kernel_rfl) (fun _ _ _ h => h) rfl ?hy1 ?_
        case hy1 => intro w'; go_simp; try with_reducible rfl
        simp only [Act.put, List.setIfInBounds_toArray, List.set_cons_zero, List.set_cons_succ]
        refine any_take0 (i := 1) (v := ?v2) rfl (by kernel_rfl) (by kernel_rfl) (by kernel_rfl) (fun _ _ _ h => h) rfl ?hy2 ?_
        case hy2 => intro w'; go_simp; try with_reducible rfl
        simp only [Act.put, List.setIfInBounds_toArray, List.set_cons_zero, List.set_cons_succ]
        refine any_take0 (i := 2) (v := ?v3) rfl (by kernel_rfl) (by kernel_rfl) (by kernel_rfl) (fun _ _ _ h => h) rfl ?hy3 ?_
        case hy3 => intro w'; go_simp; try with_reducible rfl
        simp only [Act.put, List.setIfInBounds_toArray, List.set_cons_zero, List.set_cons_succ]
        refine any_take (i := 3) (v := ?v4) rfl (by kernel_rfl) (by kernel_rfl) (by kernel_rfl) (by kernel_rfl) (fun _ _ _ h => h) rfl kW4 ?hy4 ?_
        case hy4 => intro w' hw'; have hc := hw'.cellAt hcr; go_simp; try with_reducible rfl
        simp only [Act.put, List.setIfInBounds_toArray, List.set_cons_zero, List.set_cons_succ]
        refine any_take0 (i := 4) (v := ?v5) rfl (by kernel_rfl) (by kernel_rfl) (by kernel_rfl) (fun _ _ _ h => h) rfl ?hy5 ?_
        case hy5 => intro w'; go_simp; try with_reducible rfl
        simp only [Act.put, List.setIfInBounds_toArray, List.set_cons_zero, List.set_cons_succ]
        refine any_take0 (i := 5) (v := ?v6) rfl (by kernel_rfl) (by kernel_rfl) (by kernel_rfl) (fun _ _ _ h => h) rfl ?hy6 ?_
        case hy6 => intro w'; go_simp; try with_reducible rfl
        simp only [Act.put, List.setIfInBounds_toArray, List.set_cons_zero, List.set_cons_succ]
        refine any_take0 (i := 6) (v := ?v7) rfl (by kernel_rfl) (by kernel_rfl) (by kernel_rfl) (fun _ _ _ h => h) rfl ?hy7 ?_
        case hy7 => intro w'; go_simp; try with_reducible rfl
        simp only [Act.put, List.setIfInBounds_toArray, List.set_cons_zero, List.set_cons_succ]
        refine any_take0 (i := 7) (v := ?v8) rfl (by kernel_rfl) (by kernel_rfl) (by kernel_rfl) (fun _ _ _ h => h) rfl ?hy8 ?_
        case hy8 => intro w'; go_simp; try with_reducible rfl
        simp only [Act.put, List.setIfInBounds_toArray, List.set_cons_zero, List.set_cons_succ]
        refine any_take0 (i := 8) (v := ?v9) rfl (by kernel_rfl) (by kernel_rfl) (by kernel_rfl) (fun _ _ _ h => h) rfl ?hy9 ?_
        case hy9 => intro w'; go_simp; try with_reducible rfl
        simp only [Act.put, List.setIfInBounds_toArray, List.set_cons_zero, List.set_cons_succ]
        refine any_take0 (i := 10) (v := ?v10) rfl (by kernel_rfl) (by kernel_rfl) (by kernel_rfl) (fun _ _ _ h => h) rfl ?hy10 ?_
        case hy10 => intro w'; go_simp; try with_reducible rfl
        simp only [Act.put, List.setIfInBounds_toArray, List.set_cons_zero, List.set_cons_succ]
        refine any_take0 (i := 12) (v := ?v11) rfl (by kernel_rfl) (by kernel_rfl) (by kernel_rfl) (fun _ _ _ h => h) rfl ?hy11 ?_
        case hy11 => intro w'; go_simp; try with_reducible rfl
        simp only [Act.put, List.setIfInBounds_toArray, List.set_cons_zero, List.set_cons_succ]
        refine any_take0 (i := 13) (v := ?v12) rfl (by kernel_rfl) (by kernel_rfl) (by kernel_rfl) (fun _ _ _ h => h) rfl ?hy12 ?_
        case hy12 => intro w'; go_simp; try with_reducible rfl
        simp only [Act.put, List.setIfInBounds_toArray, List.set_cons_zero, List.set_cons_succ]
        refine any_take (i := 9) (v := ?v13) rfl (by kernel_rfl) (by kernel_rfl) (by kernel_rfl) (by kernel_rfl) (fun _ _ _ h => h) rfl kW4 ?hy13 ?_
        case hy13 => intro w' hw'; have hc := hw'.cellAt hcb; go_simp; try with_reducible rfl
        simp only [Act.put, List.setIfInBounds_toArray, List.set_cons_zero, List.set_cons_succ]
        refine any_take0 (i := 11) (v := ?v14) rfl (by kernel_rfl) (by kernel_rfl) (by kernel_rfl) (fun _ _ _ h => h) rfl ?hy14 ?_
        case hy14 => intro w'; go_simp; try with_reducible rfl
        simp only [Act.put, List.setIfInBounds_toArray, List.set_cons_zero, List.set_cons_succ]
        refine any_take0 (i := 14) (v := ?v15) rfl (by kernel_rfl) (by kernel_rfl) (by kernel_rfl) (fun _ _ _ h => h) rfl ?hy15 ?_
        case hy15 => intro w'; go_simp; try with_reducible rfl
        simp only [Act.put, List.setIfInBounds_toArray, List.set_cons_zero, List.set_cons_succ]
        refine any_step (i := 15) (by kernel_rfl) rfl rfl (fun K hK => ?_)
        have hc4 := kW4.cellAt hcb
        have hf4 := (hd4.frozen ⟨g, k * 257 + 1 + place, none⟩).trans hfb
        go_simp
        refine hK.out _ _ ?_
        clear hK K
        refine any_done (by kernel_rfl) ?_ _
        go_wp2
        go_roundw
        case rel =>
          have hAg := HAG.out
          subst hAg
          have hsucc := Dk.turnTo_succ HX.out at_ place by_
          have hw : turnW at_ place by_ x = (x.1, x.2.set place (d ^^^ by_)) := by
            unfold turnW turnB
            rw [if_pos (by simpa using hxa), HDD.out]
          have hall : ∀ y ∈ (D.turnTo at_ place by_ k).pend, y.2.length = 256 := fun y hy => ((H.out.ok.turnTo h0 h1 place by_ k).pend y hy).1
          have hd4' : DiskAt w4 p m (.slice (some ⟨g, 0, none⟩) D.pend.length cap) (D.turnTo at_ place by_ k) := HD.out.kept kW4 (fun h => h) (fun h => h) (fun _ _ h => h)
          refine ⟨k + 1, by omega, by go_num, ?_, ?_⟩
          · refine hd4'.stored (k * 257 + 1 + place) _ (H.out.ok.turnTo h0 h1 place by_ (k + 1)) rfl rfl (by rw [Dk.turnTo_len, Dk.turnTo_len]) ?_ rfl rfl rfl
            rw [hsucc, hw, ← pcells_set _ hall k x (Dk.turnTo_get HX.out _ _ _) place (d ^^^ by_) hpl]
            congr 1
          · exact Kept.setCell (HK.out.trans kW4.of_no) _ _ (.inl rfl)
        case measure => simp [intOf]; omega
    · obtain rfl : k = D.pend.length := by omega
      have HD := Lib.hid hd
      clear hd
      go_wp2_with fail
      go_ret
      refine ⟨rfl, by rw [← Dk.turnTo_all]; exact HD.out, ?_⟩
      exact (HK3.out.mono (fun _ _ h => .inl h)).trans (hK.mono (fun _ _ h => .inr h))
end Go.Proofs.Ytcbogiebdjbmoaa
