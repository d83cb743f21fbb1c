/-
  The disk's Read: a sector's bytes.
-/
import Derived.Test.YtcbogiebdjbmoaaDiskA
set_option linter.unusedVariables false
set_option linter.unusedSimpArgs false
namespace Go.Proofs.Ytcbogiebdjbmoaa
open Go.RowKit Go.Maps
open Go.Extern.Stop (cell)

set_option maxHeartbeats 400000 in
theorem read_out (p m : Nat) (pv : Value) (D : Dk) (at_ : Int) (w : World) (h : DiskAt w p m pv D) (hn : ¬ (0 ≤ at_ ∧ at_ < D.size)) :
    Calls Try.prog 12 #[.pointer (some ⟨p, 0, none⟩), .int .i64 at_] w fun e w' => e = .returned (.tuple #[.slice none 0 0, .int .i64 1]) ∧ w = w' := by
  have hc := has_any p m pv D at_ w h
  rw [if_neg hn] at hc
  have HC := Lib.hid hc
  clear hc h hn
  go_enter Try.func12, Try.ntmps12
  go_wp2_with fail
  refine HC.out.mono ?_
  rintro e w' ⟨rfl, rfl⟩
  go_wp2
  go_ret2
  exact ⟨rfl, rfl⟩

set_option maxHeartbeats 400000 in
set_option maxRecDepth 100000 in
theorem read_in (p m : Nat) (pv : Value) (D : Dk) (at_ : Int) (w : World) (h : DiskAt w p m pv D) (h1 : 0 ≤ at_) (h2 : at_ < D.size) :
    Calls Try.prog 12 #[.pointer (some ⟨p, 0, none⟩), .int .i64 at_] w fun e w' => ∃ v, e = .returned (.tuple #[v, .int .i64 0]) ∧ w'.ownsRow w.heap.size 5 1 v 256 (bcells (D.now at_)) ∧ Kept No w w' := by
  have ok := h.ok
  have hO := h.row
  have c1 := h.c1
  have c2 := h.c2
  have hpl := h.plt
  have hm := ok.most
  have hp := ok.pos
  have hl := lookS h.map at_ (by exact WalkArith.wf_i64 (by omega))
  have hc := has_any p m pv D at_ w h
  rw [if_pos ⟨h1, h2⟩] at hc
  have HC := Lib.hid hc
  clear hc h
  obtain ⟨A, cap, rfl, hnc, hcm, hA⟩ := row_view hO
  have HO := Lib.hid hO
  have HA : Hid (∀ k x, D.pend[k]? = some x → ∃ g, g < w.heap.size ∧ w.rangeAt g (k * 257) (wcells x) ∧ ∀ W, (Instr.indexAt 58 (.slice A D.pend.length cap) (.int .i64 k)).run Try.prog W = .ok (.pointer (some ⟨g, k * 257, none⟩)) W) := by
    intro k x hx
    have hk : k < D.pend.length := (List.getElem?_eq_some_iff.1 hx).1
    obtain ⟨g, cur, rfl, _, hg, hh, _, htk⟩ := hA (by omega)
    refine ⟨g, hg, ?_, run_index_row 58 74 Try.underlying58 257 size74 g _ cap k hk⟩
    rw [← pcells_range D.pend (fun y hy => (ok.pend y hy).1) k x hx]
    exact range_take hh htk _ _
  have OK := Lib.hid ok
  have h256 := ok.sure at_
  have h1' : Hid ((Try.prog.info? 72).map (·.size) = some (bcells (D.sure at_)).toArray.size) := by show _ = _; rw [size72]; simp [bcells_length, h256]
  have h2' : Hid ((Value.agg (bcells zb).toArray).cells.size = (bcells (D.sure at_)).toArray.size) := by show _ = _; simp [Value.cells, bcells_length, h256, zb]
  clear hO hA ok h256
  go_enter Try.func12, Try.ntmps12
  go_wp2_with fail
  refine HC.out.mono ?_
  rintro e w' ⟨rfl, rfl⟩
  go_wp2_with (with_reducible show wpList _ _ _ (⟨_, .alloc 72, _, _, _, _⟩ :: ⟨_, .store 72 _ _, _, _, _, _⟩ :: _) _ _; go_must (refine wpList_alloc_fill rfl rfl 72 7 rfl rfl 21 rfl (by decide) (by simp) rfl (bcells (D.sure at_)).toArray _ zero72 h1'.out h2'.out rfl (bcells_mem _) ?_))
  clear hl c1 c2 h1' h2'
  obtain ⟨i5, hi, hz0, hz1, hz2⟩ := info_parts info5
  go_loopw [27] (fun i wr => ∃ k : Nat, k ≤ D.pend.length ∧ i = .int .i64 k ∧ wr.heap[w.heap.size]? = some (.cells (bcells (lastW (D.pend.take k) at_ (D.sure at_))).toArray 72 (0, 0)) ∧ Kept No w wr) (fun i _ => D.pend.length - (intOf i).toNat)
  case atStart => exact ⟨0, Nat.zero_le _, rfl, heap_alloc_new w _, (Kept.refl No w).alloc _⟩
  case round =>
    obtain ⟨k, hk, rfl, hB, hK⟩ := hrel
    by_cases hlt : k < D.pend.length
    · obtain ⟨x, hx⟩ : ∃ x, D.pend[k]? = some x := ⟨_, List.getElem?_eq_getElem hlt⟩
      have hx256 := (OK.out.pend x (List.mem_of_getElem? hx)).1
      obtain ⟨g, hgl, hrg0, hidx⟩ := HA.out k x hx
      have hrg : wr.rangeAt g (k * 257) (wcells x) := rangeAt_kept hrg0 hK hgl (fun h => h)
      have hwl : (wcells x).length = 257 := by simp [wcells, bcells_length, hx256]
      have hca : (wr.alloc (.cells (wcells x).toArray 74)).cell? ⟨wr.heap.size, 0, none⟩ = some (.int .i64 x.1) := by
        rw [cell_of_row _ _ _ _ _ _ (heap_alloc_new wr _)]; rfl
      have hrb : (wr.alloc (.cells (wcells x).toArray 74)).rangeAt wr.heap.size 1 (bcells x.2) := by
        refine range_of_block (heap_alloc_new wr _) _ _ fun j v hj => ?_
        rw [Nat.add_comm]
        simpa [wcells] using hj
      have HTH : Hid ((wr.alloc (.cells (wcells x).toArray 74)).there w.heap.size 0 (bcells x.2).toArray.size) :=
        World.there_alloc (there_of_block hB _ _ (by simp [bcells_length, hx256, lastW_length OK.out])) _
      have g1 : Hid ((Try.prog.info? 74).map (·.size) = some (wcells x).length) := by rw [hwl]; exact size74
      have g2 : Hid ((Try.prog.info? 74).map (·.size) = some (wcells x).toArray.size) := by rw [List.size_toArray, hwl]; exact size74
      have g3 : Hid ((Value.agg (wcells (0, zb)).toArray).cells.size = (wcells x).toArray.size) := by show _ = _; simp [Value.cells, wcells, bcells_length, zb, hx256]
      have g5 : Hid ((Try.prog.info? 72).map (·.size) = some (bcells x.2).length) := by rw [bcells_length, hx256]; exact size72
      have g7 : Hid ((Try.prog.info? 72).map (·.size) = some (bcells x.2).toArray.size) := by rw [List.size_toArray, bcells_length, hx256]; exact size72
      have HB := Lib.hid hB
      have HX := Lib.hid hx
      have H256 := Lib.hid hx256
      clear hB hx hx256 hwl hrg0
      go_wp2_with (first
        | (with_reducible show wpList _ _ _ (⟨_, .load 74 _, _, _, _, _⟩ :: _) _ _; go_must (refine wpList_load_mid rfl 74 _ rfl g (k * 257) rfl (wcells x) _ hrg Try.underlying74 rfl g1.out ?_))
        | (with_reducible show wpList _ _ _ (⟨_, .alloc 74, _, _, _, _⟩ :: ⟨_, .store 74 _ _, _, _, _, _⟩ :: _) _ _; go_must (refine wpList_alloc_fill rfl rfl 74 9 rfl rfl 30 rfl (by decide) (by simp [Act.put]) rfl (wcells x).toArray _ zero74 g2.out g3.out rfl (fun v hv => wcells_one _ v (by simpa using hv)) ?_))
        | (with_reducible show wpList _ _ _ (⟨_, .load 72 _, _, _, _, _⟩ :: _) _ _; go_must (refine wpList_load_mid rfl 72 _ rfl wr.heap.size 1 rfl (bcells x.2) _ hrb Try.underlying72 rfl g5.out ?_))
        | (with_reducible show wpList _ _ _ (⟨_, .store 72 _ _, _, _, _, _⟩ :: _) _ _; go_must (refine wpList_store_mid rfl 72 _ _ rfl w.heap.size 0 (bcells x.2).toArray rfl rfl HTH.out g7.out (bcells_all _) ?_)))
      · go_roundw
        case rel =>
          have he : x.1 = at_ := by simpa using (by assumption : (x.1 == at_) = true)
          refine ⟨k + 1, by omega, by go_num, ?_, ((hK.alloc _).setCells _ _ _ (.inr (Nat.le_refl _)))⟩
          rw [lastW_take HX.out, if_pos he]
          refine (heap_setCells_whole w.heap.size 72 (bcells x.2) _ _ ((heap_alloc_old wr _ (Array.getElem?_eq_some_iff.1 HB.out).1).trans HB.out) ?_)
          · simp [bcells_length, H256.out, lastW_length OK.out]
        case measure => simp [intOf]; omega
      · go_roundw
        case rel =>
          have he : ¬ x.1 = at_ := by simpa using (by assumption : (x.1 == at_) = false)
          refine ⟨k + 1, by omega, by go_num, ?_, hK.alloc _⟩
          rw [lastW_take HX.out, if_neg he]
          exact (heap_alloc_old wr _ (Array.getElem?_eq_some_iff.1 HB.out).1).trans HB.out
        case measure => simp [intOf]; omega
    · obtain rfl : k = D.pend.length := by omega
      rw [List.take_length, show lastW D.pend at_ (D.sure at_) = D.now at_ from rfl] at hB
      have a1 : Hid ((bcells (D.now at_)).length = 256 * 1) := by show _ = _; rw [bcells_length]; exact lastW_now OK.out at_
      have a2 : Hid (∀ j u, (bcells (D.now at_))[j]? = some u → wr.cell? ((⟨w.heap.size, 0, none⟩ : Addr).add j) = some u) := by
        show ∀ _ _, _
        intro j u hu
        rw [Addr.add_mid, cell_of_row _ _ _ _ _ _ hB, Nat.zero_add]
        simpa using hu
      clear hB
      go_wp2_with (at_builtin; go_must (refine wpList_append_lies wr rfl _ _ 28 rfl w.heap.size 5 i5 (.int .u8 0) 1 1 Try.underlying28 hi hz0 hz1 hz2 rfl (by decide) (.slice none 0 0) 0 [] rfl (own_nil' _ _ _ _) ⟨w.heap.size, 0, none⟩ 256 256 (bcells (D.now at_)) rfl a1.out a2.out (bcells_one _) (by decide) (by decide) (by decide) hK.size wr.heap.size rfl ?_); intro g' cap' w' ho hg _ _)
      go_ret2
      exact ⟨_, rfl, by simpa using ho, hK.grown hg (fun _ h => by cases h)⟩
end Go.Proofs.Ytcbogiebdjbmoaa
