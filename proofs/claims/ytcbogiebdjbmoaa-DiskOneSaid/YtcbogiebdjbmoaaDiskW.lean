/-
  The disk's Write: one more write is pending, or the plan's error.
-/
import Derived.Test.YtcbogiebdjbmoaaDiskA
import Derived.Test.YtcbogiebdjbmoaaOrd
set_option linter.unusedVariables false
set_option linter.unusedSimpArgs false
namespace Go.Proofs.Ytcbogiebdjbmoaa
open Go.RowKit Go.Maps
open Go.Extern.Stop (cell)

/-- Bytes that are read: a slice that came in, or one that was made. -/
def ReadsB (w : World) (A : Option Addr) (bs : List UInt8) : Prop :=
  bs ≠ [] → ∃ ad, A = some ad ∧ ∀ j u, (bcells bs)[j]? = some u → w.cell? (ad.add j) = some u
theorem ReadsB.kept {S : Nat → Prop} {w w1 : World} {A : Option Addr} {bs : List UInt8} (h : ReadsB w A bs) (k : Kept S w w1) (hS : ∀ ad, A = some ad → ¬ S ad.block) : ReadsB w1 A bs := by
  intro hn
  obtain ⟨ad, e, hc⟩ := h hn
  refine ⟨ad, e, fun j u hu => ?_⟩
  have h1 := hc j u hu
  have hb : (ad.add j).block = ad.block := by unfold Addr.add; split <;> rfl
  rw [← h1]
  refine World.cell?_of_block (k.block _ ?_ ?_)
  · exact World.block_lt_of_cell? w _ h1
  · rw [hb]; exact hS ad e

theorem build74 (a : Int) (W : World) : (Instr.build 74 #[(0, .int .i64 a)]).run Try.prog W = .ok (.agg (wcells (a, zb)).toArray) W := by
  have hz : (zeroValue 74).run Try.prog W = .ok (.agg (wcells (0, zb)).toArray) W := by
    have := zero74
    cases hi : Try.prog.info? 74 with
    | none => simp [hi] at this
    | some i =>
      have hz' : i.zero = some (.agg (wcells (0, zb)).toArray) := by simpa [hi] using this
      simp [zeroValue, typeInfo, hi, hz']
  have s3 : ∀ w, (sizeOf 3).run Try.prog w = .ok 1 w := fun w => by
    have : (Try.prog.info? 3).map (·.size) = some 1 := by kernel_rfl
    cases hi : Try.prog.info? 3 with
    | none => simp [hi] at this
    | some i => have h' : i.size = 1 := by simpa [hi] using this
                simp [sizeOf, typeInfo, hi, h']
  have s72 : ∀ w, (sizeOf 72).run Try.prog w = .ok 256 w := fun w => by
    have := size72
    cases hi : Try.prog.info? 72 with
    | none => simp [hi] at this
    | some i => have h' : i.size = 256 := by simpa [hi] using this
                simp [sizeOf, typeInfo, hi, h']
  simp [Instr.build, hz, run_underlying Try.underlying74, Sem.run_bind, s3, s72, Instr.fill, Value.cells, wcells, Result.andThen]

theorem one74 : (Try.prog.info? 74).bind (·.zero) |>.isSome := by kernel_rfl

set_option maxHeartbeats 400000 in
theorem write_plan (p m : Nat) (pv : Value) (D : Dk) (at_ : Int) (A : Option Addr) (cap : Nat) (w : World) (h : DiskAt w p m pv D) (h0 : 0 ≤ at_) (h1 : at_ < D.size) (he : D.planErr ≠ 0) :
    Calls Try.prog 37 #[.pointer (some ⟨p, 0, none⟩), .int .i64 at_, .slice A 256 cap] w fun e w' => e = .returned (.int .i64 D.planErr) ∧ DiskAt w' p m pv D.plan ∧ Kept (· = p) w w' := by
  have hc := has_any p m pv D at_ w h
  rw [if_pos ⟨h0, h1⟩] at hc
  have HC := Lib.hid hc
  have HP := Lib.hid (plan_any p m pv D w h)
  clear hc h h0 h1
  go_enter Try.func37, Try.ntmps37
  go_wp2_with fail
  refine HC.out.mono ?_
  rintro e w' ⟨rfl, rfl⟩
  go_wp2_with fail
  refine HP.out.mono ?_
  rintro e w1 ⟨rfl, hd1, hk1⟩
  have HD := Lib.hid hd1
  clear hd1
  go_wp2_with fail
  go_ret
  exact ⟨rfl, HD.out, hk1⟩

set_option maxHeartbeats 400000 in
set_option maxRecDepth 100000 in
theorem write_in (p m : Nat) (pv : Value) (D : Dk) (at_ : Int) (A : Option Addr) (cap : Nat) (bs : List UInt8) (w : World) (h : DiskAt w p m pv D) (h0 : 0 ≤ at_) (h1 : at_ < D.size) (he : D.planErr = 0)
    (hbs : bs.length = 256) (hR : ReadsB w A bs) (hne : ∀ ad, A = some ad → ad.block ≠ p) (hn : D.pend.length ≤ 1000000000) :
    Calls Try.prog 37 #[.pointer (some ⟨p, 0, none⟩), .int .i64 at_, .slice A 256 cap] w fun e w' => ∃ pv', e = .returned (.int .i64 0) ∧ DiskAt w' p m pv' (D.plan.push at_ bs) ∧ Kept (fun i => i = p ∨ pv.ownBlock = some i) w w' ∧ (∀ i, pv'.ownBlock = some i → pv.ownBlock = some i ∨ w.heap.size ≤ i) := by
  have hc := has_any p m pv D at_ w h
  rw [if_pos ⟨h0, h1⟩] at hc
  have HC := Lib.hid hc
  have hp := plan_any p m pv D w h
  rw [he] at hp
  have HP := Lib.hid hp
  have HOK : Hid D.plan.Ok := h.ok.plan
  obtain ⟨ad, rfl, had⟩ := hR (by rintro rfl; simp at hbs)
  have hadne := hne ad rfl
  have HPE : Hid (D.plan.pend = D.pend) := Dk.plan_pend D
  have HPS : Hid (D.plan.size = D.size) := Dk.plan_size D
  have HBS := Lib.hid hbs
  have HAD := Lib.hid had
  clear hc hp h hR he hbs had hne
  go_enter Try.func37, Try.ntmps37
  go_wp2_with fail
  refine HC.out.mono ?_
  rintro e w' ⟨rfl, rfl⟩
  go_wp2_with fail
  refine HP.out.mono ?_
  rintro e w1 ⟨rfl, hd1, hk1⟩
  have HD := Lib.hid hd1
  have hb74 := build74 at_
  have hcp : ∀ ty, (Builtin.copy_ #[28, 28] ty #[.slice (some ⟨w1.heap.size, 1, none⟩) 256 256, .slice (some ad) 256 cap]).run Try.prog (w1.alloc (.cells (wcells (at_, zb)).toArray 74)) =
      .ok (.int .i64 256) (w1.alloc (.cells (wcells (at_, bs)).toArray 74)) := by
    intro ty
    have hl := HBS.out
    rw [run_copy_row Try.prog (w1.alloc (.cells (wcells (at_, zb)).toArray 74)) 28 28 ty 5 w1.heap.size 1 256 256 ad 256 cap _ 74 (bcells bs) Try.underlying28 size5 (heap_alloc_new w1 _) (by rw [bcells_length, hl]; rfl) (fun j v hv => ?_) (by rw [List.size_toArray, wcells_length (x := (at_, zb)) zb_length, bcells_length, hl]; decide) (bcells_one _), setRow_alloc, bcells_length, hl]
    · have e : (List.take 1 (wcells (at_, zb)).toArray.toList ++ bcells bs ++ List.drop (1 + 256) (wcells (at_, zb)).toArray.toList) = wcells (at_, bs) := by
        have e2 : List.drop (1 + 256) (wcells (at_, zb)) = [] := List.drop_eq_nil_of_le (by rw [wcells_length (x := (at_, zb)) zb_length]; decide)
        simp only [e2]
        simp [wcells]
      rw [e]
      rfl
    · have h1 := HAD.out j v hv
      have h2 : w1.cell? (ad.add j) = some v := by
        rw [← h1]
        refine World.cell?_of_block (hk1.block _ (World.block_lt_of_cell? w _ h1) ?_)
        have hb : (ad.add j).block = ad.block := by unfold Addr.add; split <;> rfl
        rw [hb]
        exact hadne
      rw [World.cell?_alloc_lt _ _ _ (World.block_lt_of_cell? w1 _ h2)]
      exact h2
  clear hd1
  go_wp2_with (with_reducible show wpList _ _ _ (⟨_, .alloc 74, _, _, _, _⟩ :: ⟨_, .store 74 _ _, _, _, _, _⟩ :: _) _ _; go_must (refine wpList_alloc_fill rfl rfl 74 9 rfl rfl 25 rfl (by decide) (by simp) rfl (wcells (at_, zb)).toArray _ zero74 (size74a zb_length) (cells74 zb_length) rfl (wcells_mem _) ?_))
  obtain ⟨W, hW⟩ : ∃ W, W = w1.alloc (.cells (wcells (at_, bs)).toArray 74) := ⟨_, rfl⟩
  have kW : Kept (fun i => i = p ∨ pv.ownBlock = some i) w W := by rw [hW]; exact (hk1.mono (fun i _ h => .inl h)).alloc _
  have hD : DiskAt W p m pv D.plan := by rw [hW]; exact HD.out.kept ((Kept.refl No w1).alloc _) (fun h => h) (fun h => h) (fun _ _ h => h)
  have hrW : W.rangeAt w1.heap.size 0 (wcells (at_, bs)) := by rw [hW]; exact range_of_block (heap_alloc_new w1 _) _ _ (by intro j v hj; simpa using hj)
  have hsz : w.heap.size ≤ w1.heap.size := hk1.size
  have hszW : w1.heap.size < W.heap.size := by rw [hW]; simp
  rw [← hW]
  clear hW hk1 hcp hb74
  have hrow := hD.row
  rw [HPE.out] at hrow
  obtain ⟨A', cap', rfl, hnc, hcm, hA⟩ := row_view hrow
  have c2 := hD.c2
  have f2 := hD.fr 2
  have hpW := hD.plt
  have HO := Lib.hid hrow
  have HDW := Lib.hid hD
  have HK := Lib.hid kW
  have hu74 := Try.underlying74
  have hi74 := size74l (x := (at_, bs)) HBS.out
  have hl74 : (wcells (at_, bs)).length = 257 := wcells_length HBS.out
  have h174 := wcells_one (at_, bs)
  have hbs74 := run_buildSlice_one (P := Try.prog) 58 74 (.agg (wcells (at_, bs)).toArray) 257 Try.underlying58 size74 one74 (by decide) (by decide) (by simp [Value.cells, hl74])
  obtain ⟨i0, hi0, hz0, hz1, hz2⟩ := info_parts info74
  clear hrow hA hD kW
  refine any_start (by kernel_rfl) fun w2 hd2 => ?_
  have kW2 : Kept No W w2 := hd2.kept No
  have hs2 : w2.heap.size = W.heap.size := by rw [hd2.heap]
  refine any_take0 (i := 0) (v := ?v1) rfl (by kernel_rfl) (by kernel_rfl) (by kernel_rfl) (fun _ _ _ h => h) rfl ?hy1 ?_
  case hy1 => intro w'; go_simp; try with_reducible rfl
  simp only [Act.put, List.setIfInBounds_toArray, List.set_cons_zero, List.set_cons_succ]
  refine any_take0 (i := 1) (v := ?v2) rfl (by kernel_rfl) (by kernel_rfl) (by kernel_rfl) (fun _ _ _ h => h) rfl ?hy2 ?_
  case hy2 => intro w'; go_simp; try with_reducible rfl
  simp only [Act.put, List.setIfInBounds_toArray, List.set_cons_zero, List.set_cons_succ]
  refine any_take0 (i := 2) (v := ?v3) rfl (by kernel_rfl) (by kernel_rfl) (by kernel_rfl) (fun _ _ _ h => h) rfl ?hy3 ?_
  case hy3 => intro w'; go_simp; try with_reducible rfl
  simp only [Act.put, List.setIfInBounds_toArray, List.set_cons_zero, List.set_cons_succ]
  refine any_take0 (i := 3) (v := ?v4) rfl (by kernel_rfl) (by kernel_rfl) (by kernel_rfl) (fun _ _ _ h => h) rfl ?hy4 ?_
  case hy4 => intro w'; go_simp; try with_reducible rfl
  simp only [Act.put, List.setIfInBounds_toArray, List.set_cons_zero, List.set_cons_succ]
  refine any_take (i := 4) (v := ?v5) rfl (by kernel_rfl) (by kernel_rfl) (by kernel_rfl) (by kernel_rfl) (fun _ _ _ h => h) rfl kW2 ?hy5 ?_
  case hy5 => intro w' hw'; have hc := hw'.cellAt c2; go_simp; try with_reducible rfl
  simp only [Act.put, List.setIfInBounds_toArray, List.set_cons_zero, List.set_cons_succ]
  refine any_take (i := 5) rfl (by kernel_rfl) (by kernel_rfl) (by kernel_rfl) (by kernel_rfl) (fun _ _ _ h => h) rfl kW2 (kept_load 74 _ rfl w1.heap.size 0 rfl (wcells (at_, bs)) _ hrW hszW hu74 rfl hi74) ?_
  simp only [Act.put, List.setIfInBounds_toArray, List.set_cons_zero, List.set_cons_succ]
  refine any_step (i := 6) (by kernel_rfl) rfl rfl (fun K hK => ?_)
  refine wp_buildSlice_one 58 74 _ rfl (.agg (wcells (at_, bs)).toArray) rfl 257 Try.underlying58 size74 one74 (by decide) (by decide) (by simp [Value.cells, hl74]) ?_
  refine hK.out _ _ ?_
  clear hK K
  simp only [Act.put, List.setIfInBounds_toArray, List.set_cons_zero, List.set_cons_succ]
  refine any_step (i := 7) (by kernel_rfl) rfl rfl (fun K hK => ?_)
  refine wp_append_lies _ _ _ 58 rfl 0 74 i0 _ 257 264 Try.underlying58 hi0 hz0 hz1 hz2 (by simp [Value.cells, wcells_length (x := (0, zb)) zb_length]) (by omega) (.slice A' D.pend.length cap') D.pend.length (pcells D.pend) rfl ((row_kept HO.out kW2 (fun _ _ h => h)).alloc _) ⟨w2.heap.size, 0, none⟩ 1 1 (wcells (at_, bs)) rfl (by omega) (World.news_of_block (cs := (wcells (at_, bs)).toArray) (t := 74) (fr := (0, 0)) (heap_alloc_new w2 _)) (wcells_one _) (by omega) (by unfold maxLen; omega) (by omega) (by omega) (w2.heap.size + 1) (by simp) ?_
  intro gg capg w3 hown3 hgrow hat hlt
  refine hK.out _ _ ?_
  clear hK K
  simp only [Act.put, List.setIfInBounds_toArray, List.set_cons_zero, List.set_cons_succ]
  have hop : some p ≠ (Value.slice A' D.pend.length cap').ownBlock := fun e => (HDW.out.own p e.symm).1 rfl
  have hblk : w3.heap[p]? = some (.cells (head m (.slice A' D.pend.length cap') D.plan) 60 (0, 0)) := by
    rw [hgrow.block p (by simp; omega) hop, heap_alloc_old _ _ (by omega), hd2.heap]
    exact HDW.out.head
  have hc3 : w3.cell? ⟨p, 2, none⟩ = some (.slice A' D.pend.length cap') := cell_of_row w3 p 2 _ _ _ hblk
  have hf3 : w3.frozen? ⟨p, 2, none⟩ = false := frozen_of_row w3 p 2 _ _ hblk
  refine any_take0 (i := 8) (v := ?v6) rfl (by kernel_rfl) (by kernel_rfl) (by kernel_rfl) (fun _ _ _ h => h) rfl ?hy6 ?_
  case hy6 => intro w'; go_simp; try with_reducible rfl
  simp only [Act.put, List.setIfInBounds_toArray, List.set_cons_zero, List.set_cons_succ]
  refine any_take0 (i := 9) (v := ?v7) rfl (by kernel_rfl) (by kernel_rfl) (by kernel_rfl) (fun _ _ _ h => h) rfl ?hy7 ?_
  case hy7 => intro w'; go_simp; try with_reducible rfl
  simp only [Act.put, List.setIfInBounds_toArray, List.set_cons_zero, List.set_cons_succ]
  refine any_step (i := 10) (by kernel_rfl) rfl rfl (fun K hK => ?_)
  have HBK := Lib.hid hblk
  have HO3 := Lib.hid hown3
  have HG := Lib.hid hgrow
  have HAT := Lib.hid hat
  clear hblk hown3 hgrow hat
  go_simp
  refine hK.out _ _ ?_
  clear hK K
  refine any_done (by kernel_rfl) ?_ _
  go_wp2
  go_ret
  have k3 : Kept (fun i => i = p ∨ (Value.slice A' D.pend.length cap').ownBlock = some i) w w3 := ((HK.out.trans kW2.of_no).alloc _).grown HG.out (fun k hk => .inl (.inr hk))
  have k4 := k3.setCell ⟨p, 2, none⟩ (.slice (some ⟨gg, 0, none⟩) (D.pend.length + 1) capg) (.inl (.inl rfl))
  have hgp : gg ≠ p := by
    rcases HAT.out with h | h
    · exact fun e => (HDW.out.own gg h).1 e
    · have := hpW; omega
  have hmp : m ≠ p := HDW.out.mp
  have hmo : ∀ i, (Value.slice A' D.pend.length cap').ownBlock = some i → m ≠ i := fun i hi e => (HDW.out.own i hi).2.1 e.symm
  have hmW := HDW.out.map.lt
  refine ⟨.slice (some ⟨gg, 0, none⟩) (D.pend.length + 1) capg, rfl, ⟨HOK.out.push h0 (by rw [HPS.out]; exact h1) HBS.out, ?_, ?_, ?_⟩, k4, fun i hi => ?_⟩
  · rw [heap_setCell_same w3 p 2 _ _ _ HBK.out]
    rfl
  · refine HDW.out.map.kept (S := fun i => i = p ∨ (Value.slice A' D.pend.length cap').ownBlock = some i) ?_ (fun h => h.elim hmp (fun h => hmo m h rfl))
    exact (((kW2.of_no).alloc _).grown HG.out (fun k hk => .inl (.inr hk))).setCell _ _ (.inl (.inl rfl))
  · have e1 : (D.plan.push at_ bs).pend = D.pend ++ [(at_, bs)] := by simp [Dk.push, HPE.out]
    rw [e1, pcells_append, List.length_append]
    exact row_kept (S := fun i => i = p) HO3.out ((Kept.refl _ _).setCell _ _ (.inl rfl)) (fun i hi => by simp only [Value.ownBlock, Option.some.injEq] at hi; omega)
  · simp only [Value.ownBlock, Option.some.injEq] at hi
    subst hi
    rcases HAT.out with h | h
    · exact .inl h
    · right; have := HK.out.size; omega
end Go.Proofs.Ytcbogiebdjbmoaa
