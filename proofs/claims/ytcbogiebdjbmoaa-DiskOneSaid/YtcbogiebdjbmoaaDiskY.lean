/-
  The law's Call of an op.
-/
import Derived.Test.YtcbogiebdjbmoaaDiskX
set_option linter.unusedVariables false
set_option linter.unusedSimpArgs false
namespace Go.Proofs.Ytcbogiebdjbmoaa
open Go.RowKit Go.Maps
open Go.Extern.Stop (cell)

def Opp.Ok (o : Opp) : Prop := (Lit.int .i64 o.kind).wf = true ∧ (Lit.int .i64 o.at_).wf = true ∧ (Lit.int .i64 o.n).wf = true ∧ (Lit.int .i64 o.torn).wf = true ∧ (Lit.int .i64 o.e).wf = true
/-- What a Call makes of a disk, and what it answers. -/
def callOf (D : Dk) (o : Opp) : Dk × Int :=
  if o.kind = 0 then (if (0 ≤ o.at_ ∧ o.at_ < D.size) ∧ (opBytes o).length = 256 then (D.write o.at_ (opBytes o), D.planErr) else (D, 1))
  else if o.kind = 1 then (D.sync, D.planErr)
  else if o.kind = 2 then (D.crash o.n o.torn, 0)
  else if o.kind = 3 then (if o.e = 160 ∨ o.e = 7 then (D.fail o.n o.e, 0) else (D, 1))
  else if o.kind = 4 then (if (0 ≤ o.at_ ∧ o.at_ < D.size) ∧ 0 ≤ o.torn ∧ o.torn < 256 then (D.turn o.at_ o.torn.toNat o.fill, 0) else (D, 1))
  else (D, 0)

theorem Step.after {p m : Nat} {pv : Value} {D : Dk} {w w1 w2 : World} (k : Kept No w w1) (s : Step p m pv D w1 w2) : Step p m pv D w w2 := by
  obtain ⟨pv', h1, h2, h3⟩ := s
  exact ⟨pv', h1, k.of_no.trans h2, fun i hi => (h3 i hi).imp id (fun h => Nat.le_trans k.size h)⟩
theorem wf_range {a : Int} (h : (Lit.int .i64 a).wf = true) : -9223372036854775808 ≤ a ∧ a ≤ 9223372036854775807 := by
  simpa [Lit.wf, IntKind.min, IntKind.max, IntKind.signed, IntKind.bits] using h

theorem opBytes_le (o : Opp) : (opBytes o).length ≤ 257 := by
  unfold opBytes
  rw [List.length_append, fillB_length]
  split <;> simp
theorem row_cell1 {w : World} {base g n cap : Nat} {e : TypeId} {size : Nat} {xs : List Value} (h : w.ownsRow base e size (.slice (some ⟨g, 0, none⟩) n cap) n xs) (k : Nat) (v : Value) (hv : xs[k]? = some v) : w.cell? ⟨g, k, none⟩ = some v := by
  rcases h.2 with ⟨e, _⟩ | ⟨g', cap', cur, e, _, hg, _, _, _, htk⟩
  · cases e
  · injection e with e1; injection e1 with e1; injection e1 with e1; subst e1
    rw [cell_of_row _ _ _ _ _ _ hg]
    have := hv
    rw [← htk, List.getElem?_take] at this
    split at this
    · simpa using this
    · cases this
theorem row_frozen1 {w : World} {base g n cap : Nat} {e : TypeId} {size : Nat} {xs : List Value} (h : w.ownsRow base e size (.slice (some ⟨g, 0, none⟩) n cap) n xs) (k : Nat) : w.frozen? ⟨g, k, none⟩ = false := by
  rcases h.2 with ⟨e, _⟩ | ⟨g', cap', cur, e, _, hg, _⟩
  · cases e
  · injection e with e1; injection e1 with e1; injection e1 with e1; subst e1
    exact frozen_of_row _ _ _ _ _ hg
theorem row_reads {w : World} {base g cap : Nat} {bs : List UInt8} (h : w.ownsRow base 5 1 (.slice (some ⟨g, 0, none⟩) bs.length cap) bs.length (bcells bs)) : ReadsB w (some ⟨g, 0, none⟩) bs :=
  fun _ => ⟨_, rfl, fun j u hu => by rw [Addr.add_mid, Nat.zero_add]; exact row_cell1 h j u hu⟩
set_option maxHeartbeats 1000000 in
set_option maxRecDepth 100000 in
theorem call_0 (p m : Nat) (pv : Value) (D : Dk) (o : Opp) (w : World) (h : DiskAt w p m pv D) (hn : D.pend.length ≤ 1000000000) (hk : o.kind = 0) :
    Calls Try.prog 13 #[.pointer (some ⟨p, 0, none⟩), .agg (opA o)] w fun e w' => e = .returned (.int .i64 (if (0 ≤ o.at_ ∧ o.at_ < D.size) ∧ (opBytes o).length = 256 then D.planErr else 1)) ∧ Step p m pv (if (0 ≤ o.at_ ∧ o.at_ < D.size) ∧ (opBytes o).length = 256 then D.write o.at_ (opBytes o) else D) w w' := by
  have HB := Lib.hid (bytes_any o (w.alloc (.cells (opA o) 33)))
  have HR : Hid ((w.alloc (.cells (opA o) 33)).rangeAt w.heap.size 0 (opA o).toList) := range_of_block (heap_alloc_new w _) 0 _ (by intro j v hj; simpa using hj)
  have HD : Hid (DiskAt (w.alloc (.cells (opA o) 33)) p m pv D) := h.kept ((Kept.refl No w).alloc _) (fun h => h) (fun h => h) (fun _ _ h => h)
  have H := Lib.hid h
  have hS : Hid ((Try.prog.info? 33).map (·.size) = some (opA o).toList.length) := by show _ = _; kernel_rfl
  obtain ⟨bs, hbs⟩ : ∃ bs, bs = opBytes o := ⟨_, rfl⟩
  obtain ⟨E, hE⟩ : ∃ E, E = (if (0 ≤ o.at_ ∧ o.at_ < D.size) ∧ bs.length = 256 then D.planErr else 1) := ⟨_, rfl⟩
  obtain ⟨D', hD'⟩ : ∃ D', D' = (if (0 ≤ o.at_ ∧ o.at_ < D.size) ∧ bs.length = 256 then D.write o.at_ bs else D) := ⟨_, rfl⟩
  have hbl : bs.length ≤ 257 := by rw [hbs]; exact opBytes_le o
  rw [← hbs] at HB ⊢
  rw [← hE, ← hD']
  have HE := Lib.hid hE
  have HD' := Lib.hid hD'
  clear hE hD'
  have HBS := Lib.hid hbs
  have hpl := h.plt
  clear h hbs
  unfold opA at HB HR HD hS ⊢
  rw [hk] at HB HR HD hS ⊢
  go_enter Try.func13, Try.ntmps13
  go_wp2_with (with_reducible show wpList _ _ _ (⟨_, .load 33 _, _, _, _, _⟩ :: _) _ _; go_must (refine wpList_load_mid rfl 33 _ rfl w.heap.size 0 rfl _ _ HR.out Try.underlying33 rfl hS.out ?_))
  refine HB.out.mono ?_
  rintro e w2 ⟨g, cap, rfl, hown, hK2, hg⟩
  have hd2 := HD.out.kept hK2 (fun h => h) (fun h => h) (fun _ _ h => h)
  have hwr := write_any p m pv D o.at_ (some ⟨g, 0, none⟩) cap bs w2 hd2 (row_reads hown) (fun ad e => by cases e; simp at hg; show g ≠ p; omega) hn
  rw [← HE.out, ← HD'.out] at hwr
  have HW := Lib.hid hwr
  have hc1 : w2.cell? ⟨w.heap.size, 1, none⟩ = some (.int .i64 o.at_) := hK2.cellAt (cell_of_row _ _ 1 _ _ _ (heap_alloc_new w _))
  have HO := Lib.hid hown
  have HK2 := Lib.hid hK2
  clear hd2 hwr hown hK2
  go_wp2_with fail
  refine HW.out.mono ?_
  clear HW
  rintro e w3 ⟨rfl, hs⟩
  obtain ⟨pv', hd3, hk3, ho3⟩ := hs
  have hne : ∀ j, (j = p ∨ j = m ∨ pv.ownBlock = some j) → j < w.heap.size := by
    rintro j (rfl | rfl | hj)
    · exact hpl
    · exact H.out.map.lt
    · exact (H.out.own j hj).2.2
  have hgw : w.heap.size < g := by simp at hg; omega
  have hown3 := row_kept HO.out hk3 (fun i hi hS => by cases hi; have : g < w.heap.size := hne _ hS; omega)
  have HD3 := Lib.hid hd3
  have HK3 := Lib.hid hk3
  have HO3 := Lib.hid ho3
  have HNE := Lib.hid hne
  clear hd3 hk3 ho3 hne hc1
  go_wp2_with fail
  go_loopw [7] (fun i wr => ∃ k : Nat, k ≤ bs.length ∧ i = .int .i64 k ∧ (∃ bs', bs'.length = bs.length ∧ wr.ownsRow (w.heap.size + 1) 5 1 (.slice (some ⟨g, 0, none⟩) bs.length cap) bs.length (bcells bs')) ∧ Kept (fun i => i = g) w3 wr) (fun i _ => bs.length - (intOf i).toNat)
  case atStart => exact ⟨0, Nat.zero_le _, rfl, ⟨bs, rfl, row_base hown3 (by simp)⟩, Kept.refl _ _⟩
  case round =>
    obtain ⟨k, hk, rfl, ⟨bs', hl', hown⟩, hK⟩ := hrel
    by_cases hlt : k < bs.length
    · obtain ⟨c, hc⟩ : ∃ c, bs'[k]? = some c := ⟨_, List.getElem?_eq_getElem (by omega)⟩
      have hcb : wr.cell? ⟨g, k, none⟩ = some (.int .u8 c.toNat) := by
        have := row_cell1 hown k (.int .u8 c.toNat) (by rw [bcells_get, hc]; rfl)
        exact this
      have hfb : wr.frozen? ⟨g, k, none⟩ = false := row_frozen1 hown k
      have hia := run_index_row (P := Try.prog) 28 5 Try.underlying28 1 size5 g bs.length cap k hlt
      rw [Nat.mul_one] at hia
      have hxor := bits_xor_u8 c 255
      have HOW := Lib.hid hown
      have HKK := Lib.hid hK
      clear hown hK
      go_wp2_with fail
      go_roundw
      case rel =>
        refine ⟨k + 1, by omega, by go_num, ⟨bs'.set k (c ^^^ 255), by simp [hl'], ?_⟩, Kept.setCell HKK.out _ _ (.inl rfl)⟩
        rw [show bcells (bs'.set k (c ^^^ 255)) = (bcells bs').set k (.int .u8 ((c ^^^ 255).toNat : Int)) from by simp [bcells, List.map_set, cell]]
        rw [← hxor]
        exact (HOW.out.stored k _).1
      case measure => simp [intOf]; omega
    · obtain rfl : k = bs.length := by omega
      have HOW := Lib.hid hown
      have HKK := Lib.hid hK
      clear hown hK
      go_wp2_with fail
      go_ret
      have hgo : ∀ i, (i = p ∨ i = m ∨ pv.ownBlock = some i) → i ≠ g := fun i hi e => by have := HNE.out i hi; omega
      refine ⟨rfl, pv', HD3.out.kept HKK.out (hgo p (.inl rfl)) (hgo m (.inr (.inl rfl))) ?_, ?_, ?_⟩
      · intro i hi e
        rcases HO3.out i hi with h | h
        · exact hgo i (.inr (.inr h)) e
        · have : g < w2.heap.size := (HO.out.lt g rfl).2
          omega
      · have k1 : Kept (fun i => i = p ∨ i = m ∨ pv.ownBlock = some i) w w2 := (((Kept.refl No w).alloc _).trans HK2.out).of_no
        exact (k1.trans HK3.out).andThen HKK.out (fun i hi => .inr (by have hi : i = g := hi; omega))
      · intro i hi
        refine (HO3.out i hi).imp id (fun h => ?_)
        have := HK2.out.size
        simp at this
        omega

set_option maxHeartbeats 1000000 in
set_option maxRecDepth 100000 in
theorem call_1 (p m : Nat) (pv : Value) (D : Dk) (o : Opp) (w : World) (h : DiskAt w p m pv D) (hk : o.kind = 1)  :
    Calls Try.prog 13 #[.pointer (some ⟨p, 0, none⟩), .agg (opA o)] w fun e w' => e = .returned (.int .i64 (D.planErr)) ∧ Step p m pv (D.sync) w w' := by
  have hd : DiskAt (w.alloc (.cells (opA o) 33)) p m pv D := h.kept ((Kept.refl No w).alloc _) (fun h => h) (fun h => h) (fun _ _ h => h)
  have HB := Lib.hid (sync_any p m pv D _ hd)
  obtain ⟨E, hE⟩ : ∃ E : Int, E = (D.planErr) := ⟨_, rfl⟩
  obtain ⟨D', hD'⟩ : ∃ D', D' = (D.sync) := ⟨_, rfl⟩
  rw [← hE, ← hD'] at HB ⊢
  clear h hE hD' hd
  unfold opA at HB ⊢
  rw [hk] at HB ⊢
  go_enter Try.func13, Try.ntmps13
  go_wp2_with fail
  refine HB.out.mono ?_
  rintro e w2 ⟨rfl, hs⟩
  have HS := Lib.hid hs
  clear hs
  go_wp2
  go_ret
  exact ⟨rfl, HS.out.after ((Kept.refl No w).alloc _)⟩
set_option maxHeartbeats 1000000 in
set_option maxRecDepth 100000 in
theorem call_2 (p m : Nat) (pv : Value) (D : Dk) (o : Opp) (w : World) (h : DiskAt w p m pv D) (hk : o.kind = 2)  :
    Calls Try.prog 13 #[.pointer (some ⟨p, 0, none⟩), .agg (opA o)] w fun e w' => e = .returned (.int .i64 (0)) ∧ Step p m pv (D.crash o.n o.torn) w w' := by
  have hd : DiskAt (w.alloc (.cells (opA o) 33)) p m pv D := h.kept ((Kept.refl No w).alloc _) (fun h => h) (fun h => h) (fun _ _ h => h)
  have HB := Lib.hid (crash_step p m pv D o.n o.torn _ hd)
  clear h hd
  unfold opA at HB ⊢
  rw [hk] at HB ⊢
  go_enter Try.func13, Try.ntmps13
  go_wp2_with fail
  refine HB.out.mono ?_
  rintro e w2 ⟨rfl, hs⟩
  have HS := Lib.hid hs
  clear hs
  go_wp2
  go_ret
  exact ⟨rfl, HS.out.after ((Kept.refl No w).alloc _)⟩
set_option maxHeartbeats 1000000 in
set_option maxRecDepth 100000 in
theorem call_3 (p m : Nat) (pv : Value) (D : Dk) (o : Opp) (w : World) (h : DiskAt w p m pv D) (hk : o.kind = 3) (hn : (Lit.int .i64 o.n).wf = true) :
    Calls Try.prog 13 #[.pointer (some ⟨p, 0, none⟩), .agg (opA o)] w fun e w' => e = .returned (.int .i64 (if o.e = 160 ∨ o.e = 7 then 0 else 1)) ∧ Step p m pv (if o.e = 160 ∨ o.e = 7 then D.fail o.n o.e else D) w w' := by
  have hd : DiskAt (w.alloc (.cells (opA o) 33)) p m pv D := h.kept ((Kept.refl No w).alloc _) (fun h => h) (fun h => h) (fun _ _ h => h)
  have HB := Lib.hid (fail_any p m pv D o.n o.e _ hd (wf_range hn))
  obtain ⟨E, hE⟩ : ∃ E : Int, E = (if o.e = 160 ∨ o.e = 7 then 0 else 1) := ⟨_, rfl⟩
  obtain ⟨D', hD'⟩ : ∃ D', D' = (if o.e = 160 ∨ o.e = 7 then D.fail o.n o.e else D) := ⟨_, rfl⟩
  rw [← hE, ← hD'] at HB ⊢
  clear h hE hD' hd
  unfold opA at HB ⊢
  rw [hk] at HB ⊢
  go_enter Try.func13, Try.ntmps13
  go_wp2_with fail
  refine HB.out.mono ?_
  rintro e w2 ⟨rfl, hs⟩
  have HS := Lib.hid hs
  clear hs
  go_wp2
  go_ret
  exact ⟨rfl, HS.out.after ((Kept.refl No w).alloc _)⟩
set_option maxHeartbeats 1000000 in
set_option maxRecDepth 100000 in
theorem call_4 (p m : Nat) (pv : Value) (D : Dk) (o : Opp) (w : World) (h : DiskAt w p m pv D) (hk : o.kind = 4)  :
    Calls Try.prog 13 #[.pointer (some ⟨p, 0, none⟩), .agg (opA o)] w fun e w' => e = .returned (.int .i64 (if (0 ≤ o.at_ ∧ o.at_ < D.size) ∧ 0 ≤ o.torn ∧ o.torn < 256 then 0 else 1)) ∧ Step p m pv (if (0 ≤ o.at_ ∧ o.at_ < D.size) ∧ 0 ≤ o.torn ∧ o.torn < 256 then D.turn o.at_ o.torn.toNat o.fill else D) w w' := by
  have hd : DiskAt (w.alloc (.cells (opA o) 33)) p m pv D := h.kept ((Kept.refl No w).alloc _) (fun h => h) (fun h => h) (fun _ _ h => h)
  have HB := Lib.hid (turn_any p m pv D o.at_ o.torn o.fill _ hd)
  obtain ⟨E, hE⟩ : ∃ E : Int, E = (if (0 ≤ o.at_ ∧ o.at_ < D.size) ∧ 0 ≤ o.torn ∧ o.torn < 256 then 0 else 1) := ⟨_, rfl⟩
  obtain ⟨D', hD'⟩ : ∃ D', D' = (if (0 ≤ o.at_ ∧ o.at_ < D.size) ∧ 0 ≤ o.torn ∧ o.torn < 256 then D.turn o.at_ o.torn.toNat o.fill else D) := ⟨_, rfl⟩
  rw [← hE, ← hD'] at HB ⊢
  clear h hE hD' hd
  unfold opA at HB ⊢
  rw [hk] at HB ⊢
  go_enter Try.func13, Try.ntmps13
  go_wp2_with fail
  refine HB.out.mono ?_
  rintro e w2 ⟨rfl, hs⟩
  have HS := Lib.hid hs
  clear hs
  go_wp2
  go_ret
  exact ⟨rfl, HS.out.after ((Kept.refl No w).alloc _)⟩
set_option maxHeartbeats 1000000 in
set_option maxRecDepth 100000 in
theorem call_no (p m : Nat) (pv : Value) (D : Dk) (o : Opp) (w : World) (h : DiskAt w p m pv D) (h0 : o.kind ≠ 0) (h1 : o.kind ≠ 1) (h2 : o.kind ≠ 2) (h3 : o.kind ≠ 3) (h4 : o.kind ≠ 4) :
    Calls Try.prog 13 #[.pointer (some ⟨p, 0, none⟩), .agg (opA o)] w fun e w' => e = .returned (.int .i64 0) ∧ Step p m pv D w w' := by
  have hd : DiskAt (w.alloc (.cells (opA o) 33)) p m pv D := h.kept ((Kept.refl No w).alloc _) (fun h => h) (fun h => h) (fun _ _ h => h)
  have HD := Lib.hid hd
  have e0 : (o.kind == 0) = false := by simpa using h0
  have e1 : (o.kind == 1) = false := by simpa using h1
  have e2 : (o.kind == 2) = false := by simpa using h2
  have e3 : (o.kind == 3) = false := by simpa using h3
  have e4 : (o.kind == 4) = false := by simpa using h4
  clear h hd h0 h1 h2 h3 h4
  unfold opA at HD ⊢
  go_enter Try.func13, Try.ntmps13
  go_wp2_with fail
  go_ret
  exact ⟨rfl, HD.out.step (S := No) ((Kept.refl No w).alloc _) (fun i hi => hi.elim) (fun _ => .inl)⟩

theorem call_any (p m : Nat) (pv : Value) (D : Dk) (o : Opp) (w : World) (h : DiskAt w p m pv D) (hn : D.pend.length ≤ 1000000000) (ok : o.Ok) :
    Calls Try.prog 13 #[.pointer (some ⟨p, 0, none⟩), .agg (opA o)] w fun e w' => e = .returned (.int .i64 (callOf D o).2) ∧ Step p m pv (callOf D o).1 w w' := by
  unfold callOf
  by_cases h0 : o.kind = 0
  · rw [if_pos h0]
    have := call_0 p m pv D o w h hn h0
    split <;> rename_i hc <;> simp only [hc, if_true, if_false, and_self, ite_true, ite_false] at this ⊢ <;> exact this
  rw [if_neg h0]
  by_cases h1 : o.kind = 1
  · rw [if_pos h1]
    exact call_1 p m pv D o w h h1
  rw [if_neg h1]
  by_cases h2 : o.kind = 2
  · rw [if_pos h2]
    exact call_2 p m pv D o w h h2
  rw [if_neg h2]
  by_cases h3 : o.kind = 3
  · rw [if_pos h3]
    have := call_3 p m pv D o w h h3 ok.2.2.1
    split <;> rename_i hc <;> simp only [hc, if_true, if_false, and_self, ite_true, ite_false] at this ⊢ <;> exact this
  rw [if_neg h3]
  by_cases h4 : o.kind = 4
  · rw [if_pos h4]
    have := call_4 p m pv D o w h h4
    split <;> rename_i hc <;> simp only [hc, if_true, if_false, and_self, ite_true, ite_false] at this ⊢ <;> exact this
  rw [if_neg h4]
  exact call_no p m pv D o w h h0 h1 h2 h3 h4
end Go.Proofs.Ytcbogiebdjbmoaa
