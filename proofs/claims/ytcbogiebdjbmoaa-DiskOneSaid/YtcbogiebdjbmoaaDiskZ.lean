/-
  The law's ops as they come in; played, and alive.
-/
import Derived.Test.YtcbogiebdjbmoaaDiskY
import Derived.Test.YtcbogiebdjbmoaaArg
set_option linter.unusedVariables false
set_option linter.unusedSimpArgs false
namespace Go.Proofs.Ytcbogiebdjbmoaa
open Go.RowKit Go.Maps Go.ChangeShapes Go.WideShapes Go.Deep
open Go.Extern.Stop (cell)

def opL (o : Opp) : List Value := (opA o).toList
theorem op_open {H : Type} {enc : TypeId × Value → H} {w : World} {base : Nat} {spare : Nat → Bool} {held : Bool} {fuel : Nat} {cs : List Value} {x : DataW H × List MemPlace} (hl : cs.length = 7)
    (h : DataW.trod enc Try.prog w base spare held fuel 33 cs = some x) : ∃ o, cs = opL o ∧ o.Ok := by
  have hs := struct_open Try.underlying33 (by kernel_rfl) hl h
  obtain ⟨v0, y0, n0, e0, t0⟩ := hs 0 _ rfl
  obtain ⟨v1, y1, n1, e1, t1⟩ := hs 1 _ rfl
  obtain ⟨v2, y2, n2, e2, t2⟩ := hs 2 _ rfl
  obtain ⟨v3, y3, n3, e3, t3⟩ := hs 3 _ rfl
  obtain ⟨v4, y4, n4, e4, t4⟩ := hs 4 _ rfl
  obtain ⟨v5, y5, n5, e5, t5⟩ := hs 5 _ rfl
  obtain ⟨v6, y6, n6, e6, t6⟩ := hs 6 _ rfl
  obtain ⟨a0, f0, _, w0⟩ := DataW.trod_int Try.underlying3 t0
  obtain ⟨a1, f1, _, w1⟩ := DataW.trod_int Try.underlying3 t1
  obtain ⟨a2, f2, _, w2⟩ := DataW.trod_int Try.underlying3 t2
  obtain ⟨a3, f3, _, w3⟩ := DataW.trod_int Try.underlying3 t3
  obtain ⟨a4, f4, _, w4⟩ := DataW.trod_int Try.underlying5 t4
  obtain ⟨a5, f5, _⟩ := DataW.trod_bool Try.underlying4 t5
  obtain ⟨a6, f6, _, w6⟩ := DataW.trod_int Try.underlying25 t6
  have hx : 0 ≤ a4 ∧ a4 ≤ 255 := by simpa [Lit.wf, IntKind.min, IntKind.max, IntKind.signed, IntKind.bits] using w4
  refine ⟨⟨a0, a1, a2, a3, UInt8.ofNat a4.toNat, a5, a6⟩, ?_, w0, w1, w2, w3, w6⟩
  match cs, hl with
  | [c0, c1, c2, c3, c4, c5, c6], _ =>
    simp at e0 e1 e2 e3 e4 e5 e6 f0 f1 f2 f3 f4 f5 f6
    subst e0 e1 e2 e3 e4 e5 e6 f0 f1 f2 f3 f4 f5 f6
    simp [opL, opA]
    omega
theorem ops_open {H : Type} {enc : TypeId × Value → H} {w : World} {base : Nat} {spare : Nat → Bool} {held : Bool} {fuel : Nat} {v : Value} {x : DataW H × List MemPlace}
    (h : DataW.trod enc Try.prog w base spare held fuel 22 [v] = some x) : ∃ L : List Opp, RowsAt w v 7 (L.map opL) ∧ ∀ o ∈ L, o.Ok := by
  obtain ⟨css, hr, hc⟩ := rows_open Try.underlying22 7 (by kernel_rfl) (by decide) h
  obtain ⟨L, e, hL⟩ := list_of opL Opp.Ok css (fun cs hcs => by
    obtain ⟨hl, n, y, ht⟩ := hc cs hcs
    exact op_open hl ht)
  subst e
  exact ⟨L, hr, hL⟩
theorem size33 : (Try.prog.info? 33).map (·.size) = some 7 := by kernel_rfl

/-! ### since the disk was made -/
def Since (w0 : World) (p m : Nat) (D : Dk) (w : World) : Prop :=
  ∃ pv, DiskAt w p m pv D ∧ Kept (fun i => i = p ∨ i = m) w0 w ∧ ∀ i, pv.ownBlock = some i → w0.heap.size ≤ i
theorem Since.step {w0 w w' : World} {p m : Nat} {pv : Value} {D' : Dk} (k : Kept (fun i => i = p ∨ i = m) w0 w) (ho : ∀ i, pv.ownBlock = some i → w0.heap.size ≤ i) (s : Step p m pv D' w w') : Since w0 p m D' w' := by
  obtain ⟨pv', hd, hk, ho'⟩ := s
  refine ⟨pv', hd, k.andThen hk ?_, fun i hi => ?_⟩
  · rintro i (h | h | h)
    · exact .inl (.inl h)
    · exact .inl (.inr h)
    · exact .inr (ho i h)
  · rcases ho' i hi with h | h
    · exact ho i h
    · exact Nat.le_trans k.size h
theorem Since.kept {w0 w w' : World} {p m : Nat} {D : Dk} (h : Since w0 p m D w) (k : Kept No w w') : Since w0 p m D w' := by
  obtain ⟨pv, hd, hk, ho⟩ := h
  exact ⟨pv, hd.kept k (fun h => h) (fun h => h) (fun _ _ h => h), hk.trans k.of_no, ho⟩
theorem Dk.plan_len (D : Dk) : D.plan.pend.length = D.pend.length := by rw [Dk.plan_pend]
theorem callOf_pend (D : Dk) (o : Opp) : (callOf D o).1.pend.length ≤ D.pend.length + 1 := by
  unfold callOf
  split
  · split
    · show (D.write _ _).pend.length ≤ _
      unfold Dk.write
      split
      · simp [Dk.push, Dk.plan_pend]
      · rw [Dk.plan_pend]; omega
    · simp
  split
  · show D.sync.pend.length ≤ _
    unfold Dk.sync
    split
    · simp [Dk.flush]
    · rw [Dk.plan_pend]; omega
  split
  · simp [Dk.crash]
  split
  · split <;> simp [Dk.fail]
  split
  · split <;> simp [Dk.turn]
  · simp
/-- The disk behind so many ops. -/
def playOp (D : Dk) (o : Opp) : Dk := if o.kind ≠ 3 then (callOf D o).1 else D
def playDk (D : Dk) (L : List Opp) (k : Nat) : Dk := (L.take k).foldl playOp D
theorem playDk_succ (D : Dk) (L : List Opp) (k : Nat) (o : Opp) (h : L[k]? = some o) : playDk D L (k + 1) = playOp (playDk D L k) o := by
  unfold playDk
  rw [List.take_add_one, h]
  simp
theorem playOp_pend (D : Dk) (o : Opp) : (playOp D o).pend.length ≤ D.pend.length + 1 := by
  unfold playOp
  split
  · exact callOf_pend D o
  · omega
theorem foldl_pend (f : Dk → Opp → Dk) (hf : ∀ D o, (f D o).pend.length ≤ D.pend.length + 1) : ∀ (L : List Opp) (D : Dk), (L.foldl f D).pend.length ≤ D.pend.length + L.length
  | [], D => by simp
  | o :: r, D => by
    have h1 := foldl_pend f hf r (f D o)
    have h2 := hf D o
    simp only [List.foldl_cons, List.length_cons]
    omega

set_option maxHeartbeats 1000000 in
set_option maxRecDepth 100000 in
theorem played_bad (n : Int) (v : Value) (w : World) (h : n < 1 ∨ 65536 < n) :
    Calls Try.prog 9 #[.int .i64 n, v] w fun e w' => e = .returned (.pointer none) ∧ w = w' := by
  have HB := Lib.hid (new_bad n w h)
  clear h
  go_enter Try.func9, Try.ntmps9
  go_wp2_with fail
  refine HB.out.mono ?_
  rintro e w' ⟨rfl, rfl⟩
  go_wp2
  go_ret
  exact ⟨rfl, rfl⟩

set_option maxHeartbeats 1000000 in
set_option maxRecDepth 100000 in
theorem played_ok (n : Nat) (v : Value) (L : List Opp) (w : World) (h0 : 1 ≤ n) (h1 : n ≤ 65536) (hR : RowsLow w w.heap.size v 7 (L.map opL)) (hok : ∀ o ∈ L, o.Ok) :
    Calls Try.prog 9 #[.int .i64 n, v] w fun e w' => e = .returned (.pointer (some ⟨w.heap.size + 1, 0, none⟩)) ∧ Since w (w.heap.size + 1) w.heap.size (playDk (Dk.new n) L 60) w' := by
  have HB := Lib.hid (new_ok n w h0 h1)
  obtain ⟨A, cap, rfl, hm⟩ := hR.view
  rw [List.length_map] at hm hR ⊢
  have HR := Lib.hid hR
  have HOK := Lib.hid hok
  clear hR hok
  go_enter Try.func9, Try.ntmps9
  go_wp2_with fail
  refine HB.out.mono ?_
  rintro e w1 ⟨rfl, hd1, hk1, hs1⟩
  have HS : Hid (Since w (w.heap.size + 1) w.heap.size (Dk.new n) w1) := ⟨_, hd1, hk1.of_no, fun i => none_own i⟩
  clear hd1 hk1 hs1
  go_wp2_with fail
  go_loopw [7] (fun i wr => ∃ k : Nat, k ≤ L.length ∧ k ≤ 60 ∧ i = .int .i64 k ∧ Since w (w.heap.size + 1) w.heap.size (playDk (Dk.new n) L k) wr) (fun i _ => 60 - (intOf i).toNat)
  case atStart => exact ⟨0, Nat.zero_le _, Nat.zero_le _, rfl, HS.out⟩
  case round =>
    obtain ⟨k, hk, hk6, rfl, hS⟩ := hrel
    have HS2 := Lib.hid hS
    clear hS
    by_cases hlt : k < L.length ∧ k < 60
    · obtain ⟨hl, h60⟩ := hlt
      obtain ⟨o, ho⟩ : ∃ o, L[k]? = some o := ⟨_, List.getElem?_eq_getElem hl⟩
      obtain ⟨pv, hd, hK, hown⟩ := HS2.out
      have hRw := HR.out.kept hK (fun b hb => by omega)
      obtain ⟨b, off, hbN, hrg, hidx⟩ := hRw.elem (P := Try.prog) (k := k) (x := opL o) (by rw [List.getElem?_map, ho]; rfl) 22 33 Try.underlying22 size33
      have hc0 : wr.cell? ⟨b, off, none⟩ = some (.int .i64 o.kind) := hrg 0 _ rfl
      have hpn : (playDk (Dk.new n) L k).pend.length ≤ 1000000000 := by
        have := foldl_pend playOp playOp_pend (L.take k) (Dk.new n)
        have h2 : (L.take k).length ≤ k := by simp; omega
        unfold playDk
        simp only [Dk.new, List.length_nil] at this ⊢
        omega
      have HC := Lib.hid (call_any _ _ pv _ o wr hd hpn (HOK.out o (List.mem_of_getElem? ho)))
      have HO := Lib.hid ho
      have HKK := Lib.hid hK
      have HOW := Lib.hid hown
      have hu33 := Try.underlying33
      have hRG := Lib.hid hrg
      have hS33 : Hid ((Try.prog.info? 33).map (·.size) = some (opL o).length) := size33
      clear ho hK hown hd hRw hrg
      by_cases hk3 : o.kind = 3
      · go_wp2_with fail
        go_roundw
        case rel =>
          refine ⟨k + 1, by omega, by omega, by go_num, ?_⟩
          rw [playDk_succ _ _ _ _ HO.out, playOp, if_neg (by simpa using hk3)]
          exact HS2.out
        case measure => simp [intOf]; omega
      · have hkk : (o.kind != 3) = true := by simpa using hk3
        go_wp2_with (with_reducible show wpList _ _ _ (⟨_, .load 33 _, _, _, _, _⟩ :: _) _ _; go_must (refine wpList_load_mid rfl 33 _ rfl b off rfl (opL o) _ hRG.out hu33 rfl hS33.out ?_))
        refine HC.out.mono ?_
        rintro e w2 ⟨rfl, hs⟩
        have HST := Lib.hid hs
        clear hs
        go_wp2_with fail
        go_roundw
        case rel =>
          refine ⟨k + 1, by omega, by omega, by go_num, ?_⟩
          rw [playDk_succ _ _ _ _ HO.out, playOp, if_pos (by simpa using hk3)]
          exact Since.step HKK.out HOW.out HST.out
        case measure => simp [intOf]; omega
    · have he : playDk (Dk.new n) L k = playDk (Dk.new n) L 60 := by
        unfold playDk
        congr 1
        rw [List.take_eq_take_iff]
        omega
      rw [he] at HS2
      by_cases hl : k < L.length
      · obtain rfl : k = 60 := by omega
        go_wp2_with fail
        go_ret
        exact ⟨rfl, HS2.out⟩
      · go_wp2_with fail
        go_ret
        exact ⟨rfl, HS2.out⟩
end Go.Proofs.Ytcbogiebdjbmoaa
