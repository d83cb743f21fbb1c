/-
  DiskOne, walked.
-/
import Derived.Test.YtcbogiebdjbmoaaDiskL
import Derived.Test.YtcbogiebdjbmoaaStr
import Derived.Deep.CutBlock
import Derived.Deep.DeepCutAuto
set_option linter.unusedVariables false
set_option linter.unusedSimpArgs false
namespace Go.Proofs.Ytcbogiebdjbmoaa
open Go.RowKit Go.Maps
open Go.Extern.Stop (cell)

def rdB (D : Dk) (i : Int) : List UInt8 := if 0 ≤ i ∧ i < D.size then D.now i else []
def rdE (D : Dk) (i : Int) : Int := if 0 ≤ i ∧ i < D.size then 0 else 1
theorem rdB_le {D : Dk} (ok : D.Ok) (i : Int) : (rdB D i).length ≤ 256 := by
  unfold rdB
  split
  · rw [lastW_now ok]; exact Nat.le_refl _
  · simp
theorem read_any (p m : Nat) (pv : Value) (D : Dk) (at_ : Int) (w : World) (h : DiskAt w p m pv D) :
    Calls Try.prog 12 #[.pointer (some ⟨p, 0, none⟩), .int .i64 at_] w fun e w' => ∃ v, e = .returned (.tuple #[v, .int .i64 (rdE D at_)]) ∧ w'.ownsRow w.heap.size 5 1 v (rdB D at_).length (bcells (rdB D at_)) ∧ Kept No w w' := by
  unfold rdB rdE
  by_cases hr : 0 ≤ at_ ∧ at_ < D.size
  · rw [if_pos hr, if_pos hr, lastW_now h.ok]
    exact read_in p m pv D at_ w h hr.1 hr.2
  · rw [if_neg hr, if_neg hr]
    refine (read_out p m pv D at_ w h hr).mono ?_
    rintro e w' ⟨rfl, rfl⟩
    exact ⟨_, rfl, own_nil' _ _ _ _, Kept.refl _ _⟩

/-- What was read of the first sectors, in an array. -/
def WasTo (w : World) (B base : Nat) (D : Dk) (k : Nat) : Prop :=
  ∃ vs : List Value, vs.length = 8 ∧ w.heap[B]? = some (.cells vs.toArray 29 (0, 0)) ∧ ∀ j, j < k → ∃ v, vs[j]? = some v ∧ w.ownsRow base 5 1 v (rdB D j).length (bcells (rdB D j))
theorem WasTo.kept {S : Nat → Prop} {w w' : World} {B base : Nat} {D : Dk} {k : Nat} (h : WasTo w B base D k) (K : Kept S w w') (hB : ¬ S B) (hS : ∀ i, base ≤ i → ¬ S i) : WasTo w' B base D k := by
  obtain ⟨vs, hl, hb, hv⟩ := h
  refine ⟨vs, hl, (K.block B (Array.getElem?_eq_some_iff.1 hb).1 hB).trans hb, fun j hj => ?_⟩
  obtain ⟨v, h1, h2⟩ := hv j hj
  exact ⟨v, h1, row_kept h2 K (fun i hi => hS i (h2.lt i hi).1)⟩
theorem size28 : (Try.prog.info? 28).map (·.size) = some 1 := by kernel_rfl

def moreOp (D : Dk) (o : Opp) : Dk := if o.kind = 0 then (callOf D o).1 else D
def moreDk (D : Dk) (L : List Opp) (k : Nat) : Dk := (L.take k).foldl moreOp D
theorem moreDk_succ (D : Dk) (L : List Opp) (k : Nat) (o : Opp) (h : L[k]? = some o) : moreDk D L (k + 1) = moreOp (moreDk D L k) o := by
  unfold moreDk
  rw [List.take_add_one, h]
  simp
theorem moreOp_pend (D : Dk) (o : Opp) : (moreOp D o).pend.length ≤ D.pend.length + 1 := by
  unfold moreOp
  split
  · exact callOf_pend D o
  · omega
def mat (now : List UInt8) (i : Nat) (o : Opp) : Bool := (o.kind == 0) && ((o.at_ == (i : Int)) && (!o.bad && (opBytes o == now)))
def wholeTo (L : List Opp) (now : List UInt8) (i k : Nat) (b : Bool) : Bool := b || (L.take k).any (mat now i)
theorem wholeTo_succ (L : List Opp) (now : List UInt8) (i k : Nat) (b : Bool) (o : Opp) (h : L[k]? = some o) : wholeTo L now i (k + 1) b = (wholeTo L now i k b || mat now i o) := by
  unfold wholeTo
  rw [List.take_add_one, h]
  simp [Bool.or_assoc]
def whole0 (Ds Dc : Dk) (i : Nat) : Bool := decide (rdE Dc i ≠ 0) || (rdB Dc i == rdB Ds i)
def wholeF (Ds Dc : Dk) (L : List Opp) (i : Nat) : Bool := wholeTo L (rdB Dc i) i 40 (whole0 Ds Dc i)
def oddTo (Ds Dc : Dk) (L : List Opp) : Nat → Nat
  | 0 => 0
  | k + 1 => oddTo Ds Dc L k + if wholeF Ds Dc L k then 0 else 1
theorem oddTo_le (Ds Dc : Dk) (L : List Opp) : ∀ k, oddTo Ds Dc L k ≤ k
  | 0 => Nat.le_refl _
  | k + 1 => by
    have := oddTo_le Ds Dc L k
    unfold oddTo
    split <;> omega

set_option maxHeartbeats 1000000 in
set_option maxRecDepth 100000 in
theorem one_bad (n : Int) (v v2 : Value) (keep torn : Int) (w : World) (h : n < 1 ∨ 65536 < n) :
    Calls Try.prog 3 #[.int .i64 n, v, v2, .int .i64 keep, .int .i64 torn] w fun e w' => e = .returned (.bool true) ∧ Kept No w w' := by
  have HP := Lib.hid (played_bad n v w h)
  have HA := Lib.hid (alive_any w)
  clear h
  go_enter Try.func3, Try.ntmps3
  go_wp2_with fail
  refine HP.out.mono ?_
  rintro e w' ⟨rfl, rfl⟩
  go_wp2_with fail
  refine HA.out.mono ?_
  rintro e w' ⟨rfl, hk⟩
  go_wp2_with fail
  go_ret
  exact ⟨rfl, hk⟩

set_option maxHeartbeats 8000000 in
set_option maxRecDepth 100000 in
theorem one_ok (n : Nat) (v v2 : Value) (L L2 : List Opp) (keep torn : Int) (w : World) (h0 : 1 ≤ n) (h1 : n ≤ 65536) (hR : RowsLow w w.heap.size v 7 (L.map opL)) (hR2 : RowsLow w w.heap.size v2 7 (L2.map opL)) (hok : ∀ o ∈ L, o.Ok) (hok2 : ∀ o ∈ L2, o.Ok)
    (hpl : (playDk (Dk.new n) L 60).planErr = 0) (hodd : oddTo (playDk (Dk.new n) L 60).plan.flush ((moreDk (playDk (Dk.new n) L 60).plan.flush L2 40).crash keep torn) L2 8 ≤ 1) :
    Calls Try.prog 3 #[.int .i64 n, v, v2, .int .i64 keep, .int .i64 torn] w fun e w' => e = .returned (.bool true) ∧ Kept No w w' := by
  have HP := Lib.hid (played_ok n v L w h0 h1 hR hok)
  have HR2 := Lib.hid hR2
  have HOK2 := Lib.hid hok2
  obtain ⟨Dp, hDp⟩ : ∃ Dp, Dp = playDk (Dk.new n) L 60 := ⟨_, rfl⟩
  rw [← hDp] at HP hpl hodd
  obtain ⟨Ds, hDs⟩ : ∃ Ds, Ds = Dp.plan.flush := ⟨_, rfl⟩
  rw [← hDs] at hodd
  have HDS := Lib.hid hDs
  have HPL := Lib.hid hpl
  have HODD := Lib.hid hodd
  obtain ⟨A2, cap2, rfl, hm2⟩ := hR2.view
  rw [List.length_map] at hm2 HR2 ⊢
  clear hDp hDs hR hok hok2 hR2 hpl hodd
  go_enter Try.func3, Try.ntmps3
  go_wp2_with fail
  refine HP.out.mono ?_
  rintro e w1 ⟨rfl, hs⟩
  obtain ⟨pv1, hd1, hk1, ho1⟩ := hs
  have HY := Lib.hid (sync_in _ _ pv1 Dp w1 hd1 HPL.out)
  have hk1' : Kept No w w1 := hk1.mono (fun i hi h => by omega)
  have HK1 := Lib.hid hk1'
  have hl1 : w.heap.size + 1 < w1.heap.size := hd1.plt
  clear hd1 hk1 ho1 hk1'
  go_wp2_with fail
  refine HY.out.mono ?_
  rintro e w2 ⟨rfl, hd2, hk2⟩
  rw [← HDS.out] at hd2
  have hk2' : Kept No w w2 := HK1.out.andThen hk2 (fun i hi => .inr (by omega))
  have HK2 := Lib.hid hk2'
  have HD2 := Lib.hid hd2
  have hl2 : w.heap.size + 1 < w2.heap.size := hd2.plt
  clear hd2 hk2 hk2'
  go_wp2_with fail
  obtain ⟨B, hB⟩ : ∃ B, B = w2.heap.size := ⟨_, rfl⟩
  have W0 : WasTo (w2.alloc (.cells #[.slice none 0 0, .slice none 0 0, .slice none 0 0, .slice none 0 0, .slice none 0 0, .slice none 0 0, .slice none 0 0, .slice none 0 0] 29)) B (B + 1) Ds 0 := ⟨[.slice none 0 0, .slice none 0 0, .slice none 0 0, .slice none 0 0, .slice none 0 0, .slice none 0 0, .slice none 0 0, .slice none 0 0], rfl, by rw [hB]; exact heap_alloc_new w2 _, fun j hj => by omega⟩
  have D0 : DiskAt (w2.alloc (.cells #[.slice none 0 0, .slice none 0 0, .slice none 0 0, .slice none 0 0, .slice none 0 0, .slice none 0 0, .slice none 0 0, .slice none 0 0] 29)) (w.heap.size + 1) w.heap.size (.slice none 0 0) Ds := HD2.out.kept ((Kept.refl No w2).alloc _) (fun h => h) (fun h => h) (fun _ _ h => h)
  have K0 : Kept No w (w2.alloc (.cells #[.slice none 0 0, .slice none 0 0, .slice none 0 0, .slice none 0 0, .slice none 0 0, .slice none 0 0, .slice none 0 0, .slice none 0 0] 29)) := HK2.out.alloc _
  have hB1 : w.heap.size + 1 < B := by omega
  rw [← hB]
  generalize w2.alloc (.cells #[.slice none 0 0, .slice none 0 0, .slice none 0 0, .slice none 0 0, .slice none 0 0, .slice none 0 0, .slice none 0 0, .slice none 0 0] 29) = w3 at W0 D0 K0 ⊢
  have HW0 := Lib.hid W0
  have HD0 := Lib.hid D0
  have HK0 := Lib.hid K0
  clear W0 D0 K0 hB hl2 hl1 HD2 HK2
  go_loopw [13] (fun i wr => ∃ k : Nat, k ≤ 8 ∧ i = .int .i64 k ∧ WasTo wr B (B + 1) Ds k ∧ DiskAt wr (w.heap.size + 1) w.heap.size (.slice none 0 0) Ds ∧ Kept No w wr) (fun i _ => 8 - (intOf i).toNat)
  case atStart => exact ⟨0, by omega, rfl, HW0.out, HD0.out, HK0.out⟩
  case round =>
    obtain ⟨k, hk, rfl, hW, hd, hK⟩ := hrel
    have HW := Lib.hid hW
    have HD := Lib.hid hd
    have HK := Lib.hid hK
    clear hW hd hK
    by_cases hlt : k < 8
    · have HR := Lib.hid (read_any _ _ _ Ds k wr HD.out)
      have hia := run_index_arr (P := Try.prog) 29 28 8 Try.underlying29 size28 B 0 k hlt
      rw [Nat.zero_add] at hia
      have i0 : (0 : Int) ≤ (k : Int) := by omega
      have i1 : (k : Int) < 8 := by omega
      go_wp2_with fail
      refine HR.out.mono ?_
      rintro e w4 ⟨v4, rfl, hO, hK4⟩
      obtain ⟨A4, cap4, hv4, _⟩ := row_view hO
      subst hv4
      have hW4 := HW.out.kept hK4 (fun h => h) (fun _ _ h => h)
      obtain ⟨vs, hvl, hvb, hvs⟩ := hW4
      obtain ⟨u, hu⟩ : ∃ u, vs[k]? = some u := ⟨_, List.getElem?_eq_getElem (by omega)⟩
      have hc4 : w4.cell? ⟨B, k, none⟩ = some u := by rw [cell_of_row _ _ _ _ _ _ hvb]; simpa using hu
      have hf4 : w4.frozen? ⟨B, k, none⟩ = false := frozen_of_row _ _ _ _ _ hvb
      have HO := Lib.hid hO
      have HK4 := Lib.hid hK4
      have HVS := Lib.hid hvs
      have HVB := Lib.hid hvb
      have hBw : B < wr.heap.size := by
        obtain ⟨_, _, hb, _⟩ := HW.out
        exact (Array.getElem?_eq_some_iff.1 hb).1
      clear hO hK4 hvs hvb hu
      go_wp2_with fail
      go_roundw
      case rel =>
        have k5 : Kept (fun i => i = B) w4 (w4.setCell ⟨B, k, none⟩ (.slice A4 (rdB Ds k).length cap4)) := Kept.setCell (S := (· = B)) (Kept.refl _ w4) _ _ (.inl rfl)
        refine ⟨k + 1, by omega, by go_num, ⟨vs.set k (.slice A4 (rdB Ds k).length cap4), by simp [hvl], ?_, fun j hj => ?_⟩, ?_, ?_⟩
        · rw [heap_setCell_same w4 B k _ _ _ HVB.out]
          simp
        · by_cases hjk : j = k
          · subst hjk
            refine ⟨.slice A4 (rdB Ds j).length cap4, List.getElem?_set_self (by omega), ?_⟩
            have h1 : w4.ownsRow (B + 1) 5 1 (.slice A4 (rdB Ds j).length cap4) (rdB Ds j).length (bcells (rdB Ds j)) := row_base HO.out (by omega)
            exact row_kept h1 k5 (fun i hi e => by have := (h1.lt i hi).1; omega)
          · obtain ⟨v', h1, h2⟩ := HVS.out j (by omega)
            refine ⟨v', by rw [List.getElem?_set_ne (by omega)]; exact h1, ?_⟩
            exact row_kept h2 k5 (fun i hi e => by have := (h2.lt i hi).1; omega)
        · exact (HD.out.kept HK4.out (fun h => h) (fun h => h) (fun _ _ h => h)).kept k5 (by omega) (by omega) (fun i hi => none_own i hi)
        · exact (HK.out.trans HK4.out).andThen k5 (fun i hi => .inr (by have hi : i = B := hi; omega))
      case measure => simp [intOf]; omega
    · obtain rfl : k = 8 := by omega
      rw [show ((8 : Nat) : Int) = 8 from rfl]
      have hS0 : Since wr (w.heap.size + 1) w.heap.size Ds wr := ⟨_, HD.out, Kept.refl _ _, fun i => none_own i⟩
      have HS0 := Lib.hid hS0
      have hBwr : B < wr.heap.size := by
        obtain ⟨_, _, hb, _⟩ := HW.out
        exact (Array.getElem?_eq_some_iff.1 hb).1
      obtain ⟨w5, hw5⟩ : ∃ x, x = wr := ⟨_, rfl⟩
      subst hw5
      clear hS0
      go_upto_block 2 with fail
      go_cut [14] (fun s wx => Since w5 (w.heap.size + 1) w.heap.size (moreDk Ds L2 40) wx)
      case first =>
       go_wp2_with fail
       go_loopw [14] (fun i wr => ∃ k : Nat, k ≤ L2.length ∧ k ≤ 40 ∧ i = .int .i64 k ∧ Since w5 (w.heap.size + 1) w.heap.size (moreDk Ds L2 k) wr) (fun i _ => 40 - (intOf i).toNat)
       case atStart => exact ⟨0, Nat.zero_le _, Nat.zero_le _, rfl, HS0.out⟩
       case round =>
         obtain ⟨k, hk, hk4, rfl, hS⟩ := hrel
         have HS2 := Lib.hid hS
         clear hS
         by_cases hlt : k < L2.length ∧ k < 40
         · obtain ⟨hl, h40⟩ := hlt
           obtain ⟨o, ho⟩ : ∃ o, L2[k]? = some o := ⟨_, List.getElem?_eq_getElem hl⟩
           obtain ⟨pv, hd, hK, hown⟩ := HS2.out
           have hRw := (HR2.out.kept HK.out (fun b _ => fun h => h)).kept hK (fun b hb => by omega)
           obtain ⟨b, off, hbN, hrg, hidx⟩ := hRw.elem (P := Try.prog) (k := k) (x := opL o) (by rw [List.getElem?_map, ho]; rfl) 22 33 Try.underlying22 size33
           have hc0 : wr.cell? ⟨b, off, none⟩ = some (.int .i64 o.kind) := hrg 0 _ rfl
           have hpn : (moreDk Ds L2 k).pend.length ≤ 1000000000 := by
             have := foldl_pend moreOp moreOp_pend (L2.take k) Ds
             have h2 : (L2.take k).length ≤ k := by simp; omega
             have h3 : Ds.pend.length = 0 := by rw [HDS.out]; rfl
             unfold moreDk
             omega
           have HC := Lib.hid (call_any _ _ pv _ o wr hd hpn (HOK2.out o (List.mem_of_getElem? ho)))
           have HO := Lib.hid ho
           have HKK := Lib.hid hK
           have HOW := Lib.hid hown
           have hu33 := Try.underlying33
           have hRG := Lib.hid hrg
           have hS33 : Hid ((Try.prog.info? 33).map (·.size) = some (opL o).length) := size33
           clear ho hK hown hd hRw hrg
           by_cases hk3 : o.kind = 0
           · have hkk : (o.kind == 0) = true := by simpa using hk3
             have HK3 := Lib.hid hk3
             clear hk3
             go_wp2_with (with_reducible show wpList _ _ _ (⟨_, .load 33 _, _, _, _, _⟩ :: _) _ _; go_must (refine wpList_load_mid rfl 33 _ rfl b off rfl (opL o) _ hRG.out hu33 rfl hS33.out ?_))
             refine HC.out.mono ?_
             rintro e w2 ⟨rfl, hs⟩
             have HST := Lib.hid hs
             clear hs
             go_wp2_with fail
             go_roundw
             case rel =>
               refine ⟨k + 1, by omega, by omega, by go_num, ?_⟩
               rw [moreDk_succ _ _ _ _ HO.out, moreOp, if_pos HK3.out]
               exact Since.step HKK.out HOW.out HST.out
             case measure => simp [intOf]; omega
           · have hkk : (o.kind == 0) = false := by simpa using hk3
             go_wp2_with fail
             go_roundw
             case rel =>
               refine ⟨k + 1, by omega, by omega, by go_num, ?_⟩
               rw [moreDk_succ _ _ _ _ HO.out, moreOp, if_neg hk3]
               exact HS2.out
             case measure => simp [intOf]; omega
         · have he : moreDk Ds L2 k = moreDk Ds L2 40 := by
             unfold moreDk
             congr 1
             rw [List.take_eq_take_iff]
             omega
           rw [he] at HS2
           by_cases hl : k < L2.length
           · obtain rfl : k = 40 := by omega
             go_wp2_with fail
             go_meet
             exact HS2.out
           · go_wp2_with fail
             go_meet
             exact HS2.out
      case rest =>
        obtain ⟨pv6, hd6, hk6, ho6⟩ := hcut
        have HC := Lib.hid (crash_any _ _ pv6 _ keep torn wc hd6)
        have W6 := HW.out.kept hk6 (by omega) (fun i hi => by omega)
        have K6 : Kept No w wc := HK.out.andThen hk6 (fun i hi => .inr (by omega))
        have HW6 := Lib.hid W6
        have HK6 := Lib.hid K6
        have hp6 := hd6.plt
        clear hd6 hk6 ho6 W6 K6
        go_wp2_with fail
        refine HC.out.mono ?_
        rintro e w7 ⟨rfl, hd7, hk7⟩
        have W7 := HW6.out.kept hk7 (by omega) (fun i hi => by omega)
        have K7 : Kept No w w7 := HK6.out.andThen hk7 (fun i hi => .inr (by omega))
        clear HC HW6 HK6 hk7 HS0 HW HD HK
        obtain ⟨Dc, hDc⟩ : ∃ Dc, Dc = (moreDk Ds L2 40).crash keep torn := ⟨_, rfl⟩
        rw [← hDc] at hd7 HODD
        have HW7 := Lib.hid W7
        have HK7 := Lib.hid K7
        have HD7 := Lib.hid hd7
        have R7 := HR2.out.kept K7 (fun b _ => fun h => h)
        have HR7 := Lib.hid R7
        clear hDc W7 K7 hd7 R7
        go_wp2_with fail
        go_loopw [16, 15] (fun i od wr => ∃ k : Nat, k ≤ 8 ∧ i = .int .i64 k ∧ od = .int .i64 (oddTo Ds Dc L2 k : Nat) ∧ Kept No w7 wr) (fun i _ _ => 8 - (intOf i).toNat)
        case atStart => exact ⟨0, by omega, rfl, rfl, Kept.refl _ _⟩
        case round =>
          obtain ⟨k, hk, rfl, rfl, hK⟩ := hrel
          have hod := oddTo_le Ds Dc L2 k
          have HK8 := Lib.hid hK
          clear hK
          by_cases hlt : k < 8
          · have HRD := Lib.hid (read_any _ _ _ Dc k wr (HD7.out.kept HK8.out (fun h => h) (fun h => h) (fun _ _ h => h)))
            go_wp2_with fail
            refine HRD.out.mono ?_
            rintro e w8 ⟨v8, rfl, hO, hK8⟩
            have K8 := HK8.out.trans hK8
            obtain ⟨vs, hvl, hvb, hvs⟩ := HW7.out.kept K8 (fun h => h) (fun _ _ h => h)
            obtain ⟨u, hu, hou⟩ := hvs k hlt
            have hc8 : w8.cell? ⟨B, k, none⟩ = some u := by rw [cell_of_row _ _ _ _ _ _ hvb]; simpa using hu
            obtain ⟨Au, capu, hvu, _⟩ := row_view hou
            obtain ⟨A8, cap8, hv8, hn8, _, hA8⟩ := row_view hO
            subst hvu hv8
            have HO := Lib.hid hO
            have HOU := Lib.hid hou
            have HKK8 := Lib.hid K8
            have hia := run_index_arr (P := Try.prog) 29 28 8 Try.underlying29 size28 B 0 k hlt
            rw [Nat.zero_add] at hia
            have i0 : (0 : Int) ≤ (k : Int) := by omega
            have i1 : (k : Int) < 8 := by omega
            clear hO hou hvb hvs hu K8 hK8 hA8
            go_upto_region 20 with fail
            go_cut [18, 19] (fun s18 s19 wx => s19 = .bool (whole0 Ds Dc k) ∧ Kept No w8 wx)
            case first =>
              have he : rdE Dc k = 0 ∨ rdE Dc k = 1 := by unfold rdE; split <;> simp
              rcases he with he | he
              · rw [he]
                have hwh : ((str (rdB Dc k)).toList == (str (rdB Ds k)).toList) = whole0 Ds Dc k := by rw [str_list, str_list]; unfold whole0; rw [he]; simp
                clear he
                refine any_start (by kernel_rfl) fun w4 hd4 => ?_
                have kW4 : Kept No w8 w4 := hd4.kept No
                refine any_take0 (i := 0) (v := ?v1) rfl (by kernel_rfl) (by kernel_rfl) (by kernel_rfl) (fun _ _ _ h => h) rfl ?hy1 ?_
                case hy1 => intro w'; go_simp; try with_reducible rfl
                simp only [Act.put, List.setIfInBounds_toArray, List.set_cons_zero, List.set_cons_succ]
                refine any_take0 (i := 1) (v := ?v2) rfl (by kernel_rfl) (by kernel_rfl) (by kernel_rfl) (fun _ _ _ h => h) rfl ?hy2 ?_
                case hy2 => intro w'; go_simp; try with_reducible rfl
                simp only [Act.put, List.setIfInBounds_toArray, List.set_cons_zero, List.set_cons_succ]
                refine any_take0 (i := 2) (v := ?v3) rfl (by kernel_rfl) (by kernel_rfl) (by kernel_rfl) (fun _ _ _ h => h) rfl ?hy3 ?_
                case hy3 => intro w'; go_simp; try with_reducible rfl
                simp only [Act.put, List.setIfInBounds_toArray, List.set_cons_zero, List.set_cons_succ]
                refine any_take0w (i := 3) (v := ?v4) rfl (by kernel_rfl) (by kernel_rfl) (by kernel_rfl) (fun _ _ _ h => h) rfl ?hy4 ?_
                case hy4 => intro w'; go_simp; try with_reducible rfl
                simp only [Act.put, List.setIfInBounds_toArray, List.set_cons_zero, List.set_cons_succ]
                refine any_take0w (i := 5) (v := ?v5) rfl (by kernel_rfl) (by kernel_rfl) (by kernel_rfl) (fun _ _ _ h => h) rfl ?hy5 ?_
                case hy5 => intro w'; go_simp; try with_reducible rfl
                simp only [Act.put, List.setIfInBounds_toArray, List.set_cons_zero, List.set_cons_succ]
                refine any_take0w (i := 6) (v := ?v6) rfl (by kernel_rfl) (by kernel_rfl) (by kernel_rfl) (fun _ _ _ h => h) rfl ?hy6 ?_
                case hy6 => intro w'; go_simp; try with_reducible rfl
                simp only [Act.put, List.setIfInBounds_toArray, List.set_cons_zero, List.set_cons_succ]
                refine any_takew (i := 4) (v := ?v7) rfl (by kernel_rfl) (by kernel_rfl) (by kernel_rfl) (by kernel_rfl) (fun _ _ _ h => h) rfl kW4 ?hy7 ?_
                case hy7 => intro w' hw'; have hc := conv_row (P := Try.prog) (row_kept HO.out hw' (fun _ _ h => h)) rfl 28 9 5 Try.underlying28 Try.underlying5 Try.underlying9; go_simp; try with_reducible rfl
                simp only [Act.put, List.setIfInBounds_toArray, List.set_cons_zero, List.set_cons_succ]
                refine any_takew (i := 7) (v := ?v8) rfl (by kernel_rfl) (by kernel_rfl) (by kernel_rfl) (by kernel_rfl) (fun _ _ _ h => h) rfl kW4 ?hy8 ?_
                case hy8 => intro w' hw'; have hc := hw'.cellAt hc8; go_simp; try with_reducible rfl
                simp only [Act.put, List.setIfInBounds_toArray, List.set_cons_zero, List.set_cons_succ]
                refine any_takew (i := 8) (v := ?v9) rfl (by kernel_rfl) (by kernel_rfl) (by kernel_rfl) (by kernel_rfl) (fun _ _ _ h => h) rfl kW4 ?hy9 ?_
                case hy9 => intro w' hw'; have hc := conv_row (P := Try.prog) (row_kept HOU.out hw' (fun _ _ h => h)) rfl 28 9 5 Try.underlying28 Try.underlying5 Try.underlying9; go_simp; try with_reducible rfl
                simp only [Act.put, List.setIfInBounds_toArray, List.set_cons_zero, List.set_cons_succ]
                refine any_take0w (i := 9) (v := ?v10) rfl (by kernel_rfl) (by kernel_rfl) (by kernel_rfl) (fun _ _ _ h => h) rfl ?hy10 ?_
                case hy10 => intro w'; go_simp; try with_reducible rfl
                simp only [Act.put, List.setIfInBounds_toArray, List.set_cons_zero, List.set_cons_succ]
                refine any_take0 (i := 10) (v := ?v11) rfl (by kernel_rfl) (by kernel_rfl) (by kernel_rfl) (fun _ _ _ h => h) rfl ?hy11 ?_
                case hy11 => intro w'; go_simp; try with_reducible rfl
                simp only [Act.put, List.setIfInBounds_toArray, List.set_cons_zero, List.set_cons_succ]
                refine any_take0 (i := 11) (v := ?v12) rfl (by kernel_rfl) (by kernel_rfl) (by kernel_rfl) (fun _ _ _ h => h) rfl ?hy12 ?_
                case hy12 => intro w'; go_simp; try with_reducible rfl
                simp only [Act.put, List.setIfInBounds_toArray, List.set_cons_zero, List.set_cons_succ]
                refine any_done (by kernel_rfl) ?_ _
                go_wp2
                go_meet
                exact ⟨rfl, kW4⟩
              · rw [he]
                have hwh : whole0 Ds Dc k = true := by unfold whole0; rw [he]; simp
                have HWH := Lib.hid hwh
                clear he hwh
                refine any_start (by kernel_rfl) fun w4 hd4 => ?_
                have kW4 : Kept No w8 w4 := hd4.kept No
                refine any_take0 (i := 0) (v := ?v13) rfl (by kernel_rfl) (by kernel_rfl) (by kernel_rfl) (fun _ _ _ h => h) rfl ?hy13 ?_
                case hy13 => intro w'; go_simp; try with_reducible rfl
                simp only [Act.put, List.setIfInBounds_toArray, List.set_cons_zero, List.set_cons_succ]
                refine any_take0 (i := 1) (v := ?v14) rfl (by kernel_rfl) (by kernel_rfl) (by kernel_rfl) (fun _ _ _ h => h) rfl ?hy14 ?_
                case hy14 => intro w'; go_simp; try with_reducible rfl
                simp only [Act.put, List.setIfInBounds_toArray, List.set_cons_zero, List.set_cons_succ]
                refine any_take0 (i := 2) (v := ?v15) rfl (by kernel_rfl) (by kernel_rfl) (by kernel_rfl) (fun _ _ _ h => h) rfl ?hy15 ?_
                case hy15 => intro w'; go_simp; try with_reducible rfl
                simp only [Act.put, List.setIfInBounds_toArray, List.set_cons_zero, List.set_cons_succ]
                refine any_skip (i := 3) rfl (by kernel_rfl) (by kernel_rfl) (by kernel_rfl) (fun _ _ _ h => h) rfl ?_
                simp only [Act.put, List.setIfInBounds_toArray, List.set_cons_zero, List.set_cons_succ]
                refine any_skip (i := 4) rfl (by kernel_rfl) (by kernel_rfl) (by kernel_rfl) (fun _ _ _ h => h) rfl ?_
                simp only [Act.put, List.setIfInBounds_toArray, List.set_cons_zero, List.set_cons_succ]
                refine any_skip (i := 5) rfl (by kernel_rfl) (by kernel_rfl) (by kernel_rfl) (fun _ _ _ h => h) rfl ?_
                simp only [Act.put, List.setIfInBounds_toArray, List.set_cons_zero, List.set_cons_succ]
                refine any_skip (i := 6) rfl (by kernel_rfl) (by kernel_rfl) (by kernel_rfl) (fun _ _ _ h => h) rfl ?_
                simp only [Act.put, List.setIfInBounds_toArray, List.set_cons_zero, List.set_cons_succ]
                refine any_skip (i := 7) rfl (by kernel_rfl) (by kernel_rfl) (by kernel_rfl) (fun _ _ _ h => h) rfl ?_
                simp only [Act.put, List.setIfInBounds_toArray, List.set_cons_zero, List.set_cons_succ]
                refine any_skip (i := 8) rfl (by kernel_rfl) (by kernel_rfl) (by kernel_rfl) (fun _ _ _ h => h) rfl ?_
                simp only [Act.put, List.setIfInBounds_toArray, List.set_cons_zero, List.set_cons_succ]
                refine any_skip (i := 9) rfl (by kernel_rfl) (by kernel_rfl) (by kernel_rfl) (fun _ _ _ h => h) rfl ?_
                simp only [Act.put, List.setIfInBounds_toArray, List.set_cons_zero, List.set_cons_succ]
                refine any_take0 (i := 10) (v := ?v16) rfl (by kernel_rfl) (by kernel_rfl) (by kernel_rfl) (fun _ _ _ h => h) rfl ?hy16 ?_
                case hy16 => intro w'; go_simp; try with_reducible rfl
                simp only [Act.put, List.setIfInBounds_toArray, List.set_cons_zero, List.set_cons_succ]
                refine any_take0 (i := 11) (v := ?v17) rfl (by kernel_rfl) (by kernel_rfl) (by kernel_rfl) (fun _ _ _ h => h) rfl ?hy17 ?_
                case hy17 => intro w'; go_simp; try with_reducible rfl
                simp only [Act.put, List.setIfInBounds_toArray, List.set_cons_zero, List.set_cons_succ]
                refine any_done (by kernel_rfl) ?_ _
                go_wp2
                go_meet
                exact ⟨by rw [HWH.out], kW4⟩
            case rest =>
              obtain ⟨rfl, hk9⟩ := hcut
              have K9 := HKK8.out.trans hk9
              have R9 := HR7.out.kept K9 (fun b _ => fun h => h)
              have hO9 := row_kept HO.out hk9 (fun _ _ h => h)
              have HK9 := Lib.hid K9
              have HR9 := Lib.hid R9
              have HO9 := Lib.hid hO9
              obtain ⟨w9, hw9⟩ : ∃ x, x = wc := ⟨_, rfl⟩
              subst hw9
              obtain ⟨wh0, hwh0⟩ : ∃ b, b = whole0 Ds Dc k := ⟨_, rfl⟩
              have HWH0 := Lib.hid hwh0
              rw [← hwh0]
              obtain ⟨nb, hnb⟩ : ∃ b, b = rdB Dc k := ⟨_, rfl⟩
              have HNB := Lib.hid hnb
              rw [← hnb] at HO9 ⊢
              clear hk9 K9 R9 hO9 hc8 hia hwh0 hnb HKK8 HO HOU HRD
              go_upto_block 6 with fail
              go_cut [19, 20] (fun s19 s20 wx => s19 = .bool (wholeTo L2 nb k 40 wh0) ∧ Kept No w9 wx)
              case first =>
                go_wp2_with fail
                go_loopw [20, 19] (fun i b wr => ∃ q : Nat, q ≤ L2.length ∧ q ≤ 40 ∧ i = .int .i64 q ∧ b = .bool (wholeTo L2 nb k q wh0) ∧ Kept No w9 wr) (fun i _ _ => 40 - (intOf i).toNat)
                case atStart => exact ⟨0, Nat.zero_le _, Nat.zero_le _, rfl, by simp [wholeTo], Kept.refl _ _⟩
                case round =>
                  obtain ⟨q, hq, hq4, rfl, rfl, hK⟩ := hrel
                  by_cases hlt : q < L2.length ∧ q < 40
                  · obtain ⟨hl, h40⟩ := hlt
                    obtain ⟨o, ho⟩ : ∃ o, L2[q]? = some o := ⟨_, List.getElem?_eq_getElem hl⟩
                    obtain ⟨b, off, hbN, hrg, hidx⟩ := (HR9.out.kept hK (fun b _ => fun h => h)).elem (P := Try.prog) (k := q) (x := opL o) (by rw [List.getElem?_map, ho]; rfl) 22 33 Try.underlying22 size33
                    have hbw : b < wr.heap.size := by
                      have h1 : wr.cell? ⟨b, off, none⟩ = some (.int .i64 o.kind) := hrg 0 _ rfl
                      exact World.block_lt_of_cell? wr _ h1
                    have hO9r := row_kept HO9.out hK (fun _ _ h => h)
                    have hsucc := wholeTo_succ L2 nb k q wh0 o ho
                    have HSUC := Lib.hid hsucc
                    have HKW := Lib.hid hK
                    have HRG := Lib.hid hrg
                    have HO9r := Lib.hid hO9r
                    obtain ⟨wb, hwb⟩ : ∃ x, x = wholeTo L2 nb k q wh0 := ⟨_, rfl⟩
                    rw [← hwb] at HSUC ⊢
                    have cK : wr.cell? ⟨b, off, none⟩ = some (.int .i64 o.kind) := hrg 0 _ rfl
                    have cA : wr.cell? ⟨b, off + 1, none⟩ = some (.int .i64 o.at_) := hrg 1 _ rfl
                    have cB : wr.cell? ⟨b, off + 5, none⟩ = some (.bool o.bad) := hrg 5 _ rfl
                    have hu33 := Try.underlying33
                    have hS33 : Hid ((Try.prog.info? 33).map (·.size) = some (opL o).length) := size33
                    clear ho hK hrg hO9r hsucc hwb
                    go_wp2_with fail
                    cases wb with
                    | true =>
                      refine any_start (by kernel_rfl) fun w4 hd4 => ?_
                      have kW4 : Kept No wr w4 := hd4.kept No
                      refine any_take0 (i := 0) (v := ?v18) rfl (by kernel_rfl) (by kernel_rfl) (by kernel_rfl) (fun _ _ _ h => h) rfl ?hy18 ?_
                      case hy18 => intro w'; go_simp; try with_reducible rfl
                      simp only [Act.put, List.setIfInBounds_toArray, List.set_cons_zero, List.set_cons_succ]
                      refine any_take0 (i := 1) (v := ?v19) rfl (by kernel_rfl) (by kernel_rfl) (by kernel_rfl) (fun _ _ _ h => h) rfl ?hy19 ?_
                      case hy19 => intro w'; go_simp; try with_reducible rfl
                      simp only [Act.put, List.setIfInBounds_toArray, List.set_cons_zero, List.set_cons_succ]
                      refine any_skip (i := 2) rfl (by kernel_rfl) (by kernel_rfl) (by kernel_rfl) (fun _ _ _ h => h) rfl ?_
                      simp only [Act.put, List.setIfInBounds_toArray, List.set_cons_zero, List.set_cons_succ]
                      refine any_skip (i := 3) rfl (by kernel_rfl) (by kernel_rfl) (by kernel_rfl) (fun _ _ _ h => h) rfl ?_
                      simp only [Act.put, List.setIfInBounds_toArray, List.set_cons_zero, List.set_cons_succ]
                      refine any_skip (i := 4) rfl (by kernel_rfl) (by kernel_rfl) (by kernel_rfl) (fun _ _ _ h => h) rfl ?_
                      simp only [Act.put, List.setIfInBounds_toArray, List.set_cons_zero, List.set_cons_succ]
                      refine any_skip (i := 5) rfl (by kernel_rfl) (by kernel_rfl) (by kernel_rfl) (fun _ _ _ h => h) rfl ?_
                      simp only [Act.put, List.setIfInBounds_toArray, List.set_cons_zero, List.set_cons_succ]
                      refine any_skip (i := 6) rfl (by kernel_rfl) (by kernel_rfl) (by kernel_rfl) (fun _ _ _ h => h) rfl ?_
                      simp only [Act.put, List.setIfInBounds_toArray, List.set_cons_zero, List.set_cons_succ]
                      refine any_skip (i := 7) rfl (by kernel_rfl) (by kernel_rfl) (by kernel_rfl) (fun _ _ _ h => h) rfl ?_
                      simp only [Act.put, List.setIfInBounds_toArray, List.set_cons_zero, List.set_cons_succ]
                      refine any_skip (i := 8) rfl (by kernel_rfl) (by kernel_rfl) (by kernel_rfl) (fun _ _ _ h => h) rfl ?_
                      simp only [Act.put, List.setIfInBounds_toArray, List.set_cons_zero, List.set_cons_succ]
                      refine any_skip (i := 9) rfl (by kernel_rfl) (by kernel_rfl) (by kernel_rfl) (fun _ _ _ h => h) rfl ?_
                      simp only [Act.put, List.setIfInBounds_toArray, List.set_cons_zero, List.set_cons_succ]
                      refine any_skip (i := 10) rfl (by kernel_rfl) (by kernel_rfl) (by kernel_rfl) (fun _ _ _ h => h) rfl ?_
                      simp only [Act.put, List.setIfInBounds_toArray, List.set_cons_zero, List.set_cons_succ]
                      refine any_skip (i := 11) rfl (by kernel_rfl) (by kernel_rfl) (by kernel_rfl) (fun _ _ _ h => h) rfl ?_
                      simp only [Act.put, List.setIfInBounds_toArray, List.set_cons_zero, List.set_cons_succ]
                      refine any_skip (i := 12) rfl (by kernel_rfl) (by kernel_rfl) (by kernel_rfl) (fun _ _ _ h => h) rfl ?_
                      simp only [Act.put, List.setIfInBounds_toArray, List.set_cons_zero, List.set_cons_succ]
                      refine any_skip (i := 13) rfl (by kernel_rfl) (by kernel_rfl) (by kernel_rfl) (fun _ _ _ h => h) rfl ?_
                      simp only [Act.put, List.setIfInBounds_toArray, List.set_cons_zero, List.set_cons_succ]
                      refine any_skip (i := 14) rfl (by kernel_rfl) (by kernel_rfl) (by kernel_rfl) (fun _ _ _ h => h) rfl ?_
                      simp only [Act.put, List.setIfInBounds_toArray, List.set_cons_zero, List.set_cons_succ]
                      refine any_skip (i := 15) rfl (by kernel_rfl) (by kernel_rfl) (by kernel_rfl) (fun _ _ _ h => h) rfl ?_
                      simp only [Act.put, List.setIfInBounds_toArray, List.set_cons_zero, List.set_cons_succ]
                      refine any_skip (i := 16) rfl (by kernel_rfl) (by kernel_rfl) (by kernel_rfl) (fun _ _ _ h => h) rfl ?_
                      simp only [Act.put, List.setIfInBounds_toArray, List.set_cons_zero, List.set_cons_succ]
                      refine any_skip (i := 17) rfl (by kernel_rfl) (by kernel_rfl) (by kernel_rfl) (fun _ _ _ h => h) rfl ?_
                      simp only [Act.put, List.setIfInBounds_toArray, List.set_cons_zero, List.set_cons_succ]
                      refine any_skip (i := 18) rfl (by kernel_rfl) (by kernel_rfl) (by kernel_rfl) (fun _ _ _ h => h) rfl ?_
                      simp only [Act.put, List.setIfInBounds_toArray, List.set_cons_zero, List.set_cons_succ]
                      refine any_skip (i := 19) rfl (by kernel_rfl) (by kernel_rfl) (by kernel_rfl) (fun _ _ _ h => h) rfl ?_
                      simp only [Act.put, List.setIfInBounds_toArray, List.set_cons_zero, List.set_cons_succ]
                      refine any_skip (i := 20) rfl (by kernel_rfl) (by kernel_rfl) (by kernel_rfl) (fun _ _ _ h => h) rfl ?_
                      simp only [Act.put, List.setIfInBounds_toArray, List.set_cons_zero, List.set_cons_succ]
                      refine any_skip (i := 21) rfl (by kernel_rfl) (by kernel_rfl) (by kernel_rfl) (fun _ _ _ h => h) rfl ?_
                      simp only [Act.put, List.setIfInBounds_toArray, List.set_cons_zero, List.set_cons_succ]
                      refine any_skip (i := 22) rfl (by kernel_rfl) (by kernel_rfl) (by kernel_rfl) (fun _ _ _ h => h) rfl ?_
                      simp only [Act.put, List.setIfInBounds_toArray, List.set_cons_zero, List.set_cons_succ]
                      refine any_skip (i := 23) rfl (by kernel_rfl) (by kernel_rfl) (by kernel_rfl) (fun _ _ _ h => h) rfl ?_
                      simp only [Act.put, List.setIfInBounds_toArray, List.set_cons_zero, List.set_cons_succ]
                      refine any_skip (i := 24) rfl (by kernel_rfl) (by kernel_rfl) (by kernel_rfl) (fun _ _ _ h => h) rfl ?_
                      simp only [Act.put, List.setIfInBounds_toArray, List.set_cons_zero, List.set_cons_succ]
                      refine any_skip (i := 25) rfl (by kernel_rfl) (by kernel_rfl) (by kernel_rfl) (fun _ _ _ h => h) rfl ?_
                      simp only [Act.put, List.setIfInBounds_toArray, List.set_cons_zero, List.set_cons_succ]
                      refine any_skip (i := 26) rfl (by kernel_rfl) (by kernel_rfl) (by kernel_rfl) (fun _ _ _ h => h) rfl ?_
                      simp only [Act.put, List.setIfInBounds_toArray, List.set_cons_zero, List.set_cons_succ]
                      refine any_skip (i := 27) rfl (by kernel_rfl) (by kernel_rfl) (by kernel_rfl) (fun _ _ _ h => h) rfl ?_
                      simp only [Act.put, List.setIfInBounds_toArray, List.set_cons_zero, List.set_cons_succ]
                      refine any_skip (i := 28) rfl (by kernel_rfl) (by kernel_rfl) (by kernel_rfl) (fun _ _ _ h => h) rfl ?_
                      simp only [Act.put, List.setIfInBounds_toArray, List.set_cons_zero, List.set_cons_succ]
                      refine any_skip (i := 29) rfl (by kernel_rfl) (by kernel_rfl) (by kernel_rfl) (fun _ _ _ h => h) rfl ?_
                      simp only [Act.put, List.setIfInBounds_toArray, List.set_cons_zero, List.set_cons_succ]
                      refine any_skip (i := 30) rfl (by kernel_rfl) (by kernel_rfl) (by kernel_rfl) (fun _ _ _ h => h) rfl ?_
                      simp only [Act.put, List.setIfInBounds_toArray, List.set_cons_zero, List.set_cons_succ]
                      refine any_skip (i := 31) rfl (by kernel_rfl) (by kernel_rfl) (by kernel_rfl) (fun _ _ _ h => h) rfl ?_
                      simp only [Act.put, List.setIfInBounds_toArray, List.set_cons_zero, List.set_cons_succ]
                      refine any_skip (i := 32) rfl (by kernel_rfl) (by kernel_rfl) (by kernel_rfl) (fun _ _ _ h => h) rfl ?_
                      simp only [Act.put, List.setIfInBounds_toArray, List.set_cons_zero, List.set_cons_succ]
                      refine any_skip (i := 33) rfl (by kernel_rfl) (by kernel_rfl) (by kernel_rfl) (fun _ _ _ h => h) rfl ?_
                      simp only [Act.put, List.setIfInBounds_toArray, List.set_cons_zero, List.set_cons_succ]
                      refine any_skip (i := 34) rfl (by kernel_rfl) (by kernel_rfl) (by kernel_rfl) (fun _ _ _ h => h) rfl ?_
                      simp only [Act.put, List.setIfInBounds_toArray, List.set_cons_zero, List.set_cons_succ]
                      refine any_skip (i := 35) rfl (by kernel_rfl) (by kernel_rfl) (by kernel_rfl) (fun _ _ _ h => h) rfl ?_
                      simp only [Act.put, List.setIfInBounds_toArray, List.set_cons_zero, List.set_cons_succ]
                      refine any_take0 (i := 36) (v := ?v20) rfl (by kernel_rfl) (by kernel_rfl) (by kernel_rfl) (fun _ _ _ h => h) rfl ?hy20 ?_
                      case hy20 => intro w'; go_simp; try with_reducible rfl
                      simp only [Act.put, List.setIfInBounds_toArray, List.set_cons_zero, List.set_cons_succ]
                      refine any_take0 (i := 37) (v := ?v21) rfl (by kernel_rfl) (by kernel_rfl) (by kernel_rfl) (fun _ _ _ h => h) rfl ?hy21 ?_
                      case hy21 => intro w'; go_simp; try with_reducible rfl
                      simp only [Act.put, List.setIfInBounds_toArray, List.set_cons_zero, List.set_cons_succ]
                      refine any_done (by kernel_rfl) ?_ _
                      go_wp2
                      go_roundw
                      case rel => exact ⟨q + 1, by omega, by omega, by go_num, by rw [HSUC.out]; simp only [mat, Bool.true_or, Bool.false_and, Bool.and_false, Bool.or_false, Bool.false_or, Bool.not_true, Bool.not_false, Bool.true_and], HKW.out.trans kW4⟩
                      case measure => simp [intOf]; omega
                    | false =>
                      cases hk0 : (o.kind == 0) with
                      | false =>
                        refine any_start (by kernel_rfl) fun w4 hd4 => ?_
                        have kW4 : Kept No wr w4 := hd4.kept No
                        refine any_take0 (i := 0) (v := ?v22) rfl (by kernel_rfl) (by kernel_rfl) (by kernel_rfl) (fun _ _ _ h => h) rfl ?hy22 ?_
                        case hy22 => intro w'; go_simp; try with_reducible rfl
                        simp only [Act.put, List.setIfInBounds_toArray, List.set_cons_zero, List.set_cons_succ]
                        refine any_take0 (i := 1) (v := ?v23) rfl (by kernel_rfl) (by kernel_rfl) (by kernel_rfl) (fun _ _ _ h => h) rfl ?hy23 ?_
                        case hy23 => intro w'; go_simp; try with_reducible rfl
                        simp only [Act.put, List.setIfInBounds_toArray, List.set_cons_zero, List.set_cons_succ]
                        refine any_take0w (i := 2) (v := ?v24) rfl (by kernel_rfl) (by kernel_rfl) (by kernel_rfl) (fun _ _ _ h => h) rfl ?hy24 ?_
                        case hy24 => intro w'; go_simp; try with_reducible rfl
                        simp only [Act.put, List.setIfInBounds_toArray, List.set_cons_zero, List.set_cons_succ]
                        refine any_take0w (i := 3) (v := ?v25) rfl (by kernel_rfl) (by kernel_rfl) (by kernel_rfl) (fun _ _ _ h => h) rfl ?hy25 ?_
                        case hy25 => intro w'; go_simp; try with_reducible rfl
                        simp only [Act.put, List.setIfInBounds_toArray, List.set_cons_zero, List.set_cons_succ]
                        refine any_take0w (i := 4) (v := ?v26) rfl (by kernel_rfl) (by kernel_rfl) (by kernel_rfl) (fun _ _ _ h => h) rfl ?hy26 ?_
                        case hy26 => intro w'; go_simp; try with_reducible rfl
                        simp only [Act.put, List.setIfInBounds_toArray, List.set_cons_zero, List.set_cons_succ]
                        refine any_take0w (i := 5) (v := ?v27) rfl (by kernel_rfl) (by kernel_rfl) (by kernel_rfl) (fun _ _ _ h => h) rfl ?hy27 ?_
                        case hy27 => intro w'; go_simp; try with_reducible rfl
                        simp only [Act.put, List.setIfInBounds_toArray, List.set_cons_zero, List.set_cons_succ]
                        refine any_takew (i := 6) (v := ?v28) rfl (by kernel_rfl) (by kernel_rfl) (by kernel_rfl) (by kernel_rfl) (fun _ _ _ h => h) rfl kW4 ?hy28 ?_
                        case hy28 => intro w' hw'; have hc := hw'.cellAt cK; go_simp; try with_reducible rfl
                        simp only [Act.put, List.setIfInBounds_toArray, List.set_cons_zero, List.set_cons_succ]
                        refine any_take0w (i := 7) (v := ?v29) rfl (by kernel_rfl) (by kernel_rfl) (by kernel_rfl) (fun _ _ _ h => h) rfl ?hy29 ?_
                        case hy29 => intro w'; go_simp; try with_reducible rfl
                        simp only [Act.put, List.setIfInBounds_toArray, List.set_cons_zero, List.set_cons_succ]
                        refine any_take0w (i := 8) (v := ?v30) rfl (by kernel_rfl) (by kernel_rfl) (by kernel_rfl) (fun _ _ _ h => h) rfl ?hy30 ?_
                        case hy30 => intro w'; go_simp; try with_reducible rfl
                        simp only [Act.put, List.setIfInBounds_toArray, List.set_cons_zero, List.set_cons_succ]
                        refine any_skip (i := 9) rfl (by kernel_rfl) (by kernel_rfl) (by kernel_rfl) (fun _ _ _ h => h) rfl ?_
                        simp only [Act.put, List.setIfInBounds_toArray, List.set_cons_zero, List.set_cons_succ]
                        refine any_skip (i := 10) rfl (by kernel_rfl) (by kernel_rfl) (by kernel_rfl) (fun _ _ _ h => h) rfl ?_
                        simp only [Act.put, List.setIfInBounds_toArray, List.set_cons_zero, List.set_cons_succ]
                        refine any_skip (i := 11) rfl (by kernel_rfl) (by kernel_rfl) (by kernel_rfl) (fun _ _ _ h => h) rfl ?_
                        simp only [Act.put, List.setIfInBounds_toArray, List.set_cons_zero, List.set_cons_succ]
                        refine any_skip (i := 12) rfl (by kernel_rfl) (by kernel_rfl) (by kernel_rfl) (fun _ _ _ h => h) rfl ?_
                        simp only [Act.put, List.setIfInBounds_toArray, List.set_cons_zero, List.set_cons_succ]
                        refine any_skip (i := 13) rfl (by kernel_rfl) (by kernel_rfl) (by kernel_rfl) (fun _ _ _ h => h) rfl ?_
                        simp only [Act.put, List.setIfInBounds_toArray, List.set_cons_zero, List.set_cons_succ]
                        refine any_skip (i := 14) rfl (by kernel_rfl) (by kernel_rfl) (by kernel_rfl) (fun _ _ _ h => h) rfl ?_
                        simp only [Act.put, List.setIfInBounds_toArray, List.set_cons_zero, List.set_cons_succ]
                        refine any_skip (i := 15) rfl (by kernel_rfl) (by kernel_rfl) (by kernel_rfl) (fun _ _ _ h => h) rfl ?_
                        simp only [Act.put, List.setIfInBounds_toArray, List.set_cons_zero, List.set_cons_succ]
                        refine any_take0w (i := 16) (v := ?v31) rfl (by kernel_rfl) (by kernel_rfl) (by kernel_rfl) (fun _ _ _ h => h) rfl ?hy31 ?_
                        case hy31 => intro w'; go_simp; try with_reducible rfl
                        simp only [Act.put, List.setIfInBounds_toArray, List.set_cons_zero, List.set_cons_succ]
                        refine any_take0w (i := 17) (v := ?v32) rfl (by kernel_rfl) (by kernel_rfl) (by kernel_rfl) (fun _ _ _ h => h) rfl ?hy32 ?_
                        case hy32 => intro w'; go_simp; try with_reducible rfl
                        simp only [Act.put, List.setIfInBounds_toArray, List.set_cons_zero, List.set_cons_succ]
                        refine any_skip (i := 18) rfl (by kernel_rfl) (by kernel_rfl) (by kernel_rfl) (fun _ _ _ h => h) rfl ?_
                        simp only [Act.put, List.setIfInBounds_toArray, List.set_cons_zero, List.set_cons_succ]
                        refine any_skip (i := 19) rfl (by kernel_rfl) (by kernel_rfl) (by kernel_rfl) (fun _ _ _ h => h) rfl ?_
                        simp only [Act.put, List.setIfInBounds_toArray, List.set_cons_zero, List.set_cons_succ]
                        refine any_skip (i := 20) rfl (by kernel_rfl) (by kernel_rfl) (by kernel_rfl) (fun _ _ _ h => h) rfl ?_
                        simp only [Act.put, List.setIfInBounds_toArray, List.set_cons_zero, List.set_cons_succ]
                        refine any_skip (i := 21) rfl (by kernel_rfl) (by kernel_rfl) (by kernel_rfl) (fun _ _ _ h => h) rfl ?_
                        simp only [Act.put, List.setIfInBounds_toArray, List.set_cons_zero, List.set_cons_succ]
                        refine any_skip (i := 22) rfl (by kernel_rfl) (by kernel_rfl) (by kernel_rfl) (fun _ _ _ h => h) rfl ?_
                        simp only [Act.put, List.setIfInBounds_toArray, List.set_cons_zero, List.set_cons_succ]
                        refine any_skip (i := 23) rfl (by kernel_rfl) (by kernel_rfl) (by kernel_rfl) (fun _ _ _ h => h) rfl ?_
                        simp only [Act.put, List.setIfInBounds_toArray, List.set_cons_zero, List.set_cons_succ]
                        refine any_take0w (i := 24) (v := ?v33) rfl (by kernel_rfl) (by kernel_rfl) (by kernel_rfl) (fun _ _ _ h => h) rfl ?hy33 ?_
                        case hy33 => intro w'; go_simp; try with_reducible rfl
                        simp only [Act.put, List.setIfInBounds_toArray, List.set_cons_zero, List.set_cons_succ]
                        refine any_take0w (i := 25) (v := ?v34) rfl (by kernel_rfl) (by kernel_rfl) (by kernel_rfl) (fun _ _ _ h => h) rfl ?hy34 ?_
                        case hy34 => intro w'; go_simp; try with_reducible rfl
                        simp only [Act.put, List.setIfInBounds_toArray, List.set_cons_zero, List.set_cons_succ]
                        refine any_skip (i := 26) rfl (by kernel_rfl) (by kernel_rfl) (by kernel_rfl) (fun _ _ _ h => h) rfl ?_
                        simp only [Act.put, List.setIfInBounds_toArray, List.set_cons_zero, List.set_cons_succ]
                        refine any_skip (i := 27) rfl (by kernel_rfl) (by kernel_rfl) (by kernel_rfl) (fun _ _ _ h => h) rfl ?_
                        simp only [Act.put, List.setIfInBounds_toArray, List.set_cons_zero, List.set_cons_succ]
                        refine any_skip (i := 28) rfl (by kernel_rfl) (by kernel_rfl) (by kernel_rfl) (fun _ _ _ h => h) rfl ?_
                        simp only [Act.put, List.setIfInBounds_toArray, List.set_cons_zero, List.set_cons_succ]
                        refine any_skip (i := 29) rfl (by kernel_rfl) (by kernel_rfl) (by kernel_rfl) (fun _ _ _ h => h) rfl ?_
                        simp only [Act.put, List.setIfInBounds_toArray, List.set_cons_zero, List.set_cons_succ]
                        refine any_skip (i := 30) rfl (by kernel_rfl) (by kernel_rfl) (by kernel_rfl) (fun _ _ _ h => h) rfl ?_
                        simp only [Act.put, List.setIfInBounds_toArray, List.set_cons_zero, List.set_cons_succ]
                        refine any_skip (i := 31) rfl (by kernel_rfl) (by kernel_rfl) (by kernel_rfl) (fun _ _ _ h => h) rfl ?_
                        simp only [Act.put, List.setIfInBounds_toArray, List.set_cons_zero, List.set_cons_succ]
                        refine any_skip (i := 32) rfl (by kernel_rfl) (by kernel_rfl) (by kernel_rfl) (fun _ _ _ h => h) rfl ?_
                        simp only [Act.put, List.setIfInBounds_toArray, List.set_cons_zero, List.set_cons_succ]
                        refine any_skip (i := 33) rfl (by kernel_rfl) (by kernel_rfl) (by kernel_rfl) (fun _ _ _ h => h) rfl ?_
                        simp only [Act.put, List.setIfInBounds_toArray, List.set_cons_zero, List.set_cons_succ]
                        refine any_skip (i := 34) rfl (by kernel_rfl) (by kernel_rfl) (by kernel_rfl) (fun _ _ _ h => h) rfl ?_
                        simp only [Act.put, List.setIfInBounds_toArray, List.set_cons_zero, List.set_cons_succ]
                        refine any_take0w (i := 35) (v := ?v35) rfl (by kernel_rfl) (by kernel_rfl) (by kernel_rfl) (fun _ _ _ h => h) rfl ?hy35 ?_
                        case hy35 => intro w'; go_simp; try with_reducible rfl
                        simp only [Act.put, List.setIfInBounds_toArray, List.set_cons_zero, List.set_cons_succ]
                        refine any_take0 (i := 36) (v := ?v36) rfl (by kernel_rfl) (by kernel_rfl) (by kernel_rfl) (fun _ _ _ h => h) rfl ?hy36 ?_
                        case hy36 => intro w'; go_simp; try with_reducible rfl
                        simp only [Act.put, List.setIfInBounds_toArray, List.set_cons_zero, List.set_cons_succ]
                        refine any_take0 (i := 37) (v := ?v37) rfl (by kernel_rfl) (by kernel_rfl) (by kernel_rfl) (fun _ _ _ h => h) rfl ?hy37 ?_
                        case hy37 => intro w'; go_simp; try with_reducible rfl
                        simp only [Act.put, List.setIfInBounds_toArray, List.set_cons_zero, List.set_cons_succ]
                        refine any_done (by kernel_rfl) ?_ _
                        go_wp2
                        go_roundw
                        case rel => exact ⟨q + 1, by omega, by omega, by go_num, by rw [HSUC.out]; simp only [mat, hk0, Bool.true_or, Bool.false_and, Bool.and_false, Bool.or_false, Bool.false_or, Bool.not_true, Bool.not_false, Bool.true_and], HKW.out.trans kW4⟩
                        case measure => simp [intOf]; omega
                      | true =>
                        cases ha0 : (o.at_ == (k : Int)) with
                        | false =>
                          refine any_start (by kernel_rfl) fun w4 hd4 => ?_
                          have kW4 : Kept No wr w4 := hd4.kept No
                          refine any_take0 (i := 0) (v := ?v38) rfl (by kernel_rfl) (by kernel_rfl) (by kernel_rfl) (fun _ _ _ h => h) rfl ?hy38 ?_
                          case hy38 => intro w'; go_simp; try with_reducible rfl
                          simp only [Act.put, List.setIfInBounds_toArray, List.set_cons_zero, List.set_cons_succ]
                          refine any_take0 (i := 1) (v := ?v39) rfl (by kernel_rfl) (by kernel_rfl) (by kernel_rfl) (fun _ _ _ h => h) rfl ?hy39 ?_
                          case hy39 => intro w'; go_simp; try with_reducible rfl
                          simp only [Act.put, List.setIfInBounds_toArray, List.set_cons_zero, List.set_cons_succ]
                          refine any_take0w (i := 2) (v := ?v40) rfl (by kernel_rfl) (by kernel_rfl) (by kernel_rfl) (fun _ _ _ h => h) rfl ?hy40 ?_
                          case hy40 => intro w'; go_simp; try with_reducible rfl
                          simp only [Act.put, List.setIfInBounds_toArray, List.set_cons_zero, List.set_cons_succ]
                          refine any_take0w (i := 3) (v := ?v41) rfl (by kernel_rfl) (by kernel_rfl) (by kernel_rfl) (fun _ _ _ h => h) rfl ?hy41 ?_
                          case hy41 => intro w'; go_simp; try with_reducible rfl
                          simp only [Act.put, List.setIfInBounds_toArray, List.set_cons_zero, List.set_cons_succ]
                          refine any_take0w (i := 4) (v := ?v42) rfl (by kernel_rfl) (by kernel_rfl) (by kernel_rfl) (fun _ _ _ h => h) rfl ?hy42 ?_
                          case hy42 => intro w'; go_simp; try with_reducible rfl
                          simp only [Act.put, List.setIfInBounds_toArray, List.set_cons_zero, List.set_cons_succ]
                          refine any_take0w (i := 5) (v := ?v43) rfl (by kernel_rfl) (by kernel_rfl) (by kernel_rfl) (fun _ _ _ h => h) rfl ?hy43 ?_
                          case hy43 => intro w'; go_simp; try with_reducible rfl
                          simp only [Act.put, List.setIfInBounds_toArray, List.set_cons_zero, List.set_cons_succ]
                          refine any_takew (i := 6) (v := ?v44) rfl (by kernel_rfl) (by kernel_rfl) (by kernel_rfl) (by kernel_rfl) (fun _ _ _ h => h) rfl kW4 ?hy44 ?_
                          case hy44 => intro w' hw'; have hc := hw'.cellAt cK; go_simp; try with_reducible rfl
                          simp only [Act.put, List.setIfInBounds_toArray, List.set_cons_zero, List.set_cons_succ]
                          refine any_take0w (i := 7) (v := ?v45) rfl (by kernel_rfl) (by kernel_rfl) (by kernel_rfl) (fun _ _ _ h => h) rfl ?hy45 ?_
                          case hy45 => intro w'; go_simp; try with_reducible rfl
                          simp only [Act.put, List.setIfInBounds_toArray, List.set_cons_zero, List.set_cons_succ]
                          refine any_take0w (i := 8) (v := ?v46) rfl (by kernel_rfl) (by kernel_rfl) (by kernel_rfl) (fun _ _ _ h => h) rfl ?hy46 ?_
                          case hy46 => intro w'; go_simp; try with_reducible rfl
                          simp only [Act.put, List.setIfInBounds_toArray, List.set_cons_zero, List.set_cons_succ]
                          refine any_take0w (i := 9) (v := ?v47) rfl (by kernel_rfl) (by kernel_rfl) (by kernel_rfl) (fun _ _ _ h => h) rfl ?hy47 ?_
                          case hy47 => intro w'; go_simp; try with_reducible rfl
                          simp only [Act.put, List.setIfInBounds_toArray, List.set_cons_zero, List.set_cons_succ]
                          refine any_take0w (i := 10) (v := ?v48) rfl (by kernel_rfl) (by kernel_rfl) (by kernel_rfl) (fun _ _ _ h => h) rfl ?hy48 ?_
                          case hy48 => intro w'; go_simp; try with_reducible rfl
                          simp only [Act.put, List.setIfInBounds_toArray, List.set_cons_zero, List.set_cons_succ]
                          refine any_take0w (i := 11) (v := ?v49) rfl (by kernel_rfl) (by kernel_rfl) (by kernel_rfl) (fun _ _ _ h => h) rfl ?hy49 ?_
                          case hy49 => intro w'; go_simp; try with_reducible rfl
                          simp only [Act.put, List.setIfInBounds_toArray, List.set_cons_zero, List.set_cons_succ]
                          refine any_take0w (i := 12) (v := ?v50) rfl (by kernel_rfl) (by kernel_rfl) (by kernel_rfl) (fun _ _ _ h => h) rfl ?hy50 ?_
                          case hy50 => intro w'; go_simp; try with_reducible rfl
                          simp only [Act.put, List.setIfInBounds_toArray, List.set_cons_zero, List.set_cons_succ]
                          refine any_takew (i := 13) (v := ?v51) rfl (by kernel_rfl) (by kernel_rfl) (by kernel_rfl) (by kernel_rfl) (fun _ _ _ h => h) rfl kW4 ?hy51 ?_
                          case hy51 => intro w' hw'; have hc := hw'.cellAt cA; go_simp; try with_reducible rfl
                          simp only [Act.put, List.setIfInBounds_toArray, List.set_cons_zero, List.set_cons_succ]
                          refine any_take0w (i := 14) (v := ?v52) rfl (by kernel_rfl) (by kernel_rfl) (by kernel_rfl) (fun _ _ _ h => h) rfl ?hy52 ?_
                          case hy52 => intro w'; go_simp; try with_reducible rfl
                          simp only [Act.put, List.setIfInBounds_toArray, List.set_cons_zero, List.set_cons_succ]
                          refine any_take0w (i := 15) (v := ?v53) rfl (by kernel_rfl) (by kernel_rfl) (by kernel_rfl) (fun _ _ _ h => h) rfl ?hy53 ?_
                          case hy53 => intro w'; go_simp; try with_reducible rfl
                          simp only [Act.put, List.setIfInBounds_toArray, List.set_cons_zero, List.set_cons_succ]
                          refine any_take0w (i := 16) (v := ?v54) rfl (by kernel_rfl) (by kernel_rfl) (by kernel_rfl) (fun _ _ _ h => h) rfl ?hy54 ?_
                          case hy54 => intro w'; go_simp; try with_reducible rfl
                          simp only [Act.put, List.setIfInBounds_toArray, List.set_cons_zero, List.set_cons_succ]
                          refine any_take0w (i := 17) (v := ?v55) rfl (by kernel_rfl) (by kernel_rfl) (by kernel_rfl) (fun _ _ _ h => h) rfl ?hy55 ?_
                          case hy55 => intro w'; go_simp; try with_reducible rfl
                          simp only [Act.put, List.setIfInBounds_toArray, List.set_cons_zero, List.set_cons_succ]
                          refine any_skip (i := 18) rfl (by kernel_rfl) (by kernel_rfl) (by kernel_rfl) (fun _ _ _ h => h) rfl ?_
                          simp only [Act.put, List.setIfInBounds_toArray, List.set_cons_zero, List.set_cons_succ]
                          refine any_skip (i := 19) rfl (by kernel_rfl) (by kernel_rfl) (by kernel_rfl) (fun _ _ _ h => h) rfl ?_
                          simp only [Act.put, List.setIfInBounds_toArray, List.set_cons_zero, List.set_cons_succ]
                          refine any_skip (i := 20) rfl (by kernel_rfl) (by kernel_rfl) (by kernel_rfl) (fun _ _ _ h => h) rfl ?_
                          simp only [Act.put, List.setIfInBounds_toArray, List.set_cons_zero, List.set_cons_succ]
                          refine any_skip (i := 21) rfl (by kernel_rfl) (by kernel_rfl) (by kernel_rfl) (fun _ _ _ h => h) rfl ?_
                          simp only [Act.put, List.setIfInBounds_toArray, List.set_cons_zero, List.set_cons_succ]
                          refine any_skip (i := 22) rfl (by kernel_rfl) (by kernel_rfl) (by kernel_rfl) (fun _ _ _ h => h) rfl ?_
                          simp only [Act.put, List.setIfInBounds_toArray, List.set_cons_zero, List.set_cons_succ]
                          refine any_skip (i := 23) rfl (by kernel_rfl) (by kernel_rfl) (by kernel_rfl) (fun _ _ _ h => h) rfl ?_
                          simp only [Act.put, List.setIfInBounds_toArray, List.set_cons_zero, List.set_cons_succ]
                          refine any_take0w (i := 24) (v := ?v56) rfl (by kernel_rfl) (by kernel_rfl) (by kernel_rfl) (fun _ _ _ h => h) rfl ?hy56 ?_
                          case hy56 => intro w'; go_simp; try with_reducible rfl
                          simp only [Act.put, List.setIfInBounds_toArray, List.set_cons_zero, List.set_cons_succ]
                          refine any_take0w (i := 25) (v := ?v57) rfl (by kernel_rfl) (by kernel_rfl) (by kernel_rfl) (fun _ _ _ h => h) rfl ?hy57 ?_
                          case hy57 => intro w'; go_simp; try with_reducible rfl
                          simp only [Act.put, List.setIfInBounds_toArray, List.set_cons_zero, List.set_cons_succ]
                          refine any_skip (i := 26) rfl (by kernel_rfl) (by kernel_rfl) (by kernel_rfl) (fun _ _ _ h => h) rfl ?_
                          simp only [Act.put, List.setIfInBounds_toArray, List.set_cons_zero, List.set_cons_succ]
                          refine any_skip (i := 27) rfl (by kernel_rfl) (by kernel_rfl) (by kernel_rfl) (fun _ _ _ h => h) rfl ?_
                          simp only [Act.put, List.setIfInBounds_toArray, List.set_cons_zero, List.set_cons_succ]
                          refine any_skip (i := 28) rfl (by kernel_rfl) (by kernel_rfl) (by kernel_rfl) (fun _ _ _ h => h) rfl ?_
                          simp only [Act.put, List.setIfInBounds_toArray, List.set_cons_zero, List.set_cons_succ]
                          refine any_skip (i := 29) rfl (by kernel_rfl) (by kernel_rfl) (by kernel_rfl) (fun _ _ _ h => h) rfl ?_
                          simp only [Act.put, List.setIfInBounds_toArray, List.set_cons_zero, List.set_cons_succ]
                          refine any_skip (i := 30) rfl (by kernel_rfl) (by kernel_rfl) (by kernel_rfl) (fun _ _ _ h => h) rfl ?_
                          simp only [Act.put, List.setIfInBounds_toArray, List.set_cons_zero, List.set_cons_succ]
                          refine any_skip (i := 31) rfl (by kernel_rfl) (by kernel_rfl) (by kernel_rfl) (fun _ _ _ h => h) rfl ?_
                          simp only [Act.put, List.setIfInBounds_toArray, List.set_cons_zero, List.set_cons_succ]
                          refine any_skip (i := 32) rfl (by kernel_rfl) (by kernel_rfl) (by kernel_rfl) (fun _ _ _ h => h) rfl ?_
                          simp only [Act.put, List.setIfInBounds_toArray, List.set_cons_zero, List.set_cons_succ]
                          refine any_skip (i := 33) rfl (by kernel_rfl) (by kernel_rfl) (by kernel_rfl) (fun _ _ _ h => h) rfl ?_
                          simp only [Act.put, List.setIfInBounds_toArray, List.set_cons_zero, List.set_cons_succ]
                          refine any_skip (i := 34) rfl (by kernel_rfl) (by kernel_rfl) (by kernel_rfl) (fun _ _ _ h => h) rfl ?_
                          simp only [Act.put, List.setIfInBounds_toArray, List.set_cons_zero, List.set_cons_succ]
                          refine any_take0w (i := 35) (v := ?v58) rfl (by kernel_rfl) (by kernel_rfl) (by kernel_rfl) (fun _ _ _ h => h) rfl ?hy58 ?_
                          case hy58 => intro w'; go_simp; try with_reducible rfl
                          simp only [Act.put, List.setIfInBounds_toArray, List.set_cons_zero, List.set_cons_succ]
                          refine any_take0 (i := 36) (v := ?v59) rfl (by kernel_rfl) (by kernel_rfl) (by kernel_rfl) (fun _ _ _ h => h) rfl ?hy59 ?_
                          case hy59 => intro w'; go_simp; try with_reducible rfl
                          simp only [Act.put, List.setIfInBounds_toArray, List.set_cons_zero, List.set_cons_succ]
                          refine any_take0 (i := 37) (v := ?v60) rfl (by kernel_rfl) (by kernel_rfl) (by kernel_rfl) (fun _ _ _ h => h) rfl ?hy60 ?_
                          case hy60 => intro w'; go_simp; try with_reducible rfl
                          simp only [Act.put, List.setIfInBounds_toArray, List.set_cons_zero, List.set_cons_succ]
                          refine any_done (by kernel_rfl) ?_ _
                          go_wp2
                          go_roundw
                          case rel => exact ⟨q + 1, by omega, by omega, by go_num, by rw [HSUC.out]; simp only [mat, ha0, Bool.true_or, Bool.false_and, Bool.and_false, Bool.or_false, Bool.false_or, Bool.not_true, Bool.not_false, Bool.true_and], HKW.out.trans kW4⟩
                          case measure => simp [intOf]; omega
                        | true =>
                          cases hb0 : o.bad with
                          | true =>
                            rw [hb0] at cB
                            refine any_start (by kernel_rfl) fun w4 hd4 => ?_
                            have kW4 : Kept No wr w4 := hd4.kept No
                            refine any_take0 (i := 0) (v := ?v61) rfl (by kernel_rfl) (by kernel_rfl) (by kernel_rfl) (fun _ _ _ h => h) rfl ?hy61 ?_
                            case hy61 => intro w'; go_simp; try with_reducible rfl
                            simp only [Act.put, List.setIfInBounds_toArray, List.set_cons_zero, List.set_cons_succ]
                            refine any_take0 (i := 1) (v := ?v62) rfl (by kernel_rfl) (by kernel_rfl) (by kernel_rfl) (fun _ _ _ h => h) rfl ?hy62 ?_
                            case hy62 => intro w'; go_simp; try with_reducible rfl
                            simp only [Act.put, List.setIfInBounds_toArray, List.set_cons_zero, List.set_cons_succ]
                            refine any_take0w (i := 2) (v := ?v63) rfl (by kernel_rfl) (by kernel_rfl) (by kernel_rfl) (fun _ _ _ h => h) rfl ?hy63 ?_
                            case hy63 => intro w'; go_simp; try with_reducible rfl
                            simp only [Act.put, List.setIfInBounds_toArray, List.set_cons_zero, List.set_cons_succ]
                            refine any_take0w (i := 3) (v := ?v64) rfl (by kernel_rfl) (by kernel_rfl) (by kernel_rfl) (fun _ _ _ h => h) rfl ?hy64 ?_
                            case hy64 => intro w'; go_simp; try with_reducible rfl
                            simp only [Act.put, List.setIfInBounds_toArray, List.set_cons_zero, List.set_cons_succ]
                            refine any_take0w (i := 4) (v := ?v65) rfl (by kernel_rfl) (by kernel_rfl) (by kernel_rfl) (fun _ _ _ h => h) rfl ?hy65 ?_
                            case hy65 => intro w'; go_simp; try with_reducible rfl
                            simp only [Act.put, List.setIfInBounds_toArray, List.set_cons_zero, List.set_cons_succ]
                            refine any_take0w (i := 5) (v := ?v66) rfl (by kernel_rfl) (by kernel_rfl) (by kernel_rfl) (fun _ _ _ h => h) rfl ?hy66 ?_
                            case hy66 => intro w'; go_simp; try with_reducible rfl
                            simp only [Act.put, List.setIfInBounds_toArray, List.set_cons_zero, List.set_cons_succ]
                            refine any_takew (i := 6) (v := ?v67) rfl (by kernel_rfl) (by kernel_rfl) (by kernel_rfl) (by kernel_rfl) (fun _ _ _ h => h) rfl kW4 ?hy67 ?_
                            case hy67 => intro w' hw'; have hc := hw'.cellAt cK; go_simp; try with_reducible rfl
                            simp only [Act.put, List.setIfInBounds_toArray, List.set_cons_zero, List.set_cons_succ]
                            refine any_take0w (i := 7) (v := ?v68) rfl (by kernel_rfl) (by kernel_rfl) (by kernel_rfl) (fun _ _ _ h => h) rfl ?hy68 ?_
                            case hy68 => intro w'; go_simp; try with_reducible rfl
                            simp only [Act.put, List.setIfInBounds_toArray, List.set_cons_zero, List.set_cons_succ]
                            refine any_take0w (i := 8) (v := ?v69) rfl (by kernel_rfl) (by kernel_rfl) (by kernel_rfl) (fun _ _ _ h => h) rfl ?hy69 ?_
                            case hy69 => intro w'; go_simp; try with_reducible rfl
                            simp only [Act.put, List.setIfInBounds_toArray, List.set_cons_zero, List.set_cons_succ]
                            refine any_take0w (i := 9) (v := ?v70) rfl (by kernel_rfl) (by kernel_rfl) (by kernel_rfl) (fun _ _ _ h => h) rfl ?hy70 ?_
                            case hy70 => intro w'; go_simp; try with_reducible rfl
                            simp only [Act.put, List.setIfInBounds_toArray, List.set_cons_zero, List.set_cons_succ]
                            refine any_take0w (i := 10) (v := ?v71) rfl (by kernel_rfl) (by kernel_rfl) (by kernel_rfl) (fun _ _ _ h => h) rfl ?hy71 ?_
                            case hy71 => intro w'; go_simp; try with_reducible rfl
                            simp only [Act.put, List.setIfInBounds_toArray, List.set_cons_zero, List.set_cons_succ]
                            refine any_take0w (i := 11) (v := ?v72) rfl (by kernel_rfl) (by kernel_rfl) (by kernel_rfl) (fun _ _ _ h => h) rfl ?hy72 ?_
                            case hy72 => intro w'; go_simp; try with_reducible rfl
                            simp only [Act.put, List.setIfInBounds_toArray, List.set_cons_zero, List.set_cons_succ]
                            refine any_take0w (i := 12) (v := ?v73) rfl (by kernel_rfl) (by kernel_rfl) (by kernel_rfl) (fun _ _ _ h => h) rfl ?hy73 ?_
                            case hy73 => intro w'; go_simp; try with_reducible rfl
                            simp only [Act.put, List.setIfInBounds_toArray, List.set_cons_zero, List.set_cons_succ]
                            refine any_takew (i := 13) (v := ?v74) rfl (by kernel_rfl) (by kernel_rfl) (by kernel_rfl) (by kernel_rfl) (fun _ _ _ h => h) rfl kW4 ?hy74 ?_
                            case hy74 => intro w' hw'; have hc := hw'.cellAt cA; go_simp; try with_reducible rfl
                            simp only [Act.put, List.setIfInBounds_toArray, List.set_cons_zero, List.set_cons_succ]
                            refine any_take0w (i := 14) (v := ?v75) rfl (by kernel_rfl) (by kernel_rfl) (by kernel_rfl) (fun _ _ _ h => h) rfl ?hy75 ?_
                            case hy75 => intro w'; go_simp; try with_reducible rfl
                            simp only [Act.put, List.setIfInBounds_toArray, List.set_cons_zero, List.set_cons_succ]
                            refine any_take0w (i := 15) (v := ?v76) rfl (by kernel_rfl) (by kernel_rfl) (by kernel_rfl) (fun _ _ _ h => h) rfl ?hy76 ?_
                            case hy76 => intro w'; go_simp; try with_reducible rfl
                            simp only [Act.put, List.setIfInBounds_toArray, List.set_cons_zero, List.set_cons_succ]
                            refine any_take0w (i := 16) (v := ?v77) rfl (by kernel_rfl) (by kernel_rfl) (by kernel_rfl) (fun _ _ _ h => h) rfl ?hy77 ?_
                            case hy77 => intro w'; go_simp; try with_reducible rfl
                            simp only [Act.put, List.setIfInBounds_toArray, List.set_cons_zero, List.set_cons_succ]
                            refine any_take0w (i := 17) (v := ?v78) rfl (by kernel_rfl) (by kernel_rfl) (by kernel_rfl) (fun _ _ _ h => h) rfl ?hy78 ?_
                            case hy78 => intro w'; go_simp; try with_reducible rfl
                            simp only [Act.put, List.setIfInBounds_toArray, List.set_cons_zero, List.set_cons_succ]
                            refine any_take0w (i := 18) (v := ?v79) rfl (by kernel_rfl) (by kernel_rfl) (by kernel_rfl) (fun _ _ _ h => h) rfl ?hy79 ?_
                            case hy79 => intro w'; go_simp; try with_reducible rfl
                            simp only [Act.put, List.setIfInBounds_toArray, List.set_cons_zero, List.set_cons_succ]
                            refine any_take0w (i := 19) (v := ?v80) rfl (by kernel_rfl) (by kernel_rfl) (by kernel_rfl) (fun _ _ _ h => h) rfl ?hy80 ?_
                            case hy80 => intro w'; go_simp; try with_reducible rfl
                            simp only [Act.put, List.setIfInBounds_toArray, List.set_cons_zero, List.set_cons_succ]
                            refine any_take0w (i := 20) (v := ?v81) rfl (by kernel_rfl) (by kernel_rfl) (by kernel_rfl) (fun _ _ _ h => h) rfl ?hy81 ?_
                            case hy81 => intro w'; go_simp; try with_reducible rfl
                            simp only [Act.put, List.setIfInBounds_toArray, List.set_cons_zero, List.set_cons_succ]
                            refine any_take0w (i := 21) (v := ?v82) rfl (by kernel_rfl) (by kernel_rfl) (by kernel_rfl) (fun _ _ _ h => h) rfl ?hy82 ?_
                            case hy82 => intro w'; go_simp; try with_reducible rfl
                            simp only [Act.put, List.setIfInBounds_toArray, List.set_cons_zero, List.set_cons_succ]
                            refine any_takew (i := 22) (v := ?v83) rfl (by kernel_rfl) (by kernel_rfl) (by kernel_rfl) (by kernel_rfl) (fun _ _ _ h => h) rfl kW4 ?hy83 ?_
                            case hy83 => intro w' hw'; have hc := hw'.cellAt cB; go_simp; try with_reducible rfl
                            simp only [Act.put, List.setIfInBounds_toArray, List.set_cons_zero, List.set_cons_succ]
                            refine any_take0w (i := 23) (v := ?v84) rfl (by kernel_rfl) (by kernel_rfl) (by kernel_rfl) (fun _ _ _ h => h) rfl ?hy84 ?_
                            case hy84 => intro w'; go_simp; try with_reducible rfl
                            simp only [Act.put, List.setIfInBounds_toArray, List.set_cons_zero, List.set_cons_succ]
                            refine any_take0w (i := 24) (v := ?v85) rfl (by kernel_rfl) (by kernel_rfl) (by kernel_rfl) (fun _ _ _ h => h) rfl ?hy85 ?_
                            case hy85 => intro w'; go_simp; try with_reducible rfl
                            simp only [Act.put, List.setIfInBounds_toArray, List.set_cons_zero, List.set_cons_succ]
                            refine any_take0w (i := 25) (v := ?v86) rfl (by kernel_rfl) (by kernel_rfl) (by kernel_rfl) (fun _ _ _ h => h) rfl ?hy86 ?_
                            case hy86 => intro w'; go_simp; try with_reducible rfl
                            simp only [Act.put, List.setIfInBounds_toArray, List.set_cons_zero, List.set_cons_succ]
                            refine any_skip (i := 26) rfl (by kernel_rfl) (by kernel_rfl) (by kernel_rfl) (fun _ _ _ h => h) rfl ?_
                            simp only [Act.put, List.setIfInBounds_toArray, List.set_cons_zero, List.set_cons_succ]
                            refine any_skip (i := 27) rfl (by kernel_rfl) (by kernel_rfl) (by kernel_rfl) (fun _ _ _ h => h) rfl ?_
                            simp only [Act.put, List.setIfInBounds_toArray, List.set_cons_zero, List.set_cons_succ]
                            refine any_skip (i := 28) rfl (by kernel_rfl) (by kernel_rfl) (by kernel_rfl) (fun _ _ _ h => h) rfl ?_
                            simp only [Act.put, List.setIfInBounds_toArray, List.set_cons_zero, List.set_cons_succ]
                            refine any_skip (i := 29) rfl (by kernel_rfl) (by kernel_rfl) (by kernel_rfl) (fun _ _ _ h => h) rfl ?_
                            simp only [Act.put, List.setIfInBounds_toArray, List.set_cons_zero, List.set_cons_succ]
                            refine any_skip (i := 30) rfl (by kernel_rfl) (by kernel_rfl) (by kernel_rfl) (fun _ _ _ h => h) rfl ?_
                            simp only [Act.put, List.setIfInBounds_toArray, List.set_cons_zero, List.set_cons_succ]
                            refine any_skip (i := 31) rfl (by kernel_rfl) (by kernel_rfl) (by kernel_rfl) (fun _ _ _ h => h) rfl ?_
                            simp only [Act.put, List.setIfInBounds_toArray, List.set_cons_zero, List.set_cons_succ]
                            refine any_skip (i := 32) rfl (by kernel_rfl) (by kernel_rfl) (by kernel_rfl) (fun _ _ _ h => h) rfl ?_
                            simp only [Act.put, List.setIfInBounds_toArray, List.set_cons_zero, List.set_cons_succ]
                            refine any_skip (i := 33) rfl (by kernel_rfl) (by kernel_rfl) (by kernel_rfl) (fun _ _ _ h => h) rfl ?_
                            simp only [Act.put, List.setIfInBounds_toArray, List.set_cons_zero, List.set_cons_succ]
                            refine any_skip (i := 34) rfl (by kernel_rfl) (by kernel_rfl) (by kernel_rfl) (fun _ _ _ h => h) rfl ?_
                            simp only [Act.put, List.setIfInBounds_toArray, List.set_cons_zero, List.set_cons_succ]
                            refine any_take0w (i := 35) (v := ?v87) rfl (by kernel_rfl) (by kernel_rfl) (by kernel_rfl) (fun _ _ _ h => h) rfl ?hy87 ?_
                            case hy87 => intro w'; go_simp; try with_reducible rfl
                            simp only [Act.put, List.setIfInBounds_toArray, List.set_cons_zero, List.set_cons_succ]
                            refine any_take0 (i := 36) (v := ?v88) rfl (by kernel_rfl) (by kernel_rfl) (by kernel_rfl) (fun _ _ _ h => h) rfl ?hy88 ?_
                            case hy88 => intro w'; go_simp; try with_reducible rfl
                            simp only [Act.put, List.setIfInBounds_toArray, List.set_cons_zero, List.set_cons_succ]
                            refine any_take0 (i := 37) (v := ?v89) rfl (by kernel_rfl) (by kernel_rfl) (by kernel_rfl) (fun _ _ _ h => h) rfl ?hy89 ?_
                            case hy89 => intro w'; go_simp; try with_reducible rfl
                            simp only [Act.put, List.setIfInBounds_toArray, List.set_cons_zero, List.set_cons_succ]
                            refine any_done (by kernel_rfl) ?_ _
                            go_wp2
                            go_roundw
                            case rel => exact ⟨q + 1, by omega, by omega, by go_num, by rw [HSUC.out]; simp only [mat, hb0, Bool.true_or, Bool.false_and, Bool.and_false, Bool.or_false, Bool.false_or, Bool.not_true, Bool.not_false, Bool.true_and], HKW.out.trans kW4⟩
                            case measure => simp [intOf]; omega
                          | false =>
                            rw [hb0] at cB
                            refine any_start (by kernel_rfl) fun w4 hd4 => ?_
                            have kW4 : Kept No wr w4 := hd4.kept No
                            refine any_take0 (i := 0) (v := ?v90) rfl (by kernel_rfl) (by kernel_rfl) (by kernel_rfl) (fun _ _ _ h => h) rfl ?hy90 ?_
                            case hy90 => intro w'; go_simp; try with_reducible rfl
                            simp only [Act.put, List.setIfInBounds_toArray, List.set_cons_zero, List.set_cons_succ]
                            refine any_take0 (i := 1) (v := ?v91) rfl (by kernel_rfl) (by kernel_rfl) (by kernel_rfl) (fun _ _ _ h => h) rfl ?hy91 ?_
                            case hy91 => intro w'; go_simp; try with_reducible rfl
                            simp only [Act.put, List.setIfInBounds_toArray, List.set_cons_zero, List.set_cons_succ]
                            refine any_take0w (i := 2) (v := ?v92) rfl (by kernel_rfl) (by kernel_rfl) (by kernel_rfl) (fun _ _ _ h => h) rfl ?hy92 ?_
                            case hy92 => intro w'; go_simp; try with_reducible rfl
                            simp only [Act.put, List.setIfInBounds_toArray, List.set_cons_zero, List.set_cons_succ]
                            refine any_take0w (i := 3) (v := ?v93) rfl (by kernel_rfl) (by kernel_rfl) (by kernel_rfl) (fun _ _ _ h => h) rfl ?hy93 ?_
                            case hy93 => intro w'; go_simp; try with_reducible rfl
                            simp only [Act.put, List.setIfInBounds_toArray, List.set_cons_zero, List.set_cons_succ]
                            refine any_take0w (i := 4) (v := ?v94) rfl (by kernel_rfl) (by kernel_rfl) (by kernel_rfl) (fun _ _ _ h => h) rfl ?hy94 ?_
                            case hy94 => intro w'; go_simp; try with_reducible rfl
                            simp only [Act.put, List.setIfInBounds_toArray, List.set_cons_zero, List.set_cons_succ]
                            refine any_take0w (i := 5) (v := ?v95) rfl (by kernel_rfl) (by kernel_rfl) (by kernel_rfl) (fun _ _ _ h => h) rfl ?hy95 ?_
                            case hy95 => intro w'; go_simp; try with_reducible rfl
                            simp only [Act.put, List.setIfInBounds_toArray, List.set_cons_zero, List.set_cons_succ]
                            refine any_takew (i := 6) (v := ?v96) rfl (by kernel_rfl) (by kernel_rfl) (by kernel_rfl) (by kernel_rfl) (fun _ _ _ h => h) rfl kW4 ?hy96 ?_
                            case hy96 => intro w' hw'; have hc := hw'.cellAt cK; go_simp; try with_reducible rfl
                            simp only [Act.put, List.setIfInBounds_toArray, List.set_cons_zero, List.set_cons_succ]
                            refine any_take0w (i := 7) (v := ?v97) rfl (by kernel_rfl) (by kernel_rfl) (by kernel_rfl) (fun _ _ _ h => h) rfl ?hy97 ?_
                            case hy97 => intro w'; go_simp; try with_reducible rfl
                            simp only [Act.put, List.setIfInBounds_toArray, List.set_cons_zero, List.set_cons_succ]
                            refine any_take0w (i := 8) (v := ?v98) rfl (by kernel_rfl) (by kernel_rfl) (by kernel_rfl) (fun _ _ _ h => h) rfl ?hy98 ?_
                            case hy98 => intro w'; go_simp; try with_reducible rfl
                            simp only [Act.put, List.setIfInBounds_toArray, List.set_cons_zero, List.set_cons_succ]
                            refine any_take0w (i := 9) (v := ?v99) rfl (by kernel_rfl) (by kernel_rfl) (by kernel_rfl) (fun _ _ _ h => h) rfl ?hy99 ?_
                            case hy99 => intro w'; go_simp; try with_reducible rfl
                            simp only [Act.put, List.setIfInBounds_toArray, List.set_cons_zero, List.set_cons_succ]
                            refine any_take0w (i := 10) (v := ?v100) rfl (by kernel_rfl) (by kernel_rfl) (by kernel_rfl) (fun _ _ _ h => h) rfl ?hy100 ?_
                            case hy100 => intro w'; go_simp; try with_reducible rfl
                            simp only [Act.put, List.setIfInBounds_toArray, List.set_cons_zero, List.set_cons_succ]
                            refine any_take0w (i := 11) (v := ?v101) rfl (by kernel_rfl) (by kernel_rfl) (by kernel_rfl) (fun _ _ _ h => h) rfl ?hy101 ?_
                            case hy101 => intro w'; go_simp; try with_reducible rfl
                            simp only [Act.put, List.setIfInBounds_toArray, List.set_cons_zero, List.set_cons_succ]
                            refine any_take0w (i := 12) (v := ?v102) rfl (by kernel_rfl) (by kernel_rfl) (by kernel_rfl) (fun _ _ _ h => h) rfl ?hy102 ?_
                            case hy102 => intro w'; go_simp; try with_reducible rfl
                            simp only [Act.put, List.setIfInBounds_toArray, List.set_cons_zero, List.set_cons_succ]
                            refine any_takew (i := 13) (v := ?v103) rfl (by kernel_rfl) (by kernel_rfl) (by kernel_rfl) (by kernel_rfl) (fun _ _ _ h => h) rfl kW4 ?hy103 ?_
                            case hy103 => intro w' hw'; have hc := hw'.cellAt cA; go_simp; try with_reducible rfl
                            simp only [Act.put, List.setIfInBounds_toArray, List.set_cons_zero, List.set_cons_succ]
                            refine any_take0w (i := 14) (v := ?v104) rfl (by kernel_rfl) (by kernel_rfl) (by kernel_rfl) (fun _ _ _ h => h) rfl ?hy104 ?_
                            case hy104 => intro w'; go_simp; try with_reducible rfl
                            simp only [Act.put, List.setIfInBounds_toArray, List.set_cons_zero, List.set_cons_succ]
                            refine any_take0w (i := 15) (v := ?v105) rfl (by kernel_rfl) (by kernel_rfl) (by kernel_rfl) (fun _ _ _ h => h) rfl ?hy105 ?_
                            case hy105 => intro w'; go_simp; try with_reducible rfl
                            simp only [Act.put, List.setIfInBounds_toArray, List.set_cons_zero, List.set_cons_succ]
                            refine any_take0w (i := 16) (v := ?v106) rfl (by kernel_rfl) (by kernel_rfl) (by kernel_rfl) (fun _ _ _ h => h) rfl ?hy106 ?_
                            case hy106 => intro w'; go_simp; try with_reducible rfl
                            simp only [Act.put, List.setIfInBounds_toArray, List.set_cons_zero, List.set_cons_succ]
                            refine any_take0w (i := 17) (v := ?v107) rfl (by kernel_rfl) (by kernel_rfl) (by kernel_rfl) (fun _ _ _ h => h) rfl ?hy107 ?_
                            case hy107 => intro w'; go_simp; try with_reducible rfl
                            simp only [Act.put, List.setIfInBounds_toArray, List.set_cons_zero, List.set_cons_succ]
                            refine any_take0w (i := 18) (v := ?v108) rfl (by kernel_rfl) (by kernel_rfl) (by kernel_rfl) (fun _ _ _ h => h) rfl ?hy108 ?_
                            case hy108 => intro w'; go_simp; try with_reducible rfl
                            simp only [Act.put, List.setIfInBounds_toArray, List.set_cons_zero, List.set_cons_succ]
                            refine any_take0w (i := 19) (v := ?v109) rfl (by kernel_rfl) (by kernel_rfl) (by kernel_rfl) (fun _ _ _ h => h) rfl ?hy109 ?_
                            case hy109 => intro w'; go_simp; try with_reducible rfl
                            simp only [Act.put, List.setIfInBounds_toArray, List.set_cons_zero, List.set_cons_succ]
                            refine any_take0w (i := 20) (v := ?v110) rfl (by kernel_rfl) (by kernel_rfl) (by kernel_rfl) (fun _ _ _ h => h) rfl ?hy110 ?_
                            case hy110 => intro w'; go_simp; try with_reducible rfl
                            simp only [Act.put, List.setIfInBounds_toArray, List.set_cons_zero, List.set_cons_succ]
                            refine any_take0w (i := 21) (v := ?v111) rfl (by kernel_rfl) (by kernel_rfl) (by kernel_rfl) (fun _ _ _ h => h) rfl ?hy111 ?_
                            case hy111 => intro w'; go_simp; try with_reducible rfl
                            simp only [Act.put, List.setIfInBounds_toArray, List.set_cons_zero, List.set_cons_succ]
                            refine any_takew (i := 22) (v := ?v112) rfl (by kernel_rfl) (by kernel_rfl) (by kernel_rfl) (by kernel_rfl) (fun _ _ _ h => h) rfl kW4 ?hy112 ?_
                            case hy112 => intro w' hw'; have hc := hw'.cellAt cB; go_simp; try with_reducible rfl
                            simp only [Act.put, List.setIfInBounds_toArray, List.set_cons_zero, List.set_cons_succ]
                            refine any_take0w (i := 23) (v := ?v113) rfl (by kernel_rfl) (by kernel_rfl) (by kernel_rfl) (fun _ _ _ h => h) rfl ?hy113 ?_
                            case hy113 => intro w'; go_simp; try with_reducible rfl
                            simp only [Act.put, List.setIfInBounds_toArray, List.set_cons_zero, List.set_cons_succ]
                            refine any_take0w (i := 24) (v := ?v114) rfl (by kernel_rfl) (by kernel_rfl) (by kernel_rfl) (fun _ _ _ h => h) rfl ?hy114 ?_
                            case hy114 => intro w'; go_simp; try with_reducible rfl
                            simp only [Act.put, List.setIfInBounds_toArray, List.set_cons_zero, List.set_cons_succ]
                            refine any_take0w (i := 25) (v := ?v115) rfl (by kernel_rfl) (by kernel_rfl) (by kernel_rfl) (fun _ _ _ h => h) rfl ?hy115 ?_
                            case hy115 => intro w'; go_simp; try with_reducible rfl
                            simp only [Act.put, List.setIfInBounds_toArray, List.set_cons_zero, List.set_cons_succ]
                            refine any_take0w (i := 26) (v := ?v116) rfl (by kernel_rfl) (by kernel_rfl) (by kernel_rfl) (fun _ _ _ h => h) rfl ?hy116 ?_
                            case hy116 => intro w'; go_simp; try with_reducible rfl
                            simp only [Act.put, List.setIfInBounds_toArray, List.set_cons_zero, List.set_cons_succ]
                            refine any_take0w (i := 27) (v := ?v117) rfl (by kernel_rfl) (by kernel_rfl) (by kernel_rfl) (fun _ _ _ h => h) rfl ?hy117 ?_
                            case hy117 => intro w'; go_simp; try with_reducible rfl
                            simp only [Act.put, List.setIfInBounds_toArray, List.set_cons_zero, List.set_cons_succ]
                            refine any_take0w (i := 28) (v := ?v118) rfl (by kernel_rfl) (by kernel_rfl) (by kernel_rfl) (fun _ _ _ h => h) rfl ?hy118 ?_
                            case hy118 => intro w'; go_simp; try with_reducible rfl
                            simp only [Act.put, List.setIfInBounds_toArray, List.set_cons_zero, List.set_cons_succ]
                            refine any_take0w (i := 32) (v := ?v119) rfl (by kernel_rfl) (by kernel_rfl) (by kernel_rfl) (fun _ _ _ h => h) rfl ?hy119 ?_
                            case hy119 => intro w'; go_simp; try with_reducible rfl
                            simp only [Act.put, List.setIfInBounds_toArray, List.set_cons_zero, List.set_cons_succ]
                            refine any_takew (i := 29) rfl (by kernel_rfl) (by kernel_rfl) (by kernel_rfl) (by kernel_rfl) (fun _ _ _ h => h) rfl kW4 (kept_load 33 _ rfl b off rfl (opL o) _ HRG.out hbw hu33 rfl hS33.out) ?_
                            simp only [Act.put, List.setIfInBounds_toArray, List.set_cons_zero, List.set_cons_succ]
                            obtain ⟨w6, hw6⟩ : ∃ x, x = w4 := ⟨_, rfl⟩
                            subst hw6
                            have HO6 := Lib.hid (row_kept HO9r.out kW4 (fun _ _ h => h))
                            have HBY := Lib.hid (bytes_any o w6)
                            obtain ⟨vb, hvb⟩ : ∃ vb, vb = (opBytes o == nb) := ⟨_, rfl⟩
                            have hwh : ((str (opBytes o)).toList == (str nb).toList) = vb := by rw [str_list, str_list, hvb]
                            have HVB := Lib.hid hvb.symm
                            clear hvb
                            refine any_two (i := 30) (j := 33) (by kernel_rfl) rfl rfl rfl rfl (fun K hK => ?_) (fun K hK => ?_)
                            · go_simp
                              refine HBY.out.mono ?_
                              rintro e w7 ⟨g7, cap7, rfl, hO7, hk7, hg7⟩
                              have kW7 : Kept No wr w7 := kW4.trans hk7
                              have HO67 := Lib.hid (row_kept HO6.out hk7 (fun _ _ h => h))
                              refine hK.out _ _ ?_
                              clear hK K
                              have kR := Kept.refl No w7
                              refine any_takew (i := 31) (v := ?v120) rfl (by kernel_rfl) (by kernel_rfl) (by kernel_rfl) (by kernel_rfl) (fun _ _ _ h => h) rfl kR ?hy120 ?_
                              case hy120 => intro w' hw'; have hc := conv_row (P := Try.prog) (row_kept hO7 hw' (fun _ _ h => h)) rfl 28 9 5 Try.underlying28 Try.underlying5 Try.underlying9; go_simp; try with_reducible rfl
                              simp only [Act.put, List.setIfInBounds_toArray, List.set_cons_zero, List.set_cons_succ]
                              refine any_takew (i := 33) (v := ?v121) rfl (by kernel_rfl) (by kernel_rfl) (by kernel_rfl) (by kernel_rfl) (fun _ _ _ h => h) rfl kR ?hy121 ?_
                              case hy121 => intro w' hw'; have hc := conv_row (P := Try.prog) (row_kept HO67.out hw' (fun _ _ h => h)) rfl 28 9 5 Try.underlying28 Try.underlying5 Try.underlying9; go_simp; try with_reducible rfl
                              simp only [Act.put, List.setIfInBounds_toArray, List.set_cons_zero, List.set_cons_succ]
                              refine any_take0w (i := 34) (v := ?v122) rfl (by kernel_rfl) (by kernel_rfl) (by kernel_rfl) (fun _ _ _ h => h) rfl ?hy122 ?_
                              case hy122 => intro w'; go_simp; try with_reducible rfl
                              simp only [Act.put, List.setIfInBounds_toArray, List.set_cons_zero, List.set_cons_succ]
                              refine any_take0w (i := 35) (v := ?v123) rfl (by kernel_rfl) (by kernel_rfl) (by kernel_rfl) (fun _ _ _ h => h) rfl ?hy123 ?_
                              case hy123 => intro w'; go_simp; try with_reducible rfl
                              simp only [Act.put, List.setIfInBounds_toArray, List.set_cons_zero, List.set_cons_succ]
                              refine any_take0 (i := 36) (v := ?v124) rfl (by kernel_rfl) (by kernel_rfl) (by kernel_rfl) (fun _ _ _ h => h) rfl ?hy124 ?_
                              case hy124 => intro w'; go_simp; try with_reducible rfl
                              simp only [Act.put, List.setIfInBounds_toArray, List.set_cons_zero, List.set_cons_succ]
                              refine any_take0 (i := 37) (v := ?v125) rfl (by kernel_rfl) (by kernel_rfl) (by kernel_rfl) (fun _ _ _ h => h) rfl ?hy125 ?_
                              case hy125 => intro w'; go_simp; try with_reducible rfl
                              simp only [Act.put, List.setIfInBounds_toArray, List.set_cons_zero, List.set_cons_succ]
                              refine any_done (by kernel_rfl) ?_ _
                              go_wp2
                              go_roundw
                              case rel => exact ⟨q + 1, by omega, by omega, by go_num, by rw [HSUC.out]; simp only [mat, hk0, ha0, hb0, HVB.out, Bool.true_or, Bool.false_and, Bool.and_false, Bool.or_false, Bool.false_or, Bool.not_true, Bool.not_false, Bool.true_and], HKW.out.trans kW7⟩
                              case measure => simp [intOf]; omega
                            · have hc := conv_row (P := Try.prog) HO6.out rfl 28 9 5 Try.underlying28 Try.underlying5 Try.underlying9
                              go_simp
                              refine hK.out _ _ ?_
                              clear hK K hc
                              refine any_stepw (i := 30) (by kernel_rfl) rfl rfl (fun K hK => ?_)
                              go_simp
                              refine HBY.out.mono ?_
                              rintro e w7 ⟨g7, cap7, rfl, hO7, hk7, hg7⟩
                              have kW7 : Kept No wr w7 := kW4.trans hk7
                              refine hK.out _ _ ?_
                              clear hK K
                              have kR := Kept.refl No w7
                              refine any_takew (i := 31) (v := ?v126) rfl (by kernel_rfl) (by kernel_rfl) (by kernel_rfl) (by kernel_rfl) (fun _ _ _ h => h) rfl kR ?hy126 ?_
                              case hy126 => intro w' hw'; have hc := conv_row (P := Try.prog) (row_kept hO7 hw' (fun _ _ h => h)) rfl 28 9 5 Try.underlying28 Try.underlying5 Try.underlying9; go_simp; try with_reducible rfl
                              simp only [Act.put, List.setIfInBounds_toArray, List.set_cons_zero, List.set_cons_succ]
                              refine any_take0w (i := 34) (v := ?v127) rfl (by kernel_rfl) (by kernel_rfl) (by kernel_rfl) (fun _ _ _ h => h) rfl ?hy127 ?_
                              case hy127 => intro w'; go_simp; try with_reducible rfl
                              simp only [Act.put, List.setIfInBounds_toArray, List.set_cons_zero, List.set_cons_succ]
                              refine any_take0w (i := 35) (v := ?v128) rfl (by kernel_rfl) (by kernel_rfl) (by kernel_rfl) (fun _ _ _ h => h) rfl ?hy128 ?_
                              case hy128 => intro w'; go_simp; try with_reducible rfl
                              simp only [Act.put, List.setIfInBounds_toArray, List.set_cons_zero, List.set_cons_succ]
                              refine any_take0 (i := 36) (v := ?v129) rfl (by kernel_rfl) (by kernel_rfl) (by kernel_rfl) (fun _ _ _ h => h) rfl ?hy129 ?_
                              case hy129 => intro w'; go_simp; try with_reducible rfl
                              simp only [Act.put, List.setIfInBounds_toArray, List.set_cons_zero, List.set_cons_succ]
                              refine any_take0 (i := 37) (v := ?v130) rfl (by kernel_rfl) (by kernel_rfl) (by kernel_rfl) (fun _ _ _ h => h) rfl ?hy130 ?_
                              case hy130 => intro w'; go_simp; try with_reducible rfl
                              simp only [Act.put, List.setIfInBounds_toArray, List.set_cons_zero, List.set_cons_succ]
                              refine any_done (by kernel_rfl) ?_ _
                              go_wp2
                              go_roundw
                              case rel => exact ⟨q + 1, by omega, by omega, by go_num, by rw [HSUC.out]; simp only [mat, hk0, ha0, hb0, HVB.out, Bool.true_or, Bool.false_and, Bool.and_false, Bool.or_false, Bool.false_or, Bool.not_true, Bool.not_false, Bool.true_and], HKW.out.trans kW7⟩
                              case measure => simp [intOf]; omega
                  · have he : wholeTo L2 nb k q wh0 = wholeTo L2 nb k 40 wh0 := by
                      unfold wholeTo
                      congr 2
                      rw [List.take_eq_take_iff]
                      omega
                    rw [he]
                    by_cases hl : q < L2.length
                    · obtain rfl : q = 40 := by omega
                      go_wp2_with fail
                      go_meet
                      exact ⟨rfl, hK⟩
                    · go_wp2_with fail
                      go_meet
                      exact ⟨rfl, hK⟩
              case rest =>
                obtain ⟨rfl, hk10⟩ := hcut
                have hf : wholeTo L2 nb k 40 wh0 = wholeF Ds Dc L2 k := by rw [HNB.out, HWH0.out]; rfl
                rw [hf]
                have HF : Hid (oddTo Ds Dc L2 (k + 1) = oddTo Ds Dc L2 k + if wholeF Ds Dc L2 k then 0 else 1) := by show _ = _; rw [oddTo]
                have HK10 := Lib.hid (HK9.out.trans hk10)
                clear hf hk10
                generalize wholeF Ds Dc L2 k = wf at HF ⊢
                cases wf with
                | true =>
                  go_wp2_with fail
                  go_roundw
                  case rel => exact ⟨k + 1, by omega, by go_num, by rw [HF.out]; rfl, HK10.out⟩
                  case measure => simp [intOf]; omega
                | false =>
                  go_wp2_with fail
                  go_roundw
                  case rel => exact ⟨k + 1, by omega, by go_num, by rw [HF.out]; go_num, HK10.out⟩
                  case measure => simp [intOf]; omega
          · obtain rfl : k = 8 := by omega
            have ho := HODD.out
            have HAL := Lib.hid (alive_any wr)
            have HKA := Lib.hid (HK7.out.trans HK8.out)
            have hle : ((oddTo Ds Dc L2 8 : Nat) : Int) ≤ 1 := by omega
            clear ho
            go_wp2_with fail
            refine HAL.out.mono ?_
            rintro e w10 ⟨rfl, hk10⟩
            have HK10 := Lib.hid (HKA.out.trans hk10)
            clear hk10
            go_wp2_with fail
            go_ret
            exact ⟨rfl, HK10.out⟩
end Go.Proofs.Ytcbogiebdjbmoaa
