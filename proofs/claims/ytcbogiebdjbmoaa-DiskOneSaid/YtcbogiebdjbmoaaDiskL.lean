/-
  The law's alive.
-/
import Derived.Test.YtcbogiebdjbmoaaDiskZ
set_option linter.unusedVariables false
set_option linter.unusedSimpArgs false
namespace Go.Proofs.Ytcbogiebdjbmoaa
open Go.RowKit Go.Maps
open Go.Extern.Stop (cell)

def oF (f : UInt8) : Opp := ⟨0, 0, 0, 0, f, false, 0⟩
theorem Since.next {w0 w : World} {p m : Nat} {D : Dk} (h : Since w0 p m D w) {n : Nat} {args : Array Value} {v : Value} {D' : Dk}
    (hc : ∀ pv, DiskAt w p m pv D → Calls Try.prog n args w fun e w' => e = .returned v ∧ Step p m pv D' w w') :
    Calls Try.prog n args w fun e w' => e = .returned v ∧ Since w0 p m D' w' := by
  obtain ⟨pv, hd, hk, ho⟩ := h
  exact (hc pv hd).mono fun e w' ⟨he, hs⟩ => ⟨he, Since.step hk ho hs⟩
theorem Since.lt {w0 w : World} {p m : Nat} {D : Dk} (h : Since w0 p m D w) : p < w.heap.size := by
  obtain ⟨pv, hd, _⟩ := h
  exact hd.plt
/-- A read row's own Write. -/
theorem write_row {w0 w : World} {p m g cap base : Nat} {D : Dk} {bs : List UInt8} (h : Since w0 p m D w) (hp : p < base) (hO : w.ownsRow base 5 1 (.slice (some ⟨g, 0, none⟩) bs.length cap) bs.length (bcells bs)) (at_ : Int) (hn : D.pend.length ≤ 1000000000) :
    Calls Try.prog 37 #[.pointer (some ⟨p, 0, none⟩), .int .i64 at_, .slice (some ⟨g, 0, none⟩) bs.length cap] w fun e w' => e = .returned (.int .i64 (if (0 ≤ at_ ∧ at_ < D.size) ∧ bs.length = 256 then D.planErr else 1)) ∧ Since w0 p m (if (0 ≤ at_ ∧ at_ < D.size) ∧ bs.length = 256 then D.write at_ bs else D) w' :=
  h.next fun pv hd => write_any p m pv D at_ _ cap bs w hd (row_reads hO) (fun ad e => by cases e; have := (hO.lt g rfl).1; show g ≠ p; omega) hn

theorem bytes_good (f : UInt8) (w : World) :
    Calls Try.prog 15 #[.agg (opA (oF f))] w fun e w' => ∃ g cap, e = .returned (.slice (some ⟨g, 0, none⟩) 256 cap) ∧ w'.ownsRow w.heap.size 5 1 (.slice (some ⟨g, 0, none⟩) 256 cap) 256 (bcells (fillB f 256)) ∧ Kept No w w' ∧ w.heap.size ≤ g := by
  have h := bytes_any (oF f) w
  have e : opBytes (oF f) = fillB f 256 := by simp [opBytes, oF]
  rw [e, fillB_length] at h
  exact h
theorem write_good {w0 w : World} {p m g cap base : Nat} {D : Dk} {bs : List UInt8} (h : Since w0 p m D w) (hp : p < base) (hl : bs.length = 256) (hO : w.ownsRow base 5 1 (.slice (some ⟨g, 0, none⟩) 256 cap) 256 (bcells bs)) (at_ : Int) (hn : D.pend.length ≤ 1000000000) (hr : 0 ≤ at_ ∧ at_ < D.size) :
    Calls Try.prog 37 #[.pointer (some ⟨p, 0, none⟩), .int .i64 at_, .slice (some ⟨g, 0, none⟩) 256 cap] w fun e w' => e = .returned (.int .i64 D.planErr) ∧ Since w0 p m (D.write at_ bs) w' := by
  have := write_row (bs := bs) (g := g) (cap := cap) h hp (by rw [hl]; exact hO) at_ hn
  rw [hl, if_pos ⟨hr, rfl⟩, if_pos ⟨hr, rfl⟩] at this
  exact this

def D1 : Dk := (Dk.new 2).write 0 (fillB 1 256)
def D2 : Dk := D1.sync
def D3 : Dk := D2.write 0 (fillB 100 256)
def D4 : Dk := D3.crash 0 3
theorem D4_now : (bcells (D4.now 0))[2]? = some (.int .u8 102) ∧ (bcells (D4.now 0))[3]? = some (.int .u8 4) := by
  have e : D4.now 0 = tear 3 (fillB 100 256) (fillB 1 256) := by rfl
  rw [e]
  constructor <;> kernel_rfl

set_option maxHeartbeats 2000000 in
set_option maxRecDepth 100000 in
theorem alive_any (w : World) : Calls Try.prog 11 #[] w fun e w' => e = .returned (.bool true) ∧ Kept No w w' := by
  have HN := Lib.hid (new_ok 2 w (by decide) (by decide))
  go_enter Try.func11, Try.ntmps11
  go_wp2_with fail
  refine HN.out.mono ?_
  rintro e w1 ⟨rfl, hd1, hk1, hs1⟩
  have S1 : Hid (Since w (w.heap.size + 1) w.heap.size (Dk.new 2) w1) := ⟨_, hd1, hk1.of_no, fun i => none_own i⟩
  have HB := Lib.hid (bytes_good 1 w1)
  clear hd1 hk1
  go_wp2_with fail
  refine HB.out.mono ?_
  rintro e w2 ⟨g, cap, rfl, hO, hK, hg⟩
  have S2 : Hid (Since w (w.heap.size + 1) w.heap.size (Dk.new 2) w2) := S1.out.kept hK
  have HW := Lib.hid (write_good S2.out (by omega) (fillB_length 1 256) hO 0 (by simp [Dk.new]) (by simp [Dk.new]))
  clear hO hK
  go_wp2_with fail
  refine HW.out.mono ?_
  rintro e w3 ⟨rfl, hs⟩
  have S3 : Hid (Since w (w.heap.size + 1) w.heap.size D1 w3) := hs
  have HY := Lib.hid (S3.out.next (fun pv hd => sync_any _ _ pv _ w3 hd))
  clear hs
  go_wp2_with fail
  refine HY.out.mono ?_
  rintro e w4 ⟨rfl, hs⟩
  have S4 : Hid (Since w (w.heap.size + 1) w.heap.size D2 w4) := hs
  have HB2 := Lib.hid (bytes_good 100 w4)
  have hl4 : w.heap.size + 1 < w4.heap.size := hs.lt
  clear hs
  go_wp2_with fail
  refine HB2.out.mono ?_
  rintro e w5 ⟨g2, cap2, rfl, hO2, hK2, hg2⟩
  have S5 : Hid (Since w (w.heap.size + 1) w.heap.size D2 w5) := S4.out.kept hK2
  have HW2 := Lib.hid (write_good S5.out hl4 (fillB_length 100 256) hO2 0 (by show (D1.sync).pend.length ≤ _; decide) (by show (0:Int) ≤ 0 ∧ (0:Int) < ((Dk.new 2).size : Int); decide))
  clear hO2 hK2
  go_wp2_with fail
  refine HW2.out.mono ?_
  rintro e w6 ⟨rfl, hs⟩
  have S6 : Hid (Since w (w.heap.size + 1) w.heap.size D3 w6) := hs
  have HC := Lib.hid (S6.out.next (fun pv hd => crash_step _ _ pv _ 0 3 w6 hd))
  clear hs
  go_wp2_with fail
  refine HC.out.mono ?_
  rintro e w7 ⟨rfl, hs⟩
  have S7 : Hid (Since w (w.heap.size + 1) w.heap.size D4 w7) := hs
  obtain ⟨pv, hd7, hk7, ho7⟩ := S7.out
  have HR := Lib.hid (read_in _ _ pv D4 0 w7 hd7 (by decide) (by show (0:Int) < ((Dk.new 2).size : Int); decide))
  have hk7' : Kept No w w7 := hk7.mono (fun i hi h => by omega)
  have HK7 := Lib.hid hk7'
  clear hs hd7 hk7 hk7'
  go_wp2_with fail
  refine HR.out.mono ?_
  rintro e w8 ⟨v8, rfl, hO8, hK8⟩
  have S8 : Hid (Since w (w.heap.size + 1) w.heap.size D4 w8) := S7.out.kept hK8
  obtain ⟨pv8, hd8, hk8, ho8⟩ := S8.out
  have HR2 := Lib.hid (read_out _ _ pv8 D4 2 w8 hd8 (by show ¬ ((0:Int) ≤ 2 ∧ (2:Int) < ((Dk.new 2).size : Int)); decide))
  have HSZ := Lib.hid (size_any _ _ pv8 D4 w8 hd8)
  obtain ⟨A8, cap8, rfl, hnc, hcm, hA8⟩ := row_view hO8
  obtain ⟨g8, cur8, rfl, _, hg8, hh8, _, htk8⟩ := hA8 (by decide)
  have c2 : w8.cell? ⟨g8, 2, none⟩ = some (.int .u8 102) := row_cell1 hO8 2 _ D4_now.1
  have c3 : w8.cell? ⟨g8, 3, none⟩ = some (.int .u8 4) := row_cell1 hO8 3 _ D4_now.2
  have HK8 := Lib.hid (HK7.out.trans hK8)
  have hia2 := run_index_row (P := Try.prog) 28 5 Try.underlying28 1 size5 g8 256 cap8 2 (by decide)
  have hia3 := run_index_row (P := Try.prog) 28 5 Try.underlying28 1 size5 g8 256 cap8 3 (by decide)
  rw [show ((2 : Nat) : Int) = 2 from rfl, Nat.mul_one] at hia2
  rw [show ((3 : Nat) : Int) = 3 from rfl, Nat.mul_one] at hia3
  clear hO8 hK8 hd8 hk8 ho8 hA8 hh8 htk8 ho7
  go_wp2_with fail
  refine HR2.out.mono ?_
  rintro e w9 ⟨rfl, rfl⟩
  go_wp2_with fail
  refine HSZ.out.mono ?_
  rintro e w9 ⟨rfl, rfl⟩
  have hz : (D4.size : Int) = 2 := rfl
  rw [hz]
  go_wp2_with fail
  go_ret
  exact ⟨rfl, HK8.out⟩
end Go.Proofs.Ytcbogiebdjbmoaa
