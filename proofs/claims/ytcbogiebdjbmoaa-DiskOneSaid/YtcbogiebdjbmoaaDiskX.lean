/-
  The disk's calls, each with all its answers.
-/
import Derived.Test.YtcbogiebdjbmoaaDiskK
import Derived.Test.YtcbogiebdjbmoaaDiskR
import Derived.Test.YtcbogiebdjbmoaaDiskW
import Derived.Test.YtcbogiebdjbmoaaDiskS
import Derived.Test.YtcbogiebdjbmoaaDiskC
import Derived.Test.YtcbogiebdjbmoaaDiskT
set_option linter.unusedVariables false
set_option linter.unusedSimpArgs false
namespace Go.Proofs.Ytcbogiebdjbmoaa
open Go.RowKit Go.Maps
open Go.Extern.Stop (cell)

/-- What a call leaves: the disk, as it is then, and all else as it was. -/
def Step (p m : Nat) (pv : Value) (D' : Dk) (w w' : World) : Prop :=
  ∃ pv', DiskAt w' p m pv' D' ∧ Kept (fun i => i = p ∨ i = m ∨ pv.ownBlock = some i) w w' ∧ ∀ i, pv'.ownBlock = some i → pv.ownBlock = some i ∨ w.heap.size ≤ i
theorem DiskAt.step {w w' : World} {p m : Nat} {pv pv' : Value} {D : Dk} {S : Nat → Prop} (h : DiskAt w' p m pv' D) (k : Kept S w w') (hS : ∀ i, S i → i = p ∨ i = m ∨ pv.ownBlock = some i) (hv : ∀ i, pv'.ownBlock = some i → pv.ownBlock = some i ∨ w.heap.size ≤ i) : Step p m pv D w w' :=
  ⟨pv', h, k.mono fun i _ hi => hS i hi, hv⟩
theorem none_own (i : Nat) {Q : Prop} : (Value.slice none 0 0).ownBlock = some i → Q := fun h => by cases h

set_option maxHeartbeats 400000 in
theorem write_out (p m : Nat) (pv : Value) (D : Dk) (at_ : Int) (A : Option Addr) (n cap : Nat) (w : World) (h : DiskAt w p m pv D) (hn : ¬ (0 ≤ at_ ∧ at_ < D.size)) :
    Calls Try.prog 37 #[.pointer (some ⟨p, 0, none⟩), .int .i64 at_, .slice A n cap] w fun e w' => e = .returned (.int .i64 1) ∧ w = w' := by
  have hc := has_any p m pv D at_ w h
  rw [if_neg hn] at hc
  have HC := Lib.hid hc
  clear hc h hn
  go_enter Try.func37, Try.ntmps37
  go_wp2_with fail
  refine HC.out.mono ?_
  rintro e w' ⟨rfl, rfl⟩
  go_wp2
  go_ret
  exact ⟨rfl, rfl⟩
set_option maxHeartbeats 400000 in
theorem write_long (p m : Nat) (pv : Value) (D : Dk) (at_ : Int) (A : Option Addr) (n cap : Nat) (w : World) (h : DiskAt w p m pv D) (hr : 0 ≤ at_ ∧ at_ < D.size) (hn : n ≠ 256) :
    Calls Try.prog 37 #[.pointer (some ⟨p, 0, none⟩), .int .i64 at_, .slice A n cap] w fun e w' => e = .returned (.int .i64 1) ∧ w = w' := by
  have hc := has_any p m pv D at_ w h
  rw [if_pos hr] at hc
  have HC := Lib.hid hc
  have hn' : ((n : Int) != 256) = true := by simp; omega
  clear hc h hr
  go_enter Try.func37, Try.ntmps37
  go_wp2_with fail
  refine HC.out.mono ?_
  rintro e w' ⟨rfl, rfl⟩
  go_wp2
  go_ret
  exact ⟨rfl, rfl⟩
set_option maxHeartbeats 400000 in
theorem turn_out (p m : Nat) (pv : Value) (D : Dk) (at_ place : Int) (by_ : UInt8) (w : World) (h : DiskAt w p m pv D) (hn : ¬ (0 ≤ at_ ∧ at_ < D.size)) :
    Calls Try.prog 40 #[.pointer (some ⟨p, 0, none⟩), .int .i64 at_, .int .i64 place, .int .u8 by_.toNat] w fun e w' => e = .returned (.int .i64 1) ∧ w = w' := by
  have hc := has_any p m pv D at_ w h
  rw [if_neg hn] at hc
  have HC := Lib.hid hc
  clear hc h hn
  go_enter Try.func40, Try.ntmps40
  go_wp2_with fail
  refine HC.out.mono ?_
  rintro e w' ⟨rfl, rfl⟩
  go_wp2
  go_ret
  exact ⟨rfl, rfl⟩
set_option maxHeartbeats 400000 in
theorem turn_low (p m : Nat) (pv : Value) (D : Dk) (at_ place : Int) (by_ : UInt8) (w : World) (h : DiskAt w p m pv D) (hr : 0 ≤ at_ ∧ at_ < D.size) (hn : place < 0) :
    Calls Try.prog 40 #[.pointer (some ⟨p, 0, none⟩), .int .i64 at_, .int .i64 place, .int .u8 by_.toNat] w fun e w' => e = .returned (.int .i64 1) ∧ w = w' := by
  have hc := has_any p m pv D at_ w h
  rw [if_pos hr] at hc
  have HC := Lib.hid hc
  clear hc h hr
  go_enter Try.func40, Try.ntmps40
  go_wp2_with fail
  refine HC.out.mono ?_
  rintro e w' ⟨rfl, rfl⟩
  go_wp2
  go_ret
  exact ⟨rfl, rfl⟩
set_option maxHeartbeats 400000 in
theorem turn_high (p m : Nat) (pv : Value) (D : Dk) (at_ place : Int) (by_ : UInt8) (w : World) (h : DiskAt w p m pv D) (hr : 0 ≤ at_ ∧ at_ < D.size) (hn : 256 ≤ place) :
    Calls Try.prog 40 #[.pointer (some ⟨p, 0, none⟩), .int .i64 at_, .int .i64 place, .int .u8 by_.toNat] w fun e w' => e = .returned (.int .i64 1) ∧ w = w' := by
  have hc := has_any p m pv D at_ w h
  rw [if_pos hr] at hc
  have HC := Lib.hid hc
  clear hc h hr
  go_enter Try.func40, Try.ntmps40
  go_wp2_with fail
  refine HC.out.mono ?_
  rintro e w' ⟨rfl, rfl⟩
  go_wp2
  go_ret
  exact ⟨rfl, rfl⟩

def inB (D : Dk) (a : Int) : Bool := decide (0 ≤ a ∧ a < D.size)
theorem write_any (p m : Nat) (pv : Value) (D : Dk) (at_ : Int) (A : Option Addr) (cap : Nat) (bs : List UInt8) (w : World) (h : DiskAt w p m pv D) (hR : ReadsB w A bs) (hne : ∀ ad, A = some ad → ad.block ≠ p) (hn : D.pend.length ≤ 1000000000) :
    Calls Try.prog 37 #[.pointer (some ⟨p, 0, none⟩), .int .i64 at_, .slice A bs.length cap] w fun e w' => e = .returned (.int .i64 (if (0 ≤ at_ ∧ at_ < D.size) ∧ bs.length = 256 then D.planErr else 1)) ∧ Step p m pv (if (0 ≤ at_ ∧ at_ < D.size) ∧ bs.length = 256 then D.write at_ bs else D) w w' := by
  by_cases hr : 0 ≤ at_ ∧ at_ < D.size
  · by_cases hl : bs.length = 256
    · rw [if_pos ⟨hr, hl⟩, if_pos ⟨hr, hl⟩, hl]
      unfold Dk.write
      by_cases he : D.planErr = 0
      · rw [if_pos he]
        refine (write_in p m pv D at_ A cap bs w h hr.1 hr.2 he hl hR hne hn).mono ?_
        rintro e w' ⟨pv', rfl, hd, hk, ho⟩
        exact ⟨by rw [he], hd.step hk (fun i hi => hi.elim .inl (fun h => .inr (.inr h))) ho⟩
      · rw [if_neg he]
        refine (write_plan p m pv D at_ A cap w h hr.1 hr.2 he).mono ?_
        rintro e w' ⟨rfl, hd, hk⟩
        exact ⟨rfl, hd.step hk (fun i hi => .inl hi) (fun _ => .inl)⟩
    · rw [if_neg (fun h => hl h.2), if_neg (fun h => hl h.2)]
      refine (write_long p m pv D at_ A _ cap w h hr hl).mono ?_
      rintro e w' ⟨rfl, rfl⟩
      exact ⟨rfl, h.step (Kept.refl No w) (fun i hi => hi.elim) (fun _ => .inl)⟩
  · rw [if_neg (fun h => hr h.1), if_neg (fun h => hr h.1)]
    refine (write_out p m pv D at_ A _ cap w h hr).mono ?_
    rintro e w' ⟨rfl, rfl⟩
    exact ⟨rfl, h.step (Kept.refl No w) (fun i hi => hi.elim) (fun _ => .inl)⟩
theorem sync_any (p m : Nat) (pv : Value) (D : Dk) (w : World) (h : DiskAt w p m pv D) :
    Calls Try.prog 10 #[.pointer (some ⟨p, 0, none⟩)] w fun e w' => e = .returned (.int .i64 D.planErr) ∧ Step p m pv D.sync w w' := by
  unfold Dk.sync
  by_cases he : D.planErr = 0
  · rw [if_pos he]
    refine (sync_in p m pv D w h he).mono ?_
    rintro e w' ⟨rfl, hd, hk⟩
    exact ⟨by rw [he], hd.step hk (fun i hi => hi.elim .inl (fun h => .inr (.inl h))) (fun i => none_own i)⟩
  · rw [if_neg he]
    refine (sync_plan p m pv D w h he).mono ?_
    rintro e w' ⟨rfl, hd, hk⟩
    exact ⟨rfl, hd.step hk (fun i hi => .inl hi) (fun _ => .inl)⟩
theorem crash_step (p m : Nat) (pv : Value) (D : Dk) (keep torn : Int) (w : World) (h : DiskAt w p m pv D) :
    Calls Try.prog 14 #[.pointer (some ⟨p, 0, none⟩), .int .i64 keep, .int .i64 torn] w fun e w' => e = .returned (.int .i64 0) ∧ Step p m pv (D.crash keep torn) w w' := by
  refine (crash_any p m pv D keep torn w h).mono ?_
  rintro e w' ⟨rfl, hd, hk⟩
  exact ⟨rfl, hd.step hk (fun i hi => hi.elim .inl (fun h => .inr (.inl h))) (fun i => none_own i)⟩
theorem fail_any (p m : Nat) (pv : Value) (D : Dk) (after e0 : Int) (w : World) (h : DiskAt w p m pv D) (ha : -9223372036854775808 ≤ after ∧ after ≤ 9223372036854775807) :
    Calls Try.prog 39 #[.pointer (some ⟨p, 0, none⟩), .int .i64 after, .int .i64 e0] w fun e w' => e = .returned (.int .i64 (if e0 = 160 ∨ e0 = 7 then 0 else 1)) ∧ Step p m pv (if e0 = 160 ∨ e0 = 7 then D.fail after e0 else D) w w' := by
  by_cases he : e0 = 160 ∨ e0 = 7
  · rw [if_pos he, if_pos he]
    refine (fail_ok p m pv D after e0 w h he ha).mono ?_
    rintro e w' ⟨rfl, hd, hk⟩
    exact ⟨rfl, hd.step hk (fun i hi => .inl hi) (fun _ => .inl)⟩
  · rw [if_neg he, if_neg he]
    refine (fail_bad p m pv D after e0 w h (fun h => he (.inl h)) (fun h => he (.inr h))).mono ?_
    rintro e w' ⟨rfl, rfl⟩
    exact ⟨rfl, h.step (Kept.refl No w) (fun i hi => hi.elim) (fun _ => .inl)⟩
theorem turn_any (p m : Nat) (pv : Value) (D : Dk) (at_ place : Int) (by_ : UInt8) (w : World) (h : DiskAt w p m pv D) :
    Calls Try.prog 40 #[.pointer (some ⟨p, 0, none⟩), .int .i64 at_, .int .i64 place, .int .u8 by_.toNat] w fun e w' => e = .returned (.int .i64 (if (0 ≤ at_ ∧ at_ < D.size) ∧ 0 ≤ place ∧ place < 256 then 0 else 1)) ∧ Step p m pv (if (0 ≤ at_ ∧ at_ < D.size) ∧ 0 ≤ place ∧ place < 256 then D.turn at_ place.toNat by_ else D) w w' := by
  by_cases hr : 0 ≤ at_ ∧ at_ < D.size
  · by_cases hl : 0 ≤ place ∧ place < 256
    · rw [if_pos ⟨hr, hl⟩, if_pos ⟨hr, hl⟩]
      obtain ⟨k, rfl⟩ : ∃ k : Nat, place = k := ⟨place.toNat, by omega⟩
      rw [Int.toNat_natCast]
      refine (turn_in p m pv D at_ k by_ w h hr.1 hr.2 (by omega)).mono ?_
      rintro e w' ⟨rfl, hd, hk⟩
      exact ⟨rfl, hd.step hk (fun i hi => .inr hi) (fun _ => .inl)⟩
    · rw [if_neg (fun h => hl h.2), if_neg (fun h => hl h.2)]
      by_cases h0 : place < 0
      · refine (turn_low p m pv D at_ place by_ w h hr h0).mono ?_
        rintro e w' ⟨rfl, rfl⟩
        exact ⟨rfl, h.step (Kept.refl No w) (fun i hi => hi.elim) (fun _ => .inl)⟩
      · refine (turn_high p m pv D at_ place by_ w h hr (by omega)).mono ?_
        rintro e w' ⟨rfl, rfl⟩
        exact ⟨rfl, h.step (Kept.refl No w) (fun i hi => hi.elim) (fun _ => .inl)⟩
  · rw [if_neg (fun h => hr h.1), if_neg (fun h => hr h.1)]
    refine (turn_out p m pv D at_ place by_ w h hr).mono ?_
    rintro e w' ⟨rfl, rfl⟩
    exact ⟨rfl, h.step (Kept.refl No w) (fun i hi => hi.elim) (fun _ => .inl)⟩
end Go.Proofs.Ytcbogiebdjbmoaa
