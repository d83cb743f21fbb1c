/-
  DiskOne, the plain law: behind a crash one sector alone may be odd.
-/
import Derived.Test.YtcbogiebdjbmoaaDiskM
set_option linter.unusedVariables false
set_option linter.unusedSimpArgs false
namespace Go.Proofs.Ytcbogiebdjbmoaa

/-- Every pending write is one of the ops'. -/
structure From (Ds D : Dk) (L : List Opp) : Prop where
  size : D.size = Ds.size
  sure : D.sure = Ds.sure
  planned : D.planned = false
  pend : ∀ x ∈ D.pend, ∃ o ∈ L, o.kind = 0 ∧ o.at_ = x.1 ∧ o.bad = false ∧ opBytes o = x.2

theorem opBytes_bad (o : Opp) (h : (opBytes o).length = 256) : o.bad = false := by
  cases hb : o.bad with
  | false => rfl
  | true =>
    unfold opBytes at h
    rw [hb, List.length_append, fillB_length] at h
    simp at h
theorem From.more {Ds D : Dk} {L : List Opp} (h : From Ds D L) (o : Opp) (ho : o ∈ L) : From Ds (moreOp D o) L := by
  unfold moreOp
  split
  · rename_i hk
    unfold callOf
    rw [if_pos hk]
    split
    · rename_i hc
      have hp := Dk.plan_none h.planned
      show From Ds (D.write o.at_ (opBytes o)) L
      unfold Dk.write
      rw [if_pos hp.2, hp.1]
      refine ⟨h.size, h.sure, h.planned, fun x hx => ?_⟩
      simp only [Dk.push, List.mem_append, List.mem_singleton] at hx
      rcases hx with hx | rfl
      · exact h.pend x hx
      · exact ⟨o, ho, hk, rfl, opBytes_bad o hc.2, rfl⟩
    · exact h
  · exact h
theorem From.all {Ds : Dk} {L : List Opp} : ∀ (l : List Opp) (D : Dk), (∀ o ∈ l, o ∈ L) → From Ds D L → From Ds (l.foldl moreOp D) L
  | [], _, _, h => h
  | o :: r, D, hl, h => From.all r _ (fun x hx => hl x (by simp [hx])) (h.more o (hl o (by simp)))

/-- The last write of a sector is one of its writes, or there is none. -/
theorem lastW_or : ∀ (l : List (Int × List UInt8)) (a : Int) (b : List UInt8), lastW l a b = b ∨ ∃ x ∈ l, x.1 = a ∧ lastW l a b = x.2
  | [], _, _ => .inl rfl
  | x :: r, a, b => by
    rcases lastW_or r a (if x.1 = a then x.2 else b) with h | ⟨y, hy, h1, h2⟩
    · by_cases e : x.1 = a
      · right
        refine ⟨x, by simp, e, ?_⟩
        show lastW r a (if x.1 = a then x.2 else b) = x.2
        rw [h, if_pos e]
      · left
        show lastW r a (if x.1 = a then x.2 else b) = b
        rw [h, if_neg e]
    · right
      exact ⟨y, by simp [hy], h1, h2⟩
theorem crash_now (D : Dk) (keep torn : Int) (a : Int) : (D.crash keep torn).now a = (D.torn (min (max keep 0).toNat D.pend.length) (min (max torn 0).toNat 256)).sure a := rfl
theorem crash_size (D : Dk) (keep torn : Int) : (D.crash keep torn).size = D.size := by
  show (D.torn _ _).size = _
  unfold Dk.torn
  split <;> rfl
/-- All but one sector are whole. -/
theorem whole_but (Ds Dm : Dk) (L : List Opp) (keep torn : Int) (hp : Ds.pend = []) (h : From Ds Dm (L.take 40)) :
    ∃ b : Int, ∀ i : Nat, (i : Int) ≠ b → wholeF Ds (Dm.crash keep torn) L i = true := by
  have key : ∀ (i : Nat) (n : Nat), (Dm.crash keep torn).now i = lastW (Dm.pend.take n) i (Dm.sure i) → wholeF Ds (Dm.crash keep torn) L i = true := by
    intro i n hn
    unfold wholeF wholeTo whole0
    by_cases hr : 0 ≤ (i : Int) ∧ (i : Int) < (Dm.crash keep torn).size
    · have hr' : 0 ≤ (i : Int) ∧ (i : Int) < Ds.size := by rw [crash_size, h.size] at hr; exact hr
      have e1 : rdB (Dm.crash keep torn) i = (Dm.crash keep torn).now i := by unfold rdB; rw [if_pos hr]
      have e2 : rdB Ds i = Ds.sure i := by
        unfold rdB
        rw [if_pos hr']
        unfold Dk.now
        rw [hp]
        rfl
      rcases lastW_or (Dm.pend.take n) i (Dm.sure i) with hl | ⟨x, hx, hxi, hl⟩
      · have : (rdB (Dm.crash keep torn) i == rdB Ds i) = true := by rw [e1, e2, hn, hl, h.sure]; simp
        rw [this]; simp
      · obtain ⟨o, ho, hk, ha, hb, hB⟩ := h.pend x (List.mem_of_mem_take hx)
        have : mat (rdB (Dm.crash keep torn) i) i o = true := by
          unfold mat
          rw [e1, hn, hl]
          simp [hk, ha, hb, hB, hxi]
        have h2 : (L.take 40).any (mat (rdB (Dm.crash keep torn) i) i) = true := List.any_eq_true.2 ⟨o, ho, this⟩
        rw [h2]; simp
    · have : rdE (Dm.crash keep torn) i = 1 := by unfold rdE; rw [if_neg hr]
      rw [this]; simp
  generalize hN : min (max keep 0).toNat Dm.pend.length = n at *
  generalize hT : min (max torn 0).toNat 256 = t at *
  cases hx : Dm.pend[n]? with
  | none =>
    refine ⟨-1, fun i _ => key i n ?_⟩
    rw [crash_now, hN, hT]
    unfold Dk.torn
    rw [hx]
    rfl
  | some x =>
    refine ⟨x.1, fun i hi => key i n ?_⟩
    rw [crash_now, hN, hT]
    unfold Dk.torn
    rw [hx]
    show setAt _ _ _ _ = _
    unfold setAt
    rw [if_neg hi]
    rfl
theorem oddTo_one (Ds Dc : Dk) (L : List Opp) (b : Int) (h : ∀ i : Nat, (i : Int) ≠ b → wholeF Ds Dc L i = true) : ∀ k : Nat, oddTo Ds Dc L k ≤ if b < k then 1 else 0
  | 0 => by simp [oddTo]
  | k + 1 => by
    have ih := oddTo_one Ds Dc L b h k
    unfold oddTo
    by_cases e : (k : Int) = b
    · rw [if_neg (show ¬ b < (k : Int) from by omega)] at ih
      rw [if_pos (show b < ((k + 1 : Nat) : Int) from by omega)]
      split <;> omega
    · rw [h k e, if_pos rfl]
      by_cases hb : b < (k : Int)
      · rw [if_pos hb] at ih
        rw [if_pos (show b < ((k + 1 : Nat) : Int) from by omega)]
        omega
      · rw [if_neg hb] at ih
        split <;> omega
theorem odd_law (Dp : Dk) (L : List Opp) (keep torn : Int) (hpl : Dp.planned = false) : oddTo Dp.plan.flush ((moreDk Dp.plan.flush L 40).crash keep torn) L 8 ≤ 1 := by
  have e := (Dk.plan_none hpl).1
  rw [e]
  have h0 : From Dp.flush Dp.flush (L.take 40) := ⟨rfl, rfl, hpl, fun x hx => by cases hx⟩
  have h1 : From Dp.flush (moreDk Dp.flush L 40) (L.take 40) := From.all (L.take 40) Dp.flush (fun _ h => h) h0
  obtain ⟨b, hb⟩ := whole_but Dp.flush (moreDk Dp.flush L 40) L keep torn rfl h1
  have := oddTo_one _ _ L b hb 8
  split at this <;> omega

theorem planned_call (D : Dk) (o : Opp) (hk : o.kind ≠ 3) (h : D.planned = false) : (callOf D o).1.planned = false := by
  have hp := Dk.plan_none h
  unfold callOf
  split
  · split
    · show (D.write _ _).planned = false
      unfold Dk.write
      rw [if_pos hp.2, hp.1]
      exact h
    · exact h
  split
  · show D.sync.planned = false
    unfold Dk.sync
    rw [if_pos hp.2, hp.1]
    exact h
  split
  · rfl
  split
  · split <;> exact h
  · exact h
theorem planned_play : ∀ (l : List Opp) (D : Dk), D.planned = false → (l.foldl playOp D).planned = false
  | [], _, h => h
  | o :: r, D, h => planned_play r _ (by
      unfold playOp
      split
      · rename_i hk; exact planned_call D o hk h
      · exact h)

theorem one_all (n : Int) (v v2 : Value) (L L2 : List Opp) (keep torn : Int) (w : World) (hR : RowsLow w w.heap.size v 7 (L.map opL)) (hR2 : RowsLow w w.heap.size v2 7 (L2.map opL)) (hok : ∀ o ∈ L, o.Ok) (hok2 : ∀ o ∈ L2, o.Ok) :
    Calls Try.prog 3 #[.int .i64 n, v, v2, .int .i64 keep, .int .i64 torn] w fun e w' => e = .returned (.bool true) ∧ Kept No w w' := by
  by_cases h : n < 1 ∨ 65536 < n
  · exact one_bad n v v2 keep torn w h
  · obtain ⟨k, rfl⟩ : ∃ k : Nat, n = k := ⟨n.toNat, by omega⟩
    have hpl : (playDk (Dk.new k) L 60).planned = false := planned_play _ _ rfl
    exact one_ok k v v2 L L2 keep torn w (by omega) (by omega) hR hR2 hok hok2 (Dk.plan_none hpl).2 (odd_law _ L2 keep torn hpl)
end Go.Proofs.Ytcbogiebdjbmoaa
