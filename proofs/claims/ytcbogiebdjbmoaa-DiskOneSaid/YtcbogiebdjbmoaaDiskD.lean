/-
  The disk, as it is: its state as plain data, what each call makes of it, and what of memory says so.
-/
import Derived.Test.YtcbogiebdjbmoaaMem
set_option linter.unusedVariables false
set_option linter.unusedSimpArgs false
namespace Go.Proofs.Ytcbogiebdjbmoaa
open Go.RowKit Go.Maps
open Go.Extern.Stop (cell)

/-- A disk, as it is. -/
structure Dk where
  size : Nat
  sure : Int → List UInt8
  pend : List (Int × List UInt8)
  planned : Bool
  after : Int
  err : Int

def zb : List UInt8 := List.replicate 256 0
theorem zb_length : zb.length = 256 := List.length_replicate ..

/-- A write's cells. -/
def wcells (x : Int × List UInt8) : List Value := .int .i64 x.1 :: bcells x.2
def pcells (l : List (Int × List UInt8)) : List Value := l.flatMap wcells

structure Dk.Ok (D : Dk) : Prop where
  pos : 0 < D.size
  most : D.size ≤ 65536
  sure : ∀ a, (D.sure a).length = 256
  out : ∀ a : Int, ¬ (0 ≤ a ∧ a < D.size) → D.sure a = zb
  pend : ∀ x ∈ D.pend, x.2.length = 256 ∧ 0 ≤ x.1 ∧ x.1 < D.size
  after : -9223372036854775808 ≤ D.after ∧ D.after ≤ 9223372036854775807
  err : -9223372036854775808 ≤ D.err ∧ D.err ≤ 9223372036854775807

/-! ### what the calls make of it -/
def lastW (l : List (Int × List UInt8)) (a : Int) (b : List UInt8) : List UInt8 := l.foldl (fun b x => if x.1 = a then x.2 else b) b
def Dk.now (D : Dk) (a : Int) : List UInt8 := lastW D.pend a (D.sure a)
def setAt (f : Int → List UInt8) (a : Int) (b : List UInt8) : Int → List UInt8 := fun x => if x = a then b else f x
def Dk.put (D : Dk) (a : Int) (b : List UInt8) : Dk := { D with sure := setAt D.sure a b }
def Dk.planErr (D : Dk) : Int := if D.planned then (if 0 < D.after then 0 else D.err) else 0
def Dk.plan (D : Dk) : Dk := if D.planned then (if 0 < D.after then { D with after := D.after - 1 } else { D with planned := false }) else D
def Dk.push (D : Dk) (a : Int) (b : List UInt8) : Dk := { D with pend := D.pend ++ [(a, b)] }
def Dk.write (D : Dk) (a : Int) (b : List UInt8) : Dk := if D.planErr = 0 then D.plan.push a b else D.plan
def Dk.flush (D : Dk) : Dk := { D with sure := D.now, pend := [] }
def Dk.sync (D : Dk) : Dk := if D.planErr = 0 then D.plan.flush else D.plan
/-- The first n writes are sure. -/
def Dk.upto (D : Dk) (n : Nat) : Dk := { D with sure := fun a => lastW (D.pend.take n) a (D.sure a) }
def tear (t : Nat) (new old : List UInt8) : List UInt8 := new.take t ++ old.drop t
def Dk.torn (D : Dk) (n t : Nat) : Dk :=
  match D.pend[n]? with
  | some x => (D.upto n).put x.1 (tear t x.2 ((D.upto n).sure x.1))
  | none => D.upto n
def Dk.crash (D : Dk) (keep torn : Int) : Dk :=
  { D.torn (min (max keep 0).toNat D.pend.length) (min (max torn 0).toNat 256) with pend := [], planned := false }
def Dk.fail (D : Dk) (after e : Int) : Dk := { D with planned := decide (0 ≤ after), after := after, err := e }
def turnB (b : List UInt8) (place : Nat) (by_ : UInt8) : List UInt8 := b.set place (b.getD place 0 ^^^ by_)
def Dk.turn (D : Dk) (a : Int) (place : Nat) (by_ : UInt8) : Dk :=
  { D with sure := setAt D.sure a (turnB (D.sure a) place by_), pend := D.pend.map fun x => if x.1 = a then (x.1, turnB x.2 place by_) else x }
def Dk.new (n : Nat) : Dk := { size := n, sure := fun _ => zb, pend := [], planned := false, after := 0, err := 0 }

/-! ### plain facts -/
theorem lastW_snoc (l : List (Int × List UInt8)) (x : Int × List UInt8) (a : Int) (b : List UInt8) : lastW (l ++ [x]) a b = if x.1 = a then x.2 else lastW l a b := by simp [lastW]
theorem lastW_take {l : List (Int × List UInt8)} {k : Nat} {x : Int × List UInt8} (h : l[k]? = some x) (a : Int) (b : List UInt8) : lastW (l.take (k + 1)) a b = if x.1 = a then x.2 else lastW (l.take k) a b := by
  rw [List.take_add_one, h]
  exact lastW_snoc _ _ _ _
theorem lastW_len : ∀ (l : List (Int × List UInt8)) (a : Int) (b : List UInt8), b.length = 256 → (∀ x ∈ l, x.2.length = 256) → (lastW l a b).length = 256
  | [], _, _, hb, _ => hb
  | x :: r, a, b, hb, h => by
    have h1 : (if x.1 = a then x.2 else b).length = 256 := by
      split
      · exact h x (by simp)
      · exact hb
    exact lastW_len r a (if x.1 = a then x.2 else b) h1 (fun y hy => h y (by simp [hy]))
theorem lastW_length {D : Dk} (ok : D.Ok) (k : Nat) (a : Int) : (lastW (D.pend.take k) a (D.sure a)).length = 256 :=
  lastW_len _ _ _ (ok.sure a) (fun x hx => (ok.pend x (List.mem_of_mem_take hx)).1)
theorem lastW_now {D : Dk} (ok : D.Ok) (a : Int) : (D.now a).length = 256 :=
  lastW_len _ _ _ (ok.sure a) (fun x hx => (ok.pend x hx).1)
theorem lastW_out : ∀ (l : List (Int × List UInt8)) (a : Int) (b : List UInt8), (∀ x ∈ l, x.1 ≠ a) → lastW l a b = b
  | [], _, _, _ => rfl
  | x :: r, a, b, h => by
    unfold lastW
    rw [List.foldl_cons, if_neg (h x (by simp))]
    exact lastW_out r a b (fun y hy => h y (by simp [hy]))
theorem wcells_one (x : Int × List UInt8) : ∀ u ∈ wcells x, u.oneCell' = true := by
  intro u hu
  simp only [wcells, List.mem_cons] at hu
  rcases hu with rfl | hu
  · rfl
  · exact bcells_one _ _ hu
theorem wcells_mem (x : Int × List UInt8) : ∀ v ∈ (wcells x).toArray, v.oneCell' = true := fun v hv => wcells_one x v (by simpa using hv)
theorem wcells_length {x : Int × List UInt8} (h : x.2.length = 256) : (wcells x).length = 257 := by simp [wcells, bcells_length, h]
theorem pcells_append (l : List (Int × List UInt8)) (x : Int × List UInt8) : pcells (l ++ [x]) = pcells l ++ wcells x := by simp [pcells]
theorem pcells_range : ∀ (l : List (Int × List UInt8)), (∀ x ∈ l, x.2.length = 256) → ∀ k x, l[k]? = some x → ((pcells l).drop (k * 257)).take 257 = wcells x
  | [], _, k, x, h => by simp at h
  | y :: r, hl, k, x, h => by
    have hy : (wcells y).length = 257 := wcells_length (hl y (by simp))
    cases k with
    | zero =>
      simp at h
      subst h
      simp [pcells, hy]
    | succ k =>
      have ih := pcells_range r (fun x hx => hl x (by simp [hx])) k x (by simpa using h)
      have e : (k + 1) * 257 = 257 + k * 257 := by omega
      rw [e]
      have e2 : pcells (y :: r) = wcells y ++ pcells r := by simp [pcells]
      rw [e2, ← hy, List.drop_length_add_append, hy]
      exact ih
theorem pcells_length : ∀ (l : List (Int × List UInt8)), (∀ x ∈ l, x.2.length = 256) → (pcells l).length = l.length * 257
  | [], _ => rfl
  | y :: r, hl => by
    have ih := pcells_length r (fun x hx => hl x (by simp [hx]))
    have e2 : pcells (y :: r) = wcells y ++ pcells r := by simp [pcells]
    rw [e2, List.length_append, ih, wcells_length (hl y (by simp)), List.length_cons]
    omega

theorem setAt_len {f : Int → List UInt8} (hf : ∀ a, (f a).length = 256) {a : Int} {b : List UInt8} (hb : b.length = 256) (x : Int) : (setAt f a b x).length = 256 := by
  unfold setAt
  split
  · exact hb
  · exact hf x
theorem Dk.Ok.put {D : Dk} (ok : D.Ok) {a : Int} {b : List UInt8} (h0 : 0 ≤ a) (h1 : a < D.size) (hb : b.length = 256) : (D.put a b).Ok where
  pos := ok.pos
  most := ok.most
  sure := setAt_len ok.sure hb
  out := fun x hx => by
    have hx' : ¬ (0 ≤ x ∧ x < D.size) := hx
    have : ¬ x = a := by rintro rfl; exact hx' ⟨h0, h1⟩
    simp only [Dk.put, setAt, if_neg this]
    exact ok.out x hx'
  pend := ok.pend
  after := ok.after
  err := ok.err
theorem Dk.Ok.plan {D : Dk} (ok : D.Ok) : D.plan.Ok := by
  unfold Dk.plan
  split
  · split
    · exact ⟨ok.pos, ok.most, ok.sure, ok.out, ok.pend, by have := ok.after; simp; omega, ok.err⟩
    · exact ⟨ok.pos, ok.most, ok.sure, ok.out, ok.pend, ok.after, ok.err⟩
  · exact ok
theorem Dk.plan_size (D : Dk) : D.plan.size = D.size := by unfold Dk.plan; split <;> try split
                                                           all_goals rfl
theorem Dk.plan_sure (D : Dk) : D.plan.sure = D.sure := by unfold Dk.plan; split <;> try split
                                                           all_goals rfl
theorem Dk.plan_pend (D : Dk) : D.plan.pend = D.pend := by unfold Dk.plan; split <;> try split
                                                           all_goals rfl
theorem Dk.Ok.push {D : Dk} (ok : D.Ok) {a : Int} {b : List UInt8} (h0 : 0 ≤ a) (h1 : a < D.size) (hb : b.length = 256) : (D.push a b).Ok where
  pos := ok.pos
  most := ok.most
  sure := ok.sure
  out := ok.out
  pend := fun x hx => by
    simp only [Dk.push, List.mem_append, List.mem_singleton] at hx
    rcases hx with hx | rfl
    · exact ok.pend x hx
    · exact ⟨hb, h0, h1⟩
  after := ok.after
  err := ok.err
theorem Dk.Ok.upto {D : Dk} (ok : D.Ok) (n : Nat) : (D.upto n).Ok where
  pos := ok.pos
  most := ok.most
  sure := fun a => lastW_length ok n a
  out := fun x hx => by
    simp only [Dk.upto]
    rw [lastW_out _ _ _ (fun y hy => ?_)]
    · exact ok.out x hx
    · rintro rfl
      exact hx (ok.pend y (List.mem_of_mem_take hy)).2
  pend := ok.pend
  after := ok.after
  err := ok.err
theorem tear_length {t : Nat} {a b : List UInt8} (ha : a.length = 256) (hb : b.length = 256) (ht : t ≤ 256) : (tear t a b).length = 256 := by
  simp [tear, ha, hb]; omega
theorem Dk.Ok.torn {D : Dk} (ok : D.Ok) (n t : Nat) (ht : t ≤ 256) : (D.torn n t).Ok := by
  unfold Dk.torn
  split
  · rename_i x hx
    have hp := ok.pend x (List.mem_of_getElem? hx)
    exact (ok.upto n).put hp.2.1 hp.2.2 (tear_length hp.1 ((ok.upto n).sure _) ht)
  · exact ok.upto n
theorem Dk.upto_all (D : Dk) : { D.upto D.pend.length with pend := [] } = D.flush := by
  simp [Dk.upto, Dk.flush]; rfl
theorem Dk.Ok.none {D : Dk} (ok : D.Ok) : Dk.Ok { D with pend := [] } := ⟨ok.pos, ok.most, ok.sure, ok.out, fun x hx => (by cases hx), ok.after, ok.err⟩
theorem Dk.Ok.flush {D : Dk} (ok : D.Ok) : D.flush.Ok := by rw [← Dk.upto_all]; exact (ok.upto _).none
theorem Dk.Ok.write {D : Dk} (ok : D.Ok) {a : Int} {b : List UInt8} (h0 : 0 ≤ a) (h1 : a < D.size) (hb : b.length = 256) : (D.write a b).Ok := by
  unfold Dk.write
  split
  · exact ok.plan.push h0 (by rw [Dk.plan_size]; exact h1) hb
  · exact ok.plan
theorem Dk.Ok.sync {D : Dk} (ok : D.Ok) : D.sync.Ok := by
  unfold Dk.sync
  split
  · exact ok.plan.flush
  · exact ok.plan
theorem Dk.Ok.crash {D : Dk} (ok : D.Ok) (keep torn : Int) : (D.crash keep torn).Ok := by
  have h := ok.torn (min (max keep 0).toNat D.pend.length) (min (max torn 0).toNat 256) (Nat.min_le_right _ _)
  exact ⟨h.pos, h.most, h.sure, h.out, fun x hx => (by cases hx), h.after, h.err⟩
theorem Dk.Ok.fail {D : Dk} (ok : D.Ok) {after e : Int} (ha : -9223372036854775808 ≤ after ∧ after ≤ 9223372036854775807) (he : -9223372036854775808 ≤ e ∧ e ≤ 9223372036854775807) : (D.fail after e).Ok :=
  ⟨ok.pos, ok.most, ok.sure, ok.out, ok.pend, ha, he⟩
theorem turnB_length (b : List UInt8) (place : Nat) (by_ : UInt8) : (turnB b place by_).length = b.length := by simp [turnB]
theorem Dk.Ok.turn {D : Dk} (ok : D.Ok) {a : Int} (h0 : 0 ≤ a) (h1 : a < D.size) (place : Nat) (by_ : UInt8) : (D.turn a place by_).Ok where
  pos := ok.pos
  most := ok.most
  sure := setAt_len ok.sure (by rw [turnB_length]; exact ok.sure a)
  out := (ok.put h0 h1 (b := turnB (D.sure a) place by_) (by rw [turnB_length]; exact ok.sure a)).out
  pend := fun x hx => by
    simp only [Dk.turn, List.mem_map] at hx
    obtain ⟨y, hy, rfl⟩ := hx
    have := ok.pend y hy
    split
    · rename_i he
      exact ⟨by rw [turnB_length]; exact this.1, this.2⟩
    · exact this
  after := ok.after
  err := ok.err
theorem Dk.Ok.new {n : Nat} (h0 : 0 < n) (h1 : n ≤ 65536) : (Dk.new n).Ok where
  pos := h0
  most := h1
  sure := fun _ => zb_length
  out := fun _ _ => rfl
  pend := fun x hx => by cases hx
  after := by simp [Dk.new]
  err := by simp [Dk.new]

/-! ### what of memory says so -/
/-- How a map's element is read here: as the value that it is. -/
def vR : Value → Option (DataW Value × List MemPlace) := fun v => some (.held v, [])
def blkV (bs : List UInt8) : Value := .agg (bcells bs).toArray

/-- The sure sectors, in their map. -/
def SureMap (w : World) (m : Nat) (N : Nat) (f : Int → List UInt8) : Prop :=
  ∃ n D, w.ownsMap Try.prog 3 vR m n D ∧ (∀ a : Int, D.atKey (.int .i64 a) (.held (blkV zb)) = .held (blkV (f a))) ∧ ∀ k, Maps.has D k = true → ∃ a : Int, k = .int .i64 a ∧ 0 ≤ a ∧ a < N

def head (m : Nat) (pv : Value) (D : Dk) : Array Value := #[.int .i64 D.size, .map (some m), pv, .bool D.planned, .int .i64 D.after, .int .i64 D.err]

structure DiskAt (w : World) (p m : Nat) (pv : Value) (D : Dk) : Prop where
  ok : D.Ok
  head : w.heap[p]? = some (.cells (head m pv D) 60 (0, 0))
  map : SureMap w m D.size D.sure
  row : w.ownsRow 0 74 257 pv D.pend.length (pcells D.pend)

/-- A disk lies at block p, all of it in the blocks F. -/
def IsDisk (w : World) (p : Nat) (F : Nat → Prop) (D : Dk) : Prop :=
  ∃ m pv, DiskAt w p m pv D ∧ F p ∧ F m ∧ (∀ k, pv.ownBlock = some k → F k) ∧ ∀ i, F i → i < w.heap.size

theorem law3 : Keyed Try.prog 3 := int_keyed Try.underlying3
theorem zero72 : (Try.prog.info? 72).map (·.zero) = some (some (.agg (bcells zb).toArray)) := by kernel_rfl
theorem size72 : (Try.prog.info? 72).map (·.size) = some 256 := by kernel_rfl
theorem size74 : (Try.prog.info? 74).map (·.size) = some 257 := by kernel_rfl
theorem zero74 : (Try.prog.info? 74).map (·.zero) = some (some (.agg (wcells (0, zb)).toArray)) := by kernel_rfl
theorem size72a {b : List UInt8} (h : b.length = 256) : (Try.prog.info? 72).map (·.size) = some (bcells b).toArray.size := by rw [List.size_toArray, bcells_length, h]; exact size72
theorem size72l {b : List UInt8} (h : b.length = 256) : (Try.prog.info? 72).map (·.size) = some (bcells b).length := by rw [bcells_length, h]; exact size72
theorem cells72 {b : List UInt8} (h : b.length = 256) : (Value.agg (bcells zb).toArray).cells.size = (bcells b).toArray.size := by simp [Value.cells, bcells_length, h, zb_length]
theorem size74a {x : Int × List UInt8} (h : x.2.length = 256) : (Try.prog.info? 74).map (·.size) = some (wcells x).toArray.size := by rw [List.size_toArray, wcells_length h]; exact size74
theorem size74l {x : Int × List UInt8} (h : x.2.length = 256) : (Try.prog.info? 74).map (·.size) = some (wcells x).length := by rw [wcells_length h]; exact size74
theorem cells74 {x : Int × List UInt8} (h : x.2.length = 256) : (Value.agg (wcells (0, zb)).toArray).cells.size = (wcells x).toArray.size := by simp [Value.cells, wcells_length h, wcells_length (x := (0, zb)) zb_length]
theorem size5 : (Try.prog.info? 5).map (·.size) = some 1 := by kernel_rfl
theorem info5 : (Try.prog.info? 5).map (fun i => (i.zero, i.size, i.bytes)) = some (some (.int .u8 0), 1, 1) := by kernel_rfl
theorem info74 : (Try.prog.info? 74).map (fun i => (i.zero, i.size, i.bytes)) = some (some (.agg (wcells (0, zb)).toArray), 257, 264) := by kernel_rfl
theorem own_nil' (W : World) (base : Nat) (e : TypeId) (size : Nat) : W.ownsRow base e size (.slice none 0 0) 0 [] := ⟨by simp, .inl ⟨rfl, rfl⟩⟩

theorem SureMap.kept {S : Nat → Prop} {w w1 : World} {m N : Nat} {f : Int → List UInt8} (h : SureMap w m N f) (k : Kept S w w1) (hS : ¬ S m) : SureMap w1 m N f := by
  obtain ⟨n, D, hown, h2, h3⟩ := h
  obtain ⟨es, clock, hb, r⟩ := hown
  exact ⟨n, D, ⟨es, clock, (k.block m (Array.getElem?_eq_some_iff.1 hb).1 hS).trans hb, r⟩, h2, h3⟩
theorem SureMap.lt {w : World} {m N : Nat} {f : Int → List UInt8} (h : SureMap w m N f) : m < w.heap.size := by
  obtain ⟨n, D, ⟨es, clock, hb, r⟩, _⟩ := h
  exact (Array.getElem?_eq_some_iff.1 hb).1

section
variable {w w' : World} {p m : Nat} {pv : Value} {D D' : Dk}
theorem DiskAt.plt (h : DiskAt w p m pv D) : p < w.heap.size := (Array.getElem?_eq_some_iff.1 h.head).1
theorem DiskAt.mp (h : DiskAt w p m pv D) : m ≠ p := by
  rintro rfl
  obtain ⟨n, D, ⟨es, clock, hb, r⟩, _⟩ := h.map
  rw [h.head] at hb
  cases hb
theorem DiskAt.own (h : DiskAt w p m pv D) (k : Nat) (hk : pv.ownBlock = some k) : k ≠ p ∧ k ≠ m ∧ k < w.heap.size := by
  rcases h.row.2 with ⟨rfl, _⟩ | ⟨g, cap, cur, rfl, _, hg, _⟩
  · cases hk
  · have hgk : g = k := by simpa [Value.ownBlock] using hk
    subst hgk
    refine ⟨?_, ?_, (Array.getElem?_eq_some_iff.1 hg).1⟩
    · rintro rfl
      rw [h.head] at hg
      simp at hg
    · rintro rfl
      obtain ⟨n, D, ⟨es, clock, hb, r⟩, _⟩ := h.map
      rw [hg] at hb
      cases hb
theorem DiskAt.kept {S : Nat → Prop} (h : DiskAt w p m pv D) (k : Kept S w w') (hp : ¬ S p) (hm : ¬ S m) (hv : ∀ i, pv.ownBlock = some i → ¬ S i) : DiskAt w' p m pv D :=
  ⟨h.ok, (k.block p h.plt hp).trans h.head, h.map.kept k hm, row_kept h.row k hv⟩
/-- Another head. -/
theorem DiskAt.turned (h : DiskAt w p m pv D) (k : Kept (· = p) w w') (hb : w'.heap[p]? = some (.cells (Ytcbogiebdjbmoaa.head m pv D') 60 (0, 0))) (ok : D'.Ok) (h1 : D'.size = D.size) (h2 : D'.sure = D.sure) (h3 : D'.pend = D.pend) : DiskAt w' p m pv D' :=
  ⟨ok, hb, by rw [h1, h2]; exact h.map.kept k h.mp, by rw [h3]; exact row_kept h.row k (fun i hi => (h.own i hi).1)⟩
theorem IsDisk.kept {S F : Nat → Prop} (h : IsDisk w p F D) (k : Kept S w w') (hS : ∀ i, F i → ¬ S i) : IsDisk w' p F D := by
  obtain ⟨m, pv, hd, h1, h2, h3, h4⟩ := h
  exact ⟨m, pv, hd.kept k (hS _ h1) (hS _ h2) (fun i hi => hS _ (h3 i hi)), h1, h2, h3, fun i hi => Nat.lt_of_lt_of_le (h4 i hi) k.size⟩
theorem IsDisk.ok {F : Nat → Prop} (h : IsDisk w p F D) : D.Ok := by obtain ⟨m, pv, hd, _⟩ := h; exact hd.ok
end

theorem zeroV {w : World} : (zeroValue 72).run Try.prog w = .ok (blkV zb) w := by
  have := zero72
  cases hi : Try.prog.info? 72 with
  | none => simp [hi] at this
  | some i =>
    have hz' : i.zero = some (.agg (bcells zb).toArray) := by simpa [hi] using this
    simp [zeroValue, typeInfo, hi, hz', blkV]

theorem lookS {w : World} {m N : Nat} {f : Int → List UInt8} (h : SureMap w m N f) (a : Int) (ha : (Lit.int .i64 a).wf = true) :
    (Instr.lookup 57 (.map (some m)) (.int .i64 a) false).run Try.prog w = .ok (blkV (f a)) w := by
  obtain ⟨n, D, hown, hat, _⟩ := h
  obtain ⟨v, ps, hrun, hv⟩ := hown.lookup law3 Try.underlying57 zeroV (zd := .held (blkV zb)) (zp := []) rfl (keyOf_int_mk Try.underlying3 ha)
  rw [hat a] at hv
  simp only [vR, Option.some.injEq, Prod.mk.injEq, DataW.held.injEq] at hv
  rw [hrun, hv.1]

/-- So many different numbers below N are no more than N. -/
theorem length_erase_ge (x : Int) : ∀ (l : List Int), l.Pairwise (· ≠ ·) → l.length ≤ (l.filter (fun y => decide (y ≠ x))).length + 1
  | [], _ => by simp
  | y :: r, h => by
    rw [List.pairwise_cons] at h
    by_cases e : y = x
    · subst e
      rw [List.filter_cons_of_neg (by simp)]
      rw [List.filter_eq_self.2 (fun z hz => by simpa using (h.1 z hz).symm)]
      simp
    · rw [List.filter_cons_of_pos (by simp [e])]
      have := length_erase_ge x r h.2
      simp only [List.length_cons]
      omega
theorem length_below : ∀ (N : Nat) (l : List Int), l.Pairwise (· ≠ ·) → (∀ x ∈ l, 0 ≤ x ∧ x < N) → l.length ≤ N
  | 0, l, _, h => by
    cases l with
    | nil => simp
    | cons x r => have := h x (by simp); omega
  | N + 1, l, hp, h => by
    have h1 := length_erase_ge (N : Int) l hp
    have h2 := length_below N (l.filter (fun y => decide (y ≠ (N : Int)))) (hp.filter _) (fun x hx => by
      simp only [List.mem_filter, decide_eq_true_eq] at hx
      have := h x hx.1
      omega)
    omega
theorem size_below {D : DataW Value} (ht : Maps.Canon D) (N : Nat) (h : ∀ k, Maps.has D k = true → ∃ a : Int, k = .int .i64 a ∧ 0 ≤ a ∧ a < N) : Maps.size D ≤ N := by
  obtain ⟨es, rfl, hr, hkl⟩ := ht
  have hp := Maps.apart_of_rising hr
  have hk : ∀ p ∈ es, ∃ a : Int, p.1 = .int .i64 a ∧ 0 ≤ a ∧ a < N := by
    intro p hp'
    exact h p.1 (by rw [Maps.has_eq]; exact List.any_eq_true.2 ⟨p, hp', WideAt.sameKey_self (hkl p hp')⟩)
  let f : Lit × DataW Value → Int := fun p => match p.1 with | .int _ a => a | _ => 0
  have h1 : (es.map f).length ≤ N := by
    refine length_below N _ ?_ ?_
    · rw [List.pairwise_map]
      refine hp.imp_of_mem ?_
      intro p q hp' hq' hne he
      obtain ⟨a, ha, _⟩ := hk p hp'
      obtain ⟨b, hb, _⟩ := hk q hq'
      simp only [f, ha, hb] at he
      subst he
      exact hne (ha.trans hb.symm)
    · intro x hx
      simp only [List.mem_map] at hx
      obtain ⟨p, hp', rfl⟩ := hx
      obtain ⟨a, ha, h0⟩ := hk p hp'
      simp only [f, ha]
      exact h0
  simpa [Maps.size_eq] using h1

/-- At most as many as there are sectors. -/
theorem SureMap.small {w : World} {m N : Nat} {f : Int → List UInt8} (h : SureMap w m N f) :
    ∃ D, w.ownsMap Try.prog 3 vR m N D ∧ (∀ a : Int, D.atKey (.int .i64 a) (.held (blkV zb)) = .held (blkV (f a))) ∧ ∀ k, Maps.has D k = true → ∃ a : Int, k = .int .i64 a ∧ 0 ≤ a ∧ a < N := by
  obtain ⟨n, D, hown, hat, hk⟩ := h
  refine ⟨D, ?_, hat, hk⟩
  have hs := size_below (hown.canon law3) N hk
  obtain ⟨es, clock, hb, F, _, hD⟩ := hown
  refine ⟨es, clock, hb, F, ?_, hD⟩
  rw [hD, Maps.size_eq, length_read] at hs
  exact hs
theorem int_ne {a x : Int} (h : x ≠ a) : (Lit.int .i64 x) ≠ Lit.int .i64 a := fun e => h (by injection e)
theorem SureMap.stored {w : World} {m N : Nat} {f : Int → List UInt8} (h : SureMap w m N f) (a : Int) (b : List UInt8) (h0 : 0 ≤ a) (h1 : a < N) (hN : N ≤ 65536) :
    ∃ w', (Instr.mapUpdate 57 (.map (some m)) (.int .i64 a) (blkV b)).run Try.prog w = .ok () w' ∧ SureMap w' m N (setAt f a b) ∧ Kept (· = m) w w' := by
  obtain ⟨D, hown, hat, hk⟩ := h.small
  have hwf : (Lit.int .i64 a).wf = true := by exact WalkArith.wf_i64 (by omega)
  obtain ⟨w', hrun, ho, hg⟩ := hown.update law3 Try.underlying57 (by unfold maxLen; omega) (keyOf_int_mk Try.underlying3 hwf) (d := .held (blkV b)) (ps := []) (val := blkV b) rfl
  refine ⟨w', hrun, ⟨_, _, ho, fun x => ?_, fun k hk' => ?_⟩, (Kept.refl _ w).grown hg (fun k hk => .inl (by cases hk; rfl))⟩
  · unfold setAt
    split
    · rename_i e
      subst e
      exact Maps.atKey_put_same (k := .int .i64 x) hown.isMap trivial _ _
    · rename_i e
      rw [Maps.atKey_put_other (int_ne e)]
      exact hat x
  · by_cases e : k = .int .i64 a
    · exact ⟨a, e, h0, h1⟩
    · rw [Maps.has_put_other e] at hk'
      exact hk k hk'
theorem SureMap.dropped {w : World} {m N : Nat} {f : Int → List UInt8} (h : SureMap w m N f) (a : Int) (h0 : 0 ≤ a) (h1 : a < N) (hN : N ≤ 65536) (ty : TypeId) :
    ∃ w', (Builtin.delete_ #[57, 3] ty #[.map (some m), .int .i64 a]).run Try.prog w = .ok (.tuple #[]) w' ∧ SureMap w' m N (setAt f a zb) ∧ Kept (· = m) w w' := by
  obtain ⟨D, hown, hat, hk⟩ := h.small
  have hwf : (Lit.int .i64 a).wf = true := by exact WalkArith.wf_i64 (by omega)
  obtain ⟨w', hrun, ho, hg⟩ := hown.drop law3 Try.underlying57 (keyOf_int_mk Try.underlying3 hwf) ty
  refine ⟨w', hrun, ⟨_, _, ho, fun x => ?_, fun k hk' => ?_⟩, (Kept.refl _ w).grown hg.grown (fun k hk => .inl (by cases hk; rfl))⟩
  · unfold setAt
    split
    · rename_i e
      subst e
      exact Maps.atKey_del_same _
    · rename_i e
      rw [Maps.atKey_del_other (int_ne e)]
      exact hat x
  · by_cases e : k = .int .i64 a
    · exact ⟨a, e, h0, h1⟩
    · rw [Maps.has_del_other e] at hk'
      exact hk k hk'
end Go.Proofs.Ytcbogiebdjbmoaa
