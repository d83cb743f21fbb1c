/-
  A region that draws its order: what only reads what stood there ahead of the region may be taken first, beside whatever lays new blocks. No function of the program.
-/
import Derived.Test.YtcbogiebdjbmoaaMem
namespace Go.Proofs.Ytcbogiebdjbmoaa
open Go.RowKit

/-- Only reads, draws and new blocks; what it ends in meets 'post'. -/
def Benign {α : Type} (post : α → Prop) : Sem α → Prop
  | .pure a => post a
  | .load _ _ k => ∀ v, Benign post (k v)
  | .store _ _ _ _ => False
  | .new _ k => ∀ r, Benign post (k r)
  | .shape _ k => ∀ s, Benign post (k s)
  | .freeze _ _ _ => False
  | .frozen _ k => ∀ b, Benign post (k b)
  | .getObj _ k => ∀ o, Benign post (k o)
  | .setObj _ _ _ => False
  | .choose _ k => ∀ n, Benign post (k n)
  | .sys _ _ => False
  | .program k => ∀ p, Benign post (k p)
  | .mark _ k => Benign post k
  | .halt _ => True

theorem Kept.of_draw (w : World) : Kept No w { w with drawn := w.drawn + 1 } := ⟨rfl, rfl, rfl, Nat.le_refl _, fun _ _ _ => rfl⟩

theorem Benign.run {α : Type} {post : α → Prop} {P : Program} : ∀ (s : Sem α), Benign post s → ∀ (w : World) (a : α) (w' : World), s.run P w = .ok a w' → post a ∧ Kept No w w'
  | .pure a, h, w, b, w', e => by
    simp only [Sem.run, Result.ok.injEq] at e
    obtain ⟨rfl, rfl⟩ := e
    exact ⟨h, Kept.refl _ _⟩
  | .load m a k, h, w, b, w', e => by
    simp only [Sem.run] at e
    split at e
    · exact Benign.run _ (h _) w b w' e
    · split at e
      · exact Benign.run _ (h _) w b w' e
      · cases e
  | .store _ _ _ _, h, _, _, _, _ => h.elim
  | .new o k, h, w, b, w', e => by
    simp only [Sem.run] at e
    obtain ⟨h1, h2⟩ := Benign.run _ (h _) _ b w' e
    exact ⟨h1, ((Kept.refl No w).alloc o).trans h2⟩
  | .shape r k, h, w, b, w', e => by
    simp only [Sem.run] at e
    exact Benign.run _ (h _) w b w' e
  | .freeze _ _ _, h, _, _, _, _ => h.elim
  | .frozen a k, h, w, b, w', e => by
    simp only [Sem.run] at e
    exact Benign.run _ (h _) w b w' e
  | .getObj r k, h, w, b, w', e => by
    simp only [Sem.run] at e
    split at e
    · cases e
    · exact Benign.run _ (h _) w b w' e
    · cases e
  | .setObj _ _ _, h, _, _, _, _ => h.elim
  | .choose q k, h, w, b, w', e => by
    simp only [Sem.run] at e
    split at e
    · exact Benign.run _ (h _) w b w' e
    · obtain ⟨h1, h2⟩ := Benign.run _ (h _) _ b w' e
      exact ⟨h1, (Kept.of_draw w).trans h2⟩
  | .sys _ _, h, _, _, _, _ => h.elim
  | .program k, h, w, b, w', e => by
    simp only [Sem.run] at e
    exact Benign.run _ (h _) w b w' e
  | .mark m k, h, w, b, w', e => by
    simp only [Sem.run] at e
    exact Benign.run k h w b w' e
  | .halt x, _, w, b, w', e => by
    simp only [Sem.run] at e
    cases e

theorem Benign.imp {α : Type} {post post' : α → Prop} (hp : ∀ a, post a → post' a) : ∀ (s : Sem α), Benign post s → Benign post' s
  | .pure a, h => hp a h
  | .load _ _ k, h => fun v => Benign.imp hp (k v) (h v)
  | .store _ _ _ _, h => h.elim
  | .new _ k, h => fun v => Benign.imp hp (k v) (h v)
  | .shape _ k, h => fun v => Benign.imp hp (k v) (h v)
  | .freeze _ _ _, h => h.elim
  | .frozen _ k, h => fun v => Benign.imp hp (k v) (h v)
  | .getObj _ k, h => fun v => Benign.imp hp (k v) (h v)
  | .setObj _ _ _, h => h.elim
  | .choose _ k, h => fun v => Benign.imp hp (k v) (h v)
  | .sys _ _, h => h.elim
  | .program k, h => fun v => Benign.imp hp (k v) (h v)
  | .mark _ k, h => Benign.imp hp k h
  | .halt _, _ => trivial

theorem Benign.bind' {α β : Type} {post : β → Prop} {f : α → Sem β} : ∀ (s : Sem α), Benign (fun a => Benign post (f a)) s → Benign post (s.bind f)
  | .pure _, h => h
  | .load _ _ k, h => fun v => Benign.bind' (k v) (h v)
  | .store _ _ _ _, h => h.elim
  | .new _ k, h => fun v => Benign.bind' (k v) (h v)
  | .shape _ k, h => fun v => Benign.bind' (k v) (h v)
  | .freeze _ _ _, h => h.elim
  | .frozen _ k, h => fun v => Benign.bind' (k v) (h v)
  | .getObj _ k, h => fun v => Benign.bind' (k v) (h v)
  | .setObj _ _ _, h => h.elim
  | .choose _ k, h => fun v => Benign.bind' (k v) (h v)
  | .sys _ _, h => h.elim
  | .program k, h => fun v => Benign.bind' (k v) (h v)
  | .mark _ k, h => Benign.bind' k h
  | .halt _, _ => trivial
def Any {α : Type} (_ : α) : Prop := True
theorem Benign.bind {α β : Type} {post : β → Prop} {f : α → Sem β} {s : Sem α} (h : Benign Any s) (hf : ∀ a, Benign post (f a)) : Benign post (s >>= f) :=
  Benign.bind' s (Benign.imp (fun a _ => hf a) s h)
theorem Benign.pure {α : Type} {post : α → Prop} {a : α} (h : post a) : Benign post (Pure.pure a : Sem α) := h
theorem Benign.any {α : Type} (a : α) : Benign Any (Pure.pure a : Sem α) := (trivial : Any a)
theorem Benign.halt {α : Type} {post : α → Prop} {h : Halt} : Benign post (Sem.halt h : Sem α) := trivial

theorem benign_program : Benign Any program := fun _ => trivial
theorem benign_typeInfo (t : TypeId) : Benign Any (typeInfo t) := by
  unfold typeInfo
  refine Benign.bind benign_program fun p => ?_
  split <;> trivial
theorem benign_underlying (t : TypeId) : Benign Any (underlying t) := by
  unfold underlying
  refine Benign.bind benign_program fun p => ?_
  split <;> trivial
theorem benign_zeroValue (t : TypeId) : Benign Any (zeroValue t) := by
  unfold zeroValue
  refine Benign.bind (benign_typeInfo t) fun p => ?_
  split <;> trivial
theorem benign_sizeOf (t : TypeId) : Benign Any (sizeOf t) := Benign.bind (benign_typeInfo t) fun _ => trivial
theorem benign_isAgg (t : TypeId) : Benign Any (isAgg t) := by
  unfold isAgg
  refine Benign.bind (benign_underlying t) fun p => ?_
  split <;> trivial
theorem benign_load (a : Addr) : Benign Any (load a) := fun _ => trivial
theorem benign_loadCellsFrom (a : Addr) : ∀ (n i : Nat) (acc : Array Value), Benign Any (loadCellsFrom a i n acc)
  | 0, _, _ => trivial
  | n + 1, i, acc => Benign.bind (benign_load _) fun v => benign_loadCellsFrom a n (i + 1) (acc.push v)
theorem benign_loadVar (t : TypeId) (a : Addr) : Benign Any (loadVar t a) := by
  unfold loadVar
  refine Benign.bind (benign_isAgg t) fun b => ?_
  split
  · exact Benign.bind (benign_sizeOf t) fun n => Benign.bind (benign_loadCellsFrom a n 0 _) fun _ => trivial
  · exact benign_load a
theorem benign_sureAddr (v : Value) : Benign Any (Instr.sureAddr v) := by
  unfold Instr.sureAddr
  split <;> trivial
theorem benign_loadAt (t : TypeId) (v : Value) : Benign Any (Instr.loadAt t v) := Benign.bind (benign_sureAddr v) fun _ => benign_loadVar t _
theorem benign_newVar (t : TypeId) (v : Value) : Benign Any (newVar t v) := fun _ => trivial
theorem benign_alloc (t : TypeId) (v : Value) : Benign Any (Instr.alloc t true v) := by
  unfold Instr.alloc
  refine Benign.bind (benign_zeroValue t) fun z => ?_
  exact Benign.bind (benign_newVar t z) fun _ => trivial
theorem benign_box (t : TypeId) (v : Value) : Benign Any (Instr.box t v) := Benign.bind (benign_newVar t v) fun _ => trivial
theorem benign_buildSlice (t : TypeId) (n : Nat) (parts : Array (Nat × Value)) : Benign Any (Instr.buildSlice t n parts) := by
  unfold Instr.buildSlice
  refine Benign.bind (benign_underlying t) fun d => ?_
  split
  · refine Benign.bind (benign_sizeOf _) fun s => ?_
    dsimp only
    rename_i _ el
    have key : ∀ z : Array Value, Benign Any (match Instr.fill (fun i => some (i * s, s)) (Array.map (fun x => z[x % z.size]!) (Array.range (n * s))) parts.toList with
        | some cells => do
          let a ← newRow el cells
          pure (Value.slice (some a) n n)
        | x => stuck "buildSlice: a part of the wrong size" : Sem Value) := by
      intro z
      split
      · exact Benign.bind (fun _ => trivial) fun _ => trivial
      · trivial
    split
    · split
      · exact Benign.bind trivial fun _ => Benign.bind trivial fun z => key z
      · exact Benign.bind trivial fun _ => Benign.bind (benign_zeroValue _) fun _ => Benign.bind trivial fun z => key z
    · split
      · exact Benign.bind trivial fun z => key z
      · exact Benign.bind (benign_zeroValue _) fun _ => Benign.bind trivial fun z => key z
  · trivial

theorem benign_forIn {α β : Type} (f : α → β → Sem (ForInStep β)) (hf : ∀ a b, Benign Any (f a b)) : ∀ (l : List α) (b : β), Benign Any (forIn l b f)
  | [], b => by rw [List.forIn_nil]; trivial
  | x :: r, b => by
    rw [List.forIn_cons]
    refine Benign.bind (hf x b) fun s => ?_
    split
    · trivial
    · exact benign_forIn f hf r _
theorem benign_bytesToString (x : Value) : Benign Any (Conv.bytesToString x) := by
  unfold Conv.bytesToString
  split
  · trivial
  · refine Benign.bind (benign_loadCellsFrom _ _ _ _) fun cs => ?_
    rw [← Array.forIn_toList]
    refine Benign.bind (benign_forIn _ (fun c s => ?_) _ _) fun s => trivial
    split <;> trivial
  · trivial
/-- The operations that are known to be so. -/
def kindPure : Op → Bool
  | .move _ | .assign _ | .alloc _ | .box _ _ | .buildSlice _ _ _ | .load _ _ => true
  | _ => false
def kindConv (P : Program) : Op → Bool
  | .convert s d _ => match P.underlying s, P.underlying d with
    | some (.slice e), some .string => match P.underlying e with
      | some (.int .u8) => true
      | _ => false
    | _, _ => false
  | _ => false
def kindOk (P : Program) (o : Op) : Bool := kindPure o || kindConv P o
theorem benign_pure (ρ : Operand → Value) (o : Oper) (h : kindPure o.op = true) : Benign (fun n => ∃ v, n = .value v) (execOp ρ o) := by
  unfold execOp
  cases ho : o.op <;> rw [ho] at h <;> simp only [kindPure, Bool.false_eq_true] at h
  · exact ⟨_, rfl⟩
  · exact ⟨_, rfl⟩
  · exact Benign.bind (benign_alloc _ _) fun v => ⟨v, rfl⟩
  · exact Benign.bind (benign_box _ _) fun v => ⟨v, rfl⟩
  · exact Benign.bind (benign_buildSlice _ _ _) fun v => ⟨v, rfl⟩
  · exact Benign.bind (benign_loadAt _ _) fun v => ⟨v, rfl⟩
theorem run_conv_bytes {P : Program} (w : World) (s d e : TypeId) (x : Value) (hs : P.underlying s = some (.slice e)) (he : P.underlying e = some (.int .u8)) (hd : P.underlying d = some .string) :
    (convert s d x).run P w = (Conv.bytesToString x).run P w ∨ (∃ v, (convert s d x).run P w = .ok v w) := by
  cases x <;> first
    | (left; simp [convert, run_underlying hs, run_underlying hd, run_underlying he]; done)
    | (right; simp [convert, run_underlying hs, run_underlying hd, Conv.intToString]; done)
theorem benign_op {P : Program} (ρ : Operand → Value) (o : Oper) (h : kindOk P o.op = true) (w : World) (n : Next) (w' : World) (hr : (execOp ρ o).run P w = .ok n w') : (∃ v, n = .value v) ∧ Kept No w w' := by
  unfold kindOk at h
  cases hp : kindPure o.op with
  | true => exact Benign.run _ (benign_pure ρ o hp) w n w' hr
  | false =>
    rw [hp, Bool.false_or] at h
    unfold execOp at hr
    cases ho : o.op <;> rw [ho] at h hr <;> simp only [kindConv, Bool.false_eq_true] at h
    rename_i s d x
    split at h
    · rename_i e hs hd
      split at h
      · rename_i he
        dsimp only at hr
        rcases run_conv_bytes (P := P) w s d e (ρ x) hs he hd with hc | ⟨v, hc⟩
        · have hB : Benign (fun n => ∃ v, n = Next.value v) (do pure (.value (← Conv.bytesToString (ρ x)))) := Benign.bind (benign_bytesToString _) fun v => (⟨v, rfl⟩ : ∃ u, Next.value v = Next.value u)
          refine Benign.run (P := P) _ hB w n w' ?_
          rw [← hr]
          simp only [Sem.run_bind, hc]
        · simp only [Sem.run_bind, hc, Result.andThen, Sem.run_pure] at hr
          injection hr with h1 h2
          subst h1; subst h2
          exact ⟨⟨_, rfl⟩, Kept.refl _ _⟩
      · cases h
    · cases h

section
variable {P : Program} {ops : Array Oper} {Q : Exit → Act → World → Prop} {md : Region.Mode} {W w : World} {i : Nat} {oi : Oper} {v : Value} {fuel : Nat} {listed : Array Bool} {a : Act}
/-- A benign operation leaves what stood there. -/
theorem wpOp_kept {j : Nat} {oj : Oper} (hj : ops[j]? = some oj) (hk : kindOk P oj.op = true) {K : Act → World → Prop} (hW : Kept No W w) (h : wpOp P ops Q j K a w) : wpOp P ops Q j (fun a' w' => Kept No W w' ∧ K a' w') a w := by
  unfold wpOp at *
  simp only [hj] at *
  split
  · rename_i hw
    simp only [hw, if_true] at h
    rcases h with h | h
    · left
      unfold Oper.wp at *
      cases hr : (execOp a.eval oj).run P w with
      | ok n w' =>
        obtain ⟨⟨v, rfl⟩, hk'⟩ := benign_op a.eval oj hk w n w' hr
        rw [hr] at h
        exact ⟨hW.trans hk', h⟩
      | halt x w' =>
        rw [hr] at h
        cases x <;> exact h
    · exact .inr h
  · rename_i hw
    simp only [hw] at h
    exact ⟨hW, h⟩

/-- Those that wait for number i, at once or through others. -/
def lateOf (md : Region.Mode) (ops : Array Oper) (i : Nat) : List Nat :=
  (List.range ops.size).foldl (fun L j => match ops[j]? with
    | some o => if o.after.any (fun e => Region.binds md e && (e.on == i || L.contains e.on)) then L ++ [j] else L
    | none => L) []
def waitsOn (md : Region.Mode) (ops : Array Oper) (i : Nat) (L : List Nat) (m : Nat) : Bool := match ops[m]? with
  | some o => o.after.any (fun e => Region.binds md e && (e.on == i || L.contains e.on))
  | none => false
/-- All that has not come up, and does not wait for number i, is benign. -/
def restOk (P : Program) (md : Region.Mode) (ops : Array Oper) (listed : Array Bool) (i : Nat) (L : List Nat) : Bool :=
  L.all (fun m => waitsOn md ops i L m && !listed.getD m true) &&
  (List.range ops.size).all fun j => match ops[j]? with
    | some o => j == i || listed.getD j true || L.contains j || kindOk P o.op
    | none => true

/-- A reading operation that may come up now is taken first. -/
theorem any_first {L : List Nat} (hi : ops[i]? = some oi) (hs : Region.noSelect ops = true) (hQ : ∀ c a w, Q (.panic c) (a.put oi.dst v) w → Q (.panic c) a w) (hL : ∀ m ∈ L, waitsOn md ops i L m = true) :
    ∀ (fuel : Nat) (listed : Array Bool) (a : Act) (w : World),
      (∀ m ∈ L, listed.getD m true = false) →
      (∀ j oj, ops[j]? = some oj → j ≠ i → listed.getD j true = false → (∀ e ∈ oj.after, Region.binds md e = true → e.on ≠ i) → oi.apart ops oj = true) →
      (∀ j oj, ops[j]? = some oj → j ≠ i → listed.getD j true = false → j ∉ L → kindOk P oj.op = true) →
      i ∈ Region.ready md ops listed → YieldsIf P ops (Kept No W) oi v a → Kept No W w →
      wpAny P md ops Q fuel (listed.setIfInBounds i true) (a.put oi.dst v) w → wpAny P md ops Q (fuel + 1) listed a w := by
  intro fuel
  induction fuel with
  | zero =>
    intro listed a w _ _ _ hr hy hW H
    refine ⟨fun h => (by rw [h] at hr; cases hr), fun j hj => ?_⟩
    by_cases hji : j = i
    · subst hji; exact hy.wpOp hi hW H
    · have := ready_mono hj hji
      rw [H.1] at this
      cases this
  | succ fuel ih =>
    intro listed a w hlate hfree hkind hr hy hW H
    refine ⟨fun h => (by rw [h] at hr; cases hr), fun j hj => ?_⟩
    by_cases hji : j = i
    · subst hji; exact hy.wpOp hi hW H
    · have h1 := H.2 j (ready_mono hj hji)
      obtain ⟨hjun, oj, hoj, hall⟩ := mem_ready.1 hj
      have hiun := (mem_ready.1 hr).1
      have hno : ∀ m, (m = i ∨ m ∈ L) → listed.getD m false = false := fun m hm => by
        rcases hm with rfl | hm
        · exact getD_both hiun
        · exact getD_both (hlate m hm)
      have hjL : j ∉ L := fun hjl => by
        have h2 := hL j hjl
        unfold waitsOn at h2
        rw [hoj] at h2
        obtain ⟨e, he, hb⟩ := Array.any_eq_true'.1 h2
        simp only [Bool.and_eq_true, Bool.or_eq_true, beq_iff_eq, List.contains_eq_mem, decide_eq_true_eq] at hb
        have h3 := hall e he hb.1
        rw [hno _ hb.2] at h3
        cases h3
      have hnot : ∀ e ∈ oj.after, Region.binds md e = true → e.on ≠ i := fun e he hb heq => by
        have h2 := hall e he hb
        rw [heq, getD_both hiun] at h2
        cases h2
      have hap := hfree j oj hoj hji hjun hnot
      have hk := hkind j oj hoj hji hjun hjL
      have h2 := wpOp_putIf hoj hap (fun cs b => Region.noSelect_spec hs i oi cs b hi) (fun cs b => Region.noSelect_spec hs j oj cs b hoj) hQ hy h1
      have h3 := wpOp_kept hoj hk hW h2
      have hself : (listed.setIfInBounds j true).getD j true = true := by
        by_cases hl : j < listed.size <;> simp [hl]
      refine wpOp_mono (fun a' w' hh => ?_) h3
      obtain ⟨hW', hy', hK⟩ := hh
      refine ih (listed.setIfInBounds j true) a' w' (fun m hm => ?_) (fun k ok hok hki hun hno => ?_) (fun k ok hok hki hun hkL => ?_) ?_ hy' hW' ?_
      · rw [getD_set_ne true (fun e => hjL (by rw [e]; exact hm))]
        exact hlate m hm
      · by_cases hkj : k = j
        · subst hkj
          rw [hself] at hun
          cases hun
        · rw [getD_set_ne true (Ne.symm hkj)] at hun
          exact hfree k ok hok hki hun hno
      · by_cases hkj : k = j
        · subst hkj
          rw [hself] at hun
          cases hun
        · rw [getD_set_ne true (Ne.symm hkj)] at hun
          exact hkind k ok hok hki hun hkL
      · exact ready_mono hr (Ne.symm hji)
      · rw [Array.setIfInBounds_comm _ _ (Ne.symm hji)] at hK
        exact hK

theorem any_take (hi : ops.toList[i]? = some oi) (hs : Region.noSelect ops = true) (hf : Region.free md ops listed i = true) (hr : (Region.ready md ops listed).contains i = true) (hb : restOk P md ops listed i (lateOf md ops i) = true)
    (hQ : ∀ c a w, Q (.panic c) (a.put oi.dst v) w → Q (.panic c) a w) (hg : oi.guard = none) (hW : Kept No W w) (hy : ∀ w, Kept No W w → (execOp a.eval oi).run P w = .ok (.value v) w)
    (h : wpAny P md ops Q fuel (listed.setIfInBounds i true) (a.put oi.dst v) w) : wpAny P md ops Q (fuel + 1) listed a w := by
  unfold restOk at hb
  rw [Bool.and_eq_true, List.all_eq_true] at hb
  obtain ⟨h1, h2⟩ := hb
  refine any_first (L := lateOf md ops i) (arr_get _ _ _ hi) hs hQ (fun m hm => ?_) fuel listed a w (fun m hm => ?_) (fun j oj hj hji hun hno => Region.free_spec (arr_get _ _ _ hi) hf j oj hj hji hun hno) (fun j oj hj hji hun hjL => ?_) (by simpa using hr)
    (.inl ⟨by simp [Region.wanted, hg], hy⟩) hW h
  · have := h1 m hm
    rw [Bool.and_eq_true] at this
    exact this.1
  · have := h1 m hm
    rw [Bool.and_eq_true] at this
    simpa using this.2
  · have h3 := List.all_eq_true.1 h2 j (List.mem_range.2 (Array.getElem?_eq_some_iff.1 hj).1)
    simp only [hj, Bool.or_eq_true, beq_iff_eq, List.contains_eq_mem, decide_eq_true_eq] at h3
    rcases h3 with ((h3 | h3) | h3) | h3
    · exact absurd h3 hji
    · rw [hun] at h3; cases h3
    · exact absurd h3 hjL
    · exact h3
/-- The same for what hangs on no world. -/
theorem any_take0 (hi : ops.toList[i]? = some oi) (hs : Region.noSelect ops = true) (hf : Region.free md ops listed i = true) (hr : (Region.ready md ops listed).contains i = true)
    (hQ : ∀ c a w, Q (.panic c) (a.put oi.dst v) w → Q (.panic c) a w) (hg : oi.guard = none) (hy : ∀ w, (execOp a.eval oi).run P w = .ok (.value v) w)
    (h : wpAny P md ops Q fuel (listed.setIfInBounds i true) (a.put oi.dst v) w) : wpAny P md ops Q (fuel + 1) listed a w :=
  wpAny_take (arr_get _ _ _ hi) hs hf hr hQ (.inl ⟨by simp [Region.wanted, hg], hy⟩) h
/-- .. where it is guarded, and the guard lets it. -/
theorem any_takew (hi : ops.toList[i]? = some oi) (hs : Region.noSelect ops = true) (hf : Region.free md ops listed i = true) (hr : (Region.ready md ops listed).contains i = true) (hb : restOk P md ops listed i (lateOf md ops i) = true)
    (hQ : ∀ c a w, Q (.panic c) (a.put oi.dst v) w → Q (.panic c) a w) (hg : Region.wanted oi (yielded ops a.tmps) = true) (hW : Kept No W w) (hy : ∀ w, Kept No W w → (execOp a.eval oi).run P w = .ok (.value v) w)
    (h : wpAny P md ops Q fuel (listed.setIfInBounds i true) (a.put oi.dst v) w) : wpAny P md ops Q (fuel + 1) listed a w := by
  unfold restOk at hb
  rw [Bool.and_eq_true, List.all_eq_true] at hb
  obtain ⟨h1, h2⟩ := hb
  refine any_first (L := lateOf md ops i) (arr_get _ _ _ hi) hs hQ (fun m hm => ?_) fuel listed a w (fun m hm => ?_) (fun j oj hj hji hun hno => Region.free_spec (arr_get _ _ _ hi) hf j oj hj hji hun hno) (fun j oj hj hji hun hjL => ?_) (by simpa using hr)
    (.inl ⟨hg, hy⟩) hW h
  · have := h1 m hm
    rw [Bool.and_eq_true] at this
    exact this.1
  · have := h1 m hm
    rw [Bool.and_eq_true] at this
    simpa using this.2
  · have h3 := List.all_eq_true.1 h2 j (List.mem_range.2 (Array.getElem?_eq_some_iff.1 hj).1)
    simp only [hj, Bool.or_eq_true, beq_iff_eq, List.contains_eq_mem, decide_eq_true_eq] at h3
    rcases h3 with ((h3 | h3) | h3) | h3
    · exact absurd h3 hji
    · rw [hun] at h3; cases h3
    · exact absurd h3 hjL
    · exact h3
theorem any_take0w (hi : ops.toList[i]? = some oi) (hs : Region.noSelect ops = true) (hf : Region.free md ops listed i = true) (hr : (Region.ready md ops listed).contains i = true)
    (hQ : ∀ c a w, Q (.panic c) (a.put oi.dst v) w → Q (.panic c) a w) (hg : Region.wanted oi (yielded ops a.tmps) = true) (hy : ∀ w, (execOp a.eval oi).run P w = .ok (.value v) w)
    (h : wpAny P md ops Q fuel (listed.setIfInBounds i true) (a.put oi.dst v) w) : wpAny P md ops Q (fuel + 1) listed a w :=
  wpAny_take (arr_get _ _ _ hi) hs hf hr hQ (.inl ⟨hg, hy⟩) h
/-- What the guard bars. -/
theorem any_skip (hi : ops.toList[i]? = some oi) (hs : Region.noSelect ops = true) (hf : Region.free md ops listed i = true) (hr : (Region.ready md ops listed).contains i = true)
    (hQ : ∀ c a w, Q (.panic c) (a.put oi.dst undef) w → Q (.panic c) a w) (hg : Region.wanted oi (yielded ops a.tmps) = false)
    (h : wpAny P md ops Q fuel (listed.setIfInBounds i true) (a.put oi.dst undef) w) : wpAny P md ops Q (fuel + 1) listed a w :=
  wpAny_take (arr_get _ _ _ hi) hs hf hr hQ (.inr ⟨hg, rfl⟩) h
theorem any_stepw (hr : Region.ready md ops listed = [i]) (hi : ops.toList[i]? = some oi) (hg : Region.wanted oi (yielded ops a.tmps) = true)
    (h : ∀ K' : Act → World → Prop, Shut (∀ a w, wpAny P md ops Q fuel (listed.setIfInBounds i true) a w → K' a w) → Oper.wp P oi a w K' Q) : wpAny P md ops Q (fuel + 1) listed a w :=
  wpAny_ready hr (by simp) (AllReady.cons (arr_get _ _ _ hi) (fun K hK => by rw [if_pos hg]; exact h K hK) AllReady.nil)
theorem any_two {j : Nat} {oj : Oper} (hr : Region.ready md ops listed = [i, j]) (hi : ops.toList[i]? = some oi) (hg : Region.wanted oi (yielded ops a.tmps) = true) (hj : ops.toList[j]? = some oj) (hgj : Region.wanted oj (yielded ops a.tmps) = true)
    (h : ∀ K' : Act → World → Prop, Shut (∀ a w, wpAny P md ops Q fuel (listed.setIfInBounds i true) a w → K' a w) → Oper.wp P oi a w K' Q)
    (h' : ∀ K' : Act → World → Prop, Shut (∀ a w, wpAny P md ops Q fuel (listed.setIfInBounds j true) a w → K' a w) → Oper.wp P oj a w K' Q) : wpAny P md ops Q (fuel + 1) listed a w :=
  wpAny_ready hr (by simp) (AllReady.cons (arr_get _ _ _ hi) (fun K hK => by rw [if_pos hg]; exact h K hK) (AllReady.cons (arr_get _ _ _ hj) (fun K hK => by rw [if_pos hgj]; exact h' K hK) AllReady.nil))
theorem any_step (hr : Region.ready md ops listed = [i]) (hi : ops.toList[i]? = some oi) (hg : oi.guard = none)
    (h : ∀ K' : Act → World → Prop, Shut (∀ a w, wpAny P md ops Q fuel (listed.setIfInBounds i true) a w → K' a w) → Oper.wp P oi a w K' Q) : wpAny P md ops Q (fuel + 1) listed a w :=
  wpAny_ready hr (by simp) (AllReady.cons (arr_get _ _ _ hi) (fun K hK => by rw [if_pos (by simp [Region.wanted, hg])]; exact h K hK) AllReady.nil)
theorem any_start {id : Nat} (hm : P.follows .mixedOrders = true) (h : ∀ w', Drawn w w' → wpAny P .any ops Q ops.size (Array.replicate ops.size false) a w') : (Code.region id ops true).wp P Q a w :=
  wp_region_any hm (h _ ⟨rfl, rfl, rfl, rfl⟩)
theorem any_done (hr : Region.ready md ops listed = []) (h : Q .normal a w) : ∀ fuel, wpAny P md ops Q fuel listed a w
  | 0 => ⟨hr, h⟩
  | _ + 1 => ⟨fun _ => h, by rw [hr]; simp⟩
/-- What a whole array reads as, in each later world. -/
theorem kept_load {o : Oper} (ty : TypeId) (x : Operand) (ho : o.op = .load ty x)
    (b o' : Nat) (hx : a.eval x = .pointer (some ⟨b, o', none⟩)) (cs : List Value) (d : TypeDesc) (hc : W.rangeAt b o' cs) (hb : b < W.heap.size)
    (hu : P.underlying ty = some d) (hd : d.isRow = true) (hi : (P.info? ty).map (·.size) = some cs.length) :
    ∀ w, Kept No W w → (execOp a.eval o).run P w = .ok (.value (.agg cs.toArray)) w :=
  held_load_mid (S := fun w => Kept No W w) ty x ho b o' hx cs d (fun _ hw => rangeAt_kept hc hw hb (fun h => h)) hu hd hi
theorem Kept.cellAt {w' : World} (k : Kept No w w') {x : Addr} {u : Value} (h : w.cell? x = some u) : w'.cell? x = some u :=
  (World.cell?_of_block (k.block _ (World.block_lt_of_cell? w _ h) (fun h => h))).trans h
end
end Go.Proofs.Ytcbogiebdjbmoaa
