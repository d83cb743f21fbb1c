/-
  No cell of these rows narrows 'for every input' (looked for: loops, veiled, ifaces, maps, wideKeys, modest, calm, conditions, laid).
  DERIVED. THE GIVEN ROWS OF THIS SEAT. 6 by the template 'for every input the law returns true; each argument reads behind the call as it read before'; 0 by the template 'total and deterministic' (their statements: YtcbogiebdjbmoaaTotals.lean).
  GIVEN WITH THE SEED: the statements are not yours to turn. If you find one false, say at which input.
  Laid BY PROGRAM, IN A SANDBOX (cutbox-rows.mjs): the forced cells as the released guide's own fill.sh prints them over the translation 610b3ca38a6b20a4… (all of the seat's roots in one cut). By AI agents, Wed Nov 11 2026. No macro, syntax, notation, axiom, sorry.
-/
import Derived.Test.YtcbogiebdjbmoaaChecked
import GoSem.Claim
import GoSem.ClaimJoined
import GoSem.ClaimMapViews
import Derived.JoinedTies
import Derived.KernelRfl
namespace Go.Proofs.Ytcbogiebdjbmoaa
/- THE CELL 'sum', in the pinned program and in every row, IS THE sha256 OF THE DUMP (.gsa) THAT YtcbogiebdjbmoaaProg.lean LOADS. Nothing in Lean hashes anything: it is a label: what it is worth is what the hold of that sum in a sandbox is worth. -/
noncomputable def Try.pinned : Pinned := { name := "ytcbogiebdjbmoaa", sum := "610b3ca38a6b20a491fece58acd25b51f6ab7623f0d53da429e36e0b4e8ff3b4", checked := Try.checked }
namespace Rows
def none {H : Type} : Left H := { results := [], args := [] }

/-- 'posthornlaw28.DiskOne': WHATEVER THE INPUT: true; the input reads as it did. -/
def diskOneSpec : ChangeSpec := { name := "diskOne", fn := fun _ => fun
  | [d1, d2, d3, d4, d5] => { results := [.lit (.bool true)], args := [d1, d2, d3, d4, d5] }
  | _ => none }
def diskOneRow : OpenClaim := { program := "ytcbogiebdjbmoaa", sum := "610b3ca38a6b20a491fece58acd25b51f6ab7623f0d53da429e36e0b4e8ff3b4", func := "posthorn/posthornlaw28.DiskOne", spec := "diskOne", apart := false }
def DiskOneSaid : Prop := diskOneRow.holds Try.pinned (OpenSpec.ofChange diskOneSpec)

/-- ITS FALSE NEIGHBOUR: 'it returns false'. Refute it at one input. -/
def diskOneWrong : ChangeSpec := { name := "diskOne", fn := fun _ => fun
  | [d1, d2, d3, d4, d5] => { results := [.lit (.bool false)], args := [d1, d2, d3, d4, d5] }
  | _ => none }
def DiskOneWrongFalsely : Prop := diskOneRow.holds Try.pinned (OpenSpec.ofChange diskOneWrong)

/-- 'posthornlaw28.DiskLives': WHATEVER THE INPUT: true; the input reads as it did. -/
def diskLivesSpec : ChangeSpec := { name := "diskLives", fn := fun _ => fun
  | [d1, d2, d3] => { results := [.lit (.bool true)], args := [d1, d2, d3] }
  | _ => none }
def diskLivesRow : OpenClaim := { program := "ytcbogiebdjbmoaa", sum := "610b3ca38a6b20a491fece58acd25b51f6ab7623f0d53da429e36e0b4e8ff3b4", func := "posthorn/posthornlaw28.DiskLives", spec := "diskLives", apart := false }
def DiskLivesSaid : Prop := diskLivesRow.holds Try.pinned (OpenSpec.ofChange diskLivesSpec)

/-- ITS FALSE NEIGHBOUR: 'it returns false'. Refute it at one input. -/
def diskLivesWrong : ChangeSpec := { name := "diskLives", fn := fun _ => fun
  | [d1, d2, d3] => { results := [.lit (.bool false)], args := [d1, d2, d3] }
  | _ => none }
def DiskLivesWrongFalsely : Prop := diskLivesRow.holds Try.pinned (OpenSpec.ofChange diskLivesWrong)

/-- 'posthornlaw29.PagesPacks': WHATEVER THE INPUT: true; the input reads as it did. -/
def pagesPacksSpec : ChangeSpec := { name := "pagesPacks", fn := fun _ => fun
  | [d1, d2, d3, d4, d5] => { results := [.lit (.bool true)], args := [d1, d2, d3, d4, d5] }
  | _ => none }
def pagesPacksRow : OpenClaim := { program := "ytcbogiebdjbmoaa", sum := "610b3ca38a6b20a491fece58acd25b51f6ab7623f0d53da429e36e0b4e8ff3b4", func := "posthorn/posthornlaw29.PagesPacks", spec := "pagesPacks", unfollowed := true, recurses := true, apart := false }
def PagesPacksSaid : Prop := pagesPacksRow.holds Try.pinned (OpenSpec.ofChange pagesPacksSpec)

/-- ITS FALSE NEIGHBOUR: 'it returns false'. Refute it at one input. -/
def pagesPacksWrong : ChangeSpec := { name := "pagesPacks", fn := fun _ => fun
  | [d1, d2, d3, d4, d5] => { results := [.lit (.bool false)], args := [d1, d2, d3, d4, d5] }
  | _ => none }
def PagesPacksWrongFalsely : Prop := pagesPacksRow.holds Try.pinned (OpenSpec.ofChange pagesPacksWrong)

/-- 'posthornlaw29.PagesNobody': WHATEVER THE INPUT: true; the input reads as it did. -/
def pagesNobodySpec : ChangeSpec := { name := "pagesNobody", fn := fun _ => fun
  | [d1, d2, d3] => { results := [.lit (.bool true)], args := [d1, d2, d3] }
  | _ => none }
def pagesNobodyRow : OpenClaim := { program := "ytcbogiebdjbmoaa", sum := "610b3ca38a6b20a491fece58acd25b51f6ab7623f0d53da429e36e0b4e8ff3b4", func := "posthorn/posthornlaw29.PagesNobody", spec := "pagesNobody", unfollowed := true, recurses := true, apart := false }
def PagesNobodySaid : Prop := pagesNobodyRow.holds Try.pinned (OpenSpec.ofChange pagesNobodySpec)

/-- ITS FALSE NEIGHBOUR: 'it returns false'. Refute it at one input. -/
def pagesNobodyWrong : ChangeSpec := { name := "pagesNobody", fn := fun _ => fun
  | [d1, d2, d3] => { results := [.lit (.bool false)], args := [d1, d2, d3] }
  | _ => none }
def PagesNobodyWrongFalsely : Prop := pagesNobodyRow.holds Try.pinned (OpenSpec.ofChange pagesNobodyWrong)

/-- 'posthornlaw29.PagesTurned': WHATEVER THE INPUT: true; the input reads as it did. -/
def pagesTurnedSpec : ChangeSpec := { name := "pagesTurned", fn := fun _ => fun
  | [d1, d2, d3, d4, d5, d6, d7] => { results := [.lit (.bool true)], args := [d1, d2, d3, d4, d5, d6, d7] }
  | _ => none }
def pagesTurnedRow : OpenClaim := { program := "ytcbogiebdjbmoaa", sum := "610b3ca38a6b20a491fece58acd25b51f6ab7623f0d53da429e36e0b4e8ff3b4", func := "posthorn/posthornlaw29.PagesTurned", spec := "pagesTurned", unfollowed := true, recurses := true, apart := false }
def PagesTurnedSaid : Prop := pagesTurnedRow.holds Try.pinned (OpenSpec.ofChange pagesTurnedSpec)

/-- ITS FALSE NEIGHBOUR: 'it returns false'. Refute it at one input. -/
def pagesTurnedWrong : ChangeSpec := { name := "pagesTurned", fn := fun _ => fun
  | [d1, d2, d3, d4, d5, d6, d7] => { results := [.lit (.bool false)], args := [d1, d2, d3, d4, d5, d6, d7] }
  | _ => none }
def PagesTurnedWrongFalsely : Prop := pagesTurnedRow.holds Try.pinned (OpenSpec.ofChange pagesTurnedWrong)

/-- 'posthornlaw29.PagesBack': WHATEVER THE INPUT: true; the input reads as it did. -/
def pagesBackSpec : ChangeSpec := { name := "pagesBack", fn := fun _ => fun
  | [d1, d2, d3, d4, d5] => { results := [.lit (.bool true)], args := [d1, d2, d3, d4, d5] }
  | _ => none }
def pagesBackRow : OpenClaim := { program := "ytcbogiebdjbmoaa", sum := "610b3ca38a6b20a491fece58acd25b51f6ab7623f0d53da429e36e0b4e8ff3b4", func := "posthorn/posthornlaw29.PagesBack", spec := "pagesBack", unfollowed := true, recurses := true, apart := false }
def PagesBackSaid : Prop := pagesBackRow.holds Try.pinned (OpenSpec.ofChange pagesBackSpec)

/-- ITS FALSE NEIGHBOUR: 'it returns false'. Refute it at one input. -/
def pagesBackWrong : ChangeSpec := { name := "pagesBack", fn := fun _ => fun
  | [d1, d2, d3, d4, d5] => { results := [.lit (.bool false)], args := [d1, d2, d3, d4, d5] }
  | _ => none }
def PagesBackWrongFalsely : Prop := pagesBackRow.holds Try.pinned (OpenSpec.ofChange pagesBackWrong)

/- THE SECOND FORM. 'bulk': how many values and letters a reading holds, each counted each time it is reached (what is shared counts as often as it is met; a slice's spare places count too). A statement '..UptoSaid' is the law's where the arguments, and the package variables that the reading takes, are together of bulk at most 1048576: NARROWER than '..Said'. Prove '..Said' where nothing that the law and all that it calls make is longer than what came in: it says more and counts as full. Else prove '..UptoSaid'. A law counts once. -/
mutual
def uptoBulk {H : Type} : DataW H → Nat
  | .lit (.string bytes) => bytes.length + 1
  | .lit _ => 1
  | .nil => 1
  | .ptr d => uptoBulk d + 1
  | .slice elems spare => uptoBulkAll elems + uptoBulkAll spare + 1
  | .agg parts => uptoBulkAll parts + 1
  | .iface _ d => uptoBulk d + 1
  | .map entries => uptoBulkEntries entries + 1
  | .held _ => 1
def uptoBulkAll {H : Type} : List (DataW H) → Nat
  | [] => 0
  | d :: r => uptoBulk d + uptoBulkAll r
def uptoBulkEntries {H : Type} : List (Lit × DataW H) → Nat
  | [] => 0
  | x :: r => uptoBulkEntry x + uptoBulkEntries r
def uptoBulkEntry {H : Type} : Lit × DataW H → Nat
  | (.string bytes, d) => bytes.length + uptoBulk d + 1
  | (_, d) => uptoBulk d + 1
 end
def uptoSmall : (H : Type) → List (DataW H) → Bool := fun _ ds => decide (uptoBulkAll ds ≤ 1048576)
def OpenSpec.upto (s : _root_.Go.ChangeSpec) : _root_.Go.OpenSpec := { _root_.Go.OpenSpec.ofChange s with cond := some uptoSmall }

/-- 'posthornlaw28.DiskOne', WHERE WHAT IT READS IS OF BULK AT MOST 1048576: true; the input reads as it did. -/
def diskOneUptoRow : OpenClaim := { program := "ytcbogiebdjbmoaa", sum := "610b3ca38a6b20a491fece58acd25b51f6ab7623f0d53da429e36e0b4e8ff3b4", func := "posthorn/posthornlaw28.DiskOne", spec := "diskOne", apart := false, narrowed := true }
def DiskOneUptoSaid : Prop := diskOneUptoRow.holds Try.pinned (OpenSpec.upto diskOneSpec)

/-- 'posthornlaw28.DiskLives', WHERE WHAT IT READS IS OF BULK AT MOST 1048576: true; the input reads as it did. -/
def diskLivesUptoRow : OpenClaim := { program := "ytcbogiebdjbmoaa", sum := "610b3ca38a6b20a491fece58acd25b51f6ab7623f0d53da429e36e0b4e8ff3b4", func := "posthorn/posthornlaw28.DiskLives", spec := "diskLives", apart := false, narrowed := true }
def DiskLivesUptoSaid : Prop := diskLivesUptoRow.holds Try.pinned (OpenSpec.upto diskLivesSpec)

/-- 'posthornlaw29.PagesPacks', WHERE WHAT IT READS IS OF BULK AT MOST 1048576: true; the input reads as it did. -/
def pagesPacksUptoRow : OpenClaim := { program := "ytcbogiebdjbmoaa", sum := "610b3ca38a6b20a491fece58acd25b51f6ab7623f0d53da429e36e0b4e8ff3b4", func := "posthorn/posthornlaw29.PagesPacks", spec := "pagesPacks", unfollowed := true, recurses := true, apart := false, narrowed := true }
def PagesPacksUptoSaid : Prop := pagesPacksUptoRow.holds Try.pinned (OpenSpec.upto pagesPacksSpec)

/-- 'posthornlaw29.PagesNobody', WHERE WHAT IT READS IS OF BULK AT MOST 1048576: true; the input reads as it did. -/
def pagesNobodyUptoRow : OpenClaim := { program := "ytcbogiebdjbmoaa", sum := "610b3ca38a6b20a491fece58acd25b51f6ab7623f0d53da429e36e0b4e8ff3b4", func := "posthorn/posthornlaw29.PagesNobody", spec := "pagesNobody", unfollowed := true, recurses := true, apart := false, narrowed := true }
def PagesNobodyUptoSaid : Prop := pagesNobodyUptoRow.holds Try.pinned (OpenSpec.upto pagesNobodySpec)

/-- 'posthornlaw29.PagesTurned', WHERE WHAT IT READS IS OF BULK AT MOST 1048576: true; the input reads as it did. -/
def pagesTurnedUptoRow : OpenClaim := { program := "ytcbogiebdjbmoaa", sum := "610b3ca38a6b20a491fece58acd25b51f6ab7623f0d53da429e36e0b4e8ff3b4", func := "posthorn/posthornlaw29.PagesTurned", spec := "pagesTurned", unfollowed := true, recurses := true, apart := false, narrowed := true }
def PagesTurnedUptoSaid : Prop := pagesTurnedUptoRow.holds Try.pinned (OpenSpec.upto pagesTurnedSpec)

/-- 'posthornlaw29.PagesBack', WHERE WHAT IT READS IS OF BULK AT MOST 1048576: true; the input reads as it did. -/
def pagesBackUptoRow : OpenClaim := { program := "ytcbogiebdjbmoaa", sum := "610b3ca38a6b20a491fece58acd25b51f6ab7623f0d53da429e36e0b4e8ff3b4", func := "posthorn/posthornlaw29.PagesBack", spec := "pagesBack", unfollowed := true, recurses := true, apart := false, narrowed := true }
def PagesBackUptoSaid : Prop := pagesBackUptoRow.holds Try.pinned (OpenSpec.upto pagesBackSpec)

end Rows
end Go.Proofs.Ytcbogiebdjbmoaa
