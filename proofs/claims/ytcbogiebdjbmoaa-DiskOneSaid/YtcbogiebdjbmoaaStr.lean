/-
  Bytes as a string.
-/
import Derived.Test.YtcbogiebdjbmoaaMem
import Derived.Laws.BytesArg
namespace Go.Proofs.Ytcbogiebdjbmoaa
open Go.RowKit
open Go.Extern.Stop (cell)
set_option linter.unusedVariables false

def str (bs : List UInt8) : ByteArray := ⟨bs.toArray⟩
theorem str_list (a : List UInt8) : (str a).toList = a := by simp [ByteArray.toList_eq, str]
theorem strOfNums_bytes (bs : List UInt8) : strOfNums (bs.map fun u => (u.toNat : Int)) = str bs := by
  unfold strOfNums str
  congr 2
  rw [List.map_map]
  conv => rhs; rw [← List.map_id bs]
  apply List.map_congr_left
  intro u _
  simp
/-- A made row of bytes as a string. -/
theorem conv_row {P : Program} {w : World} {base n : Nat} {v : Value} {bs : List UInt8} (h : w.ownsRow base 5 1 v n (bcells bs)) (hn : bs.length = n) (src dst e : TypeId) (hs : P.underlying src = some (.slice e)) (he : P.underlying e = some (.int .u8)) (hd : P.underlying dst = some .string) :
    (convert src dst v).run P w = .ok (.string (str bs)) w := by
  obtain ⟨A, cap, rfl, hnc, hcm, hA⟩ := row_view h
  by_cases h0 : n = 0
  · subst h0
    obtain rfl : bs = [] := List.eq_nil_of_length_eq_zero hn
    cases A with
    | none => exact run_convert_bytes_nil w src e hs he 0 cap dst hd
    | some ad =>
      rcases h.2 with ⟨e, _⟩ | ⟨g, cap', cur, e, _, hg, _, _, _, htk⟩
      · cases e
      · injection e with e1; injection e1 with e1; subst e1
        exact run_convert_bytes_arg w src e hs he g 0 0 cap [] rfl (fun i hi => by omega) dst hd
  · obtain ⟨g, cur, rfl, _, hg, hh, _, htk⟩ := hA (by omega)
    rw [← strOfNums_bytes]
    refine run_convert_bytes_arg w src e hs he g 0 n cap _ (by simp [hn]) (fun i hi => ?_) dst hd
    rw [Nat.zero_add, cell_of_row _ _ _ _ _ _ hh]
    have hlt : i < bs.length := by omega
    have h1 : (bcells bs)[i]? = some (.int .u8 (bs[i].toNat : Int)) := by rw [bcells_get, List.getElem?_eq_getElem hlt]; rfl
    rw [← htk, List.getElem?_take] at h1
    split at h1
    · simpa [List.getD, List.getElem?_eq_getElem hlt] using h1
    · cases h1
end Go.Proofs.Ytcbogiebdjbmoaa
