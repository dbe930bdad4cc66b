/- A slice of bytes turned into a string. Conditions: as the theorems name them. -/
import Derived.Test.YtgpidbdgodgefaaPut
import Derived.Laws.BytesArg
namespace Go.Proofs.Ytgpidbdgodgefaa
open Go.RowKit

theorem nums_bytes (bs : List UInt8) : strOfNums (bs.map fun b => (b.toNat : Int)) = ⟨bs.toArray⟩ := by
  unfold strOfNums
  congr 2
  rw [List.map_map]
  refine (List.map_congr_left (g := id) fun b _ => ?_).trans (List.map_id bs)
  simp

theorem run_conv {w : World} {a : Option Addr} {c : Nat} {bs : List UInt8} (h : Sl w (.slice a bs.length c) a c bs) :
    (convert 27 9 (.slice a bs.length c)).run Try.prog w = .ok (.string ⟨bs.toArray⟩) w := by
  cases a with
  | none =>
    have h1 := h.nocap rfl
    have h2 := h.le
    have h3 : bs = [] := List.eq_nil_of_length_eq_zero (by omega)
    subst h3
    exact run_convert_bytes_nil w _ _ Try.underlying27 Try.underlying5 _ _ _ Try.underlying9
  | some ad =>
    by_cases hz : bs.length = 0
    · have h3 : bs = [] := List.eq_nil_of_length_eq_zero hz
      subst h3
      rw [run_convert_bytes_string w _ _ _ _ _ c Try.underlying27 Try.underlying5 Try.underlying9]
      show Sem.run _ (Conv.bytesToString (.slice (some ad) 0 c)) w = _
      rw [run_bytesToString w ad 0 c [] rfl]
      rfl
    · obtain ⟨b, off, e, _⟩ := h.seg 0 (by omega)
      cases e
      rw [← nums_bytes]
      refine run_convert_bytes_arg w _ _ Try.underlying27 Try.underlying5 b off _ c _ (by simp) (fun i hi => ?_) _ Try.underlying9
      obtain ⟨b', off', e', hc⟩ := h.seg i hi
      cases e'
      rw [hc]
      simp [byteV, List.getD, List.getElem?_eq_getElem hi]
end Go.Proofs.Ytgpidbdgodgefaa
