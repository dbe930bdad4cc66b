/- Slices of bytes that are made, or written out. Conditions: as the theorems name them. -/
import Derived.Test.YtgpidbdgodgefaaConv
import Derived.Laws.MakeOwn
namespace Go.Proofs.Ytgpidbdgodgefaa
open Go.RowKit

theorem run_mk (n : Nat) (hn : n ≤ 281474976710656) (u : World) : (Instr.makeSlice 27 (.int .i64 (n : Int)) (.int .i64 (n : Int))).run Try.prog u = .ok (.slice (some ⟨u.heap.size, 0, none⟩) n n) (u.alloc (.cells (madeCells #[.int .u8 0] n) 5)) := by
  obtain ⟨i0, hi, hz0, hz1, hz2⟩ := info_parts infoByte
  have h := run_make (P := Try.prog) u 27 5 i0 (.int .u8 0) Try.underlying27 hi hz0 .i64 .i64 (n : Int) (n : Int) (by omega) (Int.le_refl _) (by rw [hz2]; omega) (by omega)
  simpa [hz1, Value.cells] using h

/-- A block of bytes that is new is a slice of them. -/
theorem sl_cells (w : World) (bs : List UInt8) (cs : Array Value) (t : TypeId) (n : Nat) (hn : n = bs.length) (hm : n ≤ maxLen) (h : cs.toList = bs.map byteV) :
    Sl (w.alloc (.cells cs t)) (.slice (some ⟨w.heap.size, 0, none⟩) n n) (some ⟨w.heap.size, 0, none⟩) n bs := by
  subst hn
  refine ⟨rfl, Nat.le_refl _, hm, fun h => (by cases h), fun i hi => ⟨_, 0, rfl, ?_⟩⟩
  have e : cs[i]? = some (byteV bs[i]) := by
    rw [← Array.getElem?_toList, h]
    simp [hi]
  have hh := hp_new w (.cells cs t)
  simp only [World.cell?, hh, Nat.zero_add, e]
  simp
theorem sl_made (w : World) (n : Nat) (t : TypeId) (hm : n ≤ maxLen) :
    Sl (w.alloc (.cells (madeCells #[.int .u8 0] n) t)) (.slice (some ⟨w.heap.size, 0, none⟩) n n) (some ⟨w.heap.size, 0, none⟩) n (List.replicate n 0) :=
  sl_cells w _ _ t n (by simp) hm (by rw [toList_madeCells_one, List.map_replicate]; rfl)
end Go.Proofs.Ytgpidbdgodgefaa
