/- The contract of the law file's function known (chapter 9): it answers true and turns nothing that was there. Condition: the library's variable holds some number. -/
import Derived.Test.YtgpidbdgodgefaaDoorSplit
namespace Go.Proofs.YtgpidbdgodgefaaDoor
open Go.RowKit

/-- A row of one's own that has elements is written out. -/
theorem owns_some {w : World} {base : Nat} {e : TypeId} {v : Value} {n : Nat} {xs : List Value} (h : w.ownsRow base e 1 v n xs) (hn : 0 < n) : ∃ g c, v = .slice (some ⟨g, 0, none⟩) n c := by
  obtain ⟨_, h2 | ⟨g, cap, cur, hv, _⟩⟩ := h
  · have := h2.2; omega
  · exact ⟨g, cap, hv⟩

set_option maxHeartbeats 1000000 in
set_option maxRecDepth 100000 in
theorem known9_any (m : Int) (w : World) (hm : w.cell? ⟨0, 0, none⟩ = some (.int .i64 m)) :
    Calls Tryd.prog 19 #[] w fun e w' => e = .returned (.bool true) ∧ Kp (fun _ => False) w w' := by
  have hc := nsplit_any [47, 97, 47, 47, 98, 47, 46, 46, 47, 99, 47] m w (by decide) hm
  have e0 : errN [47, 97, 47, 47, 98, 47, 46, 46, 47, 99, 47] = 0 := by decide +kernel
  have e1 : segs (cutB [47, 97, 47, 47, 98, 47, 46, 46, 47, 99, 47]) = [[97], [98], [46, 46], [99]] := by decide +kernel
  unfold SplitEnd at hc
  rw [e0, e1] at hc
  have HC := Lib.hid hc
  clear hc e0 e1
  go_enter Tryd.func19, Tryd.ntmps19
  go_wp2_with fail
  refine HC.out.mono ?_
  rintro e w1 ⟨hk, ⟨_, v, rfl, hown⟩ | ⟨h, _⟩⟩
  case inr => exact absurd rfl h
  have hown2 : w1.ownsRow w.heap.size 9 1 v 4 [strV [97], strV [98], strV [46, 46], strV [99]] := hown
  obtain ⟨g, c, rfl⟩ := owns_some hown2 (by decide)
  have c0 : w1.cell? ⟨g, 0, none⟩ = some (.string ⟨#[97]⟩) := World.ownsRow.cellAt hown2 0 (by decide)
  have c1 : w1.cell? ⟨g, 1, none⟩ = some (.string ⟨#[98]⟩) := World.ownsRow.cellAt hown2 1 (by decide)
  have c2 : w1.cell? ⟨g, 2, none⟩ = some (.string ⟨#[46, 46]⟩) := World.ownsRow.cellAt hown2 2 (by decide)
  have c3 : w1.cell? ⟨g, 3, none⟩ = some (.string ⟨#[99]⟩) := World.ownsRow.cellAt hown2 3 (by decide)
  have HK := Lib.hid hk
  clear hown hown2 hk HC
  go_wp2_with fail
  refine (nright_any [97] w1 (by decide)).mono ?_
  rintro e w' ⟨rfl, rfl⟩
  rw [show rightNm [97] = true by decide +kernel]
  go_wp2_with fail
  refine (nright_any [46, 46] w1 (by decide)).mono ?_
  rintro e w' ⟨rfl, rfl⟩
  rw [show rightNm [46, 46] = false by decide +kernel]
  go_wp2
  go_ret
  exact ⟨rfl, HK.out⟩
end Go.Proofs.YtgpidbdgodgefaaDoor
