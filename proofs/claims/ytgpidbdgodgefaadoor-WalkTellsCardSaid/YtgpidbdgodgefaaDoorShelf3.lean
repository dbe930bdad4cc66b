/- The contract of slices.Grow at strings, out of the shelf's. Conditions: as the theorem names them. -/
import Derived.Shelf.Spec.SlicesGrow
import Derived.Test.YtgpidbdgodgefaaDoorSplit
namespace Go.Proofs.YtgpidbdgodgefaaDoor
open Go.Shelf Go.RowKit

def ren117 : Go.Shelf.Ren := ⟨fun | 4 => 117 | n => n, fun | 22 => 28 | 25 => 9 | n => n, fun | n => n⟩
theorem laysGrow : Lays8.n4 Tryd.prog ren117 := {
  mixed := by kernel_rfl
  f4 := ⟨ "slices.Grow[[]string,string]", by decide, Tryd.func117.trans (congrArg some (by kernel_rfl))⟩
  t0 := Tryd.underlying0
  a0 := Tryd.isAgg0
  z0 := Tryd.sizeOf0
  v0 := Tryd.zeroValue0
  t3 := Tryd.underlying3
  a3 := Tryd.isAgg3
  z3 := Tryd.sizeOf3
  v3 := Tryd.zeroValue3
  t4 := Tryd.underlying4
  a4 := Tryd.isAgg4
  z4 := Tryd.sizeOf4
  v4 := Tryd.zeroValue4
  t9 := Tryd.underlying9
  a9 := Tryd.isAgg9
  z9 := Tryd.sizeOf9
  v9 := Tryd.zeroValue9
  t20 := Tryd.underlying20
  a20 := Tryd.isAgg20
  z20 := Tryd.sizeOf20
  v20 := Tryd.zeroValue20
  t22 := Tryd.underlying28
  a22 := Tryd.isAgg28
  z22 := Tryd.sizeOf28
  v22 := Tryd.zeroValue28 }

/-- Room for n strings: none, where n is none; otherwise a new row. -/
theorem grow_any (n : Nat) (w : World) (hn : n ≤ 1000000) :
    Calls Tryd.prog 117 #[.slice none 0 0, .int .i64 n] w fun e w' =>
      ∃ v, e = .returned v ∧ w'.ownsRow w.heap.size 9 1 v 0 [] ∧ Kp (fun _ => False) w w' := by
  by_cases h0 : n = 0
  · subst h0
    refine (Any8.slices_Grow_room laysGrow none 0 0 0 w (Nat.le_refl _) (by decide) (by decide) (by decide)).mono ?_
    rintro e w' ⟨rfl, rfl⟩
    exact ⟨_, rfl, World.ownsRow_nil _ _ _ _, Kp.refl _ _⟩
  · obtain ⟨i, h1, h2, h3, h4⟩ := info_parts infoStr
    refine (Any8.slices_Grow_grow laysGrow i (.string ByteArray.empty) h1 h2 (by rw [h3]; decide) none 0 0 n [] w (Nat.le_refl _) (by omega) (by rw [h4]; omega) (by omega) (by simp) (fun _ => rfl) (fun a h => by cases h)).mono ?_
    rintro e w' ⟨rfl, rfl⟩
    have hr : ren117.t 25 = 9 := rfl
    rw [hr]
    have hg : 0 + n ≤ grownCap w (0 + n) 0 9 := grownCap_ge w _ _ _
    have hm : grownCap w (0 + n) 0 9 ≤ maxLen := grownCap_le_maxLen _ _ _ _ (by unfold maxLen; omega)
    have hz : (Value.string ByteArray.empty).cells.size = 1 := rfl
    generalize grownCap w (0 + n) 0 9 = C at *
    refine ⟨_, rfl, ⟨by simp, .inr ⟨w.heap.size, C, _, rfl, Nat.le_refl _, hp_new' _ _ (by rfl), Nat.zero_le _, hm, ?_, rfl⟩⟩, ((Kp.refl _ _).drew).alloc _⟩
    simp only [Array.size_append, Builtin.zeroCells, Array.size_map, Array.size_range, hz, List.size_toArray, List.length_nil]
    omega
end Go.Proofs.YtgpidbdgodgefaaDoor
