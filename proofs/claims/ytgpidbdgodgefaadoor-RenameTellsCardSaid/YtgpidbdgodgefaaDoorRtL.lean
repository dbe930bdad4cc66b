/- Two changes of a row of the call's own change places. Conditions: as the theorem names them. -/
import Derived.Test.YtgpidbdgodgefaaDoorPln
import Derived.Test.YtgpidbdgodgefaaDoorDiffM
import Derived.Test.YtgpidbdgodgefaaDoorRenC
namespace Go.Proofs.YtgpidbdgodgefaaDoor
open Go.RowKit Go.Deep

/-- Ten cells are stored. -/
def put10 (w : World) (g o : Nat) (v0 v1 v2 v3 v4 v5 v6 v7 v8 v9 : Value) : World :=
  ((((((((((w.setCell ⟨g, o, none⟩ v0).setCell ⟨g, o + 1, none⟩ v1).setCell ⟨g, o + 2, none⟩ v2).setCell ⟨g, o + 3, none⟩ v3).setCell ⟨g, o + 4, none⟩ v4).setCell ⟨g, o + 5, none⟩ v5).setCell ⟨g, o + 6, none⟩ v6).setCell ⟨g, o + 7, none⟩ v7).setCell ⟨g, o + 8, none⟩ v8).setCell ⟨g, o + 9, none⟩ v9)
theorem put10_heap {w : World} {g : Nat} {cur : Array Value} {e : TypeId} {fz : Nat × Nat} (h : w.heap[g]? = some (.cells cur e fz)) (o : Nat) (v0 v1 v2 v3 v4 v5 v6 v7 v8 v9 : Value) :
    (put10 w g o v0 v1 v2 v3 v4 v5 v6 v7 v8 v9).heap[g]? = some (.cells ((((((((((cur.setIfInBounds o v0).setIfInBounds (o + 1) v1).setIfInBounds (o + 2) v2).setIfInBounds (o + 3) v3).setIfInBounds (o + 4) v4).setIfInBounds (o + 5) v5).setIfInBounds (o + 6) v6).setIfInBounds (o + 7) v7).setIfInBounds (o + 8) v8).setIfInBounds (o + 9) v9) e fz) :=
  setCell_heap (setCell_heap (setCell_heap (setCell_heap (setCell_heap (setCell_heap (setCell_heap (setCell_heap (setCell_heap (setCell_heap h _ _) _ _) _ _) _ _) _ _) _ _) _ _) _ _) _ _) _ _
theorem put10_kp {S : Nat → Prop} {a w : World} (h : Kp S a w) (g o : Nat) (hg : S g ∨ a.heap.size ≤ g) (v0 v1 v2 v3 v4 v5 v6 v7 v8 v9 : Value) : Kp S a (put10 w g o v0 v1 v2 v3 v4 v5 v6 v7 v8 v9) :=
  ((((((((((h.setCell ⟨g, o, none⟩ hg v0).setCell ⟨g, o + 1, none⟩ hg v1).setCell ⟨g, o + 2, none⟩ hg v2).setCell ⟨g, o + 3, none⟩ hg v3).setCell ⟨g, o + 4, none⟩ hg v4).setCell ⟨g, o + 5, none⟩ hg v5).setCell ⟨g, o + 6, none⟩ hg v6).setCell ⟨g, o + 7, none⟩ hg v7).setCell ⟨g, o + 8, none⟩ hg v8).setCell ⟨g, o + 9, none⟩ hg v9)
/-- A change's cells, stored. -/
def putC (w : World) (g o : Nat) (y : ChgP) : World :=
  put10 w g o (.string ⟨y.x.path.toArray⟩) (.int .i64 y.x.kind) (.int .i64 y.x.old.kind) (.int .i64 y.x.old.mode) (.float .f64 y.x.old.time) (.slice y.oa y.x.old.bs.length y.oc) (.int .i64 y.x.new.kind) (.int .i64 y.x.new.mode) (.float .f64 y.x.new.time) (.slice y.na y.x.new.bs.length y.nc)
set_option maxHeartbeats 4000000 in
theorem OwnC.swap {w : World} {base g n cap : Nat} {y0 y1 : ChgP} {r : List ChgP} (h : OwnC w base (.slice (some ⟨g, 0, none⟩) n cap) (y0 :: y1 :: r)) :
    OwnC (putC (putC w g 0 y1) g 10 y0) base (.slice (some ⟨g, 0, none⟩) n cap) (y1 :: y0 :: r) ∧ Kp (fun b => b = g) w (putC (putC w g 0 y1) g 10 y0) := by
  have kS : Kp (fun b => b = g) w (putC (putC w g 0 y1) g 10 y0) := put10_kp (put10_kp (Kp.refl (fun b => b = g) w) g 0 (.inl rfl) _ _ _ _ _ _ _ _ _ _) g 10 (.inl rfl) _ _ _ _ _ _ _ _ _ _
  refine ⟨?_, kS⟩
  obtain ⟨h1, ⟨e, h0⟩ | ⟨g', cap', cur, e, hg, hh, hl, hm, hs, ht⟩⟩ := h.own
  · cases e
  cases e
  have hok : ∀ z ∈ y0 :: y1 :: r, z.Ok (putC (putC w g 0 y1) g 10 y0) := fun z hz => by
    have hlo := h.lo z hz
    have hzo := h.ok z hz
    exact ⟨hzo.1.keepC kS fun hp b hb e => by have := hlo.1 hp b hb; omega, hzo.2.keepC kS fun hp b hb e => by have := hlo.2 hp b hb; omega⟩
  have hmem : ∀ z ∈ y1 :: y0 :: r, z ∈ y0 :: y1 :: r := fun z hz => by
    simp only [List.mem_cons] at hz ⊢
    rcases hz with h | h | h
    · exact .inr (.inl h)
    · exact .inl h
    · exact .inr (.inr h)
  refine ⟨⟨?_, .inr ⟨g, cap, _, rfl, hg, put10_heap (put10_heap hh _ _ _ _ _ _ _ _ _ _ _) _ _ _ _ _ _ _ _ _ _ _, hl, hm, ?_, ?_⟩⟩, fun z hz => hok z (hmem z hz), fun z hz => h.lo z (hmem z hz)⟩
  · have h2 := h1
    simp only [List.flatMap_cons, List.length_append, List.length_cons] at h2 ⊢
    have e0 : (ChgP.cells y0).length = 10 := rfl
    have e1 : (ChgP.cells y1).length = 10 := rfl
    omega
  · simp only [Array.size_setIfInBounds]
    exact hs
  · have hlen : 20 ≤ (y1 :: y0 :: r).length * 10 := by simp only [List.length_cons]; omega
    simp only [Array.toList_setIfInBounds]
    have hn : ((y0 :: y1 :: r).length * 10) = ((y1 :: y0 :: r).length * 10) := rfl
    rw [hn] at ht
    generalize (y1 :: y0 :: r).length * 10 = N at *
    iterate 20 rw [take_set_lt _ _ _ _ (by omega)]
    rw [ht]
    rfl
end Go.Proofs.YtgpidbdgodgefaaDoor
