/- A file that alone has its bytes, and is moved: the plain law of RenameMoves. Conditions: as the theorems name them. -/
import Derived.Test.YtgpidbdgodgefaaDoorTurnL
namespace Go.Proofs.YtgpidbdgodgefaaDoor
open Go.RowKit

theorem put_facts {T : List ItemV} (h : Tr T) {p : List UInt8} {n : NodeV} (hz : (putL T p n).2 = 0) :
    Srt (putL T p n).1 ∧ ItemsOk (putL T p n).1 ∧ n.item p ∈ (putL T p n).1 ∧ (∀ x ∈ (putL T p n).1, x = n.item p ∨ (x ∈ T ∧ x.path ≠ p)) ∧ (putL T p n).1.length ≤ 120 := by
  obtain ⟨h1, h2, h3, h4, h5⟩ := putL_cases T p n hz
  rw [h4] at h5 ⊢
  have hsub : ∀ x ∈ (if n.kind = 2 then T else cutL T p), x ∈ T := fun x hx => by
    split at hx
    · exact hx
    · exact (cutL_mem.1 hx).1
  have hsrt : Srt (if n.kind = 2 then T else cutL T p) := by
    split
    · exact h.srt
    · exact cutL_srt h.srt p
  generalize (if n.kind = 2 then T else cutL T p) = C at *
  have hm : ∀ x ∈ setL (n.item p) false C, x = n.item p ∨ (x ∈ T ∧ x.path ≠ p) := fun x hx => by
    rcases (setL_mem _ _ _ _).1 hx with ⟨_, e⟩ | ⟨hx, hp⟩
    · exact .inl e
    · exact .inr ⟨hsub x hx, hp⟩
  refine ⟨setL_srt _ _ _ hsrt, fun x hx => ?_, (setL_mem _ _ _ _).2 (.inl ⟨rfl, rfl⟩), hm, h5⟩
  rcases hm x hx with rfl | ⟨hx, _⟩
  · exact ⟨h1, h2, h3⟩
  · exact h.ok x hx
theorem moves_law {T T' U V : List ItemV} {n m : NodeV} (hT : Tr T) (hT' : Tr T') (hn : n.kind = 1) (hm : m.kind = 1) (hnl : 60 < n.bs.length) (_hml : 60 < m.bs.length) (hU : putL T [113, 45, 49] n = (U, 0)) (hV : putL T' [113, 45, 50] m = (V, 0)) :
    (m.bs = n.bs → toL (pairsL (diffL U V)) [113, 45, 49] = some [113, 45, 50]) ∧ (m.bs ≠ n.bs → toL (pairsL (diffL U V)) [113, 45, 49] = none) := by
  obtain ⟨u1, _, u3, u4, _⟩ := put_facts hT (p := [113, 45, 49]) (n := n) (by rw [hU])
  obtain ⟨v1, _, v3, v4, _⟩ := put_facts hT' (p := [113, 45, 50]) (n := m) (by rw [hV])
  rw [hU] at u1 u3 u4
  rw [hV] at v1 v3 v4
  refine ⟨fun e => ?_, fun e => ?_⟩
  · refine moved_pair (y := n.item [113, 45, 49]) (z := m.item [113, 45, 50]) u1 v1 u3 v3 hn hm e.symm (look_none.2 fun x hx hp => ?_) (look_none.2 fun x hx hp => ?_) (fun x hx hb => ?_) (fun x hx hb => ?_)
    · rcases v4 x hx with rfl | ⟨hx, _⟩
      · exact absurd hp (by show ([113, 45, 50] : List UInt8) ≠ [113, 45, 49]; decide)
      · exact (hT'.small x hx).1 (by rw [hp]; rfl)
    · rcases u4 x hx with rfl | ⟨hx, _⟩
      · exact absurd hp (by show ([113, 45, 49] : List UInt8) ≠ [113, 45, 50]; decide)
      · exact (hT.small x hx).1 (by rw [hp]; rfl)
    · rcases u4 x hx with rfl | ⟨hx, _⟩
      · rfl
      · have h1 := (hT.small x hx).2
        rw [hb] at h1
        exact absurd hnl (by show ¬ 60 < n.bs.length; have : n.bs.length ≤ 60 := h1; omega)
    · rcases v4 x hx with rfl | ⟨hx, _⟩
      · rfl
      · have h1 := (hT'.small x hx).2
        rw [hb] at h1
        exact absurd hnl (by show ¬ 60 < n.bs.length; have : n.bs.length ≤ 60 := h1; omega)
  · refine turned_none (y := n.item [113, 45, 49]) u1 u3 fun x hx hb => ?_
    rcases v4 x hx with rfl | ⟨hx, _⟩
    · exact e hb
    · have h1 := (hT'.small x hx).2
      rw [hb] at h1
      exact absurd hnl (by show ¬ 60 < n.bs.length; have : n.bs.length ≤ 60 := h1; omega)
end Go.Proofs.YtgpidbdgodgefaaDoor
