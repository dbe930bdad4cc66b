/- Walks over trees that may be: by the document the same; where they lead. Plain laws. Conditions: as the theorems name them. -/
import Derived.Test.YtgpidbdgodgefaaDoorTreeOk
import Derived.Test.YtgpidbdgodgefaaDoorWalk2
namespace Go.Proofs.YtgpidbdgodgefaaDoor
open Go.RowKit

/-- The document's walk, for so many steps at most. -/
def refRunT (l : List ItemV) (follow : Bool) : Nat → WSt → List UInt8 × Bool × Int
  | 0, s => (s.at_, true, 0)
  | f + 1, s => match s.parts with
    | [] => (s.at_, true, 0)
    | q :: r =>
      if q = [46] then refRunT l follow f ⟨s.at_, r, s.hops⟩
      else if q = [46, 46] then refRunT l follow f ⟨dirB s.at_, r, s.hops⟩
      else if dirL l s.at_ = false then ([], false, 9)
      else if 120 < (joinB s.at_ q).length then ([], false, 12)
      else match lookT l (joinB s.at_ q) with
        | none => if 0 < r.length then ([], false, 6) else (joinB s.at_ q, false, 0)
        | some x =>
          if x.kind = 3 ∧ (0 < r.length ∨ follow = true) then (if 8 < s.hops + 1 then ([], false, 11) else if errN x.bs ≠ 0 then ([], false, errN x.bs) else refRunT l follow f ⟨if x.bs.head? = some 47 then [] else s.at_, segs (cutB x.bs) ++ r, s.hops + 1⟩)
          else refRunT l follow f ⟨joinB s.at_ q, r, s.hops⟩
def refWalkT (l : List ItemV) (s : List UInt8) (follow : Bool) : List UInt8 × Bool × Int :=
  if errN s ≠ 0 then ([], false, errN s) else refRunT l follow 2000 ⟨[], segs (cutB s), 0⟩

theorem joinB_ne2 {d q : List UInt8} (hq : q ≠ []) : joinB d q ≠ [] := by
  unfold joinB
  split
  · exact hq
  · simp
theorem segs_ne {s q : List UInt8} (h : q ∈ segs (cutB s)) : q ≠ [] := by
  have := (List.mem_filter.1 h).2
  intro e
  subst e
  cases this

theorem runT_empty (l : List ItemV) (follow : Bool) (f : Nat) (a : List UInt8) (h : Nat) (th : Bool) : runT l follow f ⟨a, [], h⟩ th = (a, th, 0) := by
  cases f <;> rfl
theorem refRunT_empty (l : List ItemV) (follow : Bool) (f : Nat) (a : List UInt8) (h : Nat) : refRunT l follow f ⟨a, [], h⟩ = (a, true, 0) := by
  cases f <;> rfl
theorem run_ref (l : List ItemV) (hl : Srt l) (follow : Bool) : ∀ (f : Nat) (s : WSt), (∀ q ∈ s.parts, q ≠ []) → runT l follow f s true = refRunT l follow f s
  | 0, _, _ => rfl
  | f + 1, ⟨a, [], h⟩, _ => rfl
  | f + 1, ⟨a, q :: r, h⟩, hq => by
    have hr : ∀ x ∈ r, x ≠ [] := fun x hx => hq x (List.mem_cons_of_mem _ hx)
    rw [runT, refRunT]
    dsimp only
    by_cases h1 : q = [46]
    · rw [if_pos h1, if_pos h1]
      exact run_ref l hl follow f _ hr
    rw [if_neg h1, if_neg h1]
    by_cases h2 : q = [46, 46]
    · rw [if_pos h2, if_pos h2]
      exact run_ref l hl follow f _ hr
    rw [if_neg h2, if_neg h2]
    have hj : (joinB a q).isEmpty = false := by
      have := joinB_ne2 (d := a) (hq q (by simp))
      cases hh : joinB a q with
      | nil => exact absurd hh this
      | cons x y => rfl
    unfold downT
    dsimp only
    rw [isDirT_look hl, getT_look hl, hj]
    by_cases h3 : dirL l a = false
    · rw [if_pos h3, if_pos h3]; rfl
    rw [if_neg h3, if_neg h3]
    by_cases h4 : 120 < (joinB a q).length
    · rw [if_pos h4, if_pos h4]; rfl
    rw [if_neg h4, if_neg h4]
    simp only [Bool.false_eq_true, if_false]
    cases hx : lookT l (joinB a q) with
    | none =>
      dsimp only
      cases r with
      | nil => simp [runT_empty]
      | cons y r => simp
    | some x =>
      dsimp only
      by_cases h5 : x.kind = 3 ∧ (0 < r.length ∨ follow = true)
      · simp only [if_pos h5]
        by_cases h6 : 8 < h + 1
        · have e : thrT ⟨a, r, h⟩ x.bs = (⟨a, r, h + 1⟩, 11) := by unfold thrT; rw [if_pos h6]
          simp only [e, if_pos h6]
          rfl
        by_cases h7 : errN x.bs = 0
        · have e : thrT ⟨a, r, h⟩ x.bs = (⟨if x.bs.head? = some 47 then [] else a, segs (cutB x.bs) ++ r, h + 1⟩, 0) := by unfold thrT; rw [if_neg h6, if_neg (fun k => k h7)]
          simp only [e, if_neg h6, h7, ne_eq, not_true_eq_false, if_false]
          exact run_ref l hl follow f _ (fun y (hy : y ∈ segs (cutB x.bs) ++ r) => by
            rcases List.mem_append.1 hy with hy | hy
            · exact segs_ne hy
            · exact hr y hy)
        · have e : thrT ⟨a, r, h⟩ x.bs = (⟨a, r, h + 1⟩, errN x.bs) := by unfold thrT; rw [if_neg h6, if_pos h7]
          simp only [e, if_neg h6, h7, ne_eq, not_false_eq_true, if_true]
      · simp only [if_neg h5, ne_eq, not_true_eq_false, if_false]
        exact run_ref l hl follow f _ hr
/-- By the document the same. -/
theorem walk_ref (l : List ItemV) (hl : Srt l) (s : List UInt8) (follow : Bool) : walkT l s follow = refWalkT l s follow := by
  unfold walkT refWalkT
  split
  · rfl
  · exact run_ref l hl follow 2000 _ fun q hq => segs_ne hq

/-! ### how many steps are allowed does not matter -/
theorem runT_irr (l : List ItemV) (follow : Bool) : ∀ (f g : Nat) (s : WSt) (th : Bool), Good s → mu s < f → mu s < g → runT l follow f s th = runT l follow g s th
  | 0, _, _, _, _, h, _ => absurd h (Nat.not_lt_zero _)
  | _, 0, _, _, _, _, h => absurd h (Nat.not_lt_zero _)
  | f + 1, g + 1, ⟨a, [], h⟩, th, _, _, _ => rfl
  | f + 1, g + 1, ⟨a, q :: r, h⟩, th, hg, h1, h2 => by
    have hm : mu ⟨a, r, h⟩ + 1 = mu ⟨a, q :: r, h⟩ := by unfold mu; simp only [List.length_cons]; omega
    have hm2 : mu ⟨dirB a, r, h⟩ + 1 = mu ⟨a, q :: r, h⟩ := by unfold mu; simp only [List.length_cons]; omega
    have hg2 : Good ⟨a, r, h⟩ := ⟨hg.1, fun x hx => hg.2.1 x (List.mem_cons_of_mem _ hx), hg.2.2⟩
    rw [runT, runT]
    dsimp only
    by_cases e1 : q = [46]
    · rw [if_pos e1, if_pos e1]
      exact runT_irr l follow f g _ th hg2 (by omega) (by omega)
    rw [if_neg e1, if_neg e1]
    by_cases e2 : q = [46, 46]
    · rw [if_pos e2, if_pos e2]
      refine runT_irr l follow f g _ th ⟨?_, hg2.2⟩ (by omega) (by omega)
      have h5 := dirB_len a
      have h6 := hg.1
      dsimp only at h6 ⊢
      omega
    rw [if_neg e2, if_neg e2]
    by_cases e3 : (downT l follow ⟨a, r, h⟩ q).2.2 = 0
    · rw [if_neg (fun x => x e3), if_neg (fun x => x e3)]
      obtain ⟨k1, k2⟩ := down_good hg2 e3
      exact runT_irr l follow f g _ _ k1 (by omega) (by omega)
    · rw [if_pos e3, if_pos e3]
end Go.Proofs.YtgpidbdgodgefaaDoor
