/- GuardPlays said plainly: what a Do at a depth comes to from a step on. No program. No condition but those that the theorems name. -/
import Derived.WalkKit
namespace Go.Proofs.Ytbjndmmelngbdaa

/-- The steps, raw. -/
structure GSteps where
  ll : Nat
  what : Nat → Int
  n : Nat → Int
  ok : Nat → Bool

/-- What a Do at this depth comes to from this step on: its answer and whose guard gives it, the next step, the log. -/
def pl (s : GSteps) (deep at' : Nat) (log : List Int) : (Int × Nat) × Nat × List Int :=
  if _h : at' < s.ll ∧ at' < 60 then
    if s.what at' % 10 = 4 ∨ s.what at' % 10 = 5 then
      if deep < 6 then
        let r := pl s (deep + 1) (at' + 1) log
        if r.1.2 ≤ deep then r else pl s deep (max r.2.1 (at' + 1)) (r.2.2 ++ [1000 + r.1.1])
      else pl s deep (at' + 1) log
    else if s.what at' % 10 = 6 then ((0, deep), at' + 1, log)
    else if s.what at' % 10 = 7 then
      if s.ok at' = true then pl s deep (at' + 1) log else ((1 + s.n at' % 18, deep), at' + 1, log)
    else if s.what at' % 10 = 8 then
      if s.n at' % 4 = 0 then pl s deep (at' + 1) log else ((s.n at' % 4, deep), at' + 1, log)
    else if s.what at' % 10 = 9 then ((1 + (s.n at').tdiv 7 % 18, (s.n at' % (deep + 1)).toNat), at' + 1, log)
    else pl s deep (at' + 1) (log ++ [s.n at' % 100])
  else ((0, deep), at', log)
  termination_by 60 - at'
  decreasing_by all_goals omega

theorem pl_end (s : GSteps) (deep k : Nat) (log : List Int) (h : ¬ (k < s.ll ∧ k < 60)) : pl s deep k log = ((0, deep), k, log) := by
  rw [pl, dif_neg h]

theorem pl_ge (s : GSteps) : ∀ (m deep k : Nat) (log : List Int), 60 - k ≤ m → k ≤ (pl s deep k log).2.1
  | 0, deep, k, log, hm => by
    rw [pl_end _ _ _ _ (by omega)]
    exact Nat.le_refl _
  | m + 1, deep, k, log, hm => by
    by_cases h : k < s.ll ∧ k < 60
    · have ih : ∀ (d j : Nat) (lg : List Int), k < j → j ≤ (pl s d j lg).2.1 := fun d j lg hj => pl_ge s m d j lg (by omega)
      rw [pl, dif_pos h]
      dsimp only
      repeat' split
      all_goals first
        | exact Nat.le_succ _
        | exact Nat.le_of_lt (ih _ _ _ (Nat.lt_succ_self k))
        | exact Nat.le_trans (by omega) (ih deep (max (pl s (deep + 1) (k + 1) log).2.1 (k + 1)) _ (by omega))
    · rw [pl_end _ _ _ _ h]
      exact Nat.le_refl _

theorem pl_in (s : GSteps) (deep k : Nat) (log : List Int) (h : k < s.ll ∧ k < 60) (hw : s.what k % 10 = 4 ∨ s.what k % 10 = 5) (hd : deep < 6) :
    pl s deep k log = (if (pl s (deep + 1) (k + 1) log).1.2 ≤ deep then pl s (deep + 1) (k + 1) log else pl s deep (pl s (deep + 1) (k + 1) log).2.1 ((pl s (deep + 1) (k + 1) log).2.2 ++ [1000 + (pl s (deep + 1) (k + 1) log).1.1])) := by
  have hge := pl_ge s 60 (deep + 1) (k + 1) log (by omega)
  rw [pl, dif_pos h, if_pos hw, if_pos hd]
  dsimp only
  rw [Nat.max_eq_left hge]

theorem pl_no (s : GSteps) (deep k : Nat) (log : List Int) (h : k < s.ll ∧ k < 60) (hw : s.what k % 10 = 4 ∨ s.what k % 10 = 5) (hd : ¬ deep < 6) : pl s deep k log = pl s deep (k + 1) log := by
  rw [pl, dif_pos h, if_pos hw, if_neg hd]
theorem pl_6 (s : GSteps) (deep k : Nat) (log : List Int) (h : k < s.ll ∧ k < 60) (hw : s.what k % 10 = 6) : pl s deep k log = ((0, deep), k + 1, log) := by
  rw [pl, dif_pos h, if_neg (by omega), if_pos hw]
theorem pl_7 (s : GSteps) (deep k : Nat) (log : List Int) (h : k < s.ll ∧ k < 60) (hw : s.what k % 10 = 7) : pl s deep k log = (if s.ok k = true then pl s deep (k + 1) log else ((1 + s.n k % 18, deep), k + 1, log)) := by
  rw [pl, dif_pos h, if_neg (by omega), if_neg (by omega), if_pos hw]
theorem pl_8 (s : GSteps) (deep k : Nat) (log : List Int) (h : k < s.ll ∧ k < 60) (hw : s.what k % 10 = 8) : pl s deep k log = (if s.n k % 4 = 0 then pl s deep (k + 1) log else ((s.n k % 4, deep), k + 1, log)) := by
  rw [pl, dif_pos h, if_neg (by omega), if_neg (by omega), if_neg (by omega), if_pos hw]
theorem pl_9 (s : GSteps) (deep k : Nat) (log : List Int) (h : k < s.ll ∧ k < 60) (hw : s.what k % 10 = 9) : pl s deep k log = ((1 + (s.n k).tdiv 7 % 18, (s.n k % (deep + 1)).toNat), k + 1, log) := by
  rw [pl, dif_pos h, if_neg (by omega), if_neg (by omega), if_neg (by omega), if_neg (by omega), if_pos hw]
theorem pl_log (s : GSteps) (deep k : Nat) (log : List Int) (h : k < s.ll ∧ k < 60) (hw : 0 ≤ s.what k % 10 ∧ s.what k % 10 < 4) : pl s deep k log = pl s deep (k + 1) (log ++ [s.n k % 100]) := by
  rw [pl, dif_pos h, if_neg (by omega), if_neg (by omega), if_neg (by omega), if_neg (by omega), if_neg (by omega)]

/-- It is never one below's, and each round takes a step. -/
theorem pl_to (s : GSteps) : ∀ (m deep k : Nat) (log : List Int), 60 - k ≤ m → (pl s deep k log).1.2 ≤ deep
  | 0, deep, k, log, hm => by
    rw [pl_end _ _ _ _ (by omega)]
    exact Nat.le_refl _
  | m + 1, deep, k, log, hm => by
    by_cases h : k < s.ll ∧ k < 60
    · have ih : ∀ (d j : Nat) (lg : List Int), k < j → (pl s d j lg).1.2 ≤ d := fun d j lg hj => pl_to s m d j lg (by omega)
      have hge := pl_ge s 60 (deep + 1) (k + 1) log (by omega)
      have hm := Int.emod_lt_of_pos (s.n k) (show (0 : Int) < (deep : Int) + 1 by omega)
      rw [pl, dif_pos h]
      dsimp only
      repeat' split
      all_goals first
        | exact Nat.le_refl _
        | assumption
        | exact ih _ _ _ (by omega)
        | (show (s.n k % (deep + 1)).toNat ≤ deep; omega)
    · rw [pl_end _ _ _ _ h]
      exact Nat.le_refl _

/-- The log's numbers, and how many. -/
theorem pl_log_le (s : GSteps) : ∀ (m deep k : Nat) (log : List Int), 60 - k ≤ m → k ≤ 60 → (pl s deep k log).2.2.length + k ≤ log.length + (pl s deep k log).2.1 ∧ (pl s deep k log).2.1 ≤ 60
  | 0, deep, k, log, hm, hk => by
    rw [pl_end _ _ _ _ (by omega)]
    exact ⟨Nat.le_refl _, hk⟩
  | m + 1, deep, k, log, hm, hk => by
    by_cases h : k < s.ll ∧ k < 60
    · have ih : ∀ (d j : Nat) (lg : List Int), k < j → j ≤ 60 → (pl s d j lg).2.2.length + j ≤ lg.length + (pl s d j lg).2.1 ∧ (pl s d j lg).2.1 ≤ 60 := fun d j lg hj hj2 => pl_log_le s m d j lg (by omega) hj2
      have hge := pl_ge s 60 (deep + 1) (k + 1) log (by omega)
      have i1 := ih (deep + 1) (k + 1) log (by omega) (by omega)
      have i2 := ih deep (k + 1) log (by omega) (by omega)
      have i3 := ih deep (k + 1) (log ++ [s.n k % 100]) (by omega) (by omega)
      rw [List.length_append, List.length_singleton] at i3
      have i4 := ih deep (pl s (deep + 1) (k + 1) log).2.1 ((pl s (deep + 1) (k + 1) log).2.2 ++ [1000 + (pl s (deep + 1) (k + 1) log).1.1]) (by omega) (by omega)
      rw [List.length_append, List.length_singleton] at i4
      rw [pl, dif_pos h]
      dsimp only
      rw [Nat.max_eq_left hge]
      repeat' split
      all_goals first
        | (constructor <;> omega)
        | (show _ ∧ _; dsimp only; omega)
    · rw [pl_end _ _ _ _ h]
      exact ⟨Nat.le_refl _, hk⟩

/-- The answers are small. -/
theorem pl_e (s : GSteps) : ∀ (m deep k : Nat) (log : List Int), 60 - k ≤ m → 0 ≤ (pl s deep k log).1.1 ∧ (pl s deep k log).1.1 ≤ 18
  | 0, deep, k, log, hm => by
    rw [pl_end _ _ _ _ (by omega)]
    exact ⟨Int.le_refl _, by show (0 : Int) ≤ 18; decide⟩
  | m + 1, deep, k, log, hm => by
    by_cases h : k < s.ll ∧ k < 60
    · have ih : ∀ (d j : Nat) (lg : List Int), k < j → 0 ≤ (pl s d j lg).1.1 ∧ (pl s d j lg).1.1 ≤ 18 := fun d j lg hj => pl_e s m d j lg (by omega)
      rw [pl, dif_pos h]
      dsimp only
      repeat' split
      all_goals first
        | (dsimp only; constructor <;> omega)
        | exact ih _ _ _ (by omega)
    · rw [pl_end _ _ _ _ h]
      exact ⟨Int.le_refl _, by show (0 : Int) ≤ 18; decide⟩
end Go.Proofs.Ytbjndmmelngbdaa
