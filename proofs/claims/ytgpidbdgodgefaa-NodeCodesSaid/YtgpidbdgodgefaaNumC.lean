/- The contract of num.Same: equal bits, but for NaNs. Conditions: as the theorems name them. -/
import Derived.Test.YtgpidbdgodgefaaNumW
namespace Go.Proofs.Ytgpidbdgodgefaa
open Go.RowKit

set_option maxHeartbeats 400000 in
theorem sides_any (b : Nat) (hb : b < 18446744073709551616) (w : World) :
    Calls Try.prog 85 #[.float .f64 b] w fun e w' => e = .returned (.tuple #[.int .i64 (sideN b), .int .i64 (sideZ b)]) ∧ w = w' := by
  have hz := zero_bool b hb
  by_cases hn : isN b
  · have hs : sideN b = 1 ∧ sideZ b = 0 := by
      unfold sideN sideZ
      rw [if_pos hn]
      unfold isN at hn
      exact ⟨rfl, if_neg (by omega)⟩
    clear hz
    go_enter Try.func85, Try.ntmps85
    go_wp2_with fail
    refine (isNaN_any b hb _).mono ?_
    rintro e w' ⟨rfl, rfl⟩
    simp only [hn, decide_true]
    go_wp2
    go_ret2
    rw [hs.1, hs.2]
    exact ⟨rfl, rfl⟩
  · have hs0 : sideN b = 0 := by unfold sideN; rw [if_neg hn]
    by_cases h0 : b % 9223372036854775808 = 0
    · have hq : (FloatKind.f64.format.order b 0 == some .eq) = true := by rw [hz]; simp [h0]
      have hq2 : FloatKind.f64.format.order b 0 = some .eq := by simpa using hq
      have hc : b = 0 ∨ b = 9223372036854775808 := by omega
      clear hz h0
      rcases hc with rfl | rfl
      all_goals
        go_enter Try.func85, Try.ntmps85
        go_wp2_with fail
        refine (isNaN_any _ hb _).mono ?_
        rintro e w' ⟨rfl, rfl⟩
        simp only [hn, decide_false]
        go_wp2_with fail
        refine (signbit_any _ hb _).mono ?_
        rintro e w' ⟨rfl, rfl⟩
        simp only [Nat.reduceLeDiff, decide_true, decide_false]
        go_wp2
        go_ret2
        rw [hs0]
        exact ⟨rfl, rfl⟩
    · have hq : (FloatKind.f64.format.order b 0 == some .eq) = false := by rw [hz]; simp [h0]
      have hq2 : ¬ FloatKind.f64.format.order b 0 = some .eq := by simpa using hq
      have hs1 : sideZ b = 0 := by unfold sideZ; rw [if_neg (by omega)]
      clear hz
      go_enter Try.func85, Try.ntmps85
      go_wp2_with fail
      refine (isNaN_any b hb _).mono ?_
      rintro e w' ⟨rfl, rfl⟩
      simp only [hn, decide_false]
      go_wp2
      go_ret2
      rw [hs0, hs1]
      exact ⟨rfl, rfl⟩

set_option maxHeartbeats 400000 in
theorem cmpF_any (a b : Nat) (ha : a < 18446744073709551616) (hb : b < 18446744073709551616) (hna : ¬ isN a) (hnb : ¬ isN b) (w : World) :
    Calls Try.prog 88 #[.float .f64 a, .float .f64 b] w fun e w' => (∃ c : Int, e = .returned (.int .i64 c) ∧ (c = 0 ↔ FloatKind.f64.format.order a b = some .eq) ∧ -1 ≤ c ∧ c ≤ 1) ∧ w = w' := by
  obtain ⟨o, ho⟩ := order_some hna hnb
  cases o with
  | lt =>
    go_enter Try.func88, Try.ntmps88
    go_wp2_with fail
    refine (cNaN_any a ha _).mono ?_
    rintro e w' ⟨rfl, rfl⟩
    simp only [hna, decide_false]
    go_wp2_with fail
    refine (cNaN_any b hb _).mono ?_
    rintro e w' ⟨rfl, rfl⟩
    simp only [hnb, decide_false]
    go_wp2
    go_ret
    exact ⟨⟨-1, rfl, by rw [ho]; decide, by decide, by decide⟩, rfl⟩
  | eq =>
    go_enter Try.func88, Try.ntmps88
    go_wp2_with fail
    refine (cNaN_any a ha _).mono ?_
    rintro e w' ⟨rfl, rfl⟩
    simp only [hna, decide_false]
    go_wp2_with fail
    refine (cNaN_any b hb _).mono ?_
    rintro e w' ⟨rfl, rfl⟩
    simp only [hnb, decide_false]
    go_wp2
    go_ret
    exact ⟨⟨0, rfl, by rw [ho]; decide, by decide, by decide⟩, rfl⟩
  | gt =>
    go_enter Try.func88, Try.ntmps88
    go_wp2_with fail
    refine (cNaN_any a ha _).mono ?_
    rintro e w' ⟨rfl, rfl⟩
    simp only [hna, decide_false]
    go_wp2_with fail
    refine (cNaN_any b hb _).mono ?_
    rintro e w' ⟨rfl, rfl⟩
    simp only [hnb, decide_false]
    go_wp2
    go_ret
    exact ⟨⟨1, rfl, by rw [ho]; decide, by decide, by decide⟩, rfl⟩

set_option maxHeartbeats 400000 in
theorem or_any (b : Nat) (u v : Int) (w : World) (hu : w.cell? ⟨b, 0, none⟩ = some (.int .i64 u)) (hv : w.cell? ⟨b, 1, none⟩ = some (.int .i64 v)) :
    Calls Try.prog 87 #[.slice (some ⟨b, 0, none⟩) 2 2] w fun e w' => e = .returned (.int .i64 (if u = 0 then v else u)) ∧ w = w' := by
  go_enter Try.func87, Try.ntmps87
  go_wp2
  go_loop [8] (fun i => ∃ k : Nat, i = .int .i64 k ∧ k ≤ 2 ∧ (k = 0 ∨ (k = 1 ∧ u = 0) ∨ (k = 2 ∧ u = 0 ∧ v = 0))) (fun i => 2 - (intOf i).toNat)
  case atStart => exact ⟨0, rfl, by omega, .inl rfl⟩
  case round =>
    obtain ⟨k, rfl, hk, rfl | ⟨rfl, rfl⟩ | ⟨rfl, rfl, rfl⟩⟩ := hrel
    · by_cases hu0 : u = 0
      · subst hu0
        go_wp2
        go_round
        case rel => exact ⟨1, rfl, by omega, by simp⟩
        case measure => simp [intOf]
      · have hu1 : (u == 0) = false := by simp [hu0]
        have hu2 : (u != 0) = true := by simp [hu0]
        go_wp2
        go_ret
        exact ⟨rfl, rfl⟩
    · by_cases hv0 : v = 0
      · subst hv0
        go_wp2
        go_round
        case rel => exact ⟨2, rfl, by omega, by simp⟩
        case measure => simp [intOf]
      · have hv1 : (v == 0) = false := by simp [hv0]
        have hv2 : (v != 0) = true := by simp [hv0]
        go_wp2
        go_ret
        exact ⟨rfl, rfl⟩
    · go_wp2
      go_ret
      exact ⟨rfl, rfl⟩

/-- num's order says that two are the same just where their bits are, but for NaNs. -/
theorem same_iff {a b : Nat} (ha : a < 18446744073709551616) (hb : b < 18446744073709551616) (hna : ¬ isN a) (hnb : ¬ isN b) : (FloatKind.f64.format.order a b = some .eq ∧ sideZ a = sideZ b) ↔ sameT a b = true := by
  have h := order_eq a b ha hb
  have e : (FloatKind.f64.format.order a b = some .eq) ↔ _ := h
  rw [e]
  unfold sameT plainB
  rw [if_neg hna, if_neg hnb, beq_iff_eq]
  unfold sideZ
  constructor
  · rintro ⟨⟨_, _, h1 | ⟨h1, h2⟩⟩, h3⟩
    · exact h1
    · by_cases ea : a = 9223372036854775808 <;> by_cases eb : b = 9223372036854775808
      · omega
      · rw [if_pos ea, if_neg eb] at h3; omega
      · rw [if_neg ea, if_pos eb] at h3; omega
      · omega
  · rintro rfl
    exact ⟨⟨hna, hna, .inl rfl⟩, rfl⟩

set_option maxHeartbeats 1000000 in
theorem compare_any (a b : Nat) (ha : a < 18446744073709551616) (hb : b < 18446744073709551616) (w : World) :
    Calls Try.prog 80 #[.float .f64 a, .float .f64 b] w fun e w' => (∃ c : Int, e = .returned (.int .i64 c) ∧ (c = 0 ↔ sameT a b = true)) ∧ Kp (fun _ => False) w w' := by
  by_cases hn : isN a ∨ isN b
  · have hsum : (0 : Int) < sideN a + sideN b ∧ sideN a + sideN b ≤ 2 ∧ 0 ≤ sideN a ∧ 0 ≤ sideN b := by
      unfold sideN
      rcases hn with h | h
      · rw [if_pos h]; split <;> omega
      · rw [if_pos h]; split <;> omega
    have hres : cmpI (sideN a) (sideN b) = 0 ↔ sameT a b = true := by
      unfold sameT plainB sideN cmpI
      rw [beq_iff_eq]
      by_cases h1 : isN a <;> by_cases h2 : isN b
      · simp [h1, h2]
      · rw [if_pos h1, if_neg h2, if_pos h1, if_neg h2]
        constructor
        · intro h; exact absurd h (by decide)
        · intro h; subst h; exact absurd (by decide) h2
      · rw [if_neg h1, if_pos h2, if_neg h1, if_pos h2]
        constructor
        · intro h; exact absurd h (by decide)
        · intro h; subst h; exact absurd (by decide) h1
      · rcases hn with h | h
        · exact absurd h h1
        · exact absurd h h2
    have HR := Lib.hid hres
    clear hres
    obtain ⟨q1, q2, q3, q4⟩ := hsum
    go_enter Try.func80, Try.ntmps80
    go_wp2_with fail
    refine (sides_any a ha _).mono ?_
    rintro e w' ⟨rfl, rfl⟩
    go_wp2_with fail
    refine (sides_any b hb _).mono ?_
    rintro e w' ⟨rfl, rfl⟩
    go_wp2_with fail
    refine (cmpInt_any _ _ _).mono ?_
    rintro e w' ⟨rfl, rfl⟩
    go_wp2
    go_ret
    exact ⟨⟨_, rfl, HR.out⟩, Kp.refl _ _⟩
  · have hna : ¬ isN a := fun h => hn (.inl h)
    have hnb : ¬ isN b := fun h => hn (.inr h)
    have hza : sideN a = 0 := by unfold sideN; rw [if_neg hna]
    have hzb : sideN b = 0 := by unfold sideN; rw [if_neg hnb]
    have HS := Lib.hid (same_iff ha hb hna hnb)
    go_enter Try.func80, Try.ntmps80
    go_wp2_with fail
    refine (sides_any a ha _).mono ?_
    rintro e w' ⟨rfl, rfl⟩
    rw [hza]
    go_wp2_with fail
    refine (sides_any b hb _).mono ?_
    rintro e w' ⟨rfl, rfl⟩
    rw [hzb]
    go_wp2_with fail
    refine (cmpF_any a b ha hb hna hnb _).mono ?_
    rintro e w' ⟨⟨c, rfl, hc, c1, c2⟩, rfl⟩
    have HC := Lib.hid hc
    clear hc
    go_wp2_with fail
    refine (cmpInt_any _ _ _).mono ?_
    rintro e w' ⟨rfl, rfl⟩
    have HZ : Hid (cmpI (sideZ a) (sideZ b) = 0 ↔ sideZ a = sideZ b) := by
      show _ ↔ _
      unfold cmpI
      by_cases h1 : sideZ a < sideZ b
      · rw [if_pos h1]; constructor <;> intro h <;> omega
      · rw [if_neg h1]
        by_cases h2 : sideZ b < sideZ a
        · rw [if_pos h2]; constructor <;> intro h <;> omega
        · rw [if_neg h2]; constructor <;> intro h <;> omega
    generalize cmpI (sideZ a) (sideZ b) = d at *
    go_wp2_with fail
    refine (or_any w.heap.size c d _ (cell_two (hp_new w (.cells #[.int .i64 c, .int .i64 d] 3))).1 (cell_two (hp_new w (.cells #[.int .i64 c, .int .i64 d] 3))).2.1).mono ?_
    rintro e w' ⟨rfl, rfl⟩
    go_wp2
    all_goals
      go_ret
      refine ⟨⟨_, rfl, ?_⟩, (Kp.refl _ w).alloc _⟩
      rw [← HS.out, ← HC.out, ← HZ.out]
      omega

set_option maxHeartbeats 400000 in
theorem numSame_any (a b : Nat) (ha : a < 18446744073709551616) (hb : b < 18446744073709551616) (w : World) :
    Calls Try.prog 64 #[.float .f64 a, .float .f64 b] w fun e w' => e = .returned (.bool (sameT a b)) ∧ Kp (fun _ => False) w w' := by
  go_enter Try.func64, Try.ntmps64
  go_wp2_with fail
  refine (compare_any a b ha hb _).mono ?_
  rintro e w1 ⟨⟨c, rfl, hc⟩, hk⟩
  have he : (c == 0) = sameT a b := by rw [Bool.eq_iff_iff, beq_iff_eq]; exact hc
  have HK := Lib.hid hk; have HE := Lib.hid he
  clear hc hk he
  go_wp2
  go_ret
  refine ⟨?_, HK.out⟩
  rw [← HE.out]
  by_cases h : c = 0 <;> simp [h]
end Go.Proofs.Ytgpidbdgodgefaa
