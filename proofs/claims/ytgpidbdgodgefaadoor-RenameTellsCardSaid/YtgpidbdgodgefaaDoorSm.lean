/- Contracts that are also proved at this claim's sister seat. Conditions: as the theorems name them. -/
import Derived.Test.YtgpidbdgodgefaaDoorNod
namespace Go.Proofs.YtgpidbdgodgefaaDoor
open Go.RowKit Go.Deep

theorem zero_bool (b : Nat) (h : b < 18446744073709551616) : (FloatKind.f64.format.order b 0 == some .eq) = (b % 9223372036854775808 == 0) := by
  have := order_eq b 0 h (by decide)
  show (Ieee.double.order b 0 == some Ordering.eq) = (b % 9223372036854775808 == 0)
  by_cases hz : b % 9223372036854775808 = 0
  · have h1 : Ieee.double.order b 0 = some .eq := this.2 ⟨by unfold isN; omega, by decide, .inr ⟨hz, rfl⟩⟩
    rw [h1, hz]; rfl
  · have h1 : Ieee.double.order b 0 ≠ some .eq := fun e => by
      obtain ⟨_, _, e⟩ := this.1 e
      omega
    rw [beq_false_of_ne h1, beq_false_of_ne hz]
/-- What is no NaN stands somehow to what is none. -/
theorem order_some {a b : Nat} (ha : ¬ isN a) (hb : ¬ isN b) : ∃ o, FloatKind.f64.format.order a b = some o := by
  show ∃ o, Ieee.double.order a b = some o
  unfold Ieee.Format.order
  have h1 : ∀ x, ¬ isN x → (∃ s, Ieee.double.read x = .infinity s) ∨ ∃ s m i, Ieee.double.read x = .number s m i := by
    intro x hx
    unfold isN at hx
    by_cases h : x % 9223372036854775808 = 9218868437227405312
    · exact .inl ⟨_, read_inf x h⟩
    · exact .inr ⟨_, _, _, read_num x (by omega)⟩
  rcases h1 a ha with ⟨s, e⟩ | ⟨s, m, i, e⟩ <;> rcases h1 b hb with ⟨s', e'⟩ | ⟨s', m', i', e'⟩ <;> rw [e, e'] <;> exact ⟨_, rfl⟩
/-- num's two sides of a number. -/
def sideN (b : Nat) : Int := if isN b then 1 else 0
def sideZ (b : Nat) : Int := if b = 9223372036854775808 then -1 else 0
theorem isNaN_any (b : Nat) (hb : b < 18446744073709551616) (w : World) :
    Calls Tryd.prog 127 #[.float .f64 b] w fun e w' => e = .returned (.bool (decide (isN b))) ∧ w = w' := by
  have he := nan_bool b hb
  clear hb
  go_enter Tryd.func127, Tryd.ntmps127
  go_wp2
  go_ret
  exact ⟨by simp only [Array.getD]; simp [], rfl⟩
set_option maxHeartbeats 400000 in
theorem cNaN_any (b : Nat) (hb : b < 18446744073709551616) (w : World) :
    Calls Tryd.prog 139 #[.float .f64 b] w fun e w' => e = .returned (.bool (decide (isN b))) ∧ w = w' := by
  have he := nan_bool b hb
  clear hb
  go_enter Tryd.func139, Tryd.ntmps139
  go_wp2
  go_ret
  exact ⟨by simp only [Array.getD]; simp [], rfl⟩
set_option maxHeartbeats 400000 in
theorem numPlain_any (b : Nat) (hb : b < 18446744073709551616) (w : World) :
    Calls Tryd.prog 118 #[.float .f64 b] w fun e w' => e = .returned (.float .f64 (plainB b)) ∧ w = w' := by
  have hrf := run_frombits
  by_cases hn : isN b
  all_goals
    go_enter Tryd.func118, Tryd.ntmps118
    go_wp2_with fail
    refine (isNaN_any b hb _).mono ?_
    rintro e w' ⟨rfl, rfl⟩
    simp only [hn, decide_true, decide_false]
    go_wp2
    go_ret
    simp [plainB, hn]
/-- The same time. -/
def sameT (a b : Nat) : Bool := plainB a == plainB b
set_option maxHeartbeats 400000 in
theorem refSame_any (a b : Nat) (ha : a < 18446744073709551616) (hb : b < 18446744073709551616) (w : World) :
    Calls Tryd.prog 95 #[.float .f64 a, .float .f64 b] w fun e w' => e = .returned (.bool (sameT a b)) ∧ w = w' := by
  have he : (((plainB a : Nat) : Int) == ((plainB b : Nat) : Int)) = sameT a b := by
    unfold sameT
    rw [Bool.eq_iff_iff]
    simp
    omega
  go_enter Tryd.func95, Tryd.ntmps95
  go_wp2_with fail
  refine (refBits_any a ha _).mono ?_
  rintro e w' ⟨rfl, rfl⟩
  go_wp2_with fail
  refine (refBits_any b hb _).mono ?_
  rintro e w' ⟨rfl, rfl⟩
  go_wp2
  go_ret
  exact ⟨by simp only [Array.getD]; simp [], rfl⟩
/-- Of two ints. -/
def cmpI (x y : Int) : Int := if x < y then -1 else if y < x then 1 else 0
set_option maxHeartbeats 400000 in
theorem cmpInt_any (x y : Int) (w : World) :
    Calls Tryd.prog 134 #[.int .i64 x, .int .i64 y] w fun e w' => e = .returned (.int .i64 (cmpI x y)) ∧ w = w' := by
  go_enter Tryd.func134, Tryd.ntmps134
  go_wp2
  all_goals
    go_ret
    refine ⟨?_, rfl⟩
    unfold cmpI
    first
      | (rw [if_pos (by assumption)]; rfl)
      | (rw [if_neg (by omega), if_pos (by assumption)]; rfl)
      | (rw [if_neg (by omega), if_neg (by omega)]; rfl)
set_option maxHeartbeats 400000 in
theorem signbit_any (b : Nat) (hb : b < 18446744073709551616) (w : World) :
    Calls Tryd.prog 137 #[.float .f64 b] w fun e w' => e = .returned (.bool (decide (9223372036854775808 ≤ b))) ∧ w = w' := by
  have hrb := run_bits
  have hw : IntKind.i64.wrap (b : Int) = if b < 9223372036854775808 then (b : Int) else (b : Int) - 18446744073709551616 := by
    rw [IntKind.wrap_i64]
    split <;> omega
  by_cases h : b < 9223372036854775808
  · rw [if_pos h] at hw
    have h0 : ¬ ((b : Int) < 0) := by omega
    go_enter Tryd.func137, Tryd.ntmps137
    go_wp2
    go_ret
    exact ⟨by simp only [Array.getD]; simp; omega, rfl⟩
  · rw [if_neg h] at hw
    have h0 : (b : Int) - 18446744073709551616 < 0 := by omega
    go_enter Tryd.func137, Tryd.ntmps137
    go_wp2
    go_ret
    exact ⟨by simp only [Array.getD]; simp; omega, rfl⟩
set_option maxHeartbeats 400000 in
theorem sides_any (b : Nat) (hb : b < 18446744073709551616) (w : World) :
    Calls Tryd.prog 133 #[.float .f64 b] w fun e w' => e = .returned (.tuple #[.int .i64 (sideN b), .int .i64 (sideZ b)]) ∧ w = w' := by
  have hz := zero_bool b hb
  by_cases hn : isN b
  · have hs : sideN b = 1 ∧ sideZ b = 0 := by
      unfold sideN sideZ
      rw [if_pos hn]
      unfold isN at hn
      exact ⟨rfl, if_neg (by omega)⟩
    clear hz
    go_enter Tryd.func133, Tryd.ntmps133
    go_wp2_with fail
    refine (isNaN_any b hb _).mono ?_
    rintro e w' ⟨rfl, rfl⟩
    simp only [hn, decide_true]
    go_wp2
    go_ret2
    rw [hs.1, hs.2]
    exact ⟨rfl, rfl⟩
  · have hs0 : sideN b = 0 := by unfold sideN; rw [if_neg hn]
    by_cases h0 : b % 9223372036854775808 = 0
    · have hq : (FloatKind.f64.format.order b 0 == some .eq) = true := by rw [hz]; simp [h0]
      have hq2 : FloatKind.f64.format.order b 0 = some .eq := by simpa using hq
      have hc : b = 0 ∨ b = 9223372036854775808 := by omega
      clear hz h0
      rcases hc with rfl | rfl
      all_goals
        go_enter Tryd.func133, Tryd.ntmps133
        go_wp2_with fail
        refine (isNaN_any _ hb _).mono ?_
        rintro e w' ⟨rfl, rfl⟩
        simp only [hn, decide_false]
        go_wp2_with fail
        refine (signbit_any _ hb _).mono ?_
        rintro e w' ⟨rfl, rfl⟩
        simp only [Nat.reduceLeDiff, decide_true, decide_false]
        go_wp2
        go_ret2
        rw [hs0]
        exact ⟨rfl, rfl⟩
    · have hq : (FloatKind.f64.format.order b 0 == some .eq) = false := by rw [hz]; simp [h0]
      have hq2 : ¬ FloatKind.f64.format.order b 0 = some .eq := by simpa using hq
      have hs1 : sideZ b = 0 := by unfold sideZ; rw [if_neg (by omega)]
      clear hz
      go_enter Tryd.func133, Tryd.ntmps133
      go_wp2_with fail
      refine (isNaN_any b hb _).mono ?_
      rintro e w' ⟨rfl, rfl⟩
      simp only [hn, decide_false]
      go_wp2
      go_ret2
      rw [hs0, hs1]
      exact ⟨rfl, rfl⟩
set_option maxHeartbeats 400000 in
theorem cmpF_any (a b : Nat) (ha : a < 18446744073709551616) (hb : b < 18446744073709551616) (hna : ¬ isN a) (hnb : ¬ isN b) (w : World) :
    Calls Tryd.prog 136 #[.float .f64 a, .float .f64 b] w fun e w' => (∃ c : Int, e = .returned (.int .i64 c) ∧ (c = 0 ↔ FloatKind.f64.format.order a b = some .eq) ∧ -1 ≤ c ∧ c ≤ 1) ∧ w = w' := by
  obtain ⟨o, ho⟩ := order_some hna hnb
  cases o with
  | lt =>
    go_enter Tryd.func136, Tryd.ntmps136
    go_wp2_with fail
    refine (cNaN_any a ha _).mono ?_
    rintro e w' ⟨rfl, rfl⟩
    simp only [hna, decide_false]
    go_wp2_with fail
    refine (cNaN_any b hb _).mono ?_
    rintro e w' ⟨rfl, rfl⟩
    simp only [hnb, decide_false]
    go_wp2
    go_ret
    exact ⟨⟨-1, rfl, by rw [ho]; decide, by decide, by decide⟩, rfl⟩
  | eq =>
    go_enter Tryd.func136, Tryd.ntmps136
    go_wp2_with fail
    refine (cNaN_any a ha _).mono ?_
    rintro e w' ⟨rfl, rfl⟩
    simp only [hna, decide_false]
    go_wp2_with fail
    refine (cNaN_any b hb _).mono ?_
    rintro e w' ⟨rfl, rfl⟩
    simp only [hnb, decide_false]
    go_wp2
    go_ret
    exact ⟨⟨0, rfl, by rw [ho]; decide, by decide, by decide⟩, rfl⟩
  | gt =>
    go_enter Tryd.func136, Tryd.ntmps136
    go_wp2_with fail
    refine (cNaN_any a ha _).mono ?_
    rintro e w' ⟨rfl, rfl⟩
    simp only [hna, decide_false]
    go_wp2_with fail
    refine (cNaN_any b hb _).mono ?_
    rintro e w' ⟨rfl, rfl⟩
    simp only [hnb, decide_false]
    go_wp2
    go_ret
    exact ⟨⟨1, rfl, by rw [ho]; decide, by decide, by decide⟩, rfl⟩
set_option maxHeartbeats 400000 in
theorem or_any (b : Nat) (u v : Int) (w : World) (hu : w.cell? ⟨b, 0, none⟩ = some (.int .i64 u)) (hv : w.cell? ⟨b, 1, none⟩ = some (.int .i64 v)) :
    Calls Tryd.prog 135 #[.slice (some ⟨b, 0, none⟩) 2 2] w fun e w' => e = .returned (.int .i64 (if u = 0 then v else u)) ∧ w = w' := by
  go_enter Tryd.func135, Tryd.ntmps135
  go_wp2
  go_loop [8] (fun i => ∃ k : Nat, i = .int .i64 k ∧ k ≤ 2 ∧ (k = 0 ∨ (k = 1 ∧ u = 0) ∨ (k = 2 ∧ u = 0 ∧ v = 0))) (fun i => 2 - (intOf i).toNat)
  case atStart => exact ⟨0, rfl, by omega, .inl rfl⟩
  case round =>
    obtain ⟨k, rfl, hk, rfl | ⟨rfl, rfl⟩ | ⟨rfl, rfl, rfl⟩⟩ := hrel
    · by_cases hu0 : u = 0
      · subst hu0
        go_wp2
        go_round
        case rel => exact ⟨1, rfl, by omega, by simp⟩
        case measure => simp [intOf]
      · have hu1 : (u == 0) = false := by simp [hu0]
        have hu2 : (u != 0) = true := by simp [hu0]
        go_wp2
        go_ret
        exact ⟨rfl, rfl⟩
    · by_cases hv0 : v = 0
      · subst hv0
        go_wp2
        go_round
        case rel => exact ⟨2, rfl, by omega, by simp⟩
        case measure => simp [intOf]
      · have hv1 : (v == 0) = false := by simp [hv0]
        have hv2 : (v != 0) = true := by simp [hv0]
        go_wp2
        go_ret
        exact ⟨rfl, rfl⟩
    · go_wp2
      go_ret
      exact ⟨rfl, rfl⟩
/-- num's order says that two are the same just where their bits are, but for NaNs. -/
theorem same_iff {a b : Nat} (ha : a < 18446744073709551616) (hb : b < 18446744073709551616) (hna : ¬ isN a) (hnb : ¬ isN b) : (FloatKind.f64.format.order a b = some .eq ∧ sideZ a = sideZ b) ↔ sameT a b = true := by
  have h := order_eq a b ha hb
  have e : (FloatKind.f64.format.order a b = some .eq) ↔ _ := h
  rw [e]
  unfold sameT plainB
  rw [if_neg hna, if_neg hnb, beq_iff_eq]
  unfold sideZ
  constructor
  · rintro ⟨⟨_, _, h1 | ⟨h1, h2⟩⟩, h3⟩
    · exact h1
    · by_cases ea : a = 9223372036854775808 <;> by_cases eb : b = 9223372036854775808
      · omega
      · rw [if_pos ea, if_neg eb] at h3; omega
      · rw [if_neg ea, if_pos eb] at h3; omega
      · omega
  · rintro rfl
    exact ⟨⟨hna, hna, .inl rfl⟩, rfl⟩
set_option maxHeartbeats 1000000 in
theorem compare_any (a b : Nat) (ha : a < 18446744073709551616) (hb : b < 18446744073709551616) (w : World) :
    Calls Tryd.prog 132 #[.float .f64 a, .float .f64 b] w fun e w' => (∃ c : Int, e = .returned (.int .i64 c) ∧ (c = 0 ↔ sameT a b = true)) ∧ Kp (fun _ => False) w w' := by
  by_cases hn : isN a ∨ isN b
  · have hsum : (0 : Int) < sideN a + sideN b ∧ sideN a + sideN b ≤ 2 ∧ 0 ≤ sideN a ∧ 0 ≤ sideN b := by
      unfold sideN
      rcases hn with h | h
      · rw [if_pos h]; split <;> omega
      · rw [if_pos h]; split <;> omega
    have hres : cmpI (sideN a) (sideN b) = 0 ↔ sameT a b = true := by
      unfold sameT plainB sideN cmpI
      rw [beq_iff_eq]
      by_cases h1 : isN a <;> by_cases h2 : isN b
      · simp [h1, h2]
      · rw [if_pos h1, if_neg h2, if_pos h1, if_neg h2]
        constructor
        · intro h; exact absurd h (by decide)
        · intro h; subst h; exact absurd (by decide) h2
      · rw [if_neg h1, if_pos h2, if_neg h1, if_pos h2]
        constructor
        · intro h; exact absurd h (by decide)
        · intro h; subst h; exact absurd (by decide) h1
      · rcases hn with h | h
        · exact absurd h h1
        · exact absurd h h2
    have HR := Lib.hid hres
    clear hres
    obtain ⟨q1, q2, q3, q4⟩ := hsum
    go_enter Tryd.func132, Tryd.ntmps132
    go_wp2_with fail
    refine (sides_any a ha _).mono ?_
    rintro e w' ⟨rfl, rfl⟩
    go_wp2_with fail
    refine (sides_any b hb _).mono ?_
    rintro e w' ⟨rfl, rfl⟩
    go_wp2_with fail
    refine (cmpInt_any _ _ _).mono ?_
    rintro e w' ⟨rfl, rfl⟩
    go_wp2
    go_ret
    exact ⟨⟨_, rfl, HR.out⟩, Kp.refl _ _⟩
  · have hna : ¬ isN a := fun h => hn (.inl h)
    have hnb : ¬ isN b := fun h => hn (.inr h)
    have hza : sideN a = 0 := by unfold sideN; rw [if_neg hna]
    have hzb : sideN b = 0 := by unfold sideN; rw [if_neg hnb]
    have HS := Lib.hid (same_iff ha hb hna hnb)
    go_enter Tryd.func132, Tryd.ntmps132
    go_wp2_with fail
    refine (sides_any a ha _).mono ?_
    rintro e w' ⟨rfl, rfl⟩
    rw [hza]
    go_wp2_with fail
    refine (sides_any b hb _).mono ?_
    rintro e w' ⟨rfl, rfl⟩
    rw [hzb]
    go_wp2_with fail
    refine (cmpF_any a b ha hb hna hnb _).mono ?_
    rintro e w' ⟨⟨c, rfl, hc, c1, c2⟩, rfl⟩
    have HC := Lib.hid hc
    clear hc
    go_wp2_with fail
    refine (cmpInt_any _ _ _).mono ?_
    rintro e w' ⟨rfl, rfl⟩
    have HZ : Hid (cmpI (sideZ a) (sideZ b) = 0 ↔ sideZ a = sideZ b) := by
      show _ ↔ _
      unfold cmpI
      by_cases h1 : sideZ a < sideZ b
      · rw [if_pos h1]; constructor <;> intro h <;> omega
      · rw [if_neg h1]
        by_cases h2 : sideZ b < sideZ a
        · rw [if_pos h2]; constructor <;> intro h <;> omega
        · rw [if_neg h2]; constructor <;> intro h <;> omega
    generalize cmpI (sideZ a) (sideZ b) = d at *
    go_wp2_with fail
    refine (or_any w.heap.size c d _ (cell_two (hp_new w (.cells #[.int .i64 c, .int .i64 d] 3))).1 (cell_two (hp_new w (.cells #[.int .i64 c, .int .i64 d] 3))).2.1).mono ?_
    rintro e w' ⟨rfl, rfl⟩
    go_wp2
    all_goals
      go_ret
      refine ⟨⟨_, rfl, ?_⟩, (Kp.refl _ w).alloc _⟩
      rw [← HS.out, ← HC.out, ← HZ.out]
      omega
set_option maxHeartbeats 400000 in
theorem numSame_any (a b : Nat) (ha : a < 18446744073709551616) (hb : b < 18446744073709551616) (w : World) :
    Calls Tryd.prog 129 #[.float .f64 a, .float .f64 b] w fun e w' => e = .returned (.bool (sameT a b)) ∧ Kp (fun _ => False) w w' := by
  go_enter Tryd.func129, Tryd.ntmps129
  go_wp2_with fail
  refine (compare_any a b ha hb _).mono ?_
  rintro e w1 ⟨⟨c, rfl, hc⟩, hk⟩
  have he : (c == 0) = sameT a b := by rw [Bool.eq_iff_iff, beq_iff_eq]; exact hc
  have HK := Lib.hid hk; have HE := Lib.hid he
  clear hc hk he
  go_wp2
  go_ret
  refine ⟨?_, HK.out⟩
  rw [← HE.out]
  by_cases h : c = 0 <;> simp [h]
/-- Which nodes are the same. -/
def sameN (a b : NodeV) : Bool := a.kind == b.kind && (a.mode == b.mode && (sameT a.time b.time && a.bs == b.bs))
theorem sameT_comm (a b : Nat) : sameT a b = sameT b a := by unfold sameT; rw [Bool.eq_iff_iff, beq_iff_eq, beq_iff_eq]; exact eq_comm
theorem sameT_refl (a : Nat) : sameT a a = true := by unfold sameT; simp
theorem sameN_refl (a : NodeV) : sameN a a = true := by unfold sameN; simp [sameT_refl]
theorem sameN_comm (a b : NodeV) : sameN a b = sameN b a := by
  unfold sameN
  rw [sameT_comm, Bool.beq_comm (a := a.kind), Bool.beq_comm (a := a.mode), Bool.beq_comm (a := a.bs)]
set_option maxHeartbeats 400000 in
theorem equal_any (a b : Option Addr) (c d : Nat) (xs ys : List UInt8) (w : World) (h1 : Sl w (.slice a xs.length c) a c xs) (h2 : Sl w (.slice b ys.length d) b d ys) :
    Calls Tryd.prog 62 #[.slice a xs.length c, .slice b ys.length d] w fun e w' => e = .returned (.bool (xs == ys)) ∧ w = w' := by
  have c1 := run_conv h1
  have c2 := run_conv h2
  clear h1 h2
  go_enter Tryd.func62, Tryd.ntmps62
  go_wp2
  go_ret
  exact ⟨rfl, rfl⟩
set_option maxHeartbeats 1000000 in
theorem nodeSame_any (A B : NodeV) (a b : Option Addr) (c d : Nat) (w : World) (h1 : NAt w A a c) (h2 : NAt w B b d) :
    Calls Tryd.prog 120 #[nodeVal A a c, nodeVal B b d] w fun e w' => e = .returned (.bool (sameN A B)) ∧ Kp (fun _ => False) w w' := by
  obtain ⟨ka, ma, ta, xs⟩ := A
  obtain ⟨kb, mb, tb, ys⟩ := B
  have k0 : Kp (fun _ => False) w ((w.alloc (.cells #[.int .i64 ka, .int .i64 ma, .float .f64 ta, .slice a xs.length c] 42)).alloc (.cells #[.int .i64 kb, .int .i64 mb, .float .f64 tb, .slice b ys.length d] 42)) := ((Kp.refl _ w).alloc _).alloc _
  have HK0 := Lib.hid k0
  have HA := Lib.hid (h1.keepF k0).sl; have HB := Lib.hid (h2.keepF k0).sl
  have hta : ta < 18446744073709551616 := h1.time
  have htb : tb < 18446744073709551616 := h2.time
  have hA2 := Lib.hid (hp_old (hp_new w (.cells #[.int .i64 ka, .int .i64 ma, .float .f64 ta, .slice a xs.length c] 42)) (.cells #[.int .i64 kb, .int .i64 mb, .float .f64 tb, .slice b ys.length d] 42))
  have hB2 := Lib.hid (hp_new' (w.alloc (.cells #[.int .i64 ka, .int .i64 ma, .float .f64 ta, .slice a xs.length c] 42)) (.cells #[.int .i64 kb, .int .i64 mb, .float .f64 tb, .slice b ys.length d] 42) (n := w.heap.size + 1) (by simp))
  have hres : sameN ⟨ka, ma, ta, xs⟩ ⟨kb, mb, tb, ys⟩ = (ka == kb && (ma == mb && (sameT ta tb && xs == ys))) := rfl
  rw [hres]
  clear h1 h2 k0 hres
  unfold nodeVal
  dsimp only
  by_cases hk : ka = kb
  · subst hk
    by_cases hm : ma = mb
    · subst hm
      simp only [BEq.rfl, Bool.true_and]
      go_enter Tryd.func120, Tryd.ntmps120
      go_wp2_with fail
      refine (numSame_any ta tb hta htb _).mono ?_
      rintro e w3 ⟨rfl, hk3⟩
      have HK3 := Lib.hid (HK0.out.trans hk3)
      have HA3 := Lib.hid (HA.out.keep hk3 (fun _ _ => id)); have HB3 := Lib.hid (HB.out.keep hk3 (fun _ _ => id))
      obtain ⟨_, _, _, a3⟩ := cell_four (hk3.hp hA2.out id)
      obtain ⟨_, _, _, b3⟩ := cell_four (hk3.hp hB2.out id)
      clear hk3
      cases hst : sameT ta tb with
      | true =>
        go_wp2_with fail
        refine (equal_any a b c d xs ys w3 HA3.out HB3.out).mono ?_
        rintro e w' ⟨rfl, rfl⟩
        go_wp2
        go_ret
        exact ⟨by simp [hst], HK3.out⟩
      | false =>
        go_wp2
        go_ret
        exact ⟨by simp [hst], HK3.out⟩
    · have hm1 : (ma == mb) = false := by simp [hm]
      simp only [BEq.rfl, Bool.true_and, hm1, Bool.false_and]
      go_enter Tryd.func120, Tryd.ntmps120
      go_wp2
      go_ret
      exact ⟨by simp, HK0.out⟩
  · have hk1 : (ka == kb) = false := by simp [hk]
    simp only [hk1, Bool.false_and]
    go_enter Tryd.func120, Tryd.ntmps120
    go_wp2
    go_ret
    exact ⟨by simp, HK0.out⟩
set_option maxHeartbeats 1000000 in
theorem refSameNode_any (A B : NodeV) (a b : Option Addr) (c d : Nat) (w : World) (h1 : NAt w A a c) (h2 : NAt w B b d) :
    Calls Tryd.prog 74 #[nodeVal A a c, nodeVal B b d] w fun e w' => e = .returned (.bool (sameN A B)) ∧ Kp (fun _ => False) w w' := by
  obtain ⟨ka, ma, ta, xs⟩ := A
  obtain ⟨kb, mb, tb, ys⟩ := B
  have k0 : Kp (fun _ => False) w ((w.alloc (.cells #[.int .i64 ka, .int .i64 ma, .float .f64 ta, .slice a xs.length c] 42)).alloc (.cells #[.int .i64 kb, .int .i64 mb, .float .f64 tb, .slice b ys.length d] 42)) := ((Kp.refl _ w).alloc _).alloc _
  have HK0 := Lib.hid k0
  have HA := Lib.hid (h1.keepF k0).sl; have HB := Lib.hid (h2.keepF k0).sl
  have hta : ta < 18446744073709551616 := h1.time
  have htb : tb < 18446744073709551616 := h2.time
  have hA2 := Lib.hid (hp_old (hp_new w (.cells #[.int .i64 ka, .int .i64 ma, .float .f64 ta, .slice a xs.length c] 42)) (.cells #[.int .i64 kb, .int .i64 mb, .float .f64 tb, .slice b ys.length d] 42))
  have hB2 := Lib.hid (hp_new' (w.alloc (.cells #[.int .i64 ka, .int .i64 ma, .float .f64 ta, .slice a xs.length c] 42)) (.cells #[.int .i64 kb, .int .i64 mb, .float .f64 tb, .slice b ys.length d] 42) (n := w.heap.size + 1) (by simp))
  have hres : sameN ⟨ka, ma, ta, xs⟩ ⟨kb, mb, tb, ys⟩ = (ka == kb && (ma == mb && (sameT ta tb && xs == ys))) := rfl
  rw [hres]
  clear h1 h2 k0 hres
  unfold nodeVal
  dsimp only
  by_cases hk : ka = kb
  · subst hk
    by_cases hm : ma = mb
    · subst hm
      simp only [BEq.rfl, Bool.true_and]
      go_enter Tryd.func74, Tryd.ntmps74
      have hcA := run_conv HA.out
      have hcB := run_conv HB.out
      cases hxy : (xs == ys) with
      | true =>
        go_wp2_with fail
        refine (refSame_any ta tb hta htb _).mono ?_
        rintro e w' ⟨rfl, rfl⟩
        go_wp2
        go_ret
        exact ⟨by simp [], HK0.out⟩
      | false =>
        go_wp2
        go_ret
        exact ⟨by simp [], HK0.out⟩
    · have hm1 : (ma == mb) = false := by simp [hm]
      simp only [BEq.rfl, Bool.true_and, hm1, Bool.false_and]
      go_enter Tryd.func74, Tryd.ntmps74
      go_wp2
      go_ret
      exact ⟨by simp, HK0.out⟩
  · have hk1 : (ka == kb) = false := by simp [hk]
    simp only [hk1, Bool.false_and]
    go_enter Tryd.func74, Tryd.ntmps74
    go_wp2
    go_ret
    exact ⟨by simp, HK0.out⟩
theorem bytesOf_map (bs : List UInt8) : Lib.bytesOf (bs.map fun b => (b.toNat : Int)) = bs := by
  unfold Lib.bytesOf
  rw [List.map_map]
  refine (List.map_congr_left (g := id) fun b _ => ?_).trans (List.map_id bs)
  simp
set_option maxHeartbeats 400000 in
theorem indexZero_any (a : Option Addr) (c : Nat) (bs : List UInt8) (w : World) (h : Sl w (.slice a bs.length c) a c bs) (hpos : 0 < bs.length) :
    Calls Tryd.prog 128 #[.slice a bs.length c, .int .u8 0] w fun e w' => (∃ i : Int, e = .returned (.int .i64 i) ∧ (i < 0 ↔ (0 : UInt8) ∉ bs)) ∧ w = w' := by
  have hib : ∃ i : Int, (callFunc 131 #[.slice a bs.length c, .int .u8 0]).run Tryd.prog w = .ok (.value (.int .i64 i)) w ∧ (i < 0 ↔ (0 : UInt8) ∉ bs) := by
    obtain ⟨b, off, rfl, _⟩ := h.seg 0 hpos
    refine ⟨_, ?_, indexByte_neg bs 0⟩
    rw [run_callFunc_extern Tryd.func131 (by kernel_rfl) (by kernel_rfl) (by kernel_rfl) (e := Extern.BytealgIndexByte.indexByte) (by kernel_rfl)]
    have hc : ∀ i, i < bs.length → w.cell? ⟨b, off + i, none⟩ = some (.int .u8 ((bs.map fun b => (b.toNat : Int)).getD i 0)) := fun i hi => by
      obtain ⟨b', off', e', hc⟩ := h.seg i hi
      cases e'
      rw [hc]
      simp [byteV, List.getD, List.getElem?_eq_getElem hi]
    rw [Lib.run_indexByteSlice w b off bs.length c _ (by simp) hc 0, bytesOf_map]
    rfl
  obtain ⟨i, hib, hi⟩ := hib
  have HI := Lib.hid hi
  clear hi h
  go_enter Tryd.func128, Tryd.ntmps128
  go_wp2
  go_ret
  exact ⟨⟨i, rfl, HI.out⟩, rfl⟩
set_option maxHeartbeats 1000000 in
theorem data_any (n : NodeV) (a : Option Addr) (c : Nat) (w : World) (h : NAt w n a c) :
    Calls Tryd.prog 119 #[nodeVal n a c] w fun e w' => e = .returned (.bool (dataN n)) ∧ Kp (fun _ => False) w w' := by
  obtain ⟨k, m, t, bs⟩ := n
  have hl : bs.length ≤ 140737488355328 := h.len
  have k0 : Kp (fun _ => False) w (w.alloc (.cells #[.int .i64 k, .int .i64 m, .float .f64 t, .slice a bs.length c] 42)) := (Kp.refl _ w).alloc _
  have HK := Lib.hid k0
  have HS := Lib.hid (h.keepF k0).sl
  clear h k0
  unfold nodeVal
  dsimp only
  by_cases h1 : k = 1
  · subst h1
    have HR := Lib.hid (show dataN ⟨1, m, t, bs⟩ = decide (bs.length ≤ 2000) from rfl)
    go_enter Tryd.func119, Tryd.ntmps119
    go_wp2
    go_ret
    rw [HR.out]
    exact ⟨by simp; omega, HK.out⟩
  by_cases h2 : k = 2
  · subst h2
    have HR := Lib.hid (show dataN ⟨2, m, t, bs⟩ = decide (bs.length = 0) from rfl)
    go_enter Tryd.func119, Tryd.ntmps119
    go_wp2
    go_ret
    rw [HR.out]
    refine ⟨?_, HK.out⟩
    have e : ((bs.length : Int) == 0) = decide (bs.length = 0) := by
      rw [Bool.eq_iff_iff]
      simp
    simp only [Array.getD]
    simp [e]
  by_cases h3 : k = 3
  · subst h3
    have HR := Lib.hid (show dataN ⟨3, m, t, bs⟩ = (decide (1 ≤ bs.length) && (decide (bs.length ≤ 120) && decide ((0 : UInt8) ∉ bs))) from rfl)
    by_cases hb : 1 ≤ bs.length
    · by_cases hc : bs.length ≤ 120
      · go_enter Tryd.func119, Tryd.ntmps119
        go_wp2_with fail
        refine (indexZero_any a c bs _ HS.out (by omega)).mono ?_
        rintro e w' ⟨⟨i, rfl, hi⟩, rfl⟩
        have HI := Lib.hid hi
        clear hi
        by_cases hi0 : i < 0
        all_goals
          go_wp2
          go_ret
          rw [HR.out]
          refine ⟨?_, HK.out⟩
          have := HI.out
          simp_all
      · go_enter Tryd.func119, Tryd.ntmps119
        go_wp2
        go_ret
        rw [HR.out]
        exact ⟨by simp [hc], HK.out⟩
    · go_enter Tryd.func119, Tryd.ntmps119
      go_wp2
      go_ret
      rw [HR.out]
      exact ⟨by simp [hb], HK.out⟩
  · have HR : Hid (dataN ⟨k, m, t, bs⟩ = false) := by
      show _ = _
      unfold dataN
      simp [h1, h2, h3]
    have q1 : (k == 1) = false := by simp [h1]
    have q2 : (k == 2) = false := by simp [h2]
    have q3 : (k == 3) = false := by simp [h3]
    go_enter Tryd.func119, Tryd.ntmps119
    go_wp2
    go_ret
    rw [HR.out]
    exact ⟨by simp, HK.out⟩
set_option maxHeartbeats 1000000 in
theorem right_any (n : NodeV) (a : Option Addr) (c : Nat) (w : World) (h : NAt w n a c) :
    Calls Tryd.prog 104 #[nodeVal n a c] w fun e w' => e = .returned (.bool (rightN n)) ∧ Kp (fun _ => False) w w' := by
  have hbits : ∀ (b : Nat) (w : World), (callFunc 109 #[.float .f64 b]).run Tryd.prog w = .ok (.value (.int .u64 b)) w := run_bits
  obtain ⟨k, m, t, bs⟩ := n
  have ht : t < 18446744073709551616 := h.time
  have k0 : Kp (fun _ => False) w (w.alloc (.cells #[.int .i64 k, .int .i64 m, .float .f64 t, .slice a bs.length c] 42)) := (Kp.refl _ w).alloc _
  have HK := Lib.hid k0
  have HN := Lib.hid (h.keepF k0)
  have HC := Lib.hid (hp_new w (.cells #[.int .i64 k, .int .i64 m, .float .f64 t, .slice a bs.length c] 42))
  have he : (((plainB t : Nat) : Int) == ((t : Nat) : Int)) = (plainB t == t) := by
    rw [Bool.eq_iff_iff]
    simp
    omega
  have HR := Lib.hid (show rightN ⟨k, m, t, bs⟩ = (dataN ⟨k, m, t, bs⟩ && (decide (0 ≤ m) && (decide (m ≤ 4095) && (plainB t == t)))) from rfl)
  clear h k0
  unfold nodeVal
  dsimp only
  go_enter Tryd.func104, Tryd.ntmps104
  go_wp2_with fail
  go_quiet ((first | (go_at_call 118; exact Calls.quiet_of_same ((numPlain_any t ht _).mono fun e w' h => ⟨h.1, h.2.symm⟩))))
  have HK2 := Lib.hid (HK.out.drewN nq)
  have HN2 := Lib.hid (HN.out.keepF ((Kp.refl (fun _ => False) _).drewN nq))
  have HC2 : Hid (((w.alloc (.cells #[.int .i64 k, .int .i64 m, .float .f64 t, .slice a bs.length c] 42)).drewN nq).heap[w.heap.size]? = some (.cells #[.int .i64 k, .int .i64 m, .float .f64 t, .slice a bs.length c] 42 (0, 0))) := HC.out
  clear HK HN HC
  generalize (w.alloc (.cells #[.int .i64 k, .int .i64 m, .float .f64 t, .slice a bs.length c] 42)).drewN nq = w2 at *
  obtain ⟨c0, c1, c2, c3⟩ := cell_four HC2.out
  go_wp2_with fail
  refine (data_any ⟨k, m, t, bs⟩ a c w2 HN2.out).mono ?_
  rintro e w3 ⟨rfl, hk3⟩
  have HK3 := Lib.hid (HK2.out.trans hk3)
  obtain ⟨c0, c1, c2, c3⟩ := cell_four (hk3.hp HC2.out id)
  clear hk3
  cases hd : dataN ⟨k, m, t, bs⟩ with
  | true =>
    by_cases h1 : 0 ≤ m
    · by_cases h2 : m ≤ 4095
      · go_wp2
        go_ret
        rw [HR.out]
        exact ⟨by simp [hd, h1, h2], HK3.out⟩
      · go_wp2
        go_ret
        rw [HR.out]
        exact ⟨by simp [hd, h1]; intro h; omega, HK3.out⟩
    · go_wp2
      go_ret
      rw [HR.out]
      exact ⟨by simp [hd]; intro h; omega, HK3.out⟩
  | false =>
    go_wp2
    go_ret
    rw [HR.out]
    exact ⟨by simp [hd], HK3.out⟩
end Go.Proofs.YtgpidbdgodgefaaDoor
