/- The contracts of num.Plain, num.Same and what they call, and of the document's. Conditions: as the theorems name them. -/
import Derived.Test.YtgpidbdgodgefaaNum
import Derived.Test.YtgpidbdgodgefaaTime
namespace Go.Proofs.Ytgpidbdgodgefaa
open Go.RowKit

set_option maxHeartbeats 400000 in
theorem isNaN_any (b : Nat) (hb : b < 18446744073709551616) (w : World) :
    Calls Try.prog 79 #[.float .f64 b] w fun e w' => e = .returned (.bool (decide (isN b))) ∧ w = w' := by
  have he := nan_bool b hb
  clear hb
  go_enter Try.func79, Try.ntmps79
  go_wp2
  go_ret
  exact ⟨by simp only [Array.getD]; simp [], rfl⟩

set_option maxHeartbeats 400000 in
theorem cNaN_any (b : Nat) (hb : b < 18446744073709551616) (w : World) :
    Calls Try.prog 92 #[.float .f64 b] w fun e w' => e = .returned (.bool (decide (isN b))) ∧ w = w' := by
  have he := nan_bool b hb
  clear hb
  go_enter Try.func92, Try.ntmps92
  go_wp2
  go_ret
  exact ⟨by simp only [Array.getD]; simp [], rfl⟩

set_option maxHeartbeats 400000 in
theorem numPlain_any (b : Nat) (hb : b < 18446744073709551616) (w : World) :
    Calls Try.prog 63 #[.float .f64 b] w fun e w' => e = .returned (.float .f64 (plainB b)) ∧ w = w' := by
  have hrf := run_frombits
  by_cases hn : isN b
  all_goals
    go_enter Try.func63, Try.ntmps63
    go_wp2_with fail
    refine (isNaN_any b hb _).mono ?_
    rintro e w' ⟨rfl, rfl⟩
    simp only [hn, decide_true, decide_false]
    go_wp2
    go_ret
    simp [plainB, hn]

set_option maxHeartbeats 400000 in
theorem refBits_any (b : Nat) (hb : b < 18446744073709551616) (w : World) :
    Calls Try.prog 83 #[.float .f64 b] w fun e w' => e = .returned (.int .u64 (plainB b)) ∧ w = w' := by
  have hrb := run_bits
  have he := nan_bool b hb
  by_cases hn : isN b
  · have hq : (FloatKind.f64.format.order b b != some .eq) = true := by rw [he]; simp [hn]
    have hq2 : ¬ FloatKind.f64.format.order b b = some .eq := by simpa using hq
    clear he
    go_enter Try.func83, Try.ntmps83
    go_wp2
    go_ret
    simp [plainB, hn]
  · have hq : (FloatKind.f64.format.order b b != some .eq) = false := by rw [he]; simp [hn]
    have hq2 : FloatKind.f64.format.order b b = some .eq := by simpa using hq
    clear he
    go_enter Try.func83, Try.ntmps83
    go_wp2
    go_ret
    simp [plainB, hn]

set_option maxHeartbeats 400000 in
theorem refPlain_any (b : Nat) (hb : b < 18446744073709551616) (w : World) :
    Calls Try.prog 81 #[.float .f64 b] w fun e w' => e = .returned (.float .f64 (plainB b)) ∧ w = w' := by
  have hrf := run_frombits
  go_enter Try.func81, Try.ntmps81
  go_wp2_with fail
  refine (refBits_any b hb _).mono ?_
  rintro e w' ⟨rfl, rfl⟩
  go_wp2
  go_ret
  simp

set_option maxHeartbeats 400000 in
theorem plainTime_any (b : Nat) (hb : b < 18446744073709551616) (w : World) :
    Calls Try.prog 71 #[.float .f64 b] w fun e w' => e = .returned (.float .f64 (plainB b)) ∧ w = w' := by
  go_enter Try.func71, Try.ntmps71
  go_wp2_with fail
  refine (refPlain_any b hb _).mono ?_
  rintro e w' ⟨rfl, rfl⟩
  go_wp2
  go_ret
  simp

/-- The same time. -/
def sameT (a b : Nat) : Bool := plainB a == plainB b

set_option maxHeartbeats 400000 in
theorem refSame_any (a b : Nat) (ha : a < 18446744073709551616) (hb : b < 18446744073709551616) (w : World) :
    Calls Try.prog 74 #[.float .f64 a, .float .f64 b] w fun e w' => e = .returned (.bool (sameT a b)) ∧ w = w' := by
  have he : (((plainB a : Nat) : Int) == ((plainB b : Nat) : Int)) = sameT a b := by
    unfold sameT
    rw [Bool.eq_iff_iff]
    simp
    omega
  go_enter Try.func74, Try.ntmps74
  go_wp2_with fail
  refine (refBits_any a ha _).mono ?_
  rintro e w' ⟨rfl, rfl⟩
  go_wp2_with fail
  refine (refBits_any b hb _).mono ?_
  rintro e w' ⟨rfl, rfl⟩
  go_wp2
  go_ret
  exact ⟨by simp only [Array.getD]; simp [], rfl⟩

/-- Of two ints. -/
def cmpI (x y : Int) : Int := if x < y then -1 else if y < x then 1 else 0

set_option maxHeartbeats 400000 in
theorem cmpInt_any (x y : Int) (w : World) :
    Calls Try.prog 86 #[.int .i64 x, .int .i64 y] w fun e w' => e = .returned (.int .i64 (cmpI x y)) ∧ w = w' := by
  go_enter Try.func86, Try.ntmps86
  go_wp2
  all_goals
    go_ret
    refine ⟨?_, rfl⟩
    unfold cmpI
    first
      | (rw [if_pos (by assumption)]; rfl)
      | (rw [if_neg (by omega), if_pos (by assumption)]; rfl)
      | (rw [if_neg (by omega), if_neg (by omega)]; rfl)

set_option maxHeartbeats 400000 in
theorem signbit_any (b : Nat) (hb : b < 18446744073709551616) (w : World) :
    Calls Try.prog 90 #[.float .f64 b] w fun e w' => e = .returned (.bool (decide (9223372036854775808 ≤ b))) ∧ w = w' := by
  have hrb := run_bits
  have hw : IntKind.i64.wrap (b : Int) = if b < 9223372036854775808 then (b : Int) else (b : Int) - 18446744073709551616 := by
    rw [IntKind.wrap_i64]
    split <;> omega
  by_cases h : b < 9223372036854775808
  · rw [if_pos h] at hw
    have h0 : ¬ ((b : Int) < 0) := by omega
    go_enter Try.func90, Try.ntmps90
    go_wp2
    go_ret
    exact ⟨by simp only [Array.getD]; simp; omega, rfl⟩
  · rw [if_neg h] at hw
    have h0 : (b : Int) - 18446744073709551616 < 0 := by omega
    go_enter Try.func90, Try.ntmps90
    go_wp2
    go_ret
    exact ⟨by simp only [Array.getD]; simp; omega, rfl⟩
end Go.Proofs.Ytgpidbdgodgefaa
