/- The contracts of Pick and Time of package pentimentohand, and of what Time calls of package math. Conditions: as the theorems name them. -/
import Derived.Test.YtgpidbdgodgefaaWr2
namespace Go.Proofs.Ytgpidbdgodgefaa
open Go.RowKit

set_option maxHeartbeats 400000 in
theorem pick_any (n m : Int) (w : World) (hm : 0 < m) (hm2 : m ≤ 9223372036854775807) (_hn : -9223372036854775808 ≤ n) (_hn2 : n ≤ 9223372036854775807) :
    Calls Try.prog 15 #[.int .i64 n, .int .i64 m] w fun e w' => e = .returned (.int .i64 (n % m)) ∧ w = w' := by
  go_enter Try.func15, Try.ntmps15
  go_wp2
  · have h : n.tmod m < 0 := by assumption
    have h3 := Int.emod_nonneg n (show m ≠ 0 by omega)
    have h4 := Int.emod_lt_of_pos n hm
    go_ret
    refine ⟨?_, rfl⟩
    have e := tmod_neg_emod n m hm h
    simp only [Array.getD]
    simp [e]
    rw [IntWalk.wrap64_in _ (by omega)]
  · have h : 0 ≤ n.tmod m := by assumption
    go_ret
    refine ⟨?_, rfl⟩
    have e := tmod_nonneg_emod n m hm h
    simp [e]

set_option maxHeartbeats 400000 in
theorem copysign_neg0 (w : World) :
    Calls Try.prog 65 #[.float .f64 0, .float .f64 13830554455654793216] w fun e w' => e = .returned (.float .f64 9223372036854775808) ∧ w = w' := by
  have hrb := run_bits
  have hrf := run_frombits
  go_enter Try.func65, Try.ntmps65
  go_wp2
  go_ret
  exact ⟨by kernel_rfl, rfl⟩

set_option maxHeartbeats 400000 in
theorem inf_pos (w : World) :
    Calls Try.prog 60 #[.int .i64 1] w fun e w' => e = .returned (.float .f64 9218868437227405312) ∧ w = w' := by
  have hrf := run_frombits
  go_enter Try.func60, Try.ntmps60
  go_wp2
  go_ret
  exact ⟨by kernel_rfl, rfl⟩

set_option maxHeartbeats 400000 in
theorem inf_neg (w : World) :
    Calls Try.prog 60 #[.int .i64 (-1)] w fun e w' => e = .returned (.float .f64 18442240474082181120) ∧ w = w' := by
  have hrf := run_frombits
  go_enter Try.func60, Try.ntmps60
  go_wp2
  go_ret
  exact ⟨by kernel_rfl, rfl⟩

set_option maxHeartbeats 400000 in
theorem nan_any (w : World) :
    Calls Try.prog 68 #[] w fun e w' => e = .returned (.float .f64 9221120237041090561) ∧ w = w' := by
  have hrf := run_frombits
  go_enter Try.func68, Try.ntmps68
  go_wp2
  go_ret
  exact ⟨by kernel_rfl, rfl⟩

/-- The edges of Time, by their bits. -/
def edges : List Nat := [0, 9223372036854775808, 4607182418800017408, 13830554455654793216, 9218868437227405312, 18442240474082181120, 9221120237041090561, 4612811918334230528, 1, 9223372036854775809, 9218868437227405311, 18444492273895866373]
/-- Time, by the bits. -/
def timeB (n : Int) (x : Nat) : Nat := if n % 15 < 12 then edges.getD (n % 15).toNat 0 else x
theorem timeB_lt (n : Int) (x : Nat) (hx : x < 18446744073709551616) : timeB n x < 18446744073709551616 := by
  unfold timeB
  split
  · have h0 := Int.emod_nonneg n (show (15 : Int) ≠ 0 by decide)
    generalize (n % 15).toNat = k
    by_cases h : k < 12
    · have : ∀ k, k < 12 → edges.getD k 0 < 18446744073709551616 := by decide +kernel
      exact this k h
    · simp [edges, List.getD]
      rw [List.getElem?_eq_none (by simp; omega)]
      decide
  · exact hx

set_option maxHeartbeats 400000 in
theorem Time_any (n : Int) (x : Nat) (w : World) (hn : -9223372036854775808 ≤ n) (hn2 : n ≤ 9223372036854775807) :
    Calls Try.prog 23 #[.int .i64 n, .float .f64 x] w fun e w' => e = .returned (.float .f64 (timeB n x)) ∧ Kp (fun _ => False) w w' := by
  have HT : Hid (∀ k : Nat, n % 15 = (k : Int) → timeB n x = if k < 12 then edges.getD k 0 else x) := fun k hk => by
    unfold timeB
    rw [hk]
    by_cases h : k < 12
    · rw [if_pos (by omega), if_pos h]; simp
    · rw [if_neg (by omega), if_neg h]
  have hrf := run_frombits
  have hsf : ∀ (a : Addr) (b : Nat) (m : Mode) (w : World), (store a (.float .f64 b) m).run Try.prog w = stored Try.prog w a (.float .f64 b) m := fun a b m w => run_store _ w a _ m rfl
  go_enter Try.func23, Try.ntmps23
  go_wp2_with fail
  refine (copysign_neg0 _).mono ?_
  rintro e w' ⟨rfl, rfl⟩
  go_wp2_with fail
  refine (inf_pos _).mono ?_
  rintro e w' ⟨rfl, rfl⟩
  go_wp2_with fail
  refine (inf_neg _).mono ?_
  rintro e w' ⟨rfl, rfl⟩
  go_wp2_with fail
  refine (nan_any _).mono ?_
  rintro e w' ⟨rfl, rfl⟩
  go_wp2_with fail
  refine (pick_any n 15 _ (by decide) (by decide) hn hn2).mono ?_
  rintro e w' ⟨rfl, rfl⟩
  obtain ⟨k, hk⟩ : ∃ k : Nat, n % 15 = (k : Int) := ⟨(n % 15).toNat, by omega⟩
  have hk15 : (k : Int) < 15 := by omega
  have HT' := Lib.hid (HT.out k hk)
  rw [hk]
  clear hk hn hn2 HT
  by_cases hk12 : (k : Int) < 12
  · have hc : k = 0 ∨ k = 1 ∨ k = 2 ∨ k = 3 ∨ k = 4 ∨ k = 5 ∨ k = 6 ∨ k = 7 ∨ k = 8 ∨ k = 9 ∨ k = 10 ∨ k = 11 := by omega
    clear hk12 hk15
    rcases hc with rfl | rfl | rfl | rfl | rfl | rfl | rfl | rfl | rfl | rfl | rfl | rfl
    all_goals
      go_wp2
      go_ret
      rw [HT'.out]
      exact ⟨rfl, (Kp.refl _ w).alloc _⟩
  · go_wp2
    go_ret
    rw [HT'.out, if_neg (by omega)]
    exact ⟨rfl, (Kp.refl _ w).alloc _⟩
end Go.Proofs.Ytgpidbdgodgefaa
