/- The contract of the law file's function known (chapter 10): it answers true and turns nothing that was there. No condition. -/
import Derived.Test.YtgpidbdgodgefaaRight
import Derived.Test.YtgpidbdgodgefaaHandN
namespace Go.Proofs.Ytgpidbdgodgefaa
open Go.RowKit Go.Deep

theorem nat_empty (w : World) (k m : Int) (t : Nat) (ht : t < 18446744073709551616) : NAt w ⟨k, m, t, []⟩ none 0 := ⟨Sl.nil w, ht, Nat.zero_le _⟩

set_option maxHeartbeats 1000000 in
theorem known10_any (w : World) :
    Calls Try.prog 48 #[] w fun e w' => e = .returned (.bool true) ∧ Kp (fun _ => False) w w' := by
  have hsf : ∀ (a : Addr) (b : Nat) (m : Mode) (w : World), (store a (.float .f64 b) m).run Try.prog w = stored Try.prog w a (.float .f64 b) m := fun a b m w => run_store _ w a _ m rfl
  have e1 : rightN ⟨1, 0, 9221120237041090561, []⟩ = true := by decide +kernel
  have e2 : rightN ⟨1, 0, 9223372036854775808, []⟩ = true := by decide +kernel
  have e3 : sameN ⟨1, 0, 9221120237041090561, []⟩ ⟨1, 0, 9221120237041090561, []⟩ = true := sameN_refl _
  have e4 : sameN ⟨1, 0, 9223372036854775808, []⟩ ⟨1, 0, 0, []⟩ = false := by decide +kernel
  have e5 : plainB 9221120237041090561 = 9221120237041090561 := by decide +kernel
  have HA := Lib.hid (hp_old (hp_new w (.cells #[.int .i64 1, .int .i64 0, .float .f64 9221120237041090561, .slice none 0 0] 57)) (.cells #[.int .i64 1, .int .i64 0, .float .f64 9223372036854775808, .slice none 0 0] 57))
  have HB := Lib.hid (hp_new' (w.alloc (.cells #[.int .i64 1, .int .i64 0, .float .f64 9221120237041090561, .slice none 0 0] 57)) (.cells #[.int .i64 1, .int .i64 0, .float .f64 9223372036854775808, .slice none 0 0] 57) (n := w.heap.size + 1) (by simp))
  have HK := Lib.hid (((Kp.refl (fun _ => False) w).alloc (.cells #[.int .i64 1, .int .i64 0, .float .f64 9221120237041090561, .slice none 0 0] 57)).alloc (.cells #[.int .i64 1, .int .i64 0, .float .f64 9223372036854775808, .slice none 0 0] 57))
  go_enter Try.func48, Try.ntmps48
  go_wp2_with fail
  refine (nan_any _).mono ?_
  rintro e w' ⟨rfl, rfl⟩
  go_wp2_with fail
  refine (plainTime_any _ (by decide) _).mono ?_
  rintro e w' ⟨rfl, rfl⟩
  rw [e5]
  go_wp2_with fail
  refine (copysign_neg0 _).mono ?_
  rintro e w' ⟨rfl, rfl⟩
  go_wp2_with fail
  generalize (w.alloc (.cells #[.int .i64 1, .int .i64 0, .float .f64 9221120237041090561, .slice none 0 0] 57)).alloc (.cells #[.int .i64 1, .int .i64 0, .float .f64 9223372036854775808, .slice none 0 0] 57) = w1 at *
  refine (right_any ⟨1, 0, 9221120237041090561, []⟩ none 0 w1 (nat_empty _ _ _ _ (by decide))).mono ?_
  rintro e w2 ⟨rfl, hk2⟩
  rw [e1]
  have HK2 := Lib.hid (HK.out.trans hk2); have HA2 := Lib.hid (hk2.hp HA.out id); have HB2 := Lib.hid (hk2.hp HB.out id)
  obtain ⟨a0, a1, a2, a3⟩ := cell_four HA2.out
  clear hk2
  go_wp2_with fail
  refine (nodeSame_any ⟨1, 0, 9221120237041090561, []⟩ ⟨1, 0, 9221120237041090561, []⟩ none none 0 0 w2 (nat_empty _ _ _ _ (by decide)) (nat_empty _ _ _ _ (by decide))).mono ?_
  rintro e w3 ⟨rfl, hk3⟩
  rw [e3]
  have HK3 := Lib.hid (HK2.out.trans hk3); have HB3 := Lib.hid (hk3.hp HB2.out id)
  obtain ⟨b0, b1, b2, b3⟩ := cell_four HB3.out
  clear hk3 a0 a1 a2 a3
  go_wp2_with fail
  refine (nodeSame_any ⟨1, 0, 9223372036854775808, []⟩ ⟨1, 0, 0, []⟩ none none 0 0 w3 (nat_empty _ _ _ _ (by decide)) (nat_empty _ _ _ _ (by decide))).mono ?_
  rintro e w4 ⟨rfl, hk4⟩
  rw [e4]
  have HK4 := Lib.hid (HK3.out.trans hk4); have HB4 := Lib.hid (hk4.hp HB3.out id)
  obtain ⟨b0, b1, b2, b3⟩ := cell_four HB4.out
  clear hk4
  go_wp2_with fail
  refine (right_any ⟨1, 0, 9223372036854775808, []⟩ none 0 w4 (nat_empty _ _ _ _ (by decide))).mono ?_
  rintro e w5 ⟨rfl, hk5⟩
  rw [e2]
  have HK5 := Lib.hid (HK4.out.trans hk5)
  clear hk5
  go_wp2
  go_ret
  exact ⟨rfl, HK5.out⟩
end Go.Proofs.Ytgpidbdgodgefaa
