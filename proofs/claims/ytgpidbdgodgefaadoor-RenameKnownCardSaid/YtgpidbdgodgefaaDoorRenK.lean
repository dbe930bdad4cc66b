/- The contracts of diff's small functions. Conditions: as the theorems name them. -/
import Derived.Test.YtgpidbdgodgefaaDoorRenM
namespace Go.Proofs.YtgpidbdgodgefaaDoor
open Go.RowKit

set_option maxHeartbeats 1000000 in
theorem zero_any (n : NodeV) (a : Option Addr) (c : Nat) (w : World) :
    Calls Tryd.prog 103 #[nodeVal n a c] w fun e w' => e = .returned (.bool (zeroB n)) ∧ Kp (fun _ => False) w w' := by
  have hbits : ∀ (b : Nat) (w : World), (callFunc 109 #[.float .f64 b]).run Tryd.prog w = .ok (.value (.int .u64 b)) w := run_bits
  obtain ⟨k, m, t, bs⟩ := n
  have k0 : Kp (fun _ => False) w (w.alloc (.cells #[.int .i64 k, .int .i64 m, .float .f64 t, .slice a bs.length c] 42)) := (Kp.refl _ w).alloc _
  have HK := Lib.hid k0
  have HR := Lib.hid (show zeroB ⟨k, m, t, bs⟩ = (k == 0 && (m == 0 && (t == 0 && bs.length == 0))) from rfl)
  have htt : ((t : Int) == 0) = (t == 0) := by rw [Bool.eq_iff_iff]; simp
  have hbb : ((bs.length : Int) == 0) = (bs.length == 0) := by rw [Bool.eq_iff_iff]; simp
  clear k0
  unfold nodeVal
  dsimp only
  go_enter Tryd.func103, Tryd.ntmps103
  cases hk : (k == 0) with
  | false =>
    go_wp2
    go_ret
    rw [HR.out, hk]
    exact ⟨rfl, HK.out⟩
  | true =>
    cases hm : (m == 0) with
    | false =>
      go_wp2
      go_ret
      rw [HR.out, hk, hm]
      exact ⟨rfl, HK.out⟩
    | true =>
      cases ht : (t == 0) with
      | false =>
        rw [ht] at htt
        go_wp2
        go_ret
        rw [HR.out, hk, hm, ht]
        exact ⟨rfl, HK.out⟩
      | true =>
        rw [ht] at htt
        go_wp2
        go_ret
        rw [HR.out, hk, hm, ht]
        exact ⟨by simp, HK.out⟩

set_option maxHeartbeats 2000000 in
theorem kind_any (A B : NodeV) (a b : Option Addr) (c d : Nat) (p q : Bool) (w : World) (h1 : NAt w A a c) (h2 : NAt w B b d) :
    Calls Tryd.prog 105 #[nodeVal A a c, nodeVal B b d, .bool p, .bool q] w fun e w' => e = .returned (.int .i64 (kindD A B p q)) ∧ Kp (fun _ => False) w w' := by
  have HR := Lib.hid (show kindD A B p q = kindD A B p q from rfl)
  have hsm := fun w h1 h2 => nodeSame_any A B a b c d w h1 h2
  obtain ⟨ka, ma, ta, xs⟩ := A
  obtain ⟨kb, mb, tb, ys⟩ := B
  have k0 : Kp (fun _ => False) w ((w.alloc (.cells #[.int .i64 ka, .int .i64 ma, .float .f64 ta, .slice a xs.length c] 42)).alloc (.cells #[.int .i64 kb, .int .i64 mb, .float .f64 tb, .slice b ys.length d] 42)) := ((Kp.refl _ w).alloc _).alloc _
  have HK0 := Lib.hid k0
  have HA := Lib.hid (h1.keepF k0); have HB := Lib.hid (h2.keepF k0)
  have hA2 := Lib.hid (hp_old (hp_new w (.cells #[.int .i64 ka, .int .i64 ma, .float .f64 ta, .slice a xs.length c] 42)) (.cells #[.int .i64 kb, .int .i64 mb, .float .f64 tb, .slice b ys.length d] 42))
  have hB2 := Lib.hid (hp_new' (w.alloc (.cells #[.int .i64 ka, .int .i64 ma, .float .f64 ta, .slice a xs.length c] 42)) (.cells #[.int .i64 kb, .int .i64 mb, .float .f64 tb, .slice b ys.length d] 42) (n := w.heap.size + 1) (by simp))
  have HSM := Lib.hid hsm
  clear h1 h2 k0 hsm HR
  unfold nodeVal at *
  dsimp only at *
  go_enter Tryd.func105, Tryd.ntmps105
  cases p with
  | false =>
    cases q with
    | false =>
      go_wp2
      go_ret
      exact ⟨rfl, HK0.out⟩
    | true =>
      go_wp2
      go_ret
      exact ⟨rfl, HK0.out⟩
  | true =>
    cases q with
    | false =>
      go_wp2
      go_ret
      exact ⟨rfl, HK0.out⟩
    | true =>
      go_wp2_with fail
      refine (HSM.out _ HA.out HB.out).mono ?_
      rintro e w3 ⟨rfl, hk3⟩
      have HK3 := Lib.hid (HK0.out.trans hk3)
      have HA3 := Lib.hid (HA.out.keepF hk3).sl; have HB3 := Lib.hid (HB.out.keepF hk3).sl
      obtain ⟨a0, a1, a2, a3⟩ := cell_four (hk3.hp hA2.out id)
      obtain ⟨b0, b1, b2, b3⟩ := cell_four (hk3.hp hB2.out id)
      clear hk3 HK0 hA2 hB2 HA HB
      cases hs : sameN ⟨ka, ma, ta, xs⟩ ⟨kb, mb, tb, ys⟩ with
      | true =>
        have HE := Lib.hid (show kindD ⟨ka, ma, ta, xs⟩ ⟨kb, mb, tb, ys⟩ true true = 0 from if_pos (.inr ⟨rfl, rfl, hs⟩))
        go_wp2
        go_ret
        rw [HE.out]
        exact ⟨rfl, HK3.out⟩
      | false =>
        have HE := Lib.hid (show kindD ⟨ka, ma, ta, xs⟩ ⟨kb, mb, tb, ys⟩ true true = (if ka ≠ kb then 4 else if xs ≠ ys then 3 else 5) from by
          unfold kindD
          rw [if_neg (by simp [hs])]
          rfl)
        by_cases hk : ka = kb
        · have hkb : (ka != kb) = false := by simp [hk]
          go_wp2_with fail
          refine (equal_any a b c d xs ys w3 HA3.out HB3.out).mono ?_
          rintro e w' ⟨rfl, rfl⟩
          by_cases hx : xs = ys
          · have hxb : (xs == ys) = true := by simp [hx]
            go_wp2
            go_ret
            rw [HE.out, if_neg (fun h => h hk), if_neg (fun h => h hx)]
            exact ⟨rfl, HK3.out⟩
          · have hxb : (xs == ys) = false := by simp [hx]
            go_wp2
            go_ret
            rw [HE.out, if_neg (fun h => h hk), if_pos hx]
            exact ⟨rfl, HK3.out⟩
        · have hkb : (ka != kb) = true := by simp [hk]
          go_wp2
          go_ret
          rw [HE.out, if_pos hk]
          exact ⟨rfl, HK3.out⟩
end Go.Proofs.YtgpidbdgodgefaaDoor
