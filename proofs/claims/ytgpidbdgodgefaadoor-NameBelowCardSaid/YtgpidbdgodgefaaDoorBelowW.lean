/- The walk of NameBelow: it answers true and turns nothing that was there. Conditions: as the theorems name them. -/
import Derived.Test.YtgpidbdgodgefaaDoorKnown9
import Derived.Test.YtgpidbdgodgefaaDoorBelowLaw
namespace Go.Proofs.YtgpidbdgodgefaaDoor
open Go.RowKit

set_option maxHeartbeats 2000000 in
set_option maxRecDepth 100000 in
theorem nameBelow_any (a b c s m : Int) (w : World) (ha : -9223372036854775808 ≤ a ∧ a ≤ 9223372036854775807) (hb : -9223372036854775808 ≤ b ∧ b ≤ 9223372036854775807) (hc : -9223372036854775808 ≤ c ∧ c ≤ 9223372036854775807) (hs : -9223372036854775808 ≤ s ∧ s ≤ 9223372036854775807)
    (hm : w.cell? ⟨0, 0, none⟩ = some (.int .i64 m)) :
    Calls Tryd.prog 3 #[.int .i64 a, .int .i64 b, .int .i64 c, .int .i64 s] w fun e w' => e = .returned (.bool true) ∧ Kp (fun _ => False) w w' := by
  obtain ⟨p, hp⟩ : ∃ p, pathB a = p := ⟨_, rfl⟩
  obtain ⟨y, hy⟩ : ∃ y, pathB b = y := ⟨_, rfl⟩
  obtain ⟨x, hx⟩ : ∃ x, pathB c = x := ⟨_, rfl⟩
  obtain ⟨z, hz⟩ : ∃ z, nmB (c % 6).toNat = z := ⟨_, rfl⟩
  obtain ⟨n, hn⟩ : ∃ n, nmB (s % 6).toNat = n := ⟨_, rfl⟩
  have PA := Path_any a w ha.1 ha.2
  have PB := Path_any b w hb.1 hb.2
  have PC := Path_any c w hc.1 hc.2
  have NC : ∀ w, _ := fun w => Name_any c w hc.1 hc.2
  have NS := Name_any s w hs.1 hs.2
  rw [hp] at PA
  rw [hy] at PB
  rw [hx] at PC
  rw [hz] at NC
  rw [hn] at NS
  have p0 := hp ▸ pathB_ne a
  have x0 := hx ▸ pathB_ne c
  have pl := hp ▸ pathB_len a
  have yl := hy ▸ pathB_len b
  have xl := hx ▸ pathB_len c
  have zl := hz ▸ nmB_len (c % 6).toNat
  have nl := hn ▸ nmB_len (s % 6).toNat
  have zs := hz ▸ nmB_slash (c % 6).toNat
  have ns := hn ▸ nmB_slash (s % 6).toNat
  clear hp hy hx hz hn
  have q0 := joinB_ne p0 y
  have ql : (joinB p y).length ≤ 30 := by rw [joinB_app p0]; simp; omega
  have h1 := belowB_join p0 y
  have h2 := belowB_join q0 z
  have h3 := belowB_trans p0 q0 h1 h2
  have h4 := belowB_not q0 (Nat.le_of_lt (belowB_len p0 h1))
  have h5 := belowB_not p0 (Nat.le_refl p.length)
  have h6 := belowB_root p0
  have h7 := belowB_more p0 x0 ns
  have h8 : belowB p x = true → belowB x p = false := fun h => belowB_not x0 (Nat.le_of_lt (belowB_len p0 h))
  have d1 := dirB_join q0 zs
  have d2 := baseB_join q0 zs
  have rl : (joinB (joinB p y) z).length ≤ 40 := by rw [joinB_app q0]; simp; omega
  have xnl : (joinB x n).length ≤ 40 := by rw [joinB_app x0]; simp; omega
  have JQ := join_any p y w (by omega)
  have JR := join_any (joinB p y) z w (by omega)
  have JX : ∀ w : World, _ := fun w => join_any x n w (by omega)
  have B1 : ∀ w : World, _ := fun w => below_any p (joinB p y) w (by omega)
  have B2 : ∀ w : World, _ := fun w => below_any (joinB p y) (joinB (joinB p y) z) w (by omega)
  have B3 : ∀ w : World, _ := fun w => below_any p (joinB (joinB p y) z) w (by omega)
  have B4 : ∀ w : World, _ := fun w => below_any (joinB p y) p w (by omega)
  have B5 : ∀ w : World, _ := fun w => below_any p p w (by omega)
  have B6 : ∀ w : World, _ := fun w => below_any [] p w (by simp)
  have B7 : ∀ w : World, _ := fun w => below_any p x w (by omega)
  have B8 : ∀ w : World, _ := fun w => below_any x p w (by omega)
  have B9 : ∀ w : World, _ := fun w => below_any p (joinB x n) w (by omega)
  have DD : ∀ w : World, _ := fun w => dir_any (joinB (joinB p y) z) w (by omega)
  have BB : ∀ w : World, _ := fun w => base_any (joinB (joinB p y) z) w (by omega)
  rw [h1] at B1
  rw [h2] at B2
  rw [h3] at B3
  rw [h4] at B4
  rw [h5] at B5
  rw [h6] at B6
  rw [h7] at B9
  rw [d1] at DD
  rw [d2] at BB
  replace PA := Lib.hid PA; replace PB := Lib.hid PB; replace PC := Lib.hid PC; replace NC := Lib.hid NC; replace NS := Lib.hid NS
  replace JQ := Lib.hid JQ; replace JR := Lib.hid JR; replace JX := Lib.hid JX
  replace B1 := Lib.hid B1; replace B2 := Lib.hid B2; replace B3 := Lib.hid B3; replace B4 := Lib.hid B4; replace B5 := Lib.hid B5; replace B6 := Lib.hid B6; replace B7 := Lib.hid B7; replace B8 := Lib.hid B8; replace B9 := Lib.hid B9
  replace DD := Lib.hid DD; replace BB := Lib.hid BB; have H8 := Lib.hid h8
  clear h1 h2 h3 h4 h5 h6 h7 h8 d1 d2 p0 x0 pl yl xl zl nl zs ns q0 ql rl xnl
  generalize joinB p y = q at *
  generalize joinB q z = r at *
  generalize joinB x n = t at *
  go_enter Tryd.func3, Tryd.ntmps3
  go_wp2_with fail
  refine (PA.out).mono ?_
  rintro e w' ⟨rfl, rfl⟩
  go_wp2_with fail
  refine (PB.out).mono ?_
  rintro e w' ⟨rfl, rfl⟩
  go_wp2_with fail
  refine (JQ.out).mono ?_
  rintro e w' ⟨rfl, rfl⟩
  go_wp2_with fail
  refine (NC.out w).mono ?_
  rintro e w' ⟨rfl, rfl⟩
  go_wp2_with fail
  refine (JR.out).mono ?_
  rintro e w' ⟨rfl, rfl⟩
  go_wp2_with fail
  refine (PC.out).mono ?_
  rintro e w' ⟨rfl, rfl⟩
  go_wp2_with fail
  refine (NS.out).mono ?_
  rintro e w' ⟨rfl, rfl⟩
  go_wp2_with fail
  refine (known9_any m w hm).mono ?_
  rintro e w2 ⟨rfl, hk2⟩
  have HK := Lib.hid hk2
  clear hk2
  go_wp2_with fail
  refine (B1.out w2).mono ?_
  rintro e w' ⟨rfl, rfl⟩
  go_wp2_with fail
  refine (B2.out w2).mono ?_
  rintro e w' ⟨rfl, rfl⟩
  go_wp2_with fail
  refine (B3.out w2).mono ?_
  rintro e w' ⟨rfl, rfl⟩
  go_wp2_with fail
  refine (B4.out w2).mono ?_
  rintro e w' ⟨rfl, rfl⟩
  go_wp2_with fail
  refine (B5.out w2).mono ?_
  rintro e w' ⟨rfl, rfl⟩
  go_wp2_with fail
  refine (B6.out w2).mono ?_
  rintro e w' ⟨rfl, rfl⟩
  go_wp2_with fail
  refine (B7.out w2).mono ?_
  rintro e w' ⟨rfl, rfl⟩
  have H9 := B9.out w2
  have H8' := H8.out
  have HB7 := B7.out w2
  clear B9 H8 B7
  cases hb : belowB p x with
  | true =>
    rw [hb] at H9 H8' HB7
    have HB8 := B8.out w2
    rw [H8' rfl] at HB8
    rw [Bool.true_or] at H9
    clear B8 H8' hb
    replace H9 := Lib.hid H9; replace HB8 := Lib.hid HB8; replace HB7 := Lib.hid HB7
    go_wp2_with fail
    refine (HB8.out).mono ?_
    rintro e w' ⟨rfl, rfl⟩
    go_wp2_with fail
    refine (JX.out w2).mono ?_
    rintro e w' ⟨rfl, rfl⟩
    go_wp2_with fail
    refine (H9.out).mono ?_
    rintro e w' ⟨rfl, rfl⟩
    go_wp2_with fail
    refine (HB7.out).mono ?_
    rintro e w' ⟨rfl, rfl⟩
    go_wp2_with fail
    refine (DD.out w2).mono ?_
    rintro e w' ⟨rfl, rfl⟩
    go_wp2_with fail
    refine (BB.out w2).mono ?_
    rintro e w' ⟨rfl, rfl⟩
    go_wp2_with fail
    refine (NC.out w2).mono ?_
    rintro e w' ⟨rfl, rfl⟩
    go_wp2
    go_ret
    exact ⟨rfl, HK.out⟩
  | false =>
    rw [hb] at H9 HB7
    rw [Bool.false_or] at H9
    clear B8 H8' hb
    replace H9 := Lib.hid H9; replace HB7 := Lib.hid HB7
    go_wp2_with fail
    refine (JX.out w2).mono ?_
    rintro e w' ⟨rfl, rfl⟩
    go_wp2_with fail
    refine (H9.out).mono ?_
    rintro e w' ⟨rfl, rfl⟩
    go_wp2_with fail
    refine (HB7.out).mono ?_
    rintro e w' ⟨rfl, rfl⟩
    go_wp2_with fail
    refine (DD.out w2).mono ?_
    rintro e w' ⟨rfl, rfl⟩
    go_wp2_with fail
    refine (BB.out w2).mono ?_
    rintro e w' ⟨rfl, rfl⟩
    go_wp2_with fail
    refine (NC.out w2).mono ?_
    rintro e w' ⟨rfl, rfl⟩
    go_wp2
    go_ret
    exact ⟨rfl, HK.out⟩
end Go.Proofs.YtgpidbdgodgefaaDoor
