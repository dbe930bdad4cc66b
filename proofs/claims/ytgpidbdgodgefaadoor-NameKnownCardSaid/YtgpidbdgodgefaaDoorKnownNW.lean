/- The walk of NameKnown: it answers true and turns nothing that was there. Condition: the library's variable holds some number. -/
import Derived.Test.YtgpidbdgodgefaaDoorKnown9
import Derived.Test.YtgpidbdgodgefaaDoorIsPath
namespace Go.Proofs.YtgpidbdgodgefaaDoor
open Go.RowKit

/-- Parts of one letter. -/
def pathY : Nat → List UInt8
  | 0 => [121]
  | k + 1 => pathY k ++ [47, 121]
theorem pathY_len : ∀ k, (pathY k).length = 2 * k + 1
  | 0 => rfl
  | k + 1 => by
    unfold pathY
    rw [List.length_append, pathY_len k]
    simp
    omega
def strLen : Value → Nat
  | .string b => b.size
  | _ => 0

set_option maxHeartbeats 4000000 in
set_option maxRecDepth 100000 in
theorem nameKnown_any (m : Int) (w : World) (hm : w.cell? ⟨0, 0, none⟩ = some (.int .i64 m)) :
    Calls Tryd.prog 4 #[] w fun e w' => e = .returned (.bool true) ∧ Kp (fun _ => False) w w' := by
  have HM := Lib.hid hm
  clear hm
  go_enter Tryd.func4, Tryd.ntmps4
  go_wp2_with fail
  go_loop [1] (fun v => ∃ xs : List UInt8, v = .string ⟨xs.toArray⟩ ∧ xs.length ≤ 24 ∧ Hid (xs = List.replicate xs.length 120)) (fun v => 24 - strLen v)
  case atStart => exact ⟨[], rfl, Nat.zero_le _, Lib.hid rfl⟩
  case round =>
    obtain ⟨xs, rfl, hk, HX⟩ := hrel
    by_cases hlt : xs.length < 24
    · have hc := run_cat xs [120] (by simp; omega)
      have hq : decide ((xs.length : Int) < 24) = true := by simp; omega
      have HX2 : Hid (xs ++ [120] = List.replicate (xs ++ [120]).length 120) := by
        show _ = _
        rw [List.length_append, List.length_singleton, List.replicate_succ', ← HX.out]
      go_wp2
      refine ⟨⟨xs ++ [120], rfl, by simp; omega, HX2⟩, ?_⟩
      simp [strLen, ByteArray.size]
      omega
    · have hq : decide ((xs.length : Int) < 24) = false := by simp; omega
      have hx : xs = List.replicate 24 120 := by
        have h1 := HX.out
        have h2 : xs.length = 24 := by omega
        rwa [h2] at h1
      clear HX
      have HXS := Lib.hid hx
      have hx24 : xs.length = 24 := by omega
      clear hx
      go_wp2_with fail
      go_loop [2] (fun v => ∃ (k : Nat) (ys : List UInt8), v = .string ⟨ys.toArray⟩ ∧ k ≤ 60 ∧ ys.length = 2 * k + 1 ∧ Hid (ys = pathY k)) (fun v => 130 - strLen v)
      case atStart => exact ⟨0, [121], rfl, Nat.zero_le _, rfl, Lib.hid rfl⟩
      case round =>
        obtain ⟨k, ys, rfl, hk2, hyl, HY⟩ := hrel
        by_cases hlt2 : k < 60
        · have hc := run_cat ys [47, 121] (by simp; omega)
          have hq2 : decide ((ys.length : Int) < 120) = true := by simp; omega
          have HY2 : Hid (ys ++ [47, 121] = pathY (k + 1)) := by show _ = _; rw [HY.out]; rfl
          go_wp2
          refine ⟨⟨k + 1, ys ++ [47, 121], rfl, by omega, by simp; omega, HY2⟩, ?_⟩
          simp [strLen, ByteArray.size]
          omega
        · have hq2 : decide ((ys.length : Int) < 120) = false := by simp; omega
          have S1 := nsplit_any ys m w (by omega) HM.out
          have e1 : errN ys = 12 := by unfold errN; rw [if_pos (by omega)]
          unfold SplitEnd at S1
          rw [e1] at S1
          have S2 : ∀ w : World, w.cell? ⟨0, 0, none⟩ = some (.int .i64 m) → _ := fun w hm => nsplit_any (xs ++ [122]) m w (by simp; omega) hm
          have e2 : errN (xs ++ [122]) = 12 := by rw [HXS.out]; decide +kernel
          unfold SplitEnd at S2
          rw [e2] at S2
          have S3 : ∀ w : World, w.cell? ⟨0, 0, none⟩ = some (.int .i64 m) → _ := fun w hm => nsplit_any [97, 0] m w (by decide) hm
          have e3 : errN [97, 0] = 1 := by decide +kernel
          unfold SplitEnd at S3
          rw [e3] at S3
          have hc := run_cat xs [122] (by simp; omega)
          have R1 : ∀ w : World, _ := fun w => nright_any xs w (by omega)
          rw [show rightNm xs = true by rw [HXS.out]; decide +kernel] at R1
          have R2 : ∀ w : World, _ := fun w => nright_any (xs ++ [122]) w (by simp; omega)
          rw [show rightNm (xs ++ [122]) = false by rw [HXS.out]; decide +kernel] at R2
          replace S1 := Lib.hid S1; replace S2 := Lib.hid S2; replace S3 := Lib.hid S3; replace R1 := Lib.hid R1; replace R2 := Lib.hid R2
          clear e1 e2 e3 HY HXS
          go_wp2_with fail
          refine S1.out.mono ?_
          rintro e w1 ⟨hk1, ⟨h, _⟩ | ⟨_, rfl⟩⟩
          case inl => exact absurd h (by decide)
          have HK1 := Lib.hid hk1
          have HM1 := Lib.hid (hk1.cell HM.out id)
          clear hk1
          have hzc : xs ++ [122] = xs ++ [122] := rfl
          go_wp2_with fail
          refine (S2.out w1 HM1.out).mono ?_
          rintro e w2 ⟨hk2, ⟨h, _⟩ | ⟨_, rfl⟩⟩
          case inl => exact absurd h (by decide)
          have HK2 := Lib.hid (HK1.out.trans hk2)
          have HM2 := Lib.hid (hk2.cell HM1.out id)
          clear hk2 hzc
          go_wp2_with fail
          refine (S3.out w2 HM2.out).mono ?_
          rintro e w3 ⟨hk3, ⟨h, _⟩ | ⟨_, rfl⟩⟩
          case inl => exact absurd h (by decide)
          have HK3 := Lib.hid (HK2.out.trans hk3)
          have HM3 := Lib.hid (hk3.cell HM2.out id)
          clear hk3
          go_wp2_with fail
          refine (known9_any m w3 HM3.out).mono ?_
          rintro e w4 ⟨rfl, hk4⟩
          have HK4 := Lib.hid (HK3.out.trans hk4)
          have HM4 := Lib.hid (hk4.cell HM3.out id)
          clear hk4
          go_wp2_with fail
          refine (R1.out w4).mono ?_
          rintro e w' ⟨rfl, rfl⟩
          go_wp2_with fail
          refine (R2.out w4).mono ?_
          rintro e w' ⟨rfl, rfl⟩
          go_wp2_with fail
          refine (nright_any [97, 47, 98] w4 (by decide)).mono ?_
          rintro e w' ⟨rfl, rfl⟩
          rw [show rightNm [97, 47, 98] = false by decide +kernel]
          go_wp2_with fail
          refine (nright_any [] w4 (by decide)).mono ?_
          rintro e w' ⟨rfl, rfl⟩
          rw [show rightNm [] = false by decide +kernel]
          go_wp2_with fail
          refine (isPath_any [] m w4 (by decide) HM4.out).mono ?_
          rintro e w5 ⟨rfl, hk5⟩
          rw [show isPathB [] = true by decide +kernel]
          have HK5 := Lib.hid (HK4.out.trans hk5)
          have HM5 := Lib.hid (hk5.cell HM4.out id)
          clear hk5
          go_wp2_with fail
          refine (isPath_any [47, 97] m w5 (by decide) HM5.out).mono ?_
          rintro e w6 ⟨rfl, hk6⟩
          rw [show isPathB [47, 97] = false by decide +kernel]
          have HK6 := Lib.hid (HK5.out.trans hk6)
          have HM6 := Lib.hid (hk6.cell HM5.out id)
          clear hk6
          go_wp2_with fail
          refine (isPath_any [97, 47] m w6 (by decide) HM6.out).mono ?_
          rintro e w7 ⟨rfl, hk7⟩
          rw [show isPathB [97, 47] = false by decide +kernel]
          have HK7 := Lib.hid (HK6.out.trans hk7)
          have HM7 := Lib.hid (hk7.cell HM6.out id)
          clear hk7
          go_wp2_with fail
          refine (isPath_any [97, 47, 46, 47, 98] m w7 (by decide) HM7.out).mono ?_
          rintro e w8 ⟨rfl, hk8⟩
          rw [show isPathB [97, 47, 46, 47, 98] = false by decide +kernel]
          have HK8 := Lib.hid (HK7.out.trans hk8)
          have HM8 := Lib.hid (hk8.cell HM7.out id)
          clear hk8
          go_wp2_with fail
          refine (join_any [] [97] w8 (by decide)).mono ?_
          rintro e w' ⟨rfl, rfl⟩
          rw [show joinB [] [97] = [97] by decide +kernel]
          go_wp2_with fail
          refine (join_any [97, 47, 98] [99] w8 (by decide)).mono ?_
          rintro e w' ⟨rfl, rfl⟩
          rw [show joinB [97, 47, 98] [99] = [97, 47, 98, 47, 99] by decide +kernel]
          go_wp2_with fail
          refine (dir_any [97, 47, 98] w8 (by decide)).mono ?_
          rintro e w' ⟨rfl, rfl⟩
          rw [show dirB [97, 47, 98] = [97] by decide +kernel]
          go_wp2_with fail
          refine (dir_any [97] w8 (by decide)).mono ?_
          rintro e w' ⟨rfl, rfl⟩
          rw [show dirB [97] = [] by decide +kernel]
          go_wp2_with fail
          refine (base_any [97, 47, 98] w8 (by decide)).mono ?_
          rintro e w' ⟨rfl, rfl⟩
          rw [show baseB [97, 47, 98] = [98] by decide +kernel]
          go_wp2_with fail
          refine (base_any [97] w8 (by decide)).mono ?_
          rintro e w' ⟨rfl, rfl⟩
          rw [show baseB [97] = [97] by decide +kernel]
          go_wp2_with fail
          refine (below_any [97] [97, 47, 98] w8 (by decide)).mono ?_
          rintro e w' ⟨rfl, rfl⟩
          rw [show belowB [97] [97, 47, 98] = true by decide +kernel]
          go_wp2_with fail
          refine (below_any [97] [97, 98] w8 (by decide)).mono ?_
          rintro e w' ⟨rfl, rfl⟩
          rw [show belowB [97] [97, 98] = false by decide +kernel]
          go_wp2_with fail
          refine (below_any [97] [97] w8 (by decide)).mono ?_
          rintro e w' ⟨rfl, rfl⟩
          rw [show belowB [97] [97] = false by decide +kernel]
          go_wp2_with fail
          refine (below_any [] [97] w8 (by decide)).mono ?_
          rintro e w' ⟨rfl, rfl⟩
          rw [show belowB [] [97] = true by decide +kernel]
          go_wp2_with fail
          refine (below_any [] [] w8 (by decide)).mono ?_
          rintro e w' ⟨rfl, rfl⟩
          rw [show belowB [] [] = false by decide +kernel]
          go_wp2
          go_ret
          exact ⟨rfl, HK8.out⟩
end Go.Proofs.YtgpidbdgodgefaaDoor
