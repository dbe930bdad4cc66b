/- The walk of NamePaths: it answers true and turns nothing that was there. Conditions: as the theorems name them. -/
import Derived.Test.YtgpidbdgodgefaaDoorKnown9
import Derived.Test.YtgpidbdgodgefaaDoorPathsLaw
import Derived.Deep.CutBlock
namespace Go.Proofs.YtgpidbdgodgefaaDoor
open Go.RowKit

set_option maxHeartbeats 4000000 in
set_option maxRecDepth 100000 in
theorem namePaths_any (ta : Option Addr) (tl tc : Nat) (g : Nat → Int) (s : List UInt8) (m : Int) (w : World) (hg : ∀ i, -9223372036854775808 ≤ g i ∧ g i ≤ 9223372036854775807) (hs : s.length ≤ 9223372036854775807)
    (htl : tl ≤ 9223372036854775807) (hat : ∀ i, i < tl → ∃ b off, ta = some ⟨b, off, none⟩ ∧ w.cell? ⟨b, off + i, none⟩ = some (.int .i64 (g i))) (hm : w.cell? ⟨0, 0, none⟩ = some (.int .i64 m)) :
    Calls Tryd.prog 6 #[.slice ta tl tc, .string ⟨s.toArray⟩] w fun e w' => e = .returned (.bool true) ∧ Kp (fun _ => False) w w' := by
  have HM := Lib.hid hm; have HAT := Lib.hid hat; have HG := Lib.hid hg
  clear hm hat hg
  go_enter Tryd.func6, Tryd.ntmps6
  go_upto_block 0 with fail
  go_cut [5, 6] from 11 to 27 (fun s5 _ wx => s5 = .string ⟨(jn g (min tl 8)).toArray⟩ ∧ wx = w)
  case first =>
    go_wp2_with fail
    go_loop [5, 6] (fun v i => ∃ (k : Nat) (p : List UInt8), i = .int .i64 k ∧ v = .string ⟨p.toArray⟩ ∧ k ≤ min tl 8 ∧ p.length ≤ 4 * k ∧ Hid (p = jn g k)) (fun _ i => 8 - (intOf i).toNat)
    case atStart => exact ⟨0, [], rfl, rfl, Nat.zero_le _, Nat.le_refl _, rfl⟩
    case round =>
      obtain ⟨k, p, rfl, rfl, hk, hpl, HP⟩ := hrel
      by_cases h1 : k < tl
      · by_cases h2 : k < 8
        · obtain ⟨tb, off, rfl, htc⟩ := HAT.out k h1
          have hpl2 : (jn g (k + 1)).length ≤ 4 * (k + 1) := jn_len g (k + 1)
          have HP2 : Hid (joinB p (nm g k) = jn g (k + 1)) := by show _ = _; rw [HP.out]; rfl
          have NN : Calls Tryd.prog 18 #[.int .i64 (g k)] w fun e w' => e = .returned (.string ⟨(nm g k).toArray⟩) ∧ w = w' := Name_any (g k) w (HG.out k).1 (HG.out k).2
          have hnl := nm_len g k
          have JJ := join_any p (nm g k) w (by omega)
          replace NN := Lib.hid NN; replace JJ := Lib.hid JJ
          clear HP
          go_wp2_with fail
          refine NN.out.mono ?_
          rintro e w' ⟨rfl, rfl⟩
          go_wp2_with fail
          refine JJ.out.mono ?_
          rintro e w' ⟨rfl, rfl⟩
          go_wp2
          exact ⟨⟨k + 1, joinB p (nm g k), by go_num, rfl, by omega, by rw [HP2.out]; exact hpl2, HP2⟩, by simp [intOf]; omega⟩
        · go_wp2
          go_meet
          have : k = min tl 8 := by omega
          subst this
          exact ⟨by rw [HP.out], rfl⟩
      · go_wp2
        go_meet
        have : k = min tl 8 := by omega
        subst this
        exact ⟨by rw [HP.out], rfl⟩
  obtain ⟨rfl, rfl⟩ := hcut
  have hmn : min (tl : Int) 8 = ((min tl 8 : Nat) : Int) := by omega
  have hK8 : min tl 8 ≤ 8 := Nat.min_le_right _ _
  generalize min tl 8 = K at *
  have hpl := jn_len g K
  have P1 : ∀ w : World, w.cell? ⟨0, 0, none⟩ = some (.int .i64 m) → _ := fun w hm => isPath_any (jn g K) m w (by omega) hm
  rw [jn_path g K hK8] at P1
  have S1 : ∀ w : World, w.cell? ⟨0, 0, none⟩ = some (.int .i64 m) → _ := fun w hm => nsplit_any (jn g K) m w (by omega) hm
  unfold SplitEnd at S1
  rw [jn_err g K hK8, jn_segs, nms_len] at S1
  replace P1 := Lib.hid P1; replace S1 := Lib.hid S1
  obtain ⟨p, hp⟩ : ∃ p, jn g K = p := ⟨_, rfl⟩
  have HP := Lib.hid hp
  rw [hp] at P1 S1 hpl
  rw [hp]
  clear hp
  go_wp2_with fail
  refine (known9_any m wc HM.out).mono ?_
  rintro e w2 ⟨rfl, hk2⟩
  have HK2 := Lib.hid hk2
  have HM2 := Lib.hid (hk2.cell HM.out id)
  clear hk2
  go_wp2_with fail
  refine (P1.out w2 HM2.out).mono ?_
  rintro e w3 ⟨rfl, hk3⟩
  have HK3 := Lib.hid (HK2.out.trans hk3)
  have HM3 := Lib.hid (hk3.cell HM2.out id)
  clear hk3
  go_wp2_with fail
  refine (S1.out w3 HM3.out).mono ?_
  rintro e w4 ⟨hk4, ⟨_, v, rfl, hown⟩ | ⟨h, _⟩⟩
  case inr => exact absurd rfl h
  obtain ⟨xa, xc, rfl⟩ : ∃ a c, v = .slice a K c := by
    obtain ⟨_, ⟨rfl, h0⟩ | ⟨b, cap, cur, rfl, _⟩⟩ := hown
    · exact ⟨none, 0, by rw [h0]⟩
    · exact ⟨_, _, rfl⟩
  have HXC : Hid (∀ k, k < K → ∃ b, xa = some ⟨b, 0, none⟩ ∧ w4.cell? ⟨b, k, none⟩ = some (strV (nm g k))) := fun k hk => by
    obtain ⟨b, c, hv⟩ := owns_some hown (by omega)
    simp only [Value.slice.injEq] at hv
    obtain ⟨rfl, _, _⟩ := hv
    refine ⟨b, rfl, ?_⟩
    rw [World.ownsRow.cellAt hown k (by omega)]
    simp [nms, hk]
  have HK4 := Lib.hid (HK3.out.trans hk4)
  clear hk4 hown P1 S1
  go_wp2_with fail
  go_loop [9, 10] (fun v i => ∃ (k : Nat) (q : List UInt8), i = .int .i64 k ∧ v = .string ⟨q.toArray⟩ ∧ k ≤ K ∧ q.length ≤ 4 * k ∧ Hid (q = jn g k)) (fun _ i => K - (intOf i).toNat)
  case atStart => exact ⟨0, [], rfl, rfl, Nat.zero_le _, Nat.le_refl _, rfl⟩
  case round =>
    obtain ⟨k, q, rfl, rfl, hk, hql, HQ⟩ := hrel
    by_cases hlt : k < K
    · obtain ⟨b, rfl, hcell⟩ := HXC.out k hlt
      have hnl := nm_len g k
      have hjl : (jn g (k + 1)).length ≤ 4 * (k + 1) := jn_len g (k + 1)
      have RR : ∀ w : World, _ := fun w => nright_any (nm g k) w (by omega)
      rw [show rightNm (nm g k) = true from nmB_right _] at RR
      have JJ : ∀ w : World, _ := fun w => join_any q (nm g k) w (by omega)
      have hj : joinB q (nm g k) = jn g (k + 1) := by rw [HQ.out]; rfl
      rw [hj] at JJ
      have BB : ∀ w : World, _ := fun w => below_any q (jn g (k + 1)) w (by omega)
      rw [show belowB q (jn g (k + 1)) = true by rw [HQ.out]; exact jn_below g k] at BB
      replace RR := Lib.hid RR; replace JJ := Lib.hid JJ; replace BB := Lib.hid BB
      clear hj HQ
      unfold strV at hcell
      obtain ⟨r, hr⟩ : ∃ r, jn g (k + 1) = r := ⟨_, rfl⟩
      have HR := Lib.hid hr
      rw [hr] at JJ BB hjl
      clear hr
      generalize nm g k = n at *
      go_wp2_with fail
      refine (RR.out w4).mono ?_
      rintro e w' ⟨rfl, rfl⟩
      go_wp2_with fail
      refine (JJ.out w4).mono ?_
      rintro e w' ⟨rfl, rfl⟩
      go_wp2_with fail
      refine (BB.out w4).mono ?_
      rintro e w' ⟨rfl, rfl⟩
      go_wp2_with fail
      refine (JJ.out w4).mono ?_
      rintro e w' ⟨rfl, rfl⟩
      go_wp2
      exact ⟨⟨k + 1, r, by go_num, rfl, by omega, hjl, HR.out.symm⟩, by simp [intOf]; omega⟩
    · have hkK : k = K := by omega
      subst hkK
      have hqp : q = p := by rw [HQ.out, ← HP.out]
      subst hqp
      clear HQ HXC
      cases k with
      | zero =>
        have hq : q = [] := by rw [← HP.out]; rfl
        subst hq
        go_wp2
        go_ret
        exact ⟨rfl, HK4.out⟩
      | succ k =>
        have hq0 : q ≠ [] := by rw [← HP.out]; exact jn_ne g k
        have hqe : q.isEmpty = false := by cases q with
          | nil => exact absurd rfl hq0
          | cons a b => rfl
        have hdl := dirB_len q
        have hbl := baseB_len q
        have DD : ∀ w : World, _ := fun w => dir_any q w (by omega)
        have BS : ∀ w : World, _ := fun w => base_any q w (by omega)
        have JJ : ∀ w : World, _ := fun w => join_any (dirB q) (baseB q) w (by omega)
        rw [show joinB (dirB q) (baseB q) = q by rw [← HP.out]; exact jn_split g k] at JJ
        have BB : ∀ w : World, _ := fun w => below_any q (dirB q) w (by omega)
        rw [below_dir hq0] at BB
        have RS : ∀ w : World, _ := fun w => nright_any s w hs
        have HRS : Hid (rightNm s = true → (47 : UInt8) ∉ s ∧ s.length ≤ 24) := right_slash
        have HQ0 := Lib.hid hq0
        replace DD := Lib.hid DD; replace BS := Lib.hid BS; replace JJ := Lib.hid JJ; replace BB := Lib.hid BB; replace RS := Lib.hid RS
        clear hq0 HP
        generalize dirB q = dq at *
        generalize baseB q = bq at *
        cases hrs : rightNm s with
        | false =>
          rw [hrs] at RS
          clear hrs HRS
          go_wp2_with fail
          refine (DD.out w4).mono ?_
          rintro e w' ⟨rfl, rfl⟩
          go_wp2_with fail
          refine (BS.out w4).mono ?_
          rintro e w' ⟨rfl, rfl⟩
          go_wp2_with fail
          refine (JJ.out w4).mono ?_
          rintro e w' ⟨rfl, rfl⟩
          go_wp2_with fail
          refine (DD.out w4).mono ?_
          rintro e w' ⟨rfl, rfl⟩
          go_wp2_with fail
          refine (BB.out w4).mono ?_
          rintro e w' ⟨rfl, rfl⟩
          go_wp2_with fail
          refine (RS.out w4).mono ?_
          rintro e w' ⟨rfl, rfl⟩
          go_wp2
          go_ret
          exact ⟨rfl, HK4.out⟩
        | true =>
          rw [hrs] at RS
          obtain ⟨hsl, hs24⟩ := HRS.out hrs
          clear hrs HRS
          have JS : ∀ w : World, _ := fun w => join_any q s w (by omega)
          have hjl : (joinB q s).length ≤ 100 := by rw [joinB_app HQ0.out]; simp; omega
          have BJ : ∀ w : World, _ := fun w => base_any (joinB q s) w (by omega)
          rw [baseB_join HQ0.out hsl] at BJ
          have DJ : ∀ w : World, _ := fun w => dir_any (joinB q s) w (by omega)
          rw [dirB_join HQ0.out hsl] at DJ
          replace JS := Lib.hid JS; replace BJ := Lib.hid BJ; replace DJ := Lib.hid DJ
          clear hsl
          generalize joinB q s = js at *
          go_wp2_with fail
          refine (DD.out w4).mono ?_
          rintro e w' ⟨rfl, rfl⟩
          go_wp2_with fail
          refine (BS.out w4).mono ?_
          rintro e w' ⟨rfl, rfl⟩
          go_wp2_with fail
          refine (JJ.out w4).mono ?_
          rintro e w' ⟨rfl, rfl⟩
          go_wp2_with fail
          refine (DD.out w4).mono ?_
          rintro e w' ⟨rfl, rfl⟩
          go_wp2_with fail
          refine (BB.out w4).mono ?_
          rintro e w' ⟨rfl, rfl⟩
          go_wp2_with fail
          refine (RS.out w4).mono ?_
          rintro e w' ⟨rfl, rfl⟩
          go_wp2_with fail
          refine (JS.out w4).mono ?_
          rintro e w' ⟨rfl, rfl⟩
          go_wp2_with fail
          refine (BJ.out w4).mono ?_
          rintro e w' ⟨rfl, rfl⟩
          go_wp2_with fail
          refine (JS.out w4).mono ?_
          rintro e w' ⟨rfl, rfl⟩
          go_wp2_with fail
          refine (DJ.out w4).mono ?_
          rintro e w' ⟨rfl, rfl⟩
          go_wp2
          go_ret
          exact ⟨rfl, HK4.out⟩
end Go.Proofs.YtgpidbdgodgefaaDoor
