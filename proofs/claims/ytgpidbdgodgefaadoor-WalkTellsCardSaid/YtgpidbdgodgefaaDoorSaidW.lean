/- The contract of said of package pentimentolaw15: some path, not too long. Conditions: as the theorem names them. -/
import Derived.Test.YtgpidbdgodgefaaDoorHTree
import Derived.Test.YtgpidbdgodgefaaDoorOpenD
import Derived.Deep.CutRange
import Derived.Deep.CutBlock
namespace Go.Proofs.YtgpidbdgodgefaaDoor
open Go.RowKit Go.Deep

theorem tdiv_bound {q : Int} (h : inI q) : -9223372036854775808 ≤ q.tdiv 20 ∧ q.tdiv 20 ≤ 9223372036854775807 := by
  unfold inI at h
  rcases Int.le_total 0 q with h0 | h0
  · rw [Int.tdiv_eq_ediv_of_nonneg h0]; omega
  · have : q.tdiv 20 = -((-q).tdiv 20) := by rw [Int.neg_tdiv]; simp
    rw [this, Int.tdiv_eq_ediv_of_nonneg (by omega)]
    omega

set_option maxHeartbeats 8000000 in
set_option maxRecDepth 100000 in
theorem said_any (ta : Option Addr) (tc : Nat) (T : List ItemV) (v : Value) (z : List Int) (raw : List UInt8) (w : World) (hT : TreeAt w ta T) (hTl : T.length ≤ 1000) (hTp : ∀ x ∈ T, x.path.length ≤ 120) (hz : IntsAt w v z) (hr : raw.length ≤ 140737488355328) :
    Calls Tryd.prog 44 #[.slice ta T.length tc, v, .string ⟨raw.toArray⟩] w fun e w' => ∃ s : List UInt8, e = .returned (.string ⟨s.toArray⟩) ∧ s.length ≤ 8 * (raw.length + 121) ∧ w = w' := by
  obtain ⟨za, zc, rfl, hzl, hzb, hz⟩ := hz
  have HT := Lib.hid hT
  have HTP := Lib.hid hTp
  have HZB := Lib.hid hzb
  have HZ := Lib.hid hz
  unfold maxLen at hzl
  clear hT hTp hzb hz
  go_enter Tryd.func44, Tryd.ntmps44
  go_wp2_with fail
  go_loop [7, 8] (fun vs vi => ∃ (s : List UInt8) (i : Nat), vs = .string ⟨s.toArray⟩ ∧ vi = .int .i64 i ∧ i ≤ 8 ∧ i ≤ z.length ∧ s.length ≤ i * (raw.length + 121)) (fun _ vi => 8 - (intOf vi).toNat)
  case atStart => exact ⟨[], 0, rfl, rfl, by decide, Nat.zero_le _, by simp⟩
  case round =>
    obtain ⟨s, i, rfl, rfl, hi8, hiz, hs⟩ := hrel
    by_cases h1 : i < z.length
    · by_cases h2 : i < 8
      · obtain ⟨zb, zo, rfl, hzc⟩ := HZ.out i h1
        have hq := HZB.out z[i] (List.getElem_mem h1)
        have htd := tdiv_bound hq
        unfold inI at hq
        have hsl : s.length ≤ 8 * (raw.length + 121) := Nat.le_trans hs (Nat.mul_le_mul_right _ hi8)
        generalize z[i] = q at *
        go_wp2_with fail
        refine (pick_any q 20 w (by decide) (by decide) hq.1 hq.2).mono ?_
        rintro e w' ⟨rfl, rfl⟩
        have hn0 : 0 ≤ q % 20 := Int.emod_nonneg _ (by decide)
        have hn20 : q % 20 < 20 := Int.emod_lt_of_pos _ (by decide)
        generalize q % 20 = n at *
        go_upto_block 2 with fail
        go_cut [7] from 25 to 69 (fun vs wx => ∃ s' : List UInt8, vs = .string ⟨s'.toArray⟩ ∧ s'.length ≤ s.length + (raw.length + 120) ∧ wx = w)
        case first =>
          by_cases a7 : n < 7 ∧ 0 < T.length
          · have d1 : decide (n < 7) = true := decide_eq_true a7.1
            have d2 : decide ((T.length : Int) > 0) = true := decide_eq_true (by omega)
            have hT0 : 0 < T.length := a7.2
            clear a7
            go_wp2_with fail
            refine (pick_any (q.tdiv 20) T.length w (by omega) (by omega) htd.1 htd.2).mono ?_
            rintro e w' ⟨rfl, rfl⟩
            have hmod := Int.emod_nonneg (q.tdiv 20) (show (T.length : Int) ≠ 0 by omega)
            have hmlt := Int.emod_lt_of_pos (q.tdiv 20) (show (0 : Int) < T.length by omega)
            obtain ⟨k, hk⟩ : ∃ k : Nat, q.tdiv 20 % (T.length : Int) = k := ⟨(q.tdiv 20 % (T.length : Int)).toNat, by omega⟩
            rw [hk] at hmod hmlt ⊢
            have hkT : k < T.length := by omega
            clear hk hmod hmlt
            obtain ⟨b, off, ad, cp, rfl, hx⟩ := HT.out k hkT
            have hpl := HTP.out T[k] (List.getElem_mem hkT)
            obtain ⟨d0, _, _, _, _, _, _, _⟩ := hx
            generalize T[k] = x at *
            have hcat := run_cat s x.path (by omega)
            go_wp2_with fail
            go_meet
            exact ⟨s ++ x.path, rfl, by rw [List.length_append]; omega, rfl⟩
          have NN := Name_any q w hq.1 hq.2
          have hnl := nmB_len (q % 6).toNat
          replace NN := Lib.hid NN
          by_cases b7 : n < 7
          · have d1 : decide (n < 7) = true := decide_eq_true b7
            have hT0 : ¬ 0 < T.length := fun h => a7 ⟨b7, h⟩
            have d2 : decide ((T.length : Int) > 0) = false := decide_eq_false (by omega)
            have d3 : decide (n < 9) = true := decide_eq_true (by omega)
            have hcat := run_cat s [46, 46] (by simp; omega)
            clear a7 b7
            go_wp2_with fail
            go_meet
            exact ⟨s ++ [46, 46], rfl, by rw [List.length_append]; simp only [List.length_cons, List.length_nil]; omega, rfl⟩
          have d1 : decide (n < 7) = false := decide_eq_false b7
          clear a7
          by_cases b9 : n < 9
          · have d3 : decide (n < 9) = true := decide_eq_true b9
            have hcat := run_cat s [46, 46] (by simp; omega)
            go_wp2_with fail
            go_meet
            exact ⟨s ++ [46, 46], rfl, by rw [List.length_append]; simp only [List.length_cons, List.length_nil]; omega, rfl⟩
          have d3 : decide (n < 9) = false := decide_eq_false b9
          by_cases b10 : n < 10
          · have d4 : decide (n < 10) = true := decide_eq_true b10
            have hcat := run_cat s [46] (by simp; omega)
            go_wp2_with fail
            go_meet
            exact ⟨s ++ [46], rfl, by rw [List.length_append]; simp only [List.length_cons, List.length_nil]; omega, rfl⟩
          have d4 : decide (n < 10) = false := decide_eq_false b10
          by_cases b11 : n < 11
          · have d5 : decide (n < 11) = true := decide_eq_true b11
            have hcat := run_cat s raw (by omega)
            go_wp2_with fail
            go_meet
            exact ⟨s ++ raw, rfl, by rw [List.length_append]; omega, rfl⟩
          have d5 : decide (n < 11) = false := decide_eq_false b11
          have hcat := run_cat s (nmB (q % 6).toNat) (by omega)
          go_wp2_with fail
          refine NN.out.mono ?_
          rintro e w' ⟨rfl, rfl⟩
          go_wp2
          go_meet
          exact ⟨s ++ nmB (q % 6).toNat, rfl, by rw [List.length_append]; omega, rfl⟩
        obtain ⟨s', rfl, hs', hwc⟩ := hcut
        replace hwc := hwc.symm
        subst hwc
        have hcat := run_cat s' [47] (by simp; omega)
        have hstep : s'.length + 1 ≤ (i + 1) * (raw.length + 121) := by rw [Nat.add_mul]; omega
        clear hn0 hn20 htd
        go_wp2
        all_goals first
          | exact ⟨⟨s', i + 1, rfl, by go_num, by omega, by omega, by omega⟩, by simp only [intOf]; omega⟩
          | exact ⟨⟨s' ++ [47], i + 1, rfl, by go_num, by omega, by omega, by rw [List.length_append]; exact hstep⟩, by simp only [intOf]; omega⟩
      · go_wp2
        go_ret
        exact ⟨s, rfl, Nat.le_trans hs (Nat.mul_le_mul_right _ hi8), rfl⟩
    · go_wp2
      go_ret
      exact ⟨s, rfl, Nat.le_trans hs (Nat.mul_le_mul_right _ hi8), rfl⟩
end Go.Proofs.YtgpidbdgodgefaaDoor
