/- The walk of WalkTells: it answers true and turns nothing that was there. Conditions: as the theorem names them. -/
import Derived.Test.YtgpidbdgodgefaaDoorSaidW
import Derived.Test.YtgpidbdgodgefaaDoorRefW
import Derived.Test.YtgpidbdgodgefaaDoorSome
namespace Go.Proofs.YtgpidbdgodgefaaDoor
open Go.RowKit Go.Deep

set_option maxHeartbeats 8000000 in
set_option maxRecDepth 100000 in
theorem walkTells_any (a : Option Addr) (c : Nat) (l : List RawV) (la : Option Addr) (ln lc : Nat) (Z1 : Nat → List Int) (pa : Option Addr) (pn pc : Nat) (Z2 : Nat → List Int) (raw : List UInt8) (follow : Bool) (m : Int) (w : World) (h : RawsAt w a l) (hl : l.length ≤ 9223372036854775807)
    (_hln : ln ≤ 9223372036854775807) (h1 : IntRows w la ln Z1) (_hpn : pn ≤ 9223372036854775807) (h2 : IntRows w pa pn Z2) (hraw : raw.length ≤ 140737488355328) (hm : w.cell? ⟨0, 0, none⟩ = some (.int .i64 m)) :
    Calls Tryd.prog 10 #[.slice a l.length c, .slice la ln lc, .slice pa pn pc, .string ⟨raw.toArray⟩, .bool follow] w fun e w' => e = .returned (.bool true) ∧ Kp (fun _ => False) w w' := by
  have HM := Lib.hid hm
  have H1 := Lib.hid h1
  have H2 := Lib.hid h2
  have HTr := Lib.hid (htree_any a c l w h hl)
  have hsf : ∀ (a : Addr) (b : Nat) (m : Mode) (w : World), (store a (.float .f64 b) m).run Tryd.prog w = stored Tryd.prog w a (.float .f64 b) m := fun a b m w => run_store _ w a _ m rfl
  clear hm h h1 h2
  go_enter Tryd.func10, Tryd.ntmps10
  go_wp2_with fail
  refine HTr.out.mono ?_
  rintro e w1 ⟨v, T0, rfl, hh, ho, hk1⟩
  have HK1 := Lib.hid hk1
  obtain ⟨ta0, tc0, rfl, hT0⟩ := ho.tree
  have HT0 := Lib.hid hT0
  have HOk0 := Lib.hid hh.ok
  clear hh ho hk1 hT0 HTr
  go_upto_block 0 with fail
  go_cut [11, 12, 13, 14, 15] from 26 to 63 (fun s11 _ _ _ _ wx => ∃ (T : List ItemV) (ta : Option Addr) (tc : Nat), s11 = .slice ta T.length tc ∧ Hid (TreeOk T) ∧ Hid (TreeAt wx ta T) ∧ Hid (Kp (fun _ => False) w wx))
  case first =>
    go_wp2_with fail
    go_loopw [11, 12] (fun vt vi wr => ∃ (T : List ItemV) (ta : Option Addr) (tc : Nat) (i : Nat), vt = .slice ta T.length tc ∧ vi = .int .i64 i ∧ i ≤ 5 ∧ i ≤ ln ∧ Hid (TreeOk T) ∧ Hid (TreeAt wr ta T) ∧ Hid (Kp (fun _ => False) w wr)) (fun _ vi _ => 5 - (intOf vi).toNat)
    case atStart => exact ⟨T0, ta0, tc0, 0, rfl, rfl, by decide, Nat.zero_le _, HOk0, HT0, HK1⟩
    case round =>
      clear HOk0 HT0 HK1
      obtain ⟨T, ta, tc, i, rfl, rfl, hi5, hiln, HOk, HT, HK⟩ := hrel
      by_cases q1 : i < ln
      · by_cases q2 : i < 5
        · obtain ⟨rb, ro, rv, rfl, hcell, hints⟩ := (H1.out.keep HK.out) i q1
          have HI := Lib.hid hints
          obtain ⟨ra, rc, rfl, hrl, _, _⟩ := hints
          have hlen := HOk.out.len
          have HTP := Lib.hid (fun x hx => isPath_len (HOk.out.path x hx).2)
          unfold maxLen at hrl
          generalize Z1 i = zz at *
          go_wp2_with fail
          refine (said_any ta tc T (.slice ra zz.length rc) zz [] wr HT.out (by omega) HTP.out HI.out (by simp)).mono ?_
          rintro e w' ⟨s, rfl, hs, rfl⟩
          rw [List.length_nil] at hs
          by_cases he : s = []
          · subst he
            go_wp2
            exact ⟨⟨T, ta, tc, i + 1, rfl, by go_num, by omega, by omega, HOk, HT, HK⟩, by simp only [intOf]; omega⟩
          · have heb : (s == []) = false := by simpa using he
            obtain ⟨cp, w2, hcb, hs2, hk2, hz2⟩ := conv_bytes s (by omega) wr
            have HS2 := Lib.hid hs2
            have HK2 := Lib.hid hk2
            clear hs2 hk2 hz2 he HI
            go_wp2_with fail
            refine (Path_any (wrap64 (wrap64 (zz.length * 7) + i)) wr (by unfold wrap64; omega) (by unfold wrap64; omega)).mono ?_
            rintro e w' ⟨rfl, rfl⟩
            obtain ⟨_, hpl⟩ := pathB_len (wrap64 (wrap64 (zz.length * 7) + i))
            generalize pathB (wrap64 (wrap64 (zz.length * 7) + i)) = pp at *
            have HTk := Lib.hid (HT.out.keep HK2.out)
            have hP := refPut_any ta tc T pp ⟨3, 511, 0, s⟩ (some ⟨wr.heap.size, 0, none⟩) cp w2 HTk.out (by omega) (fun x hx => Nat.le_trans (HTP.out x hx) (by decide)) (by omega) ⟨HS2.out, by show (0 : Nat) < 18446744073709551616; decide, by show s.length ≤ _; omega⟩
            rw [nodeVal] at hP
            replace hP := Lib.hid hP
            have HOk' : Hid (∀ T4 R2, putL T pp ⟨3, 511, 0, s⟩ = (T4, R2) → R2 = 0 → TreeOk T4) := fun T4 R2 h5 hz => by
              have h0 := putL_ok HOk.out (p := pp) (n := ⟨3, 511, 0, s⟩) (by rw [h5]; exact hz)
              rw [h5] at h0
              exact h0
            have HKk := Lib.hid (HK.out.trans HK2.out)
            clear HS2 HK2
            go_wp2_with fail
            refine hP.out.mono ?_
            rintro e w4 hpe
            obtain ⟨v4, T4, R2, rfl, hT4, ho4, hk4⟩ := putEnd_own hpe
            have HOk4 := Lib.hid (HOk'.out T4 R2 hT4)
            obtain ⟨a4, c4, rfl, hT4'⟩ := ho4.tree
            have HT4 := Lib.hid hT4'
            have HTo := Lib.hid (HTk.out.keep hk4)
            have HK4 := Lib.hid (HKk.out.trans hk4)
            clear hP hpe hT4 ho4 hk4 hT4' HKk HTk HOk'
            by_cases hz : R2 = 0
            · have HOk5 := Lib.hid (HOk4.out hz)
              have hzb : (R2 == 0) = true := by simp [hz]
              clear hz HOk4
              go_wp2
              exact ⟨⟨T4, a4, c4, i + 1, rfl, by go_num, by omega, by omega, HOk5, HT4, HK4⟩, by simp only [intOf]; omega⟩
            · have hzb : (R2 == 0) = false := by simpa using hz
              clear hz HOk4
              go_wp2
              exact ⟨⟨T, ta, tc, i + 1, rfl, by go_num, by omega, by omega, HOk, HTo, HK4⟩, by simp only [intOf]; omega⟩
        · go_wp2
          go_meet
          exact ⟨T, ta, tc, rfl, HOk, HT, HK⟩
      · go_wp2
        go_meet
        exact ⟨T, ta, tc, rfl, HOk, HT, HK⟩
  clear HOk0 HT0 HK1
  obtain ⟨T, ta, tc, rfl, HOk, HT, HK⟩ := hcut
  have HMc := Lib.hid (HK.out.cell HM.out id)
  go_wp2_with fail
  refine (known15_any m wc HMc.out).mono ?_
  rintro e w2 ⟨rfl, hk2⟩
  have HK2 := Lib.hid (HK.out.trans hk2)
  have HT2 := Lib.hid (HT.out.keep hk2)
  have hlen := HOk.out.len
  have HTP := Lib.hid (fun x hx => isPath_len (HOk.out.path x hx).2)
  have HD := Lib.hid (fun (x : ItemV) (hx : x ∈ T) (hk : x.kind = 3) => show 0 < x.bs.length from by
    have h3 := HOk.out.node x hx
    unfold rightN at h3
    rw [Bool.and_eq_true] at h3
    have h4 := h3.1
    unfold dataN ItemV.node at h4
    dsimp only at h4
    rw [if_neg (by omega), if_neg (by omega), if_pos hk, Bool.and_eq_true] at h4
    exact of_decide_eq_true h4.1)
  have HSr := Lib.hid HOk.out.srt
  clear hk2 HK HT HMc
  go_wp2_with fail
  go_loopw [16] (fun vi wr => ∃ i : Nat, vi = .int .i64 i ∧ i ≤ 8 ∧ i ≤ pn + 1 ∧ Hid (Kp (fun _ => False) w wr) ∧ Hid (TreeAt wr ta T)) (fun vi _ => 8 - (intOf vi).toNat)
  case atStart => exact ⟨0, rfl, by decide, Nat.zero_le _, HK2, HT2⟩
  case round =>
    clear HK2 HT2
    obtain ⟨i, rfl, hi8, hip, HK, HT⟩ := hrel
    by_cases q1 : i ≤ pn
    · by_cases q2 : i < 8
      · have d0 : decide ((i : Int) ≤ pn) = true := decide_eq_true (by omega)
        have d8 : decide ((i : Int) < 8) = true := decide_eq_true (by omega)
        go_upto_if 80 with fail
        go_cut [17] from 80 to 87 (fun vs wx => ∃ s : List UInt8, vs = .string ⟨s.toArray⟩ ∧ s.length ≤ 8 * (raw.length + 121) ∧ wx = wr)
        case first =>
          by_cases q3 : i < pn
          · obtain ⟨rb, ro, rv, rfl, hcell, hints⟩ := (H2.out.keep HK.out) i q3
            have HI := Lib.hid hints
            obtain ⟨ra, rc, rfl, hrl, _, _⟩ := hints
            unfold maxLen at hrl
            generalize Z2 i = zz at *
            go_wp2_with fail
            refine (said_any ta tc T (.slice ra zz.length rc) zz raw wr HT.out (by omega) HTP.out HI.out (by omega)).mono ?_
            rintro e w' ⟨s, rfl, hs, rfl⟩
            go_wp2
            go_meet
            exact ⟨s, rfl, hs, rfl⟩
          · go_wp2
            go_meet
            exact ⟨raw, rfl, by omega, rfl⟩
        obtain ⟨s, rfl, hs, hwc⟩ := hcut
        replace hwc := hwc.symm
        subst hwc
        have HMr := Lib.hid (HK.out.cell HM.out id)
        go_wp2_with fail
        refine (Walk_any ta tc T s follow m wr HMr.out HT.out (by omega) (by omega)).mono ?_
        rintro e w3 ⟨rfl, hk3⟩
        have HK3 := Lib.hid (HK.out.trans hk3)
        have HT3 := Lib.hid (HT.out.keep hk3)
        have hRW := refWalk_any ta tc T s follow w3 HT3.out (by omega) (by omega) HD.out
        rw [← walk_ref T HSr.out s follow] at hRW
        replace hRW := Lib.hid hRW
        clear hk3 HK HT
        generalize walkT T s follow = R at *
        obtain ⟨r1, r2, r3⟩ := R
        dsimp only at *
        go_wp2_with fail
        refine hRW.out.mono ?_
        rintro e w4 ⟨rfl, hk4⟩
        have HK4 := Lib.hid (HK3.out.trans hk4)
        have HT4 := Lib.hid (HT3.out.keep hk4)
        clear hk4 hRW HK3 HT3
        go_wp2
        exact ⟨⟨i + 1, by go_num, by omega, by omega, HK4, HT4⟩, by simp only [intOf]; omega⟩
      · go_wp2
        go_ret
        exact ⟨rfl, HK.out⟩
    · go_wp2
      go_ret
      exact ⟨rfl, HK.out⟩
end Go.Proofs.YtgpidbdgodgefaaDoor
