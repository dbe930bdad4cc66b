/- The walk of WalkDots: it answers true and turns nothing that was there. Conditions: as the theorem names them. -/
import Derived.Test.YtgpidbdgodgefaaDoorHTree
import Derived.Test.YtgpidbdgodgefaaDoorWalkL4
import Derived.Deep.CutRange
import Derived.Deep.CutBlock
namespace Go.Proofs.YtgpidbdgodgefaaDoor
open Go.RowKit Go.Deep

def dpre (k : Nat) (last : Bool) (z : List UInt8) : List UInt8 := if k = 1 then [46, 47] else if k = 2 then [47] else if k = 3 ∧ last = false then z ++ [47, 46, 46, 47] else []
theorem dpre_len (k : Nat) (last : Bool) (z : List UInt8) : (dpre k last z).length ≤ z.length + 4 := by
  unfold dpre
  split
  · simp
  split
  · simp
  split
  · simp
  · simp
theorem dotT_in (g : Nat → Nat) (n : Nat) (part : List UInt8) {x : List UInt8} {i : Nat} (h : i < x.length) (hc : x[i] ≠ 47) : dotT g n part (x.drop i) = dotT g n (part ++ [x[i]]) (x.drop (i + 1)) := by
  rw [List.drop_eq_getElem_cons h, dotT, if_neg hc]
theorem dotT_sl (g : Nat → Nat) (n : Nat) (part : List UInt8) {x : List UInt8} {i : Nat} (h : i < x.length) (hc : x[i] = 47) : dotT g n part (x.drop i) = dpre (g n) false part ++ part ++ 47 :: dotT g (n + 1) [] (x.drop (i + 1)) := by
  rw [List.drop_eq_getElem_cons h, dotT, if_pos hc]
  rfl
theorem dotT_end (g : Nat → Nat) (n : Nat) (part : List UInt8) (x : List UInt8) : dotT g n part (x.drop x.length) = dpre (g n) true part ++ part := by
  rw [List.drop_length]
  rfl
/-- What the dots say. -/
def dotG (dl : Nat) (z : Nat → Int) (i : Nat) : Nat := if i < dl then (z i % 4).toNat else 0
theorem dotG_lt (dl : Nat) (z : Nat → Int) (i : Nat) : dotG dl z i < 4 := by
  unfold dotG
  split
  · omega
  · omega

set_option maxHeartbeats 8000000 in
set_option maxRecDepth 100000 in
theorem walkDots_any (a : Option Addr) (c : Nat) (l : List RawV) (at_ : Int) (da : Option Addr) (dl dc : Nat) (z : Nat → Int) (follow : Bool) (m : Int) (w : World) (h : RawsAt w a l) (hl : l.length ≤ 9223372036854775807) (hat : -9223372036854775808 ≤ at_ ∧ at_ ≤ 9223372036854775807) (_hdl : dl ≤ 9223372036854775807)
    (hzb : ∀ i, -9223372036854775808 ≤ z i ∧ z i ≤ 9223372036854775807) (hz : ∀ i, i < dl → ∃ b off, da = some ⟨b, off, none⟩ ∧ w.cell? ⟨b, off + i, none⟩ = some (.int .i64 (z i))) (hm : w.cell? ⟨0, 0, none⟩ = some (.int .i64 m)) :
    Calls Tryd.prog 12 #[.slice a l.length c, .int .i64 at_, .slice da dl dc, .bool follow] w fun e w' => e = .returned (.bool true) ∧ Kp (fun _ => False) w w' := by
  have HM := Lib.hid hm
  have HZB := Lib.hid hzb
  have HZ0 := Lib.hid hz
  have HTr := Lib.hid (htree_any a c l w h hl)
  clear hm h hzb hz
  go_enter Tryd.func12, Tryd.ntmps12
  go_wp2_with fail
  refine HTr.out.mono ?_
  rintro e w1 ⟨v, T, rfl, hh, ho, hk1⟩
  have HH := Lib.hid hh
  have HK1 := Lib.hid hk1
  have HM1 := Lib.hid (hk1.cell HM.out id)
  obtain ⟨ta, tc, rfl, hT⟩ := ho.tree
  have HT1 := Lib.hid hT
  have hlen := hh.len
  clear hh ho hk1 hT HTr HM
  go_wp2_with fail
  refine (known15_any m w1 HM1.out).mono ?_
  rintro e w5 ⟨rfl, hk2⟩
  have HK2 := Lib.hid (HK1.out.trans hk2)
  have HM2 := Lib.hid (hk2.cell HM1.out id)
  have HT2 := Lib.hid (HT1.out.keep hk2)
  clear hk2 HK1 HM1 HT1
  have HZ : Hid (∀ i, i < dl → ∃ b off, da = some ⟨b, off, none⟩ ∧ w5.cell? ⟨b, off + i, none⟩ = some (.int .i64 (z i))) := fun i hi => by
    obtain ⟨b, off, e, hc⟩ := HZ0.out i hi
    exact ⟨b, off, e, HK2.out.cell hc id⟩
  clear HZ0
  by_cases h0 : T.length = 0
  · have hz : ((T.length : Int) == 0) = true := by simp [h0]
    go_wp2
    go_ret
    exact ⟨rfl, HK2.out⟩
  have hz : ((T.length : Int) == 0) = false := beq_eq_false_iff_ne.2 fun e => h0 (by exact_mod_cast e)
  go_wp2_with fail
  refine (pick_any at_ T.length w5 (by omega) (by omega) hat.1 hat.2).mono ?_
  rintro e w' ⟨rfl, rfl⟩
  have hmod := Int.emod_nonneg at_ (show (T.length : Int) ≠ 0 from fun e => h0 (by exact_mod_cast e))
  have hmlt := Int.emod_lt_of_pos at_ (show (0 : Int) < T.length by omega)
  obtain ⟨k, hk⟩ : ∃ k : Nat, at_ % (T.length : Int) = k := ⟨(at_ % (T.length : Int)).toNat, by omega⟩
  rw [hk] at hmod hmlt ⊢
  have hkT : k < T.length := by omega
  clear hk hmod hmlt
  obtain ⟨b, off, ad, cp, rfl, hx⟩ := HT2.out k hkT
  have HXM := Lib.hid (List.getElem_mem hkT)
  obtain ⟨d0, d1, d2, d3, d4, _, _, _⟩ := hx
  have hpl : T[k].path.length ≤ 120 := isPath_len (HH.out.ok.path T[k] HXM.out).2
  have HWD := Lib.hid (fun h => walk_dots HH.out.ok HXM.out (dotG dl z) h follow)
  clear HXM
  generalize T[k] = x at *
  obtain ⟨D, hD⟩ : ∃ D, D = dotT (dotG dl z) 0 [] x.path := ⟨_, rfl⟩
  have HD := Lib.hid hD
  rw [← hD] at HWD
  clear hD d1 d2 d3 d4 hz h0
  go_wp2_with fail
  go_loop [11, 12, 13, 14] (fun vs vp vn vi => ∃ (s part : List UInt8) (n i : Nat), vs = .string ⟨s.toArray⟩ ∧ vp = .string ⟨part.toArray⟩ ∧ vn = .int .i64 n ∧ vi = .int .i64 i ∧ i ≤ x.path.length + 1 ∧ s.length ≤ 300 * i ∧ part.length ≤ i ∧ n ≤ i ∧ Hid (if i ≤ x.path.length then s ++ dotT (dotG dl z) n part (x.path.drop i) = D else s = D)) (fun _ _ _ vi => x.path.length + 1 - (intOf vi).toNat)
  case atStart => exact ⟨[], [], 0, 0, rfl, rfl, rfl, rfl, Nat.zero_le _, Nat.zero_le _, Nat.zero_le _, Nat.le_refl _, by show if _ then _ else _; rw [if_pos (Nat.zero_le _), HD.out]; rfl⟩
  case round =>
    obtain ⟨s, part, n, i, rfl, rfl, rfl, rfl, hi, hs, hp, hn, HS⟩ := hrel
    by_cases hile : i ≤ x.path.length
    · have HS2 := Lib.hid (show s ++ dotT (dotG dl z) n part (x.path.drop i) = D from by have h := HS.out; rw [if_pos hile] at h; exact h)
      clear HS
      by_cases hilt : i < x.path.length
      · by_cases hc : x.path[i] = 47
        · have hstep := HS2.out
          rw [dotT_sl _ _ _ hilt hc, show dpre (dotG dl z n) false part ++ part ++ 47 :: dotT (dotG dl z) (n + 1) [] (x.path.drop (i + 1)) = dpre (dotG dl z n) false part ++ part ++ [47] ++ dotT (dotG dl z) (n + 1) [] (x.path.drop (i + 1)) by simp, ← List.append_assoc, ← List.append_assoc, ← List.append_assoc] at hstep
          have hcb : ((x.path[i].toNat : Int) != 47) = false := by rw [hc]; rfl
          have hb := byte_at x.path i hilt
          clear hc HS2
          generalize x.path[i] = ch at *
          have hg4 := dotG_lt dl z n
          obtain ⟨k, hk⟩ : ∃ k, k = dotG dl z n := ⟨_, rfl⟩
          have HKK := Lib.hid hk
          rw [← hk] at hg4 hstep
          clear hk
          go_upto_if 66 with fail
          go_cut [15] from 66 to 71 (fun vk wx => vk = .int .i64 k ∧ wx = w5)
          case first =>
            by_cases hn : n < dl
            · obtain ⟨zb, zo, rfl, hzc⟩ := HZ.out n hn
              have HKE := Lib.hid (show (k : Int) = z n % 4 from by rw [HKK.out, dotG, if_pos hn]; omega)
              go_wp2_with fail
              refine (pick_any (z n) 4 w5 (by decide) (by decide) (HZB.out n).1 (HZB.out n).2).mono ?_
              rintro e w' ⟨rfl, rfl⟩
              rw [← HKE.out]
              go_wp2
              go_meet
              exact ⟨rfl, rfl⟩
            · have HKE := Lib.hid (show k = 0 from by rw [HKK.out, dotG, if_neg hn])
              go_wp2
              go_meet
              exact ⟨by rw [HKE.out]; rfl, rfl⟩
          obtain ⟨rfl, hwc⟩ := hcut
          replace hwc := hwc.symm
          subst hwc
          clear HKK
          go_upto_block 2 with fail
          go_cut [11] from 72 to 94 (fun vs wx => vs = .string ⟨(s ++ dpre k false part).toArray⟩ ∧ wx = w5)
          case first =>
            by_cases k1 : k = 1
            · have b1 : ((k : Int) == 1) = true := by simp [k1]
              have HE := Lib.hid (show dpre k false part = [46, 47] from by rw [k1]; rfl)
              have hcat := run_cat s [46, 47] (by simp; omega)
              clear k1
              go_wp2_with fail
              go_meet
              rw [HE.out]
              exact ⟨rfl, rfl⟩
            have b1 : ((k : Int) == 1) = false := by simp; omega
            by_cases k2 : k = 2
            · have b2 : ((k : Int) == 2) = true := by simp [k2]
              have HE := Lib.hid (show dpre k false part = [47] from by rw [k2]; rfl)
              have hcat := run_cat s [47] (by simp; omega)
              clear k1 k2
              go_wp2_with fail
              go_meet
              rw [HE.out]
              exact ⟨rfl, rfl⟩
            have b2 : ((k : Int) == 2) = false := by simp; omega
            by_cases k3 : k = 3
            · have b3 : ((k : Int) == 3) = true := by simp [k3]
              have HE := Lib.hid (show dpre k false part = part ++ [47, 46, 46, 47] from by rw [k3]; rfl)
              have hcat := run_cat s part (by omega)
              have hcat2 := run_cat (s ++ part) [47, 46, 46, 47] (by simp; omega)
              clear k1 k2 k3
              go_wp2_with fail
              go_meet
              rw [HE.out]
              exact ⟨by simp, rfl⟩
            have b3 : ((k : Int) == 3) = false := by simp; omega
            have HE := Lib.hid (show dpre k false part = [] from by unfold dpre; rw [if_neg k1, if_neg k2, if_neg fun h => k3 h.1])
            clear k1 k2 k3
            go_wp2_with fail
            go_meet
            rw [HE.out]
            exact ⟨by simp, rfl⟩
          obtain ⟨rfl, hwc⟩ := hcut
          replace hwc := hwc.symm
          subst hwc
          have hdl := dpre_len k false part
          generalize dpre k false part = pre at *
          have hcat := run_cat (s ++ pre) part (by simp; omega)
          have HST := Lib.hid hstep
          clear hstep
          have hcat2 := run_cat (s ++ (pre ++ part)) [47] (by simp; omega)
          go_wp2
          refine ⟨⟨s ++ pre ++ part ++ [47], [], n + 1, i + 1, by simp, rfl, by go_num, by go_num, by omega, by simp only [List.length_append, List.length_singleton]; omega, Nat.zero_le _, by omega, ?_⟩, by simp only [intOf]; omega⟩
          show if _ then _ else _
          rw [if_pos (by omega)]
          exact HST.out
        · have hcb : ((x.path[i].toNat : Int) != 47) = true := bne_iff_ne.2 fun e => hc (UInt8.toNat_inj.1 (by show x.path[i].toNat = 47; omega))
          have hstep := HS2.out
          rw [dotT_in _ _ _ hilt hc] at hstep
          have hcat := run_cat part [x.path[i]] (by simp; omega)
          have HST := Lib.hid hstep
          have hb := byte_at x.path i hilt
          have hone := bytes_one x.path i hilt
          clear hc HS2 hstep
          generalize x.path[i] = ch at *
          go_wp2
          refine ⟨⟨s, part ++ [ch], n, i + 1, rfl, rfl, by go_num, by go_num, by omega, by omega, by simp; omega, by omega, ?_⟩, by simp only [intOf]; omega⟩
          show if _ then _ else _
          rw [if_pos (by omega)]
          exact HST.out
      · obtain rfl : i = x.path.length := by omega
        have hstep := HS2.out
        rw [dotT_end, ← List.append_assoc] at hstep
        clear HS2
        have hg4 := dotG_lt dl z n
        obtain ⟨k, hk⟩ : ∃ k, k = dotG dl z n := ⟨_, rfl⟩
        have HKK := Lib.hid hk
        rw [← hk] at hg4 hstep
        clear hk
        go_upto_if 66 with fail
        go_cut [15] from 66 to 71 (fun vk wx => vk = .int .i64 k ∧ wx = w5)
        case first =>
          by_cases hn : n < dl
          · obtain ⟨zb, zo, rfl, hzc⟩ := HZ.out n hn
            have HKE := Lib.hid (show (k : Int) = z n % 4 from by rw [HKK.out, dotG, if_pos hn]; omega)
            go_wp2_with fail
            refine (pick_any (z n) 4 w5 (by decide) (by decide) (HZB.out n).1 (HZB.out n).2).mono ?_
            rintro e w' ⟨rfl, rfl⟩
            rw [← HKE.out]
            go_wp2
            go_meet
            exact ⟨rfl, rfl⟩
          · have HKE := Lib.hid (show k = 0 from by rw [HKK.out, dotG, if_neg hn])
            go_wp2
            go_meet
            exact ⟨by rw [HKE.out]; rfl, rfl⟩
        obtain ⟨rfl, hwc⟩ := hcut
        replace hwc := hwc.symm
        subst hwc
        clear HKK
        go_upto_block 2 with fail
        go_cut [11] from 72 to 94 (fun vs wx => vs = .string ⟨(s ++ dpre k true part).toArray⟩ ∧ wx = w5)
        case first =>
          by_cases k1 : k = 1
          · have b1 : ((k : Int) == 1) = true := by simp [k1]
            have HE := Lib.hid (show dpre k true part = [46, 47] from by rw [k1]; rfl)
            have hcat := run_cat s [46, 47] (by simp; omega)
            clear k1
            go_wp2_with fail
            go_meet
            rw [HE.out]
            exact ⟨rfl, rfl⟩
          have b1 : ((k : Int) == 1) = false := by simp; omega
          by_cases k2 : k = 2
          · have b2 : ((k : Int) == 2) = true := by simp [k2]
            have HE := Lib.hid (show dpre k true part = [47] from by rw [k2]; rfl)
            have hcat := run_cat s [47] (by simp; omega)
            clear k1 k2
            go_wp2_with fail
            go_meet
            rw [HE.out]
            exact ⟨rfl, rfl⟩
          have b2 : ((k : Int) == 2) = false := by simp; omega
          by_cases k3 : k = 3
          · have b3 : ((k : Int) == 3) = true := by simp [k3]
            have HE := Lib.hid (show dpre k true part = [] from by rw [k3]; rfl)
            have hcat := run_cat s part (by omega)
            have hcat2 := run_cat (s ++ part) [47, 46, 46, 47] (by simp; omega)
            clear k1 k2 k3
            go_wp2_with fail
            go_meet
            rw [HE.out]
            exact ⟨by simp, rfl⟩
          have b3 : ((k : Int) == 3) = false := by simp; omega
          have HE := Lib.hid (show dpre k true part = [] from by unfold dpre; rw [if_neg k1, if_neg k2, if_neg fun h => k3 h.1])
          clear k1 k2 k3
          go_wp2_with fail
          go_meet
          rw [HE.out]
          exact ⟨by simp, rfl⟩
        obtain ⟨rfl, hwc⟩ := hcut
        replace hwc := hwc.symm
        subst hwc
        have hdl := dpre_len k true part
        generalize dpre k true part = pre at *
        have hcat := run_cat (s ++ pre) part (by simp; omega)
        have HST := Lib.hid hstep
        clear hstep
        go_wp2
        refine ⟨⟨s ++ pre ++ part, [], n + 1, x.path.length + 1, by simp, rfl, by go_num, by go_num, by omega, by simp only [List.length_append]; omega, Nat.zero_le _, by omega, ?_⟩, by simp only [intOf]; omega⟩
        show if _ then _ else _
        rw [if_neg (by omega)]
        exact HST.out
    · obtain rfl : i = x.path.length + 1 := by omega
      obtain rfl : s = D := by have h := HS.out; rw [if_neg hile] at h; exact h
      clear HS
      by_cases h120 : s.length ≤ 120
      case neg =>
        have hd : decide ((s.length : Int) > 120) = true := decide_eq_true (by omega)
        go_wp2
        go_ret
        exact ⟨rfl, HK2.out⟩
      have hd : decide ((s.length : Int) > 120) = false := decide_eq_false (by omega)
      obtain ⟨q1, q2⟩ := HWD.out h120
      have HQ1 := Lib.hid q1; have HQ2 := Lib.hid q2
      clear q1 q2 HWD HD
      go_wp2_with fail
      refine (Walk_any (some ⟨b, off, none⟩) tc T s false m w5 HM2.out HT2.out (by omega) (by omega)).mono ?_
      rintro e w6 ⟨rfl, hk6⟩
      have HK6 := Lib.hid (HK2.out.trans hk6)
      have HM6 := Lib.hid (hk6.cell HM2.out id)
      have HT6 := Lib.hid (HT2.out.keep hk6)
      have d6 := hk6.cell d0 id
      rw [HQ1.out]
      clear hk6
      go_wp2_with fail
      refine (Walk_any (some ⟨b, off, none⟩) tc T x.path follow m w6 HM6.out HT6.out (by omega) (by omega)).mono ?_
      rintro e w7 ⟨rfl, hk7⟩
      have HK7 := Lib.hid (HK6.out.trans hk7)
      have HM7 := Lib.hid (hk7.cell HM6.out id)
      have HT7 := Lib.hid (HT6.out.keep hk7)
      clear hk7
      generalize walkT T x.path follow = R at *
      obtain ⟨r1, r2, r3⟩ := R
      dsimp only
      go_wp2_with fail
      refine (Walk_any (some ⟨b, off, none⟩) tc T s follow m w7 HM7.out HT7.out (by omega) (by omega)).mono ?_
      rintro e w8 ⟨rfl, hk8⟩
      have HK8 := Lib.hid (HK7.out.trans hk8)
      rw [HQ2.out]
      clear hk8
      dsimp only
      go_wp2
      go_ret
      exact ⟨by simp, HK8.out⟩
end Go.Proofs.YtgpidbdgodgefaaDoor
