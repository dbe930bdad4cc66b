/- The walk of WalkHops: it answers true and turns nothing that was there. Conditions: as the theorem names them. -/
import Derived.Test.YtgpidbdgodgefaaDoorHopsL
import Derived.Test.YtgpidbdgodgefaaDoorTreeP
import Derived.Deep.QuietTactic
import Derived.BigQuiet
namespace Go.Proofs.YtgpidbdgodgefaaDoor
open Go.RowKit Go.Deep

theorem sl_one (w : World) (c : UInt8) : Sl (w.alloc (.cells #[.int .u8 c.toNat] 5)) (.slice (some ⟨w.heap.size, 0, none⟩) 1 1) (some ⟨w.heap.size, 0, none⟩) 1 [c] := by
  refine ⟨rfl, Nat.le_refl _, by decide, fun h => (by cases h), fun i hi => ⟨_, 0, rfl, ?_⟩⟩
  have hi0 : i = 0 := by simpa using hi
  subst hi0
  have hh := hp_new w (.cells #[.int .u8 c.toNat] 5)
  simp only [World.cell?, hh]
  rfl
theorem conv_one (w : World) (c : UInt8) : (convert 40 9 (.slice (some ⟨w.heap.size, 0, none⟩) 1 1)).run Tryd.prog (w.alloc (.cells #[.int .u8 c.toNat] 5)) = .ok (.string ⟨[c].toArray⟩) (w.alloc (.cells #[.int .u8 c.toNat] 5)) :=
  run_conv (w := w.alloc (.cells #[.int .u8 c.toNat] 5)) (a := some ⟨w.heap.size, 0, none⟩) (c := 1) (bs := [c]) (sl_one w c)

set_option maxHeartbeats 8000000 in
set_option maxRecDepth 100000 in
theorem walkHops_any (n : Int) (up more : Bool) (m : Int) (w : World) (hn : -9223372036854775808 ≤ n ∧ n ≤ 9223372036854775807) (hm : w.cell? ⟨0, 0, none⟩ = some (.int .i64 m)) :
    Calls Tryd.prog 8 #[.int .i64 n, .bool up, .bool more] w fun e w' => e = .returned (.bool true) ∧ Kp (fun _ => False) w w' := by
  have HM := Lib.hid hm
  clear hm
  go_enter Tryd.func8, Tryd.ntmps8
  go_wp2_with fail
  refine (pick_any n 12 w (by decide) (by decide) hn.1 hn.2).mono ?_
  rintro e w' ⟨rfl, rfl⟩
  obtain ⟨k, hk⟩ : ∃ k : Nat, n % 12 = k := ⟨(n % 12).toNat, by omega⟩
  have hk12 : k < 12 := by omega
  rw [hk]
  clear hk hn
  have HO0 : Hid (OwnT (w.alloc (.cells #[.string ⟨#[97]⟩, .int .i64 2, .int .i64 0, .float .f64 0, .slice none 0 0, .string ⟨#[97, 47, 102]⟩, .int .i64 1, .int .i64 0, .float .f64 0, .slice none 0 0] 44)) w.heap.size (.slice (some ⟨w.heap.size, 0, none⟩) 2 2) [⟨⟨[97], 2, 0, 0, []⟩, none, 0⟩, ⟨⟨[97, 47, 102], 1, 0, 0, []⟩, none, 0⟩]) :=
    ⟨⟨rfl, .inr ⟨w.heap.size, 2, _, rfl, Nat.le_refl _, hp_new _ _, Nat.le_refl _, by decide, rfl, rfl⟩⟩, fun y hy => by
      simp only [List.mem_cons, List.not_mem_nil, or_false] at hy
      rcases hy with rfl | rfl <;> exact ⟨Sl.nil _, by decide, by decide⟩, fun y hy => by
      simp only [List.mem_cons, List.not_mem_nil, or_false] at hy
      rcases hy with rfl | rfl <;> intro _ b hb <;> cases hb⟩
  have HK0 := Lib.hid ((Kp.refl (fun _ => False) w).alloc (.cells #[.string ⟨#[97]⟩, .int .i64 2, .int .i64 0, .float .f64 0, .slice none 0 0, .string ⟨#[97, 47, 102]⟩, .int .i64 1, .int .i64 0, .float .f64 0, .slice none 0 0] 44))
  go_wp2_with fail
  generalize w.alloc (.cells #[.string ⟨#[97]⟩, .int .i64 2, .int .i64 0, .float .f64 0, .slice none 0 0, .string ⟨#[97, 47, 102]⟩, .int .i64 1, .int .i64 0, .float .f64 0, .slice none 0 0] 44) = w0 at *
  go_loopw [7, 8] (fun v i wr => ∃ (q : Nat) (L : List ItemP), i = .int .i64 q ∧ q ≤ k ∧ Hid (L.map (·.x) = hopsL q up) ∧ Hid (OwnT wr w.heap.size v L) ∧ Hid (Kp (fun _ => False) w wr)) (fun _ i _ => k - (intOf i).toNat)
  case atStart => exact ⟨0, _, rfl, Nat.zero_le _, Lib.hid rfl, HO0, HK0⟩
  case round =>
    obtain ⟨q, L, rfl, hqk, HL, HO, HK⟩ := hrel
    clear HO0 HK0
    by_cases hq : q < k
    · obtain ⟨tq, htq⟩ : ∃ tq, tq = (if 0 < q then lnB (q - 1) else [97]) := ⟨_, rfl⟩
      have HTQ := Lib.hid htq
      clear htq
      go_upto_if 28 with fail
      go_cut [9] from 29 to 35 (fun s9 wx => s9 = .string ⟨tq.toArray⟩ ∧ Hid (Kp (fun _ => False) wr wx))
      case first =>
        by_cases h0 : 0 < q
        · have hd : decide ((q : Int) > 0) = true := by simp; omega
          have hct : ((UInt8.ofNat (97 + (q - 1))).toNat : Int) = 97 + (q : Int) - 1 := by
            rw [UInt8.toNat_ofNat']; omega
          have hcv := conv_one wr (UInt8.ofNat (97 + (q - 1)))
          rw [hct] at hcv
          have HE := Lib.hid (show tq = [108, UInt8.ofNat (97 + (q - 1))] from by rw [HTQ.out, if_pos h0]; rfl)
          have hcat := run_cat [108] [UInt8.ofNat (97 + (q - 1))] (by simp)
          generalize UInt8.ofNat (97 + (q - 1)) = ch at *
          go_wp2_with fail
          go_meet
          rw [HE.out]
          exact ⟨rfl, Lib.hid ((Kp.refl _ _).alloc _)⟩
        · have hd : decide ((q : Int) > 0) = false := by simp; omega
          have HE := Lib.hid (show tq = [97] from by rw [HTQ.out, if_neg h0])
          go_wp2_with fail
          go_meet
          rw [HE.out]
          exact ⟨rfl, Lib.hid (Kp.refl _ _)⟩
      obtain ⟨rfl, HKa⟩ := hcut
      obtain ⟨tu, htu⟩ : ∃ tu, tu = toB up q := ⟨_, rfl⟩
      have HTU := Lib.hid htu
      clear htu
      have htl : tq.length ≤ 2 := by rw [HTQ.out]; split <;> simp [lnB]
      have htul : tu.length ≤ 5 := by rw [HTU.out, toB, ← HTQ.out, List.length_append]; split <;> simp <;> omega
      have hcat3 := run_cat [47, 46, 47] tq (by simp; omega)
      go_upto_if 36 with fail
      go_cut [9] from 37 to 38 (fun s9 wx => s9 = .string ⟨tu.toArray⟩ ∧ wx = wc)
      case first =>
        cases up with
        | true =>
          have HE := Lib.hid (show tu = [47, 46, 47] ++ tq from by rw [HTU.out, toB, ← HTQ.out]; rfl)
          go_wp2_with fail
          go_meet
          rw [HE.out]
          exact ⟨rfl, rfl⟩
        | false =>
          have HE := Lib.hid (show tu = tq from by rw [HTU.out, toB, ← HTQ.out]; rfl)
          go_wp2_with fail
          go_meet
          rw [HE.out]
          exact ⟨rfl, rfl⟩
      obtain ⟨rfl, rfl⟩ := hcut
      have hct : ((UInt8.ofNat (97 + q)).toNat : Int) = 97 + (q : Int) := by rw [UInt8.toNat_ofNat']; omega
      have hcv := conv_one wc (UInt8.ofNat (97 + q))
      rw [hct] at hcv
      have hcat := run_cat [108] [UInt8.ofNat (97 + q)] (by simp)
      have HLN := Lib.hid (show lnB q = [108, UInt8.ofNat (97 + q)] from rfl)
      have HO1 := Lib.hid ((HO.out.keep HKa.out).keep ((Kp.refl (fun _ => False) wc).alloc (.cells #[.int .u8 (97 + (q : Int))] 5)))
      have HK1 := Lib.hid ((HK.out.trans HKa.out).trans ((Kp.refl (fun _ => False) wc).alloc (.cells #[.int .u8 (97 + (q : Int))] 5)))
      generalize UInt8.ofNat (97 + q) = ch at *
      obtain ⟨cp, w2, hcb, hs2, hk2, hz2⟩ := conv_bytes tu (by omega) (wc.alloc (.cells #[.int .u8 (97 + (q : Int))] 5))
      have hsz : (wc.alloc (.cells #[.int .u8 (97 + (q : Int))] 5)).heap.size = wc.heap.size + 1 := by simp
      rw [hsz] at hcb hs2
      have ka : Kp (fun _ => False) w2 (w2.alloc (.cells #[.string ⟨#[108, ch]⟩, .int .i64 3, .int .i64 0, .float .f64 0, .slice (some ⟨wc.heap.size + 1, 0, none⟩) tu.length cp] 44)) := (Kp.refl _ w2).alloc _
      have HOA := Lib.hid ((HO1.out.keep hk2).keep ka)
      have HKA := Lib.hid ((HK1.out.trans hk2).trans ka)
      have HOk : Hid ((ItemP.mk ⟨[108, ch], 3, 0, 0, tu⟩ (some ⟨wc.heap.size + 1, 0, none⟩) cp).Ok (w2.alloc (.cells #[.string ⟨#[108, ch]⟩, .int .i64 3, .int .i64 0, .float .f64 0, .slice (some ⟨wc.heap.size + 1, 0, none⟩) tu.length cp] 44))) :=
        ⟨hs2.keep ka (fun _ _ => id), (by decide : (0 : Nat) < 18446744073709551616), by show tu.length ≤ _; omega⟩
      have HGA := Lib.hid (hp_new w2 (.cells #[.string ⟨#[108, ch]⟩, .int .i64 3, .int .i64 0, .float .f64 0, .slice (some ⟨wc.heap.size + 1, 0, none⟩) tu.length cp] 44))
      have HSP : Hid (0 < (ItemP.mk ⟨[108, ch], 3, 0, 0, tu⟩ (some ⟨wc.heap.size + 1, 0, none⟩) cp).x.bs.length → ∀ b, blk (some (⟨wc.heap.size + 1, 0, none⟩ : Addr)) = some b → u7.ownBlock ≠ some b) := fun _ b hb e => by
        cases hb
        have h1 : wc.heap.size + 1 < _ := (HO1.out.lt _ e).2
        rw [hsz] at h1
        omega
      have HLL := Lib.hid (show L.length = q + 2 from by have := congrArg List.length HL.out; rw [List.length_map, hopsL_len] at this; exact this)
      clear hz2 hs2 hk2 ka HO1 HK1 HO HK HKa hsz
      go_wp2_with (at_builtin; refine wpList_append_item rfl w.heap.size (.tmp 39) (.tmp 50) rfl u7 L rfl HOA.out (by have := HKA.out.size; exact this) ⟨⟨[108, ch], 3, 0, 0, tu⟩, some ⟨wc.heap.size + 1, 0, none⟩, cp⟩ HOk.out HSP.out w2.heap.size rfl 44 (0, 0) HGA.out (by have := HLL.out; omega) ?_)
      intro v' w' hown' hk'
      have HO' := Lib.hid hown'
      have HK' := Lib.hid (HKA.out.step hk' (fun k hk h => by have := (HOA.out.lt k h).1; omega))
      clear hown' hk'
      go_wp2
      refine ⟨⟨q + 1, L ++ [⟨⟨[108, ch], 3, 0, 0, tu⟩, some ⟨wc.heap.size + 1, 0, none⟩, cp⟩], by go_num, by omega, Lib.hid ?_, HO', HK'⟩, by simp only [intOf]; omega⟩
      rw [List.map_append, HL.out, hopsL, hopsL, List.range_succ, List.map_append, List.append_assoc]
      show _ = _ ++ (_ ++ [hopV up q])
      rw [hopV, HLN.out, HTU.out]
      rfl
    · obtain rfl : q = k := by omega
      obtain ⟨ta, tc, hv, hT, _⟩ := HO.out.asTree HL.out
      have HT := Lib.hid hT
      have hlen := hopsL_len q up
      subst hv
      clear hT HO HL
      rw [hlen]
      obtain ⟨sq, hsq⟩ : ∃ sq, sq = (if 0 < q then lnB (q - 1) else [97]) := ⟨_, rfl⟩
      have HSQ := Lib.hid hsq
      have hsl : sq.length ≤ 2 := by rw [hsq]; split <;> simp [lnB]
      clear hsq
      go_upto_if 53 with fail
      go_cut [10] from 54 to 60 (fun s10 wx => s10 = .string ⟨sq.toArray⟩ ∧ Hid (Kp (fun _ => False) wr wx))
      case first =>
        by_cases h0 : 0 < q
        · have hd : decide ((q : Int) > 0) = true := by simp; omega
          have hct : ((UInt8.ofNat (97 + (q - 1))).toNat : Int) = 97 + (q : Int) - 1 := by
            rw [UInt8.toNat_ofNat']; omega
          have hcv := conv_one wr (UInt8.ofNat (97 + (q - 1)))
          rw [hct] at hcv
          have HE := Lib.hid (show sq = [108, UInt8.ofNat (97 + (q - 1))] from by rw [HSQ.out, if_pos h0]; rfl)
          have hcat := run_cat [108] [UInt8.ofNat (97 + (q - 1))] (by simp)
          generalize UInt8.ofNat (97 + (q - 1)) = ch at *
          go_wp2_with fail
          go_meet
          rw [HE.out]
          exact ⟨rfl, Lib.hid ((Kp.refl _ _).alloc _)⟩
        · have hd : decide ((q : Int) > 0) = false := by simp; omega
          have HE := Lib.hid (show sq = [97] from by rw [HSQ.out, if_neg h0])
          go_wp2_with fail
          go_meet
          rw [HE.out]
          exact ⟨rfl, Lib.hid (Kp.refl _ _)⟩
      obtain ⟨rfl, HKa⟩ := hcut
      have HK1 := Lib.hid (HK.out.trans HKa.out)
      have HT1 := Lib.hid (HT.out.keep HKa.out)
      have HM1 := Lib.hid (HK1.out.cell HM.out id)
      have hcat := run_cat sq [47, 102] (by simp; omega)
      have HLaw := Lib.hid (show (q ≤ 8 → walkT (hopsL q up) (hopS q more) true = (hopW more, true, 0)) ∧ (8 < q → walkT (hopsL q up) (hopS q more) true = ([], false, 11)) from
        ⟨fun h => hops_few ⟨q, by omega⟩ up more, fun h => by
          have := hops_many ⟨q - 9, by omega⟩ up more
          rw [show q - 9 + 9 = q by omega] at this
          exact this⟩)
      clear HKa HK HT
      have HS : ∀ b, more = b → Hid (hopS q b = sq ++ (if b then [47, 102] else [])) := fun b _ => by
        show _ = _
        rw [hopS, HSQ.out]
      generalize hopsL q up = tl at *
      cases more with
      | true =>
        have HSt := Lib.hid (show sq ++ [47, 102] = hopS q true from by rw [(HS true rfl).out]; rfl)
        have hW := Walk_any ta tc tl (sq ++ [47, 102]) true m wc HM1.out HT1.out (by omega) (by simp; omega)
        rw [hlen] at hW
        have HLw := HLaw.out
        rw [← HSt.out] at HLw
        replace HLw := Lib.hid HLw
        by_cases h8 : q ≤ 8
        · rw [HLw.out.1 h8] at hW
          have HW := Lib.hid hW
          have hd : decide ((q : Int) > 8) = false := by simp; omega
          clear hW
          go_wp2_with fail
          refine HW.out.mono ?_
          rintro e w2 ⟨rfl, hk2⟩
          have HK2 := Lib.hid (HK1.out.trans hk2)
          have HM2 := Lib.hid (HK2.out.cell HM.out id)
          clear hk2
          dsimp only [hopW]
          go_wp2_with fail
          refine (known15_any m w2 HM2.out).mono ?_
          rintro e w3 ⟨rfl, hk3⟩
          have HK3 := Lib.hid (HK2.out.trans hk3)
          clear hk3
          go_wp2
          go_ret
          exact ⟨by simp, HK3.out⟩
        · rw [HLw.out.2 (by omega)] at hW
          have HW := Lib.hid hW
          have hd : decide ((q : Int) > 8) = true := by simp; omega
          clear hW
          go_wp2_with fail
          refine HW.out.mono ?_
          rintro e w2 ⟨rfl, hk2⟩
          have HK2 := Lib.hid (HK1.out.trans hk2)
          have HM2 := Lib.hid (HK2.out.cell HM.out id)
          clear hk2
          go_wp2_with fail
          refine (known15_any m w2 HM2.out).mono ?_
          rintro e w3 ⟨rfl, hk3⟩
          have HK3 := Lib.hid (HK2.out.trans hk3)
          clear hk3
          go_wp2
          go_ret
          exact ⟨rfl, HK3.out⟩
      | false =>
        have HSt := Lib.hid (show sq = hopS q false from by rw [(HS false rfl).out]; simp)
        have hW := Walk_any ta tc tl sq true m wc HM1.out HT1.out (by omega) (by omega)
        rw [hlen] at hW
        have HLw := HLaw.out
        rw [← HSt.out] at HLw
        replace HLw := Lib.hid HLw
        by_cases h8 : q ≤ 8
        · rw [HLw.out.1 h8] at hW
          have HW := Lib.hid hW
          have hd : decide ((q : Int) > 8) = false := by simp; omega
          clear hW
          go_wp2_with fail
          refine HW.out.mono ?_
          rintro e w2 ⟨rfl, hk2⟩
          have HK2 := Lib.hid (HK1.out.trans hk2)
          have HM2 := Lib.hid (HK2.out.cell HM.out id)
          clear hk2
          dsimp only [hopW]
          go_wp2_with fail
          refine (known15_any m w2 HM2.out).mono ?_
          rintro e w3 ⟨rfl, hk3⟩
          have HK3 := Lib.hid (HK2.out.trans hk3)
          clear hk3
          go_wp2
          go_ret
          exact ⟨by simp, HK3.out⟩
        · rw [HLw.out.2 (by omega)] at hW
          have HW := Lib.hid hW
          have hd : decide ((q : Int) > 8) = true := by simp; omega
          clear hW
          go_wp2_with fail
          refine HW.out.mono ?_
          rintro e w2 ⟨rfl, hk2⟩
          have HK2 := Lib.hid (HK1.out.trans hk2)
          have HM2 := Lib.hid (HK2.out.cell HM.out id)
          clear hk2
          go_wp2_with fail
          refine (known15_any m w2 HM2.out).mono ?_
          rintro e w3 ⟨rfl, hk3⟩
          have HK3 := Lib.hid (HK2.out.trans hk3)
          clear hk3
          go_wp2
          go_ret
          exact ⟨rfl, HK3.out⟩
end Go.Proofs.YtgpidbdgodgefaaDoor
