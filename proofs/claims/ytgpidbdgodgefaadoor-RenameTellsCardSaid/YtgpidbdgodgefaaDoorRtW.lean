/- The walk of RenameTells: it answers true. Conditions: as the theorem names them. -/
import Derived.Test.YtgpidbdgodgefaaDoorPln
import Derived.Test.YtgpidbdgodgefaaDoorMovW
import Derived.Test.YtgpidbdgodgefaaDoorRefP
import Derived.Test.YtgpidbdgodgefaaDoorRtL
import Derived.BigRegion
import Derived.StillTailTactics
namespace Go.Proofs.YtgpidbdgodgefaaDoor
open Go.RowKit Go.Deep

theorem OwnC.cells2 {w : World} {base g n cap : Nat} {y0 y1 : ChgP} {r : List ChgP} (h : OwnC w base (.slice (some ⟨g, 0, none⟩) n cap) (y0 :: y1 :: r)) :
    (∀ j, j < 20 → w.cell? ⟨g, j, none⟩ = (y0.cells ++ y1.cells)[j]?) ∧ (∀ j, w.frozen? ⟨g, j, none⟩ = false) ∧ base ≤ g := by
  obtain ⟨h1, ⟨e, h0⟩ | ⟨g', cap', cur, e, hg, hh, hl, hm, hs, ht⟩⟩ := h.own
  · cases e
  cases e
  refine ⟨fun j hj => ?_, fun j => by simp [World.frozen?, hh], hg⟩
  have hc : w.cell? ⟨g, j, none⟩ = cur.toList[j]? := by simp [World.cell?, hh]
  have h2 : (cur.toList.take ((y0 :: y1 :: r).length * 10))[j]? = cur.toList[j]? := by
    rw [List.getElem?_take, if_pos (by simp only [List.length_cons]; omega)]
  rw [hc, ← h2, ht, List.flatMap_cons, List.flatMap_cons, ← List.append_assoc, List.getElem?_append_left]
  show j < (y0.cells ++ y1.cells).length
  rw [List.length_append]
  exact hj
theorem OwnC.two {w : World} {base n cap : Nat} {a : Option Addr} {L : List ChgP} (h : OwnC w base (.slice a n cap) L) (hp : 1 < L.length) : ∃ g y0 y1 r, a = some ⟨g, 0, none⟩ ∧ L = y0 :: y1 :: r := by
  obtain ⟨h1, ⟨e, h0⟩ | ⟨g', cap', cur, e, hg, hh, _⟩⟩ := h.own
  · omega
  cases e
  match L, hp with
  | y0 :: y1 :: r, _ => exact ⟨g', y0, y1, r, rfl, rfl⟩

set_option maxHeartbeats 60000000 in
set_option maxRecDepth 100000 in
theorem renameTells_any (a : Option Addr) (c : Nat) (l : List RawV) (a2 : Option Addr) (cc : Nat) (l2 : List TurnV) (few bend : Bool) (from_ : Int) (m : Int) (w : World) (h : RawsAt w a l) (hl : l.length ≤ 9223372036854775807) (h2 : TurnsAt w a2 l2) (hl2 : l2.length ≤ 9223372036854775807) (hf : -9223372036854775808 ≤ from_ ∧ from_ ≤ 9223372036854775807) (hm : w.cell? ⟨0, 0, none⟩ = some (.int .i64 m)) :
    Calls Tryd.prog 14 #[.slice a l.length c, .slice a2 l2.length cc, .bool few, .bool bend, .int .i64 from_] w fun e w' => e = .returned (.bool true) ∧ Kp (fun _ => False) w w' := by
  have HM := Lib.hid hm
  have H2 := Lib.hid h2
  have HTr := Lib.hid (htree_any a c l w h hl)
  have hsf : ∀ (a : Addr) (b : Nat) (m : Mode) (w : World), (store a (.float .f64 b) m).run Tryd.prog w = stored Tryd.prog w a (.float .f64 b) m := fun a b m w => run_store _ w a _ m rfl
  clear hm h h2
  go_enter Tryd.func14, Tryd.ntmps14
  go_wp2_with fail
  refine HTr.out.mono ?_
  rintro e w1 ⟨v, T, rfl, hh, ho, hk1⟩
  obtain ⟨ta, tc, rfl, hT⟩ := ho.tree
  have HT1 := Lib.hid hT
  have HTT := Lib.hid hh.tr
  have HK1 := Lib.hid hk1
  clear hh ho hk1 hT HTr
  go_wp2_with fail
  refine (turned_any ta tc T a2 cc l2 w1 HT1.out HTT.out (H2.out.keep HK1.out) hl2).mono ?_
  rintro e w2 ⟨T', tb, td, rfl, hTr', hT', hk2⟩
  have HTT' := Lib.hid hTr'
  have HT2' := Lib.hid hT'
  have HT2 := Lib.hid (HT1.out.keep hk2)
  have HK2 := Lib.hid (HK1.out.trans hk2)
  clear hTr' hT' hk2 HT1 HK1
  go_upto_if 26 with fail
  go_cut [11, 12] from 27 to 30 (fun v u wx => ∃ (A B : List ItemV) (aa ba : Option Addr) (ac bc : Nat), v = .slice aa A.length ac ∧ u = .slice ba B.length bc ∧ Hid (Tr A) ∧ Hid (Tr B) ∧ Hid (TreeAt wx aa A) ∧ Hid (TreeAt wx ba B) ∧ Hid (Kp (fun _ => False) w wx))
  case first =>
    cases few with
    | false =>
      go_wp2
      go_meet
      exact ⟨T, T', ta, tb, tc, td, rfl, rfl, HTT, HTT', HT2, HT2', HK2⟩
    | true =>
      have hPl := Lib.hid (plain18_any ta tc T w2 HT2.out (Nat.le_trans HTT.out.len (by decide)))
      go_wp2_with fail
      refine hPl.out.mono ?_
      rintro e w3 he3
      obtain ⟨v3, A, rfl, hA, ho3, hk3⟩ := treeEnd_own he3
      obtain ⟨aa, ac, rfl, hAT⟩ := ho3.tree
      have HTA := Lib.hid (show Tr A from by rw [← hA]; exact HTT.out.plain)
      have HA3 := Lib.hid hAT
      have HT3 := Lib.hid (HT2'.out.keep hk3)
      have HK3 := Lib.hid (HK2.out.trans hk3)
      clear he3 hA ho3 hk3 hAT hPl HT2 HT2' HTT HK2
      have hPl := Lib.hid (plain18_any tb td T' w3 HT3.out (Nat.le_trans HTT'.out.len (by decide)))
      go_wp2_with fail
      refine hPl.out.mono ?_
      rintro e w4 he4
      obtain ⟨v4, B, rfl, hB, ho4, hk4⟩ := treeEnd_own he4
      obtain ⟨ba, bc, rfl, hBT⟩ := ho4.tree
      have HTB := Lib.hid (show Tr B from by rw [← hB]; exact HTT'.out.plain)
      have HB4 := Lib.hid hBT
      have HA4 := Lib.hid (HA3.out.keep hk4)
      have HK4 := Lib.hid (HK3.out.trans hk4)
      clear he4 hB ho4 hk4 hBT hPl HT3 HTT' HK3 HA3
      go_wp2
      go_meet
      exact ⟨A, B, aa, ba, ac, bc, rfl, rfl, HTA, HTB, HA4, HB4, HK4⟩
  clear HTT HTT' HT2 HT2' HK2
  obtain ⟨A, B, aa, ba, ac, bc, rfl, rfl, HTA, HTB, HA4, HB4, HK4⟩ := hcut
  have hal : A.length ≤ 1000 := Nat.le_trans HTA.out.len (by decide)
  have hbl : B.length ≤ 1000 := Nat.le_trans HTB.out.len (by decide)
  go_wp2_with fail
  refine (diff_any aa ba ac bc A B wc HA4.out HB4.out hal hbl).mono ?_
  rintro e w5 ⟨v, L, base, rfl, hLm, hbs, hoc, hk5⟩
  have HDl := Lib.hid (show (diffL A B).length ≤ 1000000 from by have := diffL_len A B; omega)
  have HDc := Lib.hid (diffL_ch HTA.out.ok HTB.out.ok)
  have HLm := Lib.hid hLm
  have hll : L.length = (diffL A B).length := by rw [← hLm, List.length_map]
  obtain ⟨da, dc, hv, _⟩ := hoc.chgs
  subst hv
  have HOC := Lib.hid hoc
  have HBs := Lib.hid hbs
  have HK5 := Lib.hid (HK4.out.trans hk5)
  have hwb : w.heap.size ≤ base := Nat.le_trans HK4.out.size hbs
  have HWB := Lib.hid hwb
  clear hLm hoc hbs hk5 HK4 HA4 HB4 HTA HTB hwb hal hbl
  generalize diffL A B = D at *
  go_upto_region 7 with fail
  go_cut [39] from 34 to 38 (fun v wx => ∃ bb : Bool, v = .bool bb ∧ Hid (bb = true → 1 < D.length) ∧ wx = w5)
  case first =>
    cases bend with
    | false =>
      go_wp2
      go_meet
      exact ⟨false, rfl, Lib.hid fun h => (by cases h), rfl⟩
    | true =>
      by_cases hgt : 1 < D.length
      · have hz : (1 : Int) < D.length := by omega
        go_wp2
        go_meet
        exact ⟨true, by simp, Lib.hid fun _ => hgt, rfl⟩
      · have hz : ¬ (1 : Int) < D.length := by omega
        go_wp2
        go_meet
        exact ⟨false, by simp, Lib.hid fun h => (by cases h), rfl⟩
  obtain ⟨bb, rfl, HBB, hwc⟩ := hcut
  replace hwc := hwc.symm
  subst hwc
  go_upto_if 39 with fail
  go_cut [13] from 40 to 49 (fun v wx => ∃ (D' : List ChangeV) (ga : Option Addr) (gc : Nat), v = .slice ga D'.length gc ∧ D'.length ≤ 1000000 ∧ Hid (∀ x ∈ D', Ch x) ∧ Hid (ChgsAt wx ga D') ∧ Hid (Kp (fun _ => False) w wx))
  case first =>
    cases bb with
    | false =>
      obtain ⟨da', dc', e', hcs⟩ := HOC.out.chgs
      rw [hll] at e'
      cases e'
      rw [HLm.out] at hcs
      have HCS := Lib.hid hcs
      clear hcs
      go_wp2
      go_meet
      exact ⟨D, _, _, rfl, HDl.out, HDc, HCS, HK5⟩
    | true =>
      have hgt := HBB.out rfl
      obtain ⟨g, y0, y1, r, rfl, hL⟩ := HOC.out.two (by omega)
      have hOC := HOC.out
      rw [hL] at hOC
      obtain ⟨hc, hf, hbg⟩ := hOC.cells2
      have c0 : w5.cell? ⟨g, 0, none⟩ = some (.string ⟨y0.x.path.toArray⟩) := hc 0 (by decide)
      have c1 : w5.cell? ⟨g, 1, none⟩ = some (.int .i64 y0.x.kind) := hc 1 (by decide)
      have c2 : w5.cell? ⟨g, 2, none⟩ = some (.int .i64 y0.x.old.kind) := hc 2 (by decide)
      have c3 : w5.cell? ⟨g, 3, none⟩ = some (.int .i64 y0.x.old.mode) := hc 3 (by decide)
      have c4 : w5.cell? ⟨g, 4, none⟩ = some (.float .f64 y0.x.old.time) := hc 4 (by decide)
      have c5 : w5.cell? ⟨g, 5, none⟩ = some (.slice y0.oa y0.x.old.bs.length y0.oc) := hc 5 (by decide)
      have c6 : w5.cell? ⟨g, 6, none⟩ = some (.int .i64 y0.x.new.kind) := hc 6 (by decide)
      have c7 : w5.cell? ⟨g, 7, none⟩ = some (.int .i64 y0.x.new.mode) := hc 7 (by decide)
      have c8 : w5.cell? ⟨g, 8, none⟩ = some (.float .f64 y0.x.new.time) := hc 8 (by decide)
      have c9 : w5.cell? ⟨g, 9, none⟩ = some (.slice y0.na y0.x.new.bs.length y0.nc) := hc 9 (by decide)
      have c10 : w5.cell? ⟨g, 10, none⟩ = some (.string ⟨y1.x.path.toArray⟩) := hc 10 (by decide)
      have c11 : w5.cell? ⟨g, 11, none⟩ = some (.int .i64 y1.x.kind) := hc 11 (by decide)
      have c12 : w5.cell? ⟨g, 12, none⟩ = some (.int .i64 y1.x.old.kind) := hc 12 (by decide)
      have c13 : w5.cell? ⟨g, 13, none⟩ = some (.int .i64 y1.x.old.mode) := hc 13 (by decide)
      have c14 : w5.cell? ⟨g, 14, none⟩ = some (.float .f64 y1.x.old.time) := hc 14 (by decide)
      have c15 : w5.cell? ⟨g, 15, none⟩ = some (.slice y1.oa y1.x.old.bs.length y1.oc) := hc 15 (by decide)
      have c16 : w5.cell? ⟨g, 16, none⟩ = some (.int .i64 y1.x.new.kind) := hc 16 (by decide)
      have c17 : w5.cell? ⟨g, 17, none⟩ = some (.int .i64 y1.x.new.mode) := hc 17 (by decide)
      have c18 : w5.cell? ⟨g, 18, none⟩ = some (.float .f64 y1.x.new.time) := hc 18 (by decide)
      have c19 : w5.cell? ⟨g, 19, none⟩ = some (.slice y1.na y1.x.new.bs.length y1.nc) := hc 19 (by decide)
      have hz0 : (0 : Int) < D.length := by omega
      have hz1 : (1 : Int) < D.length := by omega
      have hfr : ∀ j, w5.frozen? ⟨g, j, none⟩ = false := hf
      have HS := Lib.hid hOC
      clear hc hf hOC HOC
      go_wp2_with fail
      go_region
      have HW := HS.out.swap
      have HO9 := Lib.hid HW.1
      have HK9 := Lib.hid HW.2
      clear HW HS hfr hz0 hz1 hgt HBB
      clear c0 c1 c2 c3 c4 c5 c6 c7 c8 c9 c10 c11 c12 c13 c14 c15 c16 c17 c18 c19
      change Exit.then _ _ Exit.normal _ (putC (putC w5 g 0 y1) g 10 y0).drew
      generalize putC (putC w5 g 0 y1) g 10 y0 = wS at *
      have hD : D = y0.x :: y1.x :: r.map (·.x) := by rw [← HLm.out, hL]; rfl
      have hDl : D.length = (y1.x :: y0.x :: r.map (·.x)).length := by rw [hD]; rfl
      have kdS : Kp (fun _ => False) wS wS.drew := (Kp.refl _ wS).drew
      obtain ⟨ga', gc', e', hcs⟩ := (HO9.out.keep kdS).chgs
      cases e'
      have HCS := Lib.hid (show ChgsAt wS.drew (some ⟨g, 0, none⟩) (y1.x :: y0.x :: r.map (·.x)) from hcs)
      have HCH := Lib.hid (show ∀ x ∈ y1.x :: y0.x :: r.map (·.x), Ch x from fun x hx => HDc.out x (by
        rw [hD]
        simp only [List.mem_cons] at hx ⊢
        rcases hx with h | h | h
        · exact .inr (.inl h)
        · exact .inl h
        · exact .inr (.inr h)))
      have HKS := Lib.hid ((HK5.out.step HK9.out (fun i hi e => by have := HWB.out; omega)).trans kdS)
      have hdl9 := HDl.out
      rw [hDl] at hdl9
      have HDL := Lib.hid hDl
      clear hcs kdS hD hDl HO9 HK9
      go_wp2
      go_meet
      exact ⟨y1.x :: y0.x :: r.map (·.x), some ⟨g, 0, none⟩, dc, by rw [HDL.out], hdl9, HCH, HCS, HKS⟩
  clear HOC HK5 HBB HLm HDc HDl HBs HWB hll
  obtain ⟨D', ga, gc, rfl, hdl, HDC, HCS, HK6⟩ := hcut
  have hPr := Lib.hid (pairs_any ga gc D' m wc (HK6.out.cell HM.out id) HCS.out hdl HDC.out)
  go_wp2_with fail
  refine hPr.out.mono ?_
  rintro e w6 ⟨v6, rfl, ho6, hk6⟩
  obtain ⟨pa, pc, rfl, hps⟩ := ho6.pairs
  have HP6 := Lib.hid hps
  have HCS6 := Lib.hid (HCS.out.keep hk6)
  have HK7 := Lib.hid (HK6.out.trans hk6)
  clear hPr ho6 hps hk6 HCS HK6
  have hPr := Lib.hid (refPairs_any ga gc D' w6 HCS6.out hdl HDC.out)
  have hpl : (prsL D').length ≤ 1000000 := by
    by_cases hr : RiseC D'
    · rw [prsL_rise hr]; have := pairsL_len D'; omega
    · rw [prsL_none hr]; simp
  generalize prsL D' = P at *
  go_wp2_with fail
  refine hPr.out.mono ?_
  rintro e w7 ⟨v7, rfl, ho7, hk7⟩
  obtain ⟨qa, qc, rfl, hqs⟩ := ho7.pairs
  have HQ7 := Lib.hid hqs
  have HP7 := Lib.hid (HP6.out.keep hk7)
  have HK8 := Lib.hid (HK7.out.trans hk7)
  clear hPr ho7 hqs hk7 HP6 HK7 HCS6 HDC hdl
  go_wp2_with fail
  go_loopw [16] (fun v wr => ∃ i : Nat, v = .int .i64 i ∧ i ≤ P.length ∧ Hid (Kp (fun _ => False) w7 wr)) (fun v _ => P.length - (intOf v).toNat)
  case atStart => exact ⟨0, rfl, Nat.zero_le _, Lib.hid (Kp.refl _ _)⟩
  case round =>
    obtain ⟨i, rfl, hil, HKr⟩ := hrel
    by_cases hlt : i < P.length
    case pos =>
      obtain ⟨b, off, rfl, p0, p1⟩ := HP7.out i hlt
      obtain ⟨b2, off2, rfl, r0, r1⟩ := HQ7.out i hlt
      have kd : Kp (fun _ => False) wr wr.drew := (Kp.refl _ wr).drew
      have HKd := Lib.hid (HKr.out.trans kd)
      have f0 := HKd.out.cell p0 id
      have f1 := HKd.out.cell p1 id
      have g0 := HKd.out.cell r0 id
      have g1 := HKd.out.cell r1 id
      have hiZ : (i : Int) < P.length := by omega
      clear p0 p1 r0 r1 kd HKr
      generalize P[i] = x at *
      go_wp2_with fail
      refine wp_region_still_lit (by kernel_rfl) (by kernel_rfl) ?_
      change wpStill _ _ wr.drew _ _ _
      repeat still_step
      refine wpStill_nil ?_
      go_wp2
      exact ⟨⟨i + 1, by go_num, by omega, HKd⟩, by simp only [intOf]; omega⟩
    case neg =>
      have HK9 := Lib.hid (HK8.out.trans HKr.out)
      have HP9 := Lib.hid (HP7.out.keep HKr.out)
      have HQ9 := Lib.hid (HQ7.out.keep HKr.out)
      clear HKr HK8 HP7 HQ7
      go_wp2_with fail
      refine (Path_any from_ wr hf.1 hf.2).mono ?_
      rintro e w' ⟨rfl, rfl⟩
      have hTo := to_any pa pc P (pathB from_) wr HP9.out (by omega)
      have hRo := fun w1 (h : PairsAt w1 qa P) => refTo_any qa qc P (pathB from_) w1 h (by omega)
      generalize (toL P (pathB from_)).isSome = o at *
      generalize (toL P (pathB from_)).getD [] = s at *
      replace hTo := Lib.hid hTo
      replace hRo := Lib.hid hRo
      have HPf := Lib.hid (fun w1 : World => Path_any from_ w1 hf.1 hf.2)
      generalize pathB from_ = q at *
      go_wp2_with fail
      refine hTo.out.mono ?_
      rintro e w8 ⟨rfl, hk8⟩
      have HK10 := Lib.hid (HK9.out.trans hk8)
      have HQ10 := Lib.hid (HQ9.out.keep hk8)
      clear hTo hk8 HK9 HQ9 HP9
      go_wp2_with fail
      refine (HPf.out w8).mono ?_
      rintro e w9 ⟨rfl, rfl⟩
      go_wp2_with fail
      refine (hRo.out _ HQ10.out).mono ?_
      rintro e w9 ⟨rfl, hk9⟩
      have HK11 := Lib.hid (HK10.out.trans hk9)
      clear hRo hk9 HK10 HQ10 HPf
      go_wp2_with fail
      refine (known18_any m w9 (HK11.out.cell HM.out id)).mono ?_
      rintro e w10 ⟨rfl, hk10⟩
      have HK12 := Lib.hid (HK11.out.trans hk10)
      clear hk10 HK11
      cases o with
      | true =>
        go_wp2
        go_ret
        exact ⟨by simp, HK12.out⟩
      | false =>
        go_wp2
        go_ret
        exact ⟨by simp, HK12.out⟩
end Go.Proofs.YtgpidbdgodgefaaDoor
