/- The contract of Turned of package pentimentohand: a tree behind some turns. Conditions: as the theorem names them. -/
import Derived.Test.YtgpidbdgodgefaaDoorMove
import Derived.Test.YtgpidbdgodgefaaDoorOpenD
import Derived.Deep.CutRange
import Derived.Deep.CutBlock
namespace Go.Proofs.YtgpidbdgodgefaaDoor
open Go.RowKit Go.Deep

theorem cell_eight {w : World} {n : Nat} {a0 a1 a2 a3 a4 a5 a6 a7 : Value} {t : TypeId} (h : w.heap[n]? = some (.cells #[a0, a1, a2, a3, a4, a5, a6, a7] t (0, 0))) :
    w.cell? ⟨n, 0, none⟩ = some a0 ∧ w.cell? ⟨n, 1, none⟩ = some a1 ∧ w.cell? ⟨n, 2, none⟩ = some a2 ∧ w.cell? ⟨n, 3, none⟩ = some a3 ∧ w.cell? ⟨n, 4, none⟩ = some a4 ∧ w.cell? ⟨n, 5, none⟩ = some a5 ∧ w.cell? ⟨n, 6, none⟩ = some a6 ∧ w.cell? ⟨n, 7, none⟩ = some a7 :=
  ⟨by simp [World.cell?, h], by simp [World.cell?, h], by simp [World.cell?, h], by simp [World.cell?, h], by simp [World.cell?, h], by simp [World.cell?, h], by simp [World.cell?, h], by simp [World.cell?, h]⟩
theorem NAt.keepE {w w' : World} {n : NodeV} {a : Option Addr} {c : Nat} {S : Nat → Prop} (h : NAt w n a c) (k : Kp S w w') (hn : 0 < n.bs.length → ∀ b, blk a = some b → ¬ S b) : NAt w' n a c := ⟨h.sl.keepE k hn, h.time, h.len⟩
theorem tdiv3_bound {q : Int} (h : inI q) : -9223372036854775808 ≤ q.tdiv 3 ∧ q.tdiv 3 ≤ 9223372036854775807 := by
  unfold inI at h
  rcases Int.le_total 0 q with h0 | h0
  · rw [Int.tdiv_eq_ediv_of_nonneg h0]; omega
  · have : q.tdiv 3 = -((-q).tdiv 3) := by rw [Int.neg_tdiv]; simp
    rw [this, Int.tdiv_eq_ediv_of_nonneg (by omega)]
    omega
/-- A tree that is somewhere. -/
def TurnEnd (w : World) (e : Ending) (w' : World) : Prop := ∃ (T : List ItemV) (a : Option Addr) (c : Nat), e = .returned (.slice a T.length c) ∧ Tr T ∧ TreeAt w' a T ∧ Kp (fun _ => False) w w'

set_option maxHeartbeats 16000000 in
set_option maxRecDepth 100000 in
theorem turned_any (a0 : Option Addr) (c0 : Nat) (T0 : List ItemV) (a : Option Addr) (c : Nat) (l : List TurnV) (w : World) (hT0 : TreeAt w a0 T0) (hTr : Tr T0) (h : TurnsAt w a l) (_hl : l.length ≤ 9223372036854775807) :
    Calls Tryd.prog 50 #[.slice a0 T0.length c0, .slice a l.length c] w (TurnEnd w) := by
  have HT0 := Lib.hid hT0
  have HTr0 := Lib.hid hTr
  have HL := Lib.hid h
  have hsf : ∀ (a : Addr) (b : Nat) (m : Mode) (w : World), (store a (.float .f64 b) m).run Tryd.prog w = stored Tryd.prog w a (.float .f64 b) m := fun a b m w => run_store _ w a _ m rfl
  clear hT0 hTr h
  go_enter Tryd.func50, Tryd.ntmps50
  go_wp2_with fail
  go_loopw [0, 5] (fun v0 v5 wr => ∃ (T : List ItemV) (ta : Option Addr) (tc : Nat) (i : Nat), v0 = .slice ta T.length tc ∧ v5 = .int .i64 i ∧ i ≤ 14 ∧ i ≤ l.length ∧ Hid (Tr T) ∧ Hid (TreeAt wr ta T) ∧ Hid (Kp (fun _ => False) w wr)) (fun _ v5 _ => 14 - (intOf v5).toNat)
  case atStart => exact ⟨T0, a0, c0, 0, rfl, rfl, by decide, Nat.zero_le _, HTr0, HT0, Lib.hid (Kp.refl _ _)⟩
  case round =>
    clear HT0 HTr0
    obtain ⟨T, ta, tc, i, rfl, rfl, hi14, hil, HTr, HT, HK⟩ := hrel
    by_cases q1 : i < l.length
    case neg =>
      go_wp2
      go_ret
      exact ⟨T, ta, tc, rfl, HTr.out, HT.out, HK.out⟩
    by_cases q2 : i < 14
    case neg =>
      go_wp2
      go_ret
      exact ⟨T, ta, tc, rfl, HTr.out, HT.out, HK.out⟩
    have hlen := HTr.out.len
    have HTP := Lib.hid (fun x (hx : x ∈ T) => Nat.le_trans (HTr.out.paths x hx) (by decide : (120 : Nat) ≤ 1000))
    obtain ⟨b, off, ad, cp, rfl, hx0⟩ := HL.out i q1
    obtain ⟨d0, d1, d2, d3, d4, d5, d6, d7, dsl, dtm, dln, dint⟩ := hx0.keep HK.out
    generalize l[i] = r at *
    obtain ⟨i1, i2, i3, i4, i5, i6⟩ := dint
    have k2 : Kp (fun _ => False) wr (wr.alloc (.cells #[.int .i64 r.wh, .int .i64 r.at_, .int .i64 r.tp, .int .i64 r.k, .int .i64 r.m, .int .i64 r.t, .float .f64 r.x, .slice ad r.d.length cp] 102)) := (Kp.refl _ wr).alloc _
    have HT2 := Lib.hid (HT.out.keep k2)
    have HK2 := Lib.hid (HK.out.trans k2)
    have HB2 := Lib.hid (hp_new wr (.cells #[.int .i64 r.wh, .int .i64 r.at_, .int .i64 r.tp, .int .i64 r.k, .int .i64 r.m, .int .i64 r.t, .float .f64 r.x, .slice ad r.d.length cp] 102))
    have HSL2 := Lib.hid (dsl.keep k2 fun _ _ => id)
    have htd := tdiv3_bound i2
    unfold inI at i1 i2 i3 i4 i5 i6
    clear hx0 dsl k2 HT HK
    go_upto_region 5 with fail
    clear d0 d1 d2 d3 d4 d5 d6 d7
    generalize wr.alloc (.cells #[.int .i64 r.wh, .int .i64 r.at_, .int .i64 r.tp, .int .i64 r.k, .int .i64 r.m, .int .i64 r.t, .float .f64 r.x, .slice ad r.d.length cp] 102) = w2 at *
    generalize wr.heap.size = px at *
    obtain ⟨d0, d1, d2, d3, d4, d5, d6, d7⟩ := cell_eight HB2.out
    have hpx := hp_lt HB2.out
    go_wp2_with fail
    refine (Path_any r.at_ w2 i2.1 i2.2).mono ?_
    rintro e w' ⟨rfl, rfl⟩
    go_upto_region 6 with fail
    go_cut [37] from 29 to 36 (fun v wx => ∃ bb : Bool, v = .bool bb ∧ Hid (bb = true → 0 < T.length) ∧ wx = w2)
    case first =>
      by_cases hT0 : 0 < T.length
      · by_cases hz3 : 0 < r.at_.tmod 3
        · go_wp2
          go_meet
          exact ⟨true, by simp, Lib.hid fun _ => hT0, rfl⟩
        · go_wp2
          go_meet
          exact ⟨false, by simp, Lib.hid (fun h => (by cases h)), rfl⟩
      · go_wp2
        go_meet
        exact ⟨false, by simp, Lib.hid (fun h => (by cases h)), rfl⟩
    obtain ⟨bb, rfl, HBB, hwc⟩ := hcut
    replace hwc := hwc.symm
    subst hwc
    go_upto_if 37 with fail
    go_cut [7] from 38 to 47 (fun v wx => ∃ p : List UInt8, v = .string ⟨p.toArray⟩ ∧ p.length ≤ 120 ∧ Hid (p.head? ≠ some 113) ∧ wx = w2)
    case first =>
      cases bb with
      | true =>
        have hT0 : 0 < T.length := HBB.out rfl
        go_wp2_with fail
        refine (pick_any (r.at_.tdiv 3) T.length w2 (by omega) (by omega) htd.1 htd.2).mono ?_
        rintro e w' ⟨rfl, rfl⟩
        have hmod := Int.emod_nonneg (r.at_.tdiv 3) (show (T.length : Int) ≠ 0 by omega)
        have hmlt := Int.emod_lt_of_pos (r.at_.tdiv 3) (show (0 : Int) < T.length by omega)
        obtain ⟨k, hk⟩ : ∃ k : Nat, r.at_.tdiv 3 % (T.length : Int) = k := ⟨(r.at_.tdiv 3 % (T.length : Int)).toNat, by omega⟩
        rw [hk] at hmod hmlt ⊢
        have hkT : k < T.length := by omega
        clear hk hmod hmlt
        obtain ⟨b2, off2, ad2, cp2, rfl, hx⟩ := HT2.out k hkT
        have hpl := HTr.out.paths T[k] (List.getElem_mem hkT)
        have HQ := Lib.hid (HTr.out.small T[k] (List.getElem_mem hkT)).1
        obtain ⟨e0, _, _, _, _, _, _, _⟩ := hx
        generalize T[k] = y at *
        go_wp2
        go_meet
        exact ⟨y.path, rfl, hpl, HQ, rfl⟩
      | false =>
        have hpl := (pathB_len r.at_).2
        have HQ := Lib.hid (pathB_q r.at_)
        generalize pathB r.at_ = pp at *
        go_wp2
        go_meet
        exact ⟨pp, rfl, by omega, HQ, rfl⟩
    obtain ⟨p, rfl, hpl, HPQ, hwc⟩ := hcut
    replace hwc := hwc.symm
    subst hwc
    clear htd
    go_wp2_with fail
    refine (refGet_any ta tc T p w2 HT2.out (by omega)).mono ?_
    rintro e w3 ⟨n, na, nc, rfl, h5, _, h7, h8, hk3⟩
    have HY := Lib.hid h5
    have HN3 := Lib.hid h7
    have HLt := Lib.hid h8
    have HK3 := Lib.hid hk3
    have HQ3 := Lib.hid hk3.size
    clear h5 h7 h8 hk3
    rw [nodeVal]
    have k4 : Kp (fun _ => False) w3 (w3.alloc (.cells #[.int .i64 n.kind, .int .i64 n.mode, .float .f64 n.time, .slice na n.bs.length nc] 42)) := (Kp.refl _ w3).alloc _
    have HK4 := Lib.hid (HK3.out.trans k4)
    have HN4 := Lib.hid (HN3.out.keepF k4)
    have HG4 := Lib.hid (hp_new w3 (.cells #[.int .i64 n.kind, .int .i64 n.mode, .float .f64 n.time, .slice na n.bs.length nc] 42))
    have HB4 := Lib.hid (k4.hp (HK3.out.hp HB2.out id) id)
    clear k4 HK3 HN3
    generalize hol : lookT T p = ol at *
    have HOL := Lib.hid hol
    clear hol
    have HNB := Lib.hid (show ol.isSome = true → n.bs.length ≤ 60 from fun h => by
      cases ol with
      | none => cases h
      | some y =>
        rw [HY.out y rfl]
        exact (HTr.out.small y (look_some HOL.out).1).2)
    clear HY HOL
    generalize ol.isSome = ok at *
    go_upto_region 9 with fail
    generalize w3.alloc (.cells #[.int .i64 n.kind, .int .i64 n.mode, .float .f64 n.time, .slice na n.bs.length nc] 42) = w4 at *
    generalize w3.heap.size = q at *
    have hpq : px ≠ q := by have := HQ3.out; omega
    clear d0 d1 d2 d3 d4 d5 d6 d7
    obtain ⟨d0, d1, d2, d3, d4, d5, d6, d7⟩ := cell_eight HB4.out
    go_upto_block 2 with fail
    refine (pick_any r.wh 8 w4 (by decide) (by decide) i1.1 i1.2).mono ?_
    rintro e w' ⟨rfl, rfl⟩
    generalize r.wh % 8 = kk at *
    go_upto_block 2 with fail
    go_cut [10, 11] from 58 to 136 (fun v10 v11 wx => ∃ (T' : List ItemV) (ua : Option Addr) (uc : Nat) (e' : Int), v10 = .slice ua T'.length uc ∧ v11 = .int .i64 e' ∧ Hid (e' = 0 → Tr T') ∧ Hid (TreeAt wx ua T') ∧ Hid (Kp (fun _ => False) w2 wx))
    case first =>
      by_cases k3 : kk = 3
      · have kb : (kk == 3) = true := by simp [k3]
        clear k3
        go_wp2_with fail
        refine (refRemove_any ta tc T p w4 (HT2.out.keep HK4.out) (by omega) HTP.out (by omega)).mono ?_
        rintro e w9 he9
        obtain ⟨v9, T9, rfl, hT9, ho9, hk9⟩ := treeEnd_own he9
        have HTr9 := Lib.hid (show Tr T9 from by rw [← hT9]; exact HTr.out.rem p)
        obtain ⟨a9, c9, rfl, hTT9⟩ := ho9.tree
        have HK9 := Lib.hid (HK4.out.trans hk9)
        have HTT9 := Lib.hid hTT9
        clear he9 hT9 ho9 hk9 hTT9
        go_wp2
        go_meet
        exact ⟨T9, a9, c9, 0, rfl, rfl, Lib.hid fun _ => HTr9.out, HTT9, HK9⟩
      have kb3 : (kk == 3) = false := by simp [k3]
      clear k3
      by_cases k4 : kk = 4
      · have kb : (kk == 4) = true := by simp [k4]
        clear k4
        obtain ⟨⟨p0, p1, p2, p3⟩, ⟨l0, l1, l2, l3⟩, lt3⟩ := cell_fr HG4.out
        go_upto_if 79 with (refine (pick_any r.m 4096 w4 (by decide) (by decide) i5.1 i5.2).mono ?_; rintro e w' ⟨rfl, rfl⟩)
        clear p0 p1 p2 p3 l0 l1 l2 l3 lt3
        generalize r.m % 4096 = z at *
        have hkS5 : Kp (fun b => b = q) w4 (w4.setCell ⟨q, 1, none⟩ (.int .i64 z)) := (Kp.refl (fun b => b = q) w4).setCell ⟨q, 1, none⟩ (.inl rfl) _
        have HK5 := Lib.hid (HK4.out.setCell ⟨q, 1, none⟩ (.inr HQ3.out) (.int .i64 z))
        have HG5 := Lib.hid (set_f1 (v := (.int .i64 z)) HG4.out)
        have HN5 := Lib.hid (show NAt (w4.setCell ⟨q, 1, none⟩ (.int .i64 z)) ⟨n.kind, z, n.time, n.bs⟩ na nc from by
          have h := HN4.out.keepE hkS5 (fun hpos b hb h => by have h1 := HLt.out hpos b hb; have h2 := HQ3.out; omega)
          exact ⟨h.sl, h.time, h.len⟩)
        clear hkS5 HG4 HN4 HK4
        generalize w4.setCell ⟨q, 1, none⟩ (.int .i64 z) = w5 at *
        obtain ⟨f0, f1, f2, f3⟩ := cell_four HG5.out
        cases ok with
        | false =>
          go_wp2
          go_meet
          exact ⟨T, ta, tc, 0, rfl, rfl, Lib.hid fun _ => HTr.out, Lib.hid (HT2.out.keep HK5.out), HK5⟩
        | true =>
          have hP := refPut_any ta tc T p ⟨n.kind, z, n.time, n.bs⟩ na nc w5 (HT2.out.keep HK5.out) (by omega) HTP.out (by omega) HN5.out
          rw [nodeVal] at hP
          replace hP := Lib.hid hP
          have HS5 := Lib.hid (show (⟨n.kind, z, n.time, n.bs⟩ : NodeV).bs.length ≤ 60 from HNB.out rfl)
          go_wp2_with fail
          refine hP.out.mono ?_
          rintro e w9 hpe
          obtain ⟨v9, T9, R9, rfl, hT9, ho9, hk9⟩ := putEnd_own hpe
          have HTr9 := Lib.hid (show R9 = 0 → Tr T9 from fun hz => by
            have h0 := HTr.out.put (p := p) (n := ⟨n.kind, z, n.time, n.bs⟩) (by rw [hT9]; exact hz) HPQ.out HS5.out
            rw [hT9] at h0
            exact h0)
          obtain ⟨a9, c9, rfl, hTT9⟩ := ho9.tree
          have HK9 := Lib.hid (HK5.out.trans hk9)
          have HTT9 := Lib.hid hTT9
          clear hP hpe hT9 ho9 hk9 hTT9
          go_wp2
          go_meet
          exact ⟨T9, a9, c9, R9, rfl, rfl, HTr9, HTT9, HK9⟩
      have kb4 : (kk == 4) = false := by simp [k4]
      clear k4
      by_cases k5 : kk = 5
      · have kb : (kk == 5) = true := by simp [k5]
        clear k5
        go_wp2_with fail
        refine (Time_any r.t r.x w4 i6.1 i6.2).mono ?_
        rintro e w5 ⟨rfl, hk5⟩
        have htl := timeB_lt r.t r.x dtm
        generalize timeB r.t r.x = tb at *
        go_wp2_with fail
        refine (plainTime_any tb htl w5).mono ?_
        rintro e w' ⟨rfl, rfl⟩
        have hpt := plainB_lt htl
        generalize plainB tb = z at *
        have HK5 := Lib.hid (HK4.out.trans hk5)
        have HG5 := Lib.hid (hk5.hp HG4.out id)
        have HN5 := Lib.hid (HN4.out.keepF hk5)
        clear hk5 HG4 HN4 HK4
        obtain ⟨⟨p0, p1, p2, p3⟩, ⟨l0, l1, l2, l3⟩, lt3⟩ := cell_fr HG5.out
        go_upto_if 98 with fail
        clear p0 p1 p2 p3 l0 l1 l2 l3 lt3
        have hkS6 : Kp (fun b => b = q) w5 (w5.setCell ⟨q, 2, none⟩ (.float .f64 z)) := (Kp.refl (fun b => b = q) w5).setCell ⟨q, 2, none⟩ (.inl rfl) _
        have HK6 := Lib.hid (HK5.out.setCell ⟨q, 2, none⟩ (.inr HQ3.out) (.float .f64 z))
        have HG6 := Lib.hid (set_f2 (v := (.float .f64 z)) HG5.out)
        have HN6 := Lib.hid (show NAt (w5.setCell ⟨q, 2, none⟩ (.float .f64 z)) ⟨n.kind, n.mode, z, n.bs⟩ na nc from by
          have h := HN5.out.keepE hkS6 (fun hpos b hb h => by have h1 := HLt.out hpos b hb; have h2 := HQ3.out; omega)
          exact ⟨h.sl, hpt, h.len⟩)
        clear hkS6 HG5 HN5 HK5
        generalize w5.setCell ⟨q, 2, none⟩ (.float .f64 z) = w6 at *
        obtain ⟨f0, f1, f2, f3⟩ := cell_four HG6.out
        cases ok with
        | false =>
          go_wp2
          go_meet
          exact ⟨T, ta, tc, 0, rfl, rfl, Lib.hid fun _ => HTr.out, Lib.hid (HT2.out.keep HK6.out), HK6⟩
        | true =>
          have hP := refPut_any ta tc T p ⟨n.kind, n.mode, z, n.bs⟩ na nc w6 (HT2.out.keep HK6.out) (by omega) HTP.out (by omega) HN6.out
          rw [nodeVal] at hP
          replace hP := Lib.hid hP
          have HS5 := Lib.hid (show (⟨n.kind, n.mode, z, n.bs⟩ : NodeV).bs.length ≤ 60 from HNB.out rfl)
          go_wp2_with fail
          refine hP.out.mono ?_
          rintro e w9 hpe
          obtain ⟨v9, T9, R9, rfl, hT9, ho9, hk9⟩ := putEnd_own hpe
          have HTr9 := Lib.hid (show R9 = 0 → Tr T9 from fun hz => by
            have h0 := HTr.out.put (p := p) (n := ⟨n.kind, n.mode, z, n.bs⟩) (by rw [hT9]; exact hz) HPQ.out HS5.out
            rw [hT9] at h0
            exact h0)
          obtain ⟨a9, c9, rfl, hTT9⟩ := ho9.tree
          have HK9 := Lib.hid (HK6.out.trans hk9)
          have HTT9 := Lib.hid hTT9
          clear hP hpe hT9 ho9 hk9 hTT9
          go_wp2
          go_meet
          exact ⟨T9, a9, c9, R9, rfl, rfl, HTr9, HTT9, HK9⟩
      have kb5 : (kk == 5) = false := by simp [k5]
      clear k5
      by_cases k6 : kk = 6
      · have kb : (kk == 6) = true := by simp [k6]
        clear k6
        cases ok with
        | false =>
          go_wp2
          go_meet
          exact ⟨T, ta, tc, 0, rfl, rfl, Lib.hid fun _ => HTr.out, Lib.hid (HT2.out.keep HK4.out), HK4⟩
        | true =>
          obtain ⟨⟨p0, p1, p2, p3⟩, ⟨l0, l1, l2, l3⟩, lt3⟩ := cell_fr HG4.out
          by_cases hfk : n.kind = 1
          case neg =>
            have hfb : (n.kind == 1) = false := by simp [hfk]
            clear hfk
            go_wp2
            go_meet
            exact ⟨T, ta, tc, 0, rfl, rfl, Lib.hid fun _ => HTr.out, Lib.hid (HT2.out.keep HK4.out), HK4⟩
          have hfb : (n.kind == 1) = true := by simp [hfk]
          have HSL4 := Lib.hid (HSL2.out.keep HK4.out fun _ _ => id)
          have hdl : (r.d.take 60).length ≤ 60 := List.length_take_le _ _
          clear hfk
          go_wp2_with fail
          refine (Few_any (.slice ad r.d.length cp) ad cp r.d 60 w4 HSL4.out dln (by decide)).mono ?_
          rintro e w5 ⟨v5, rfl, ho5, hk5⟩
          generalize r.d.take 60 = dd at *
          obtain ⟨va, vc, hv5, _, hv5f⟩ := sl_of_owns ho5
          have he5 := hv5.eq
          subst he5
          have HS5 := Lib.hid hv5
          have HF5 := Lib.hid hv5f
          have HK5 := Lib.hid (HK4.out.trans hk5)
          have HG5 := Lib.hid (hk5.hp HG4.out id)
          have HTM := Lib.hid HN4.out.time
          have hqlt := hp_lt HG4.out
          clear hk5 HG4 HN4 HK4 ho5 hv5 hv5f p0 p1 p2 p3 l0 l1 l2 l3 lt3
          obtain ⟨⟨p0, p1, p2, p3⟩, ⟨l0, l1, l2, l3⟩, lt3⟩ := cell_fr HG5.out
          go_upto_region 26 with fail
          clear p0 p1 p2 p3 l0 l1 l2 l3 lt3
          have hkS6 : Kp (fun b => b = q) w5 (w5.setCell ⟨q, 3, none⟩ (.slice va dd.length vc)) := (Kp.refl (fun b => b = q) w5).setCell ⟨q, 3, none⟩ (.inl rfl) _
          have HK6 := Lib.hid (HK5.out.setCell ⟨q, 3, none⟩ (.inr HQ3.out) (.slice va dd.length vc))
          have HG6 := Lib.hid (set_f3 (v := .slice va dd.length vc) HG5.out)
          have HN6 := Lib.hid (show NAt (w5.setCell ⟨q, 3, none⟩ (.slice va dd.length vc)) ⟨n.kind, n.mode, n.time, dd⟩ va vc from ⟨HS5.out.keep hkS6 (fun b hb h => by have := (HF5.out b hb).1; omega), HTM.out, by show dd.length ≤ _; omega⟩)
          clear hkS6 HK5 HG5
          generalize w5.setCell ⟨q, 3, none⟩ (.slice va dd.length vc) = w6 at *
          obtain ⟨f0, f1, f2, f3⟩ := cell_four HG6.out
          have hP := refPut_any ta tc T p ⟨n.kind, n.mode, n.time, dd⟩ va vc w6 (HT2.out.keep HK6.out) (by omega) HTP.out (by omega) HN6.out
          rw [nodeVal] at hP
          replace hP := Lib.hid hP
          have HS5 := Lib.hid (show (⟨n.kind, n.mode, n.time, dd⟩ : NodeV).bs.length ≤ 60 from by show dd.length ≤ 60; omega)
          go_wp2_with fail
          refine hP.out.mono ?_
          rintro e w9 hpe
          obtain ⟨v9, T9, R9, rfl, hT9, ho9, hk9⟩ := putEnd_own hpe
          have HTr9 := Lib.hid (show R9 = 0 → Tr T9 from fun hz => by
            have h0 := HTr.out.put (p := p) (n := ⟨n.kind, n.mode, n.time, dd⟩) (by rw [hT9]; exact hz) HPQ.out HS5.out
            rw [hT9] at h0
            exact h0)
          obtain ⟨a9, c9, rfl, hTT9⟩ := ho9.tree
          have HK9 := Lib.hid (HK6.out.trans hk9)
          have HTT9 := Lib.hid hTT9
          clear hP hpe hT9 ho9 hk9 hTT9
          go_wp2
          go_meet
          exact ⟨T9, a9, c9, R9, rfl, rfl, HTr9, HTT9, HK9⟩
      have kb6 : (kk == 6) = false := by simp [k6]
      clear k6
      by_cases k7 : kk = 7
      · have kb : (kk == 7) = true := by simp [k7]
        clear k7
        go_wp2_with fail
        refine (Path_any r.tp w4 i3.1 i3.2).mono ?_
        rintro e w' ⟨rfl, rfl⟩
        have htpl := (pathB_len r.tp).2
        have HTPQ := Lib.hid (pathB_q r.tp)
        generalize pathB r.tp = tp at *
        go_wp2_with fail
        refine (refMove_any ta tc T p tp w4 (HT2.out.keep HK4.out) (by omega) HTP.out (by omega) (by omega)).mono ?_
        rintro e w9 hpe
        obtain ⟨v9, T9, R9, rfl, hT9, ho9, hk9⟩ := putEnd_own hpe
        have HTr9 := Lib.hid (show R9 = 0 → Tr T9 from fun hz => by
          have h0 := HTr.out.move (fr := p) (tp := tp) HTPQ.out (by rw [hT9]; exact hz)
          rw [hT9] at h0
          exact h0)
        obtain ⟨a9, c9, rfl, hTT9⟩ := ho9.tree
        have HK9 := Lib.hid (HK4.out.trans hk9)
        have HTT9 := Lib.hid hTT9
        clear hpe hT9 ho9 hk9 hTT9
        go_wp2
        go_meet
        exact ⟨T9, a9, c9, R9, rfl, rfl, HTr9, HTT9, HK9⟩
      have kb7 : (kk == 7) = false := by simp [k7]
      clear k7
      have hnd := Node_any r.k r.m r.t r.x ad cp r.d w4 (HSL2.out.keep HK4.out fun _ _ => id) dln dtm i4 i5 i6
      replace hnd := Lib.hid hnd
      have HSMN := Lib.hid (handNode_small r.k r.m r.t r.x r.d)
      generalize handNode r.k r.m r.t r.x r.d = nd at *
      go_wp2_with fail
      refine hnd.out.mono ?_
      rintro e w5 ⟨xa, xc, rfl, hn5, _, hk5⟩
      have HN5 := Lib.hid hn5
      have HK5 := Lib.hid (HK4.out.trans hk5)
      clear hn5 hk5 hnd HK4
      rw [nodeVal]
      have hP := refPut_any ta tc T p nd xa xc w5 (HT2.out.keep HK5.out) (by omega) HTP.out (by omega) HN5.out
      rw [nodeVal] at hP
      replace hP := Lib.hid hP
      have HS5 := Lib.hid (show (nd : NodeV).bs.length ≤ 60 from HSMN.out)
      go_wp2_with fail
      refine hP.out.mono ?_
      rintro e w9 hpe
      obtain ⟨v9, T9, R9, rfl, hT9, ho9, hk9⟩ := putEnd_own hpe
      have HTr9 := Lib.hid (show R9 = 0 → Tr T9 from fun hz => by
        have h0 := HTr.out.put (p := p) (n := nd) (by rw [hT9]; exact hz) HPQ.out HS5.out
        rw [hT9] at h0
        exact h0)
      obtain ⟨a9, c9, rfl, hTT9⟩ := ho9.tree
      have HK9 := Lib.hid (HK5.out.trans hk9)
      have HTT9 := Lib.hid hTT9
      clear hP hpe hT9 ho9 hk9 hTT9
      go_wp2
      go_meet
      exact ⟨T9, a9, c9, R9, rfl, rfl, HTr9, HTT9, HK9⟩
    clear HNB HLt HN4 HG4 HB4 HK4
    obtain ⟨T', ua, uc, e', rfl, rfl, HTr', HTT', HKc⟩ := hcut
    have HKw := Lib.hid (HK2.out.trans HKc.out)
    have HTo := Lib.hid (HT2.out.keep HKc.out)
    clear d0 d1 d2 d3 d4 d5 d6 d7
    by_cases hz : e' = 0
    · have HTz := Lib.hid (HTr'.out hz)
      have hzb : (e' == 0) = true := by simp [hz]
      clear hz HTr'
      go_wp2
      exact ⟨⟨T', ua, uc, i + 1, rfl, by go_num, by omega, by omega, HTz, HTT', HKw⟩, by simp only [intOf]; omega⟩
    · have hzb : (e' == 0) = false := by simp [hz]
      clear hz HTr'
      go_wp2
      exact ⟨⟨T, ta, tc, i + 1, rfl, by go_num, by omega, by omega, HTr, HTo, HKw⟩, by simp only [intOf]; omega⟩
end Go.Proofs.YtgpidbdgodgefaaDoor
