/- The document's Diff: its contract. Conditions: as the theorem names them. -/
import Derived.Test.YtgpidbdgodgefaaDoorDiffM
import Derived.Test.YtgpidbdgodgefaaDoorPathsD
import Derived.Deep.CutRange
import Derived.Deep.RegionHeld3
namespace Go.Proofs.YtgpidbdgodgefaaDoor
open Go.RowKit Go.Deep

/-- Changes that the call has made. -/
def DiffEnd (w : World) (D : List ChangeV) (e : Ending) (w' : World) : Prop := ∃ v L base, e = .returned v ∧ L.map (·.x) = D ∧ w.heap.size ≤ base ∧ OwnC w' base v L ∧ Kp (fun _ => False) w w'

set_option maxHeartbeats 16000000 in
set_option maxRecDepth 100000 in
theorem diff_any (a1 a2 : Option Addr) (c1 c2 : Nat) (T1 T2 : List ItemV) (w : World) (hT1 : TreeAt w a1 T1) (hT2 : TreeAt w a2 T2) (hl1 : T1.length ≤ 1000) (hl2 : T2.length ≤ 1000) :
    Calls Tryd.prog 51 #[.slice a1 T1.length c1, .slice a2 T2.length c2] w (DiffEnd w (diffL T1 T2)) := by
  have HT1 := Lib.hid hT1
  have HT2 := Lib.hid hT2
  have hsf : ∀ (a : Addr) (b : Nat) (m : Mode) (w : World), (store a (.float .f64 b) m).run Tryd.prog w = stored Tryd.prog w a (.float .f64 b) m := fun a b m w => run_store _ w a _ m rfl
  have HDE := Lib.hid (show diffL T1 T2 = (pathsL T1 T2).filterMap (chg T1 T2) from rfl)
  have hpl := pathsL_len T1 T2
  have k1 : Kp (fun _ => False) w (w.alloc (.cells #[.slice a1 T1.length c1, .slice a2 T2.length c2] 45)) := (Kp.refl _ w).alloc _
  have hh := hp_new w (.cells #[.slice a1 T1.length c1, .slice a2 T2.length c2] 45)
  have HP := Lib.hid (paths2_any w.heap.size a1 a2 c1 c2 T1 T2 (w.alloc (.cells #[.slice a1 T1.length c1, .slice a2 T2.length c2] 45)) (by simp only [World.cell?, hh]; rfl) (by simp only [World.cell?, hh]; rfl) (hT1.keep k1) (hT2.keep k1) hl1 hl2)
  have HK1 := Lib.hid k1
  clear hT1 hT2 k1 hh
  go_enter Tryd.func51, Tryd.ntmps51
  go_wp2_with fail
  refine HP.out.mono ?_
  rintro e w2 ⟨P, pa, pc, rfl, hPe, hPs, hk2⟩
  have HPE := Lib.hid hPe
  have HPS := Lib.hid hPs
  have HK2 := Lib.hid (HK1.out.trans hk2)
  rw [← hPe] at hpl
  clear hPe hPs hk2 HP HK1
  go_wp2_with fail
  go_loopw [5, 7] (fun u v wr => ∃ (i : Nat) (L : List ChgP), v = .int .i64 i ∧ i ≤ P.length ∧ L.length ≤ i ∧ Hid (L.map (·.x) = (P.take i).filterMap (chg T1 T2)) ∧ Hid (OwnC wr w2.heap.size u L) ∧ Hid (Kp (fun _ => False) w2 wr)) (fun _ v _ => P.length - (intOf v).toNat)
  case atStart => exact ⟨0, [], rfl, Nat.zero_le _, Nat.le_refl _, Lib.hid rfl, Lib.hid (OwnC.nil _ _), Lib.hid (Kp.refl _ _)⟩
  case round =>
    obtain ⟨i, L, rfl, hil, hLl, HL, HO, HK⟩ := hrel
    by_cases hlt : i < P.length
    case neg =>
      have HX := Lib.hid (show L.map (·.x) = diffL T1 T2 from by rw [HL.out, List.take_of_length_le (by omega), HDE.out, HPE.out])
      go_wp2
      go_ret
      exact ⟨u5, L, w2.heap.size, rfl, HX.out, HK2.out.size, HO.out, HK2.out.trans HK.out⟩
    obtain ⟨b, off, rfl, hc0⟩ := HPS.out.seg i hlt
    have hc := HK.out.cell hc0 id
    have hblt : b < w2.heap.size := World.block_lt_of_cell? _ _ hc0
    have HTK := Lib.hid (show (P.take (i + 1)).filterMap (chg T1 T2) = (P.take i).filterMap (chg T1 T2) ++ (chg T1 T2 P[i]).toList from by
      rw [List.take_succ_eq_append_getElem hlt, List.filterMap_append]
      cases h : chg T1 T2 P[i] <;> simp [h])
    unfold strV at hc hc0
    have HC0 := Lib.hid hc0
    clear hc0
    generalize P[i] = p at *
    go_wp2_with fail
    refine (refGet0_any a1 c1 T1 p w wr HT1.out (HK2.out.trans HK.out) (by omega)).mono ?_
    rintro e w3 ⟨n1, x1, y1, rfl, g1, g2, g3, g4, hk3⟩
    have HE1 : Hid (n1 = nodeO (lookT T1 p)) := by
      show _ = _
      cases ho : lookT T1 p with
      | none => exact g2 ho
      | some x => exact g1 x ho
    rw [nodeVal]
    have k4 : Kp (fun _ => False) w3 (w3.alloc (.cells #[.int .i64 n1.kind, .int .i64 n1.mode, .float .f64 n1.time, .slice x1 n1.bs.length y1] 42)) := (Kp.refl _ w3).alloc _
    have HK4 := Lib.hid ((HK.out.trans hk3).trans k4)
    have HZ4 := Lib.hid hk3.size
    have HN14 := Lib.hid (g3.keepF k4)
    have HL1 := Lib.hid g4
    have HB14 := Lib.hid (hp_new w3 (.cells #[.int .i64 n1.kind, .int .i64 n1.mode, .float .f64 n1.time, .slice x1 n1.bs.length y1] 42))
    have HOO := Lib.hid ((HO.out.keep hk3).keep k4)
    have HOL := Lib.hid HO.out.lt
    have hc4 := (hk3.trans k4).cell hc id
    clear g1 g2 g3 g4 hk3 k4 HO HK
    go_upto_region 7 with fail
    generalize w3.alloc (.cells #[.int .i64 n1.kind, .int .i64 n1.mode, .float .f64 n1.time, .slice x1 n1.bs.length y1] 42) = w4 at *
    generalize w3.heap.size = q1 at *
    go_wp2_with fail
    refine (refGet0_any a2 c2 T2 p w w4 HT2.out (HK2.out.trans HK4.out) (by omega)).mono ?_
    rintro e w5 ⟨n2, x2, y2, rfl, g1, g2, g3, g4, hk5⟩
    have HE2 : Hid (n2 = nodeO (lookT T2 p)) := by
      show _ = _
      cases ho : lookT T2 p with
      | none => exact g2 ho
      | some x => exact g1 x ho
    rw [nodeVal]
    have k6 : Kp (fun _ => False) w5 (w5.alloc (.cells #[.int .i64 n2.kind, .int .i64 n2.mode, .float .f64 n2.time, .slice x2 n2.bs.length y2] 42)) := (Kp.refl _ w5).alloc _
    have HK26 := Lib.hid ((HK4.out.trans hk5).trans k6)
    have HZ5 := Lib.hid hk5.size
    have HQ14 := Lib.hid (hp_lt HB14.out)
    have HN1 := Lib.hid ((HN14.out.keepF hk5).keepF k6)
    have HN2 := Lib.hid (g3.keepF k6)
    have HL2 := Lib.hid g4
    have HB1 := Lib.hid (k6.hp (hk5.hp HB14.out id) id)
    have HB2 := Lib.hid (hp_new w5 (.cells #[.int .i64 n2.kind, .int .i64 n2.mode, .float .f64 n2.time, .slice x2 n2.bs.length y2] 42))
    have HO6 := Lib.hid ((HOO.out.keep hk5).keep k6)
    have HCH := Lib.hid (show chg T1 T2 p = if (lookT T1 p).isSome = true ∧ (lookT T2 p).isSome = true ∧ sameN n1 n2 = true then none else some ⟨p, kindR n1 n2 (lookT T1 p).isSome (lookT T2 p).isSome, n1, n2⟩ from by rw [HE1.out, HE2.out]; rfl)
    clear g1 g2 g3 g4 hk5 k6 HOO HN14 HB14 HE1 HE2 hc hc4
    generalize (lookT T1 p).isSome = b1 at *
    generalize (lookT T2 p).isSome = b2 at *
    go_upto_region 8 with fail
    generalize w5.alloc (.cells #[.int .i64 n2.kind, .int .i64 n2.mode, .float .f64 n2.time, .slice x2 n2.bs.length y2] 42) = w6 at *
    generalize hq2 : w5.heap.size = q2 at *
    have HSEP := Lib.hid (show ∀ k, u5.ownBlock = some k → k ≠ b ∧ k ≠ q1 ∧ k ≠ q2 from fun k h => by
      have h1 := HOL.out k h
      have h2 := HZ4.out
      have h3 := HZ5.out
      have h4 := HQ14.out
      omega)
    have HLO := Lib.hid (show (0 < n1.bs.length → ∀ b, blk x1 = some b → b < w2.heap.size) ∧ (0 < n2.bs.length → ∀ b, blk x2 = some b → b < w2.heap.size) from ⟨fun hp b hb => Nat.lt_of_lt_of_le (HL1.out hp b hb) HK2.out.size, fun hp b hb => Nat.lt_of_lt_of_le (HL2.out hp b hb) HK2.out.size⟩)
    clear HL1 HL2 HOL HZ4 HZ5 HQ14 hq2 HK4
    obtain ⟨e0, e1, e2, e3⟩ := cell_four HB1.out
    obtain ⟨f0, f1, f2, f3⟩ := cell_four HB2.out
    go_cut [48] from 40 to 47 (fun v wx => ∃ bb : Bool, v = .bool bb ∧ Hid (bb = (b1 && (b2 && sameN n1 n2))) ∧ Hid (Kp (fun _ => False) w6 wx))
    case first =>
      cases b1 with
      | false =>
        go_wp2
        go_meet
        exact ⟨false, by simp, Lib.hid rfl, Lib.hid (Kp.refl _ _)⟩
      | true =>
        cases b2 with
        | false =>
          go_wp2
          go_meet
          exact ⟨false, by simp, Lib.hid rfl, Lib.hid (Kp.refl _ _)⟩
        | true =>
          have hSN := refSameNode_any n1 n2 x1 x2 y1 y2 w6 HN1.out HN2.out
          unfold nodeVal at hSN
          replace hSN := Lib.hid hSN
          go_wp2_with fail
          refine hSN.out.mono ?_
          rintro e w7 ⟨rfl, hk7⟩
          have HK7 := Lib.hid hk7
          clear hk7 hSN
          go_wp2
          go_meet
          exact ⟨sameN n1 n2, by simp, Lib.hid rfl, HK7⟩
    clear e0 e1 e2 e3 f0 f1 f2 f3
    obtain ⟨bb, rfl, HBB, HKc⟩ := hcut
    cases bb with
    | true =>
      have HN := Lib.hid (show chg T1 T2 p = none from by
        rw [HCH.out, if_pos]
        have h := HBB.out
        cases b1 <;> cases b2 <;> simp at h ⊢
        exact h)
      have HOc := Lib.hid (HO6.out.keep HKc.out)
      have HKcc := Lib.hid (HK26.out.trans HKc.out)
      clear HBB HCH
      go_wp2
      exact ⟨⟨i + 1, L, by go_num, by omega, by omega, Lib.hid (by rw [HTK.out, HN.out, HL.out]; simp), HOc, HKcc⟩, by simp only [intOf]; omega⟩
    | false =>
      obtain ⟨kd, hkd0⟩ : ∃ kd, kd = kindR n1 n2 b1 b2 := ⟨_, rfl⟩
      have HN := Lib.hid (show chg T1 T2 p = some ⟨p, kd, n1, n2⟩ from by
        rw [HCH.out, if_neg, hkd0]
        rintro ⟨h1, h2, h3⟩
        have h := HBB.out
        rw [h1, h2, h3] at h
        cases h)
      replace HN1 := Lib.hid (HN1.out.keepF HKc.out)
      replace HN2 := Lib.hid (HN2.out.keepF HKc.out)
      replace HO6 := Lib.hid (HO6.out.keep HKc.out)
      replace HB1 := Lib.hid (HKc.out.hp HB1.out id)
      replace HB2 := Lib.hid (HKc.out.hp HB2.out id)
      replace HK26 := Lib.hid (HK26.out.trans HKc.out)
      have HK6 := Lib.hid (HK2.out.trans HK26.out)
      have HKD : Hid (∀ w1, Kp (fun _ => False) wc w1 → Calls Tryd.prog 75 #[nodeVal n1 x1 y1, nodeVal n2 x2 y2, .bool b1, .bool b2] w1 fun e w' => e = .returned (.int .i64 kd) ∧ Kp (fun _ => False) wc w') := fun w1 h => (refKind_any n1 n2 x1 x2 y1 y2 b1 b2 w1 (HN1.out.keepF h) (HN2.out.keepF h)).mono fun e w' ⟨he, hk⟩ => ⟨by rw [he, hkd0], h.trans hk⟩
      unfold nodeVal at HKD
      have HSK : Hid (∀ w', Kp (fun _ => False) wc w' → (w'.cell? ⟨b, off + i, none⟩ = some (.string ⟨p.toArray⟩) ∧ w'.cell? ⟨q1, 0, none⟩ = some (.int .i64 n1.kind) ∧ w'.cell? ⟨q1, 1, none⟩ = some (.int .i64 n1.mode) ∧ w'.cell? ⟨q1, 2, none⟩ = some (.float .f64 n1.time) ∧ w'.cell? ⟨q1, 3, none⟩ = some (.slice x1 n1.bs.length y1) ∧ w'.cell? ⟨q2, 0, none⟩ = some (.int .i64 n2.kind) ∧ w'.cell? ⟨q2, 1, none⟩ = some (.int .i64 n2.mode) ∧ w'.cell? ⟨q2, 2, none⟩ = some (.float .f64 n2.time) ∧ w'.cell? ⟨q2, 3, none⟩ = some (.slice x2 n2.bs.length y2))) := fun w' k => by
        obtain ⟨e0, e1, e2, e3⟩ := cell_four (k.hp HB1.out id)
        obtain ⟨f0, f1, f2, f3⟩ := cell_four (k.hp HB2.out id)
        exact ⟨(HK26.out.trans k).cell HC0.out id, e0, e1, e2, e3, f0, f1, f2, f3⟩
      have hkd : Kp (fun _ => False) wc wc.drew := (Kp.refl _ wc).drew
      have hij : (i : Int) < P.length := by omega
      have hi0 : (0 : Int) ≤ i := by omega
      clear HBB HCH hkd0
      go_wp2_with fail
      refine wp_region_held_drew (S := fun w' => w'.cell? ⟨b, off + i, none⟩ = some (.string ⟨p.toArray⟩) ∧ w'.cell? ⟨q1, 0, none⟩ = some (.int .i64 n1.kind) ∧ w'.cell? ⟨q1, 1, none⟩ = some (.int .i64 n1.mode) ∧ w'.cell? ⟨q1, 2, none⟩ = some (.float .f64 n1.time) ∧ w'.cell? ⟨q1, 3, none⟩ = some (.slice x1 n1.bs.length y1) ∧ w'.cell? ⟨q2, 0, none⟩ = some (.int .i64 n2.kind) ∧ w'.cell? ⟨q2, 1, none⟩ = some (.int .i64 n2.mode) ∧ w'.cell? ⟨q2, 2, none⟩ = some (.float .f64 n2.time) ∧ w'.cell? ⟨q2, 3, none⟩ = some (.slice x2 n2.bs.length y2)) (by kernel_rfl) (HSK.out _ hkd) (fun hS => ?_)
      refine wpAnyH_take (i := 0) (v := ?_) rfl (by kernel_rfl) (by kernel_rfl) (by kernel_rfl) (fun _ _ _ h => h) (Or.inl ⟨by rfl, ?_⟩) (by assumption) ?_
      rotate_left 1
      · (intro w hSw; (try dsimp only at hSw); go_simp; try with_reducible rfl)
      try simp only [Act.put, List.setIfInBounds_toArray, List.set_cons_zero, List.set_cons_succ, List.getElem_toArray, List.getElem_cons_zero]
      refine wpAnyH_take (i := 1) (v := ?_) rfl (by kernel_rfl) (by kernel_rfl) (by kernel_rfl) (fun _ _ _ h => h) (Or.inl ⟨by rfl, ?_⟩) (by assumption) ?_
      rotate_left 1
      · (intro w hSw; (try dsimp only at hSw); go_simp; try with_reducible rfl)
      try simp only [Act.put, List.setIfInBounds_toArray, List.set_cons_zero, List.set_cons_succ, List.getElem_toArray, List.getElem_cons_succ, List.getElem_cons_zero]
      refine wpAnyH_take (i := 2) (v := ?_) rfl (by kernel_rfl) (by kernel_rfl) (by kernel_rfl) (fun _ _ _ h => h) (Or.inl ⟨by rfl, ?_⟩) (by assumption) ?_
      rotate_left 1
      · (intro w hSw; (try dsimp only at hSw); go_simp; try with_reducible rfl)
      try simp only [Act.put, List.setIfInBounds_toArray, List.set_cons_zero, List.set_cons_succ, List.getElem_toArray, List.getElem_cons_succ, List.getElem_cons_zero]
      refine wpAnyH_take (i := 3) (v := ?_) rfl (by kernel_rfl) (by kernel_rfl) (by kernel_rfl) (fun _ _ _ h => h) (Or.inl ⟨by rfl, ?_⟩) (by assumption) ?_
      rotate_left 1
      · (intro w hSw; (try dsimp only at hSw); go_simp; try with_reducible rfl)
      try simp only [Act.put, List.setIfInBounds_toArray, List.set_cons_zero, List.set_cons_succ, List.getElem_toArray, List.getElem_cons_succ, List.getElem_cons_zero]
      refine wpAnyH_take (i := 4) (v := ?_) rfl (by kernel_rfl) (by kernel_rfl) (by kernel_rfl) (fun _ _ _ h => h) (Or.inl ⟨by rfl, ?_⟩) (by assumption) ?_
      rotate_left 1
      · (intro w hSw; (try dsimp only at hSw); go_simp; try with_reducible rfl)
      try simp only [Act.put, List.setIfInBounds_toArray, List.set_cons_zero, List.set_cons_succ, List.getElem_toArray, List.getElem_cons_succ, List.getElem_cons_zero]
      refine wpAnyH_take (i := 5) (v := ?_) rfl (by kernel_rfl) (by kernel_rfl) (by kernel_rfl) (fun _ _ _ h => h) (Or.inl ⟨by rfl, ?_⟩) (by assumption) ?_
      rotate_left 1
      · (intro w hSw; (try dsimp only at hSw); go_simp; try with_reducible rfl)
      try simp only [Act.put, List.setIfInBounds_toArray, List.set_cons_zero, List.set_cons_succ, List.getElem_toArray, List.getElem_cons_succ, List.getElem_cons_zero]
      refine wpAnyH_take (i := 6) (v := ?_) rfl (by kernel_rfl) (by kernel_rfl) (by kernel_rfl) (fun _ _ _ h => h) (Or.inl ⟨by rfl, ?_⟩) (by assumption) ?_
      rotate_left 1
      · (intro w hSw; (try dsimp only at hSw); go_simp; try with_reducible rfl)
      try simp only [Act.put, List.setIfInBounds_toArray, List.set_cons_zero, List.set_cons_succ, List.getElem_toArray, List.getElem_cons_succ, List.getElem_cons_zero]
      refine wpAnyH_take (i := 7) (v := ?_) rfl (by kernel_rfl) (by kernel_rfl) (by kernel_rfl) (fun _ _ _ h => h) (Or.inl ⟨by rfl, ?_⟩) (by assumption) ?_
      rotate_left 1
      · (intro w hSw; (try dsimp only at hSw); go_simp; try with_reducible rfl)
      try simp only [Act.put, List.setIfInBounds_toArray, List.set_cons_zero, List.set_cons_succ, List.getElem_toArray, List.getElem_cons_succ, List.getElem_cons_zero]
      refine wpAnyH_take (i := 8) (v := ?_) rfl (by kernel_rfl) (by kernel_rfl) (by kernel_rfl) (fun _ _ _ h => h) (Or.inl ⟨by rfl, ?_⟩) (by assumption) ?_
      rotate_left 1
      · (intro w hSw; (try dsimp only at hSw); go_simp; try with_reducible rfl)
      try simp only [Act.put, List.setIfInBounds_toArray, List.set_cons_zero, List.set_cons_succ, List.getElem_toArray, List.getElem_cons_succ, List.getElem_cons_zero]
      refine wpAnyH_take (i := 10) (v := ?_) rfl (by kernel_rfl) (by kernel_rfl) (by kernel_rfl) (fun _ _ _ h => h) (Or.inl ⟨by rfl, ?_⟩) (by assumption) ?_
      rotate_left 1
      · (intro w hSw; (try dsimp only at hSw); go_simp; try with_reducible rfl)
      try simp only [Act.put, List.setIfInBounds_toArray, List.set_cons_zero, List.set_cons_succ, List.getElem_toArray, List.getElem_cons_succ, List.getElem_cons_zero]
      refine wpAnyH_take (i := 11) (v := ?_) rfl (by kernel_rfl) (by kernel_rfl) (by kernel_rfl) (fun _ _ _ h => h) (Or.inl ⟨by rfl, ?_⟩) (by assumption) ?_
      rotate_left 1
      · (intro w hSw; (try dsimp only at hSw); go_simp; try with_reducible rfl)
      try simp only [Act.put, List.setIfInBounds_toArray, List.set_cons_zero, List.set_cons_succ, List.getElem_toArray, List.getElem_cons_succ, List.getElem_cons_zero]
      refine wpAnyH_ready (rs := [9]) (by kernel_rfl) (by simp) (AllReadyH.cons rfl (fun K hK => ?_) AllReadyH.nil)
      go_simp
      refine (HKD.out _ hkd).mono ?_
      rintro e v9 ⟨rfl, hk9⟩
      try go_wp2_with fail
      refine hK.out _ _ ?_ (fun hS => ?_)
      · first | exact hSapp | exact HSK.out _ (by assumption) | exact HSK.out _ (Kp.alloc (by assumption) _)
      clear hK K
      try simp only [Act.put, List.setIfInBounds_toArray, List.set_cons_zero, List.set_cons_succ, List.getElem_toArray, List.getElem_cons_succ, List.getElem_cons_zero]
      refine wpAnyH_take (i := 12) (v := ?_) rfl (by kernel_rfl) (by kernel_rfl) (by kernel_rfl) (fun _ _ _ h => h) (Or.inl ⟨by rfl, ?_⟩) (by assumption) ?_
      rotate_left 1
      · (intro w hSw; (try dsimp only at hSw); go_simp; try with_reducible rfl)
      try simp only [Act.put, List.setIfInBounds_toArray, List.set_cons_zero, List.set_cons_succ, List.getElem_toArray, List.getElem_cons_succ, List.getElem_cons_zero]
      refine wpAnyH_ready (rs := [13]) (by kernel_rfl) (by simp) (AllReadyH.cons rfl (fun K hK => ?_) AllReadyH.nil)
      go_simp
      refine hK.out _ _ ?_ (fun hS => ?_)
      · first | exact hSapp | exact HSK.out _ (by assumption) | exact HSK.out _ (Kp.alloc (by assumption) _)
      clear hK K
      try simp only [Act.put, List.setIfInBounds_toArray, List.set_cons_zero, List.set_cons_succ, List.getElem_toArray, List.getElem_cons_succ, List.getElem_cons_zero]
      refine wpAnyH_ready (rs := [14]) (by kernel_rfl) (by simp) (AllReadyH.cons rfl (fun K hK => ?_) AllReadyH.nil)
      have k13 : Kp (fun _ => False) v9 (v9.alloc (.cells #[.string ⟨p.toArray⟩, .int .i64 kd, .int .i64 n1.kind, .int .i64 n1.mode, .float .f64 n1.time, .slice x1 n1.bs.length y1, .int .i64 n2.kind, .int .i64 n2.mode, .float .f64 n2.time, .slice x2 n2.bs.length y2] 52)) := (Kp.refl _ v9).alloc _
      have HO13 := Lib.hid (HO6.out.keep (hk9.trans k13))
      have hy13 : (ChgP.mk ⟨p, kd, n1, n2⟩ x1 y1 x2 y2).Ok (v9.alloc (.cells #[.string ⟨p.toArray⟩, .int .i64 kd, .int .i64 n1.kind, .int .i64 n1.mode, .float .f64 n1.time, .slice x1 n1.bs.length y1, .int .i64 n2.kind, .int .i64 n2.mode, .float .f64 n2.time, .slice x2 n2.bs.length y2] 52)) := ⟨HN1.out.keepF (hk9.trans k13), HN2.out.keepF (hk9.trans k13)⟩
      have hg13 := hp_new v9 (.cells #[.string ⟨p.toArray⟩, .int .i64 kd, .int .i64 n1.kind, .int .i64 n1.mode, .float .f64 n1.time, .slice x1 n1.bs.length y1, .int .i64 n2.kind, .int .i64 n2.mode, .float .f64 n2.time, .slice x2 n2.bs.length y2] 52)
      have hkw13 := HK6.out.trans (hk9.trans k13)
      rw [if_pos (by rfl)]
      refine wp_append_chg w2.heap.size (.tmp 49) (.tmp 62) rfl u5 L rfl HO13.out (by have := (HK26.out.trans (hk9.trans k13)).size; exact this) ⟨⟨p, kd, n1, n2⟩, x1, y1, x2, y2⟩ hy13 HLO.out v9.heap.size rfl 52 (0, 0) hg13 (by omega) ?_
      intro v14 w14 hown14 hk14
      have hsep : ∀ k, u5.ownBlock = some k → k ≠ b ∧ k ≠ q1 ∧ k ≠ q2 := fun k h => HSEP.out k h
      have hSapp : w14.cell? ⟨b, off + i, none⟩ = some (.string ⟨p.toArray⟩) ∧ w14.cell? ⟨q1, 0, none⟩ = some (.int .i64 n1.kind) ∧ w14.cell? ⟨q1, 1, none⟩ = some (.int .i64 n1.mode) ∧ w14.cell? ⟨q1, 2, none⟩ = some (.float .f64 n1.time) ∧ w14.cell? ⟨q1, 3, none⟩ = some (.slice x1 n1.bs.length y1) ∧ w14.cell? ⟨q2, 0, none⟩ = some (.int .i64 n2.kind) ∧ w14.cell? ⟨q2, 1, none⟩ = some (.int .i64 n2.mode) ∧ w14.cell? ⟨q2, 2, none⟩ = some (.float .f64 n2.time) ∧ w14.cell? ⟨q2, 3, none⟩ = some (.slice x2 n2.bs.length y2) := by
        obtain ⟨z0, z1, z2, z3, z4, z5, z6, z7, z8⟩ := HSK.out _ (hk9.trans k13)
        exact ⟨hk14.cell z0 fun h => (hsep _ h).1 rfl, hk14.cell z1 fun h => (hsep _ h).2.1 rfl, hk14.cell z2 fun h => (hsep _ h).2.1 rfl, hk14.cell z3 fun h => (hsep _ h).2.1 rfl, hk14.cell z4 fun h => (hsep _ h).2.1 rfl, hk14.cell z5 fun h => (hsep _ h).2.2 rfl, hk14.cell z6 fun h => (hsep _ h).2.2 rfl, hk14.cell z7 fun h => (hsep _ h).2.2 rfl, hk14.cell z8 fun h => (hsep _ h).2.2 rfl⟩
      have HO14 := Lib.hid hown14
      have HK14b := Lib.hid ((HK26.out.trans (hk9.trans k13)).step hk14 fun k hk h => by have := (HO13.out.lt k h).1; omega)
      clear hown14 hk14 hsep
      refine hK.out _ _ ?_ (fun hS => ?_)
      · first | exact hSapp | exact HSK.out _ (by assumption) | exact HSK.out _ (Kp.alloc (by assumption) _)
      clear hK K
      try simp only [Act.put, List.setIfInBounds_toArray, List.set_cons_zero, List.set_cons_succ, List.getElem_toArray, List.getElem_cons_succ, List.getElem_cons_zero]
      refine wpAnyH_take (i := 15) (v := ?_) rfl (by kernel_rfl) (by kernel_rfl) (by kernel_rfl) (fun _ _ _ h => h) (Or.inl ⟨by rfl, ?_⟩) (by assumption) ?_
      rotate_left 1
      · (intro w hSw; (try dsimp only at hSw); go_simp; try with_reducible rfl)
      try simp only [Act.put, List.setIfInBounds_toArray, List.set_cons_zero, List.set_cons_succ, List.getElem_toArray, List.getElem_cons_succ, List.getElem_cons_zero]
      refine wpAnyH_done (by kernel_rfl) ?_ _
      go_wp2
      exact ⟨⟨i + 1, L ++ [⟨⟨p, kd, n1, n2⟩, x1, y1, x2, y2⟩], by go_num, by omega, by rw [List.length_append]; simp only [List.length_cons, List.length_nil]; omega, Lib.hid (by rw [HTK.out, HN.out, List.map_append, HL.out]; rfl), HO14, HK14b⟩, by simp only [intOf]; omega⟩
end Go.Proofs.YtgpidbdgodgefaaDoor
