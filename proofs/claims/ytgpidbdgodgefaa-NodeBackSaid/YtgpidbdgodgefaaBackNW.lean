/- The walk of NodeBack: it answers true and turns nothing that was there. Conditions: as the theorems name them. -/
import Derived.Test.YtgpidbdgodgefaaTimesW
namespace Go.Proofs.Ytgpidbdgodgefaa
open Go.RowKit Go.Deep

set_option maxHeartbeats 6000000 in
set_option maxRecDepth 100000 in
theorem nodeBack_any (x y : RawV) (xa ya : Option Addr) (xc yc : Nat) (sv : Value) (sa : Option Addr) (sc : Nat) (zs : List UInt8) (w : World) (hx : RawOk w x xa xc) (hy : RawOk w y ya yc) (hs : Sl w sv sa sc zs) (hzl : zs.length ≤ 140737488355328) :
    Calls Try.prog 10 #[rawVal x xa xc, rawVal y ya yc, sv] w fun e w' => e = .returned (.bool true) ∧ Kp (fun _ => False) w w' := by
  have hsf : ∀ (a : Addr) (b : Nat) (m : Mode) (w : World), (store a (.float .f64 b) m).run Try.prog w = stored Try.prog w a (.float .f64 b) m := fun a b m w => run_store _ w a _ m rfl
  have hbits : ∀ (b : Nat) (w : World), (callFunc 38 #[.float .f64 b]).run Try.prog w = .ok (.value (.int .u64 b)) w := run_bits
  have hse := hs.eq
  subst hse
  have k0 : Kp (fun _ => False) w ((w.alloc (.cells #[.int .i64 x.k, .int .i64 x.m, .int .i64 x.t, .float .f64 x.x, .slice xa x.d.length xc] 55)).alloc (.cells #[.int .i64 y.k, .int .i64 y.m, .int .i64 y.t, .float .f64 y.x, .slice ya y.d.length yc] 55)) := ((Kp.refl _ w).alloc _).alloc _
  have HX := Lib.hid (hx.keepF k0); have HY := Lib.hid (hy.keepF k0); have HK := Lib.hid k0; have HS0 := Lib.hid hs
  have HXB := Lib.hid (hp_old (hp_new w (.cells #[.int .i64 x.k, .int .i64 x.m, .int .i64 x.t, .float .f64 x.x, .slice xa x.d.length xc] 55)) (.cells #[.int .i64 y.k, .int .i64 y.m, .int .i64 y.t, .float .f64 y.x, .slice ya y.d.length yc] 55))
  have HYB := Lib.hid (hp_new' (w.alloc (.cells #[.int .i64 x.k, .int .i64 x.m, .int .i64 x.t, .float .f64 x.x, .slice xa x.d.length xc] 55)) (.cells #[.int .i64 y.k, .int .i64 y.m, .int .i64 y.t, .float .f64 y.x, .slice ya y.d.length yc] 55) (n := w.heap.size + 1) (by simp))
  clear hx hy k0 hs
  unfold rawVal
  go_enter Try.func10, Try.ntmps10
  go_wp2_with fail
  generalize ((w.alloc (.cells #[.int .i64 x.k, .int .i64 x.m, .int .i64 x.t, .float .f64 x.x, .slice xa x.d.length xc] 55)).alloc (.cells #[.int .i64 y.k, .int .i64 y.m, .int .i64 y.t, .float .f64 y.x, .slice ya y.d.length yc] 55)) = w1 at *
  obtain ⟨x0, x1, x2, x3, x4⟩ := cell_fiv HXB.out
  go_wp2_with fail
  refine (handN_any x xa xc w1 HX.out).mono ?_
  rintro e w2 ⟨aa, ac, rfl, hna, hba, hk2⟩
  have HK2 := Lib.hid (HK.out.trans hk2); have HY2 := Lib.hid (HY.out.keepF hk2); have HYB2 := Lib.hid (hk2.hp HYB.out id)
  have HAN := Lib.hid hna
  have HRA : Hid (rightN (handN x) = true) := handNode_right x.k x.m x.t x.x x.d
  clear hna hba hk2 HXB HX HK HYB HY x0 x1 x2 x3 x4
  generalize handN x = A at *
  unfold nodeVal
  have HA3 := Lib.hid (NB.new HAN.out)
  have kF := (Kp.refl (fun _ => False) w2).alloc (.cells #[.int .i64 A.kind, .int .i64 A.mode, .float .f64 A.time, .slice aa A.bs.length ac] 57)
  have HK3 := Lib.hid (HK2.out.trans kF)
  have HY3 := Lib.hid (HY2.out.keepF kF); have HYB3 := Lib.hid (kF.hp HYB2.out id)
  clear HK2 HAN kF HY2 HYB2
  obtain ⟨y0, y1, y2, y3, y4⟩ := cell_fiv HYB3.out
  go_wp2_with fail
  generalize w2.alloc (.cells #[.int .i64 A.kind, .int .i64 A.mode, .float .f64 A.time, .slice aa A.bs.length ac] 57) = w3 at *
  generalize w2.heap.size = na at *
  refine (handN_any y ya yc w3 HY3.out).mono ?_
  rintro e w4 ⟨ba, bc, rfl, hnb, hbb, hk4⟩
  have HK4 := Lib.hid (HK3.out.trans hk4)
  have HA4 := Lib.hid (HA3.out.keepF hk4)
  have HBN := Lib.hid hnb
  have HRB : Hid (rightN (handN y) = true) := handNode_right y.k y.m y.t y.x y.d
  clear hnb hbb hk4 HK3 HA3 HY3 HYB3 y0 y1 y2 y3 y4
  generalize handN y = B at *
  unfold nodeVal
  have HB5 := Lib.hid (NB.new HBN.out)
  have kF := (Kp.refl (fun _ => False) w4).alloc (.cells #[.int .i64 B.kind, .int .i64 B.mode, .float .f64 B.time, .slice ba B.bs.length bc] 57)
  have HA5 := Lib.hid (HA4.out.keepF kF)
  have HK5 := Lib.hid (HK4.out.trans kF)
  clear kF HBN HK4 HA4
  obtain ⟨c0, c1, c2, c3⟩ := cell_four HA5.out.hp
  go_wp2_with fail
  generalize w4.alloc (.cells #[.int .i64 B.kind, .int .i64 B.mode, .float .f64 B.time, .slice ba B.bs.length bc] 57) = w5 at *
  generalize w4.heap.size = nb at *
  refine (Lay_any A aa ac w5 HA5.out.at').mono ?_
  rintro e w6 h6
  rcases h6 with ⟨_, v, rfl, hown, hk6⟩ | ⟨hf, _⟩
  case inr =>
    have := HRA.out
    rw [hf] at this
    cases this
  obtain ⟨la, lc, hl, _, _⟩ := sl_of_owns hown
  have he := hl.eq
  subst he
  have HL6 := Lib.hid hl
  have HA6 := Lib.hid (HA5.out.keepF hk6); have HB6 := Lib.hid (HB5.out.keepF hk6)
  have HK6 := Lib.hid (HK5.out.trans hk6)
  clear hown hk6 hl HA5 HK5 HB5 c0 c1 c2 c3
  obtain ⟨c0, c1, c2, c3⟩ := cell_four HB6.out.hp
  go_wp2_with fail
  refine (Lay_any B ba bc w6 HB6.out.at').mono ?_
  rintro e w7 h7
  rcases h7 with ⟨_, v, rfl, hown, hk7⟩ | ⟨hf, _⟩
  case inr =>
    have := HRB.out
    rw [hf] at this
    cases this
  obtain ⟨ma, mc, hm, _, _⟩ := sl_of_owns hown
  have he := hm.eq
  subst he
  have HM7 := Lib.hid hm
  have HL7 := Lib.hid (HL6.out.keep hk7 (fun _ _ => id))
  have HA7 := Lib.hid (HA6.out.keepF hk7); have HB7 := Lib.hid (HB6.out.keepF hk7)
  have HK7 := Lib.hid (HK6.out.trans hk7)
  have HLL := Lib.hid (show (layB A).length ≤ 140737488355328 by rw [layB_len]; have := rightN_len HRA.out; omega)
  have HRD := Lib.hid (readN_laid HRA.out HA7.out.at'.time)
  have hxy : (layB A == layB B) = sameN A B := by
    rw [Bool.eq_iff_iff, beq_iff_eq]
    exact layB_same HRA.out HRB.out HA7.out.at'.time HB7.out.at'.time
  clear hown hk7 hm HA6 HK6 HB6 HL6 c0 c1 c2 c3 HRA HRB
  generalize layB A = lb at *
  generalize layB B = mb at *
  go_wp2_with fail
  have HCELL : Hid (∀ w', Kp (fun _ => False) w7 w' → (w'.cell? ⟨na, 0, none⟩ = some (.int .i64 A.kind) ∧ w'.cell? ⟨na, 1, none⟩ = some (.int .i64 A.mode) ∧ w'.cell? ⟨na, 2, none⟩ = some (.float .f64 A.time) ∧ w'.cell? ⟨na, 3, none⟩ = some (.slice aa A.bs.length ac) ∧ w'.cell? ⟨nb, 0, none⟩ = some (.int .i64 B.kind) ∧ w'.cell? ⟨nb, 1, none⟩ = some (.int .i64 B.mode) ∧ w'.cell? ⟨nb, 2, none⟩ = some (.float .f64 B.time) ∧ w'.cell? ⟨nb, 3, none⟩ = some (.slice ba B.bs.length bc))) := fun w' k => by
    obtain ⟨a0, a1, a2, a3⟩ := cell_four (HA7.out.keepF k).hp
    obtain ⟨b0, b1, b2, b3⟩ := cell_four (HB7.out.keepF k).hp
    exact ⟨a0, a1, a2, a3, b0, b1, b2, b3⟩
  have HCONV : Hid (∀ w', Kp (fun _ => False) w7 w' → ((convert 27 9 (.slice la lb.length lc)).run Try.prog w' = .ok (.string ⟨lb.toArray⟩) w' ∧ (convert 27 9 (.slice ma mb.length mc)).run Try.prog w' = .ok (.string ⟨mb.toArray⟩) w')) := fun w' k =>
    ⟨run_conv (HL7.out.keep k (fun _ _ => id)), run_conv (HM7.out.keep k (fun _ _ => id))⟩
  have HGA := Lib.hid (fun (w' : World) (k : Kp (fun _ => False) w7 w') => (HA7.out.keepF k).at')
  have HGB := Lib.hid (fun (w' : World) (k : Kp (fun _ => False) w7 w') => (HB7.out.keepF k).at')
  --REGION5
  obtain ⟨vb, hvb⟩ : ∃ vb, vb = sameN A B := ⟨_, rfl⟩
  have HVB := Lib.hid hvb.symm
  rw [← hvb] at hxy
  clear hvb
  have HS : Hid (∀ w', Kp (fun _ => False) w7 w' → (w'.cell? ⟨na, 0, none⟩ = some (.int .i64 A.kind) ∧ w'.cell? ⟨na, 1, none⟩ = some (.int .i64 A.mode) ∧ w'.cell? ⟨na, 2, none⟩ = some (.float .f64 A.time) ∧ w'.cell? ⟨na, 3, none⟩ = some (.slice aa A.bs.length ac) ∧ w'.cell? ⟨nb, 0, none⟩ = some (.int .i64 B.kind) ∧ w'.cell? ⟨nb, 1, none⟩ = some (.int .i64 B.mode) ∧ w'.cell? ⟨nb, 2, none⟩ = some (.float .f64 B.time) ∧ w'.cell? ⟨nb, 3, none⟩ = some (.slice ba B.bs.length bc) ∧ (convert 27 9 (.slice la lb.length lc)).run Try.prog w' = .ok (.string ⟨lb.toArray⟩) w' ∧ (convert 27 9 (.slice ma mb.length mc)).run Try.prog w' = .ok (.string ⟨mb.toArray⟩) w')) := fun w' k => by
    obtain ⟨a0, a1, a2, a3, b0, b1, b2, b3⟩ := HCELL.out w' k
    obtain ⟨e1, e2⟩ := HCONV.out w' k
    exact ⟨a0, a1, a2, a3, b0, b1, b2, b3, e1, e2⟩
  clear HCELL HCONV
  refine region_z 20 (fun w' => w'.cell? ⟨na, 0, none⟩ = some (.int .i64 A.kind) ∧ w'.cell? ⟨na, 1, none⟩ = some (.int .i64 A.mode) ∧ w'.cell? ⟨na, 2, none⟩ = some (.float .f64 A.time) ∧ w'.cell? ⟨na, 3, none⟩ = some (.slice aa A.bs.length ac) ∧ w'.cell? ⟨nb, 0, none⟩ = some (.int .i64 B.kind) ∧ w'.cell? ⟨nb, 1, none⟩ = some (.int .i64 B.mode) ∧ w'.cell? ⟨nb, 2, none⟩ = some (.float .f64 B.time) ∧ w'.cell? ⟨nb, 3, none⟩ = some (.slice ba B.bs.length bc) ∧ (convert 27 9 (.slice la lb.length lc)).run Try.prog w' = .ok (.string ⟨lb.toArray⟩) w' ∧ (convert 27 9 (.slice ma mb.length mc)).run Try.prog w' = .ok (.string ⟨mb.toArray⟩) w') (by kernel_rfl) (HS.out _ (Kp.refl (fun _ => False) w7).drew) (fun hS => ?_)
  refine anyZ_one (i := 0) (by kernel_rfl) rfl (fun K hK => ?_)
  go_simp
  refine (known10_any _).mono ?_
  rintro e v1 ⟨rfl, hv1⟩
  have KV1 := Lib.hid (((Kp.refl (fun _ => False) w7).drew).trans hv1)
  clear hv1
  try go_wp2_with fail
  refine hK.out _ _ (fun _ => ?_) (fun hSS => ?_)
  · exact HS.out _ KV1.out
  have hS := hSS (by decide)
  clear hSS hK K
  try simp only [Act.put, List.setIfInBounds_toArray, List.set_cons_zero, List.set_cons_succ, List.getElem_toArray, List.getElem_cons_succ, List.getElem_cons_zero]
  refine anyZ_take (i := 1) (v := ?_) rfl (by kernel_rfl) (by kernel_rfl) (by kernel_rfl) (by kernel_rfl) (fun _ _ _ h => h) (Or.inl ⟨by rfl, ?_⟩) (by assumption) ?_
  rotate_left 1
  · (intro w hSw; (try dsimp only at hSw); go_simp; try with_reducible rfl)
  try simp only [Act.put, List.setIfInBounds_toArray, List.set_cons_zero, List.set_cons_succ, List.getElem_toArray, List.getElem_cons_succ, List.getElem_cons_zero]
  refine anyZ_take (i := 2) (v := ?_) rfl (by kernel_rfl) (by kernel_rfl) (by kernel_rfl) (by kernel_rfl) (fun _ _ _ h => h) (Or.inl ⟨by rfl, ?_⟩) (by assumption) ?_
  rotate_left 1
  · (intro w hSw; (try dsimp only at hSw); go_simp; try with_reducible rfl)
  try simp only [Act.put, List.setIfInBounds_toArray, List.set_cons_zero, List.set_cons_succ, List.getElem_toArray, List.getElem_cons_succ, List.getElem_cons_zero]
  refine anyZ_take (i := 3) (v := ?_) rfl (by kernel_rfl) (by kernel_rfl) (by kernel_rfl) (by kernel_rfl) (fun _ _ _ h => h) (Or.inl ⟨by rfl, ?_⟩) (by assumption) ?_
  rotate_left 1
  · (intro w hSw; (try dsimp only at hSw); go_simp; try with_reducible rfl)
  try simp only [Act.put, List.setIfInBounds_toArray, List.set_cons_zero, List.set_cons_succ, List.getElem_toArray, List.getElem_cons_succ, List.getElem_cons_zero]
  refine anyZ_take (i := 4) (v := ?_) rfl (by kernel_rfl) (by kernel_rfl) (by kernel_rfl) (by kernel_rfl) (fun _ _ _ h => h) (Or.inl ⟨by rfl, ?_⟩) (by assumption) ?_
  rotate_left 1
  · (intro w hSw; (try dsimp only at hSw); go_simp; try with_reducible rfl)
  try simp only [Act.put, List.setIfInBounds_toArray, List.set_cons_zero, List.set_cons_succ, List.getElem_toArray, List.getElem_cons_succ, List.getElem_cons_zero]
  refine anyZ_take (i := 5) (v := ?_) rfl (by kernel_rfl) (by kernel_rfl) (by kernel_rfl) (by kernel_rfl) (fun _ _ _ h => h) (Or.inl ⟨by rfl, ?_⟩) (by assumption) ?_
  rotate_left 1
  · (intro w hSw; (try dsimp only at hSw); go_simp; try with_reducible rfl)
  try simp only [Act.put, List.setIfInBounds_toArray, List.set_cons_zero, List.set_cons_succ, List.getElem_toArray, List.getElem_cons_succ, List.getElem_cons_zero]
  refine anyZ_take (i := 6) (v := ?_) rfl (by kernel_rfl) (by kernel_rfl) (by kernel_rfl) (by kernel_rfl) (fun _ _ _ h => h) (Or.inl ⟨by rfl, ?_⟩) (by assumption) ?_
  rotate_left 1
  · (intro w hSw; (try dsimp only at hSw); go_simp; try with_reducible rfl)
  try simp only [Act.put, List.setIfInBounds_toArray, List.set_cons_zero, List.set_cons_succ, List.getElem_toArray, List.getElem_cons_succ, List.getElem_cons_zero]
  refine anyZ_take (i := 7) (v := ?_) rfl (by kernel_rfl) (by kernel_rfl) (by kernel_rfl) (by kernel_rfl) (fun _ _ _ h => h) (Or.inl ⟨by rfl, ?_⟩) (by assumption) ?_
  rotate_left 1
  · (intro w hSw; (try dsimp only at hSw); go_simp; try with_reducible rfl)
  try simp only [Act.put, List.setIfInBounds_toArray, List.set_cons_zero, List.set_cons_succ, List.getElem_toArray, List.getElem_cons_succ, List.getElem_cons_zero]
  refine anyZ_take (i := 8) (v := ?_) rfl (by kernel_rfl) (by kernel_rfl) (by kernel_rfl) (by kernel_rfl) (fun _ _ _ h => h) (Or.inl ⟨by rfl, ?_⟩) (by assumption) ?_
  rotate_left 1
  · (intro w hSw; (try dsimp only at hSw); go_simp; try with_reducible rfl)
  try simp only [Act.put, List.setIfInBounds_toArray, List.set_cons_zero, List.set_cons_succ, List.getElem_toArray, List.getElem_cons_succ, List.getElem_cons_zero]
  refine anyZ_take (i := 9) (v := ?_) rfl (by kernel_rfl) (by kernel_rfl) (by kernel_rfl) (by kernel_rfl) (fun _ _ _ h => h) (Or.inl ⟨by rfl, ?_⟩) (by assumption) ?_
  rotate_left 1
  · (intro w hSw; (try dsimp only at hSw); go_simp; try with_reducible rfl)
  try simp only [Act.put, List.setIfInBounds_toArray, List.set_cons_zero, List.set_cons_succ, List.getElem_toArray, List.getElem_cons_succ, List.getElem_cons_zero]
  refine anyZ_take (i := 10) (v := ?_) rfl (by kernel_rfl) (by kernel_rfl) (by kernel_rfl) (by kernel_rfl) (fun _ _ _ h => h) (Or.inl ⟨by rfl, ?_⟩) (by assumption) ?_
  rotate_left 1
  · (intro w hSw; (try dsimp only at hSw); go_simp; try with_reducible rfl)
  try simp only [Act.put, List.setIfInBounds_toArray, List.set_cons_zero, List.set_cons_succ, List.getElem_toArray, List.getElem_cons_succ, List.getElem_cons_zero]
  refine anyZ_take (i := 11) (v := ?_) rfl (by kernel_rfl) (by kernel_rfl) (by kernel_rfl) (by kernel_rfl) (fun _ _ _ h => h) (Or.inl ⟨by rfl, ?_⟩) (by assumption) ?_
  rotate_left 1
  · (intro w hSw; (try dsimp only at hSw); go_simp; try with_reducible rfl)
  try simp only [Act.put, List.setIfInBounds_toArray, List.set_cons_zero, List.set_cons_succ, List.getElem_toArray, List.getElem_cons_succ, List.getElem_cons_zero]
  refine anyZ_take (i := 12) (v := ?_) rfl (by kernel_rfl) (by kernel_rfl) (by kernel_rfl) (by kernel_rfl) (fun _ _ _ h => h) (Or.inl ⟨by rfl, ?_⟩) (by assumption) ?_
  rotate_left 1
  · (intro w hSw; (try dsimp only at hSw); go_simp; try with_reducible rfl)
  try simp only [Act.put, List.setIfInBounds_toArray, List.set_cons_zero, List.set_cons_succ, List.getElem_toArray, List.getElem_cons_succ, List.getElem_cons_zero]
  refine anyZ_take (i := 13) (v := ?_) rfl (by kernel_rfl) (by kernel_rfl) (by kernel_rfl) (by kernel_rfl) (fun _ _ _ h => h) (Or.inl ⟨by rfl, ?_⟩) (by assumption) ?_
  rotate_left 1
  · (intro w hSw; (try dsimp only at hSw); go_simp; try with_reducible rfl)
  try simp only [Act.put, List.setIfInBounds_toArray, List.set_cons_zero, List.set_cons_succ, List.getElem_toArray, List.getElem_cons_succ, List.getElem_cons_zero]
  refine anyZ_take (i := 14) (v := ?_) rfl (by kernel_rfl) (by kernel_rfl) (by kernel_rfl) (by kernel_rfl) (fun _ _ _ h => h) (Or.inl ⟨by rfl, ?_⟩) (by assumption) ?_
  rotate_left 1
  · (intro w hSw; (try dsimp only at hSw); go_simp; try with_reducible rfl)
  try simp only [Act.put, List.setIfInBounds_toArray, List.set_cons_zero, List.set_cons_succ, List.getElem_toArray, List.getElem_cons_succ, List.getElem_cons_zero]
  refine anyZ_take (i := 15) (v := ?_) rfl (by kernel_rfl) (by kernel_rfl) (by kernel_rfl) (by kernel_rfl) (fun _ _ _ h => h) (Or.inl ⟨by rfl, ?_⟩) (by assumption) ?_
  rotate_left 1
  · (intro w hSw; (try dsimp only at hSw); go_simp; try with_reducible rfl)
  try simp only [Act.put, List.setIfInBounds_toArray, List.set_cons_zero, List.set_cons_succ, List.getElem_toArray, List.getElem_cons_succ, List.getElem_cons_zero]
  refine anyZ_take (i := 16) (v := ?_) rfl (by kernel_rfl) (by kernel_rfl) (by kernel_rfl) (by kernel_rfl) (fun _ _ _ h => h) (Or.inl ⟨by rfl, ?_⟩) (by assumption) ?_
  rotate_left 1
  · (intro w hSw; (try dsimp only at hSw); go_simp; try with_reducible rfl)
  try simp only [Act.put, List.setIfInBounds_toArray, List.set_cons_zero, List.set_cons_succ, List.getElem_toArray, List.getElem_cons_succ, List.getElem_cons_zero]
  refine anyZ_take (i := 17) (v := ?_) rfl (by kernel_rfl) (by kernel_rfl) (by kernel_rfl) (by kernel_rfl) (fun _ _ _ h => h) (Or.inl ⟨by rfl, ?_⟩) (by assumption) ?_
  rotate_left 1
  · (intro w hSw; (try dsimp only at hSw); go_simp; try with_reducible rfl)
  try simp only [Act.put, List.setIfInBounds_toArray, List.set_cons_zero, List.set_cons_succ, List.getElem_toArray, List.getElem_cons_succ, List.getElem_cons_zero]
  refine anyZ_one (i := 18) (by kernel_rfl) rfl (fun K hK => ?_)
  go_simp
  refine (nodeSame_any A B aa ba ac bc _ (HGA.out _ KV1.out) (HGB.out _ KV1.out)).mono ?_
  rintro e v2 ⟨rfl, hv2⟩
  rw [HVB.out]
  have KV2 := Lib.hid (KV1.out.trans hv2)
  clear hv2
  try go_wp2_with fail
  refine hK.out _ _ (fun _ => ?_) (fun hSS => ?_)
  · exact HS.out _ KV2.out
  have hS := hSS (by decide)
  clear hSS hK K
  try simp only [Act.put, List.setIfInBounds_toArray, List.set_cons_zero, List.set_cons_succ, List.getElem_toArray, List.getElem_cons_succ, List.getElem_cons_zero]
  refine anyZ_take (i := 19) (v := ?_) rfl (by kernel_rfl) (by kernel_rfl) (by kernel_rfl) (by kernel_rfl) (fun _ _ _ h => h) (Or.inl ⟨by rfl, ?_⟩) (by assumption) ?_
  rotate_left 1
  · (intro w hSw; (try dsimp only at hSw); go_simp; try with_reducible rfl)
  try simp only [Act.put, List.setIfInBounds_toArray, List.set_cons_zero, List.set_cons_succ, List.getElem_toArray, List.getElem_cons_succ, List.getElem_cons_zero]
  refine anyZ_one (i := 20) (by kernel_rfl) rfl (fun K hK => ?_)
  go_simp
  refine hK.out _ _ (fun h => absurd rfl h) (fun _ => ?_)
  clear hK K
  try simp only [Act.put, List.setIfInBounds_toArray, List.set_cons_zero, List.set_cons_succ, List.getElem_toArray, List.getElem_cons_succ, List.getElem_cons_zero]
  refine anyZ_done (by kernel_rfl) ?_ _
  clear hS HS HGA HGB
  have HA8 := Lib.hid (HA7.out.keepF KV2.out)
  have HL8 := Lib.hid (HL7.out.keep KV2.out (fun _ _ => id))
  have HK8 := Lib.hid (HK7.out.trans KV2.out)
  clear HA7 HB7 HL7 HM7 HK7 KV1 KV2
  go_wp2_with fail
  refine (Read_any la lc lb v2 HL8.out HLL.out).mono ?_
  rintro e w9 ⟨hk9, ⟨o, oa, oc, hro, rfl, hno, _⟩ | ⟨hro, _⟩⟩
  case inr =>
    rw [HRD.out] at hro
    cases hro
  obtain rfl : A = o := by
    rw [HRD.out] at hro
    exact Option.some.inj hro
  have HA9 := Lib.hid (HA8.out.keepF (hk9.alloc (.cells #[.int .i64 A.kind, .int .i64 A.mode, .float .f64 A.time, .slice oa A.bs.length oc] 57)))
  have HK9 := Lib.hid (HK8.out.trans (hk9.alloc (.cells #[.int .i64 A.kind, .int .i64 A.mode, .float .f64 A.time, .slice oa A.bs.length oc] 57)))
  have HO9 := Lib.hid (NB.new hno)
  clear hk9 hro hno HA8 HL8 HK8 HLL HRD
  unfold nodeVal
  go_wp2_with fail
  generalize w9.alloc (.cells #[.int .i64 A.kind, .int .i64 A.mode, .float .f64 A.time, .slice oa A.bs.length oc] 57) = w10 at *
  generalize w9.heap.size = nc at *
  have HGA := Lib.hid (fun (w' : World) (k : Kp (fun _ => False) w10 w') => (HA9.out.keepF k).at')
  have HGC := Lib.hid (fun (w' : World) (k : Kp (fun _ => False) w10 w') => (HO9.out.keepF k).at')
  have HSA := Lib.hid (sameN_refl A)
  have HS : Hid (∀ w', Kp (fun _ => False) w10 w' → (w'.cell? ⟨na, 0, none⟩ = some (.int .i64 A.kind) ∧ w'.cell? ⟨na, 1, none⟩ = some (.int .i64 A.mode) ∧ w'.cell? ⟨na, 2, none⟩ = some (.float .f64 A.time) ∧ w'.cell? ⟨na, 3, none⟩ = some (.slice aa A.bs.length ac) ∧ w'.cell? ⟨nc, 0, none⟩ = some (.int .i64 A.kind) ∧ w'.cell? ⟨nc, 1, none⟩ = some (.int .i64 A.mode) ∧ w'.cell? ⟨nc, 2, none⟩ = some (.float .f64 A.time) ∧ w'.cell? ⟨nc, 3, none⟩ = some (.slice oa A.bs.length oc))) := fun w' k => by
    obtain ⟨a0, a1, a2, a3⟩ := cell_four (HA9.out.keepF k).hp
    obtain ⟨b0, b1, b2, b3⟩ := cell_four (HO9.out.keepF k).hp
    exact ⟨a0, a1, a2, a3, b0, b1, b2, b3⟩
  refine region_z 16 (fun w' => w'.cell? ⟨na, 0, none⟩ = some (.int .i64 A.kind) ∧ w'.cell? ⟨na, 1, none⟩ = some (.int .i64 A.mode) ∧ w'.cell? ⟨na, 2, none⟩ = some (.float .f64 A.time) ∧ w'.cell? ⟨na, 3, none⟩ = some (.slice aa A.bs.length ac) ∧ w'.cell? ⟨nc, 0, none⟩ = some (.int .i64 A.kind) ∧ w'.cell? ⟨nc, 1, none⟩ = some (.int .i64 A.mode) ∧ w'.cell? ⟨nc, 2, none⟩ = some (.float .f64 A.time) ∧ w'.cell? ⟨nc, 3, none⟩ = some (.slice oa A.bs.length oc)) (by kernel_rfl) (HS.out _ (Kp.refl (fun _ => False) w10).drew) (fun hS => ?_)
  refine anyZ_take (i := 0) (v := ?_) rfl (by kernel_rfl) (by kernel_rfl) (by kernel_rfl) (by kernel_rfl) (fun _ _ _ h => h) (Or.inl ⟨by rfl, ?_⟩) (by assumption) ?_
  rotate_left 1
  · (intro w hSw; (try dsimp only at hSw); go_simp; try with_reducible rfl)
  try simp only [Act.put, List.setIfInBounds_toArray, List.set_cons_zero, List.set_cons_succ, List.getElem_toArray, List.getElem_cons_zero]
  refine anyZ_take (i := 1) (v := ?_) rfl (by kernel_rfl) (by kernel_rfl) (by kernel_rfl) (by kernel_rfl) (fun _ _ _ h => h) (Or.inl ⟨by rfl, ?_⟩) (by assumption) ?_
  rotate_left 1
  · (intro w hSw; (try dsimp only at hSw); go_simp; try with_reducible rfl)
  try simp only [Act.put, List.setIfInBounds_toArray, List.set_cons_zero, List.set_cons_succ, List.getElem_toArray, List.getElem_cons_succ, List.getElem_cons_zero]
  refine anyZ_take (i := 2) (v := ?_) rfl (by kernel_rfl) (by kernel_rfl) (by kernel_rfl) (by kernel_rfl) (fun _ _ _ h => h) (Or.inl ⟨by rfl, ?_⟩) (by assumption) ?_
  rotate_left 1
  · (intro w hSw; (try dsimp only at hSw); go_simp; try with_reducible rfl)
  try simp only [Act.put, List.setIfInBounds_toArray, List.set_cons_zero, List.set_cons_succ, List.getElem_toArray, List.getElem_cons_succ, List.getElem_cons_zero]
  refine anyZ_take (i := 3) (v := ?_) rfl (by kernel_rfl) (by kernel_rfl) (by kernel_rfl) (by kernel_rfl) (fun _ _ _ h => h) (Or.inl ⟨by rfl, ?_⟩) (by assumption) ?_
  rotate_left 1
  · (intro w hSw; (try dsimp only at hSw); go_simp; try with_reducible rfl)
  try simp only [Act.put, List.setIfInBounds_toArray, List.set_cons_zero, List.set_cons_succ, List.getElem_toArray, List.getElem_cons_succ, List.getElem_cons_zero]
  refine anyZ_take (i := 4) (v := ?_) rfl (by kernel_rfl) (by kernel_rfl) (by kernel_rfl) (by kernel_rfl) (fun _ _ _ h => h) (Or.inl ⟨by rfl, ?_⟩) (by assumption) ?_
  rotate_left 1
  · (intro w hSw; (try dsimp only at hSw); go_simp; try with_reducible rfl)
  try simp only [Act.put, List.setIfInBounds_toArray, List.set_cons_zero, List.set_cons_succ, List.getElem_toArray, List.getElem_cons_succ, List.getElem_cons_zero]
  refine anyZ_one (i := 5) (by kernel_rfl) rfl (fun K hK => ?_)
  go_simp
  refine (nodeSame_any A A aa oa ac oc _ (HGA.out _ ((Kp.refl (fun _ => False) w10).drew)) (HGC.out _ ((Kp.refl (fun _ => False) w10).drew))).mono ?_
  rintro e v3 ⟨rfl, hv3⟩
  rw [HSA.out]
  have KV3 := Lib.hid (((Kp.refl (fun _ => False) w10).drew).trans hv3)
  clear hv3
  try go_wp2_with fail
  refine hK.out _ _ (fun _ => ?_) (fun hSS => ?_)
  · exact HS.out _ KV3.out
  have hS := hSS (by decide)
  clear hSS hK K
  try simp only [Act.put, List.setIfInBounds_toArray, List.set_cons_zero, List.set_cons_succ, List.getElem_toArray, List.getElem_cons_succ, List.getElem_cons_zero]
  refine anyZ_take (i := 6) (v := ?_) rfl (by kernel_rfl) (by kernel_rfl) (by kernel_rfl) (by kernel_rfl) (fun _ _ _ h => h) (Or.inl ⟨by rfl, ?_⟩) (by assumption) ?_
  rotate_left 1
  · (intro w hSw; (try dsimp only at hSw); go_simp; try with_reducible rfl)
  try simp only [Act.put, List.setIfInBounds_toArray, List.set_cons_zero, List.set_cons_succ, List.getElem_toArray, List.getElem_cons_succ, List.getElem_cons_zero]
  refine anyZ_take (i := 7) (v := ?_) rfl (by kernel_rfl) (by kernel_rfl) (by kernel_rfl) (by kernel_rfl) (fun _ _ _ h => h) (Or.inl ⟨by rfl, ?_⟩) (by assumption) ?_
  rotate_left 1
  · (intro w hSw; (try dsimp only at hSw); go_simp; try with_reducible rfl)
  try simp only [Act.put, List.setIfInBounds_toArray, List.set_cons_zero, List.set_cons_succ, List.getElem_toArray, List.getElem_cons_succ, List.getElem_cons_zero]
  refine anyZ_take (i := 8) (v := ?_) rfl (by kernel_rfl) (by kernel_rfl) (by kernel_rfl) (by kernel_rfl) (fun _ _ _ h => h) (Or.inl ⟨by rfl, ?_⟩) (by assumption) ?_
  rotate_left 1
  · (intro w hSw; (try dsimp only at hSw); go_simp; try with_reducible rfl)
  try simp only [Act.put, List.setIfInBounds_toArray, List.set_cons_zero, List.set_cons_succ, List.getElem_toArray, List.getElem_cons_succ, List.getElem_cons_zero]
  refine anyZ_take (i := 9) (v := ?_) rfl (by kernel_rfl) (by kernel_rfl) (by kernel_rfl) (by kernel_rfl) (fun _ _ _ h => h) (Or.inl ⟨by rfl, ?_⟩) (by assumption) ?_
  rotate_left 1
  · (intro w hSw; (try dsimp only at hSw); go_simp; try with_reducible rfl)
  try simp only [Act.put, List.setIfInBounds_toArray, List.set_cons_zero, List.set_cons_succ, List.getElem_toArray, List.getElem_cons_succ, List.getElem_cons_zero]
  refine anyZ_take (i := 10) (v := ?_) rfl (by kernel_rfl) (by kernel_rfl) (by kernel_rfl) (by kernel_rfl) (fun _ _ _ h => h) (Or.inl ⟨by rfl, ?_⟩) (by assumption) ?_
  rotate_left 1
  · (intro w hSw; (try dsimp only at hSw); go_simp; try with_reducible rfl)
  try simp only [Act.put, List.setIfInBounds_toArray, List.set_cons_zero, List.set_cons_succ, List.getElem_toArray, List.getElem_cons_succ, List.getElem_cons_zero]
  refine anyZ_take (i := 11) (v := ?_) rfl (by kernel_rfl) (by kernel_rfl) (by kernel_rfl) (by kernel_rfl) (fun _ _ _ h => h) (Or.inl ⟨by rfl, ?_⟩) (by assumption) ?_
  rotate_left 1
  · (intro w hSw; (try dsimp only at hSw); go_simp; try with_reducible rfl)
  try simp only [Act.put, List.setIfInBounds_toArray, List.set_cons_zero, List.set_cons_succ, List.getElem_toArray, List.getElem_cons_succ, List.getElem_cons_zero]
  refine anyZ_take (i := 12) (v := ?_) rfl (by kernel_rfl) (by kernel_rfl) (by kernel_rfl) (by kernel_rfl) (fun _ _ _ h => h) (Or.inl ⟨by rfl, ?_⟩) (by assumption) ?_
  rotate_left 1
  · (intro w hSw; (try dsimp only at hSw); go_simp; try with_reducible rfl)
  try simp only [Act.put, List.setIfInBounds_toArray, List.set_cons_zero, List.set_cons_succ, List.getElem_toArray, List.getElem_cons_succ, List.getElem_cons_zero]
  refine anyZ_take (i := 13) (v := ?_) rfl (by kernel_rfl) (by kernel_rfl) (by kernel_rfl) (by kernel_rfl) (fun _ _ _ h => h) (Or.inl ⟨by rfl, ?_⟩) (by assumption) ?_
  rotate_left 1
  · (intro w hSw; (try dsimp only at hSw); go_simp; try with_reducible rfl)
  try simp only [Act.put, List.setIfInBounds_toArray, List.set_cons_zero, List.set_cons_succ, List.getElem_toArray, List.getElem_cons_succ, List.getElem_cons_zero]
  refine anyZ_take (i := 14) (v := ?_) rfl (by kernel_rfl) (by kernel_rfl) (by kernel_rfl) (by kernel_rfl) (fun _ _ _ h => h) (Or.inl ⟨by rfl, ?_⟩) (by assumption) ?_
  rotate_left 1
  · (intro w hSw; (try dsimp only at hSw); go_simp; try with_reducible rfl)
  try simp only [Act.put, List.setIfInBounds_toArray, List.set_cons_zero, List.set_cons_succ, List.getElem_toArray, List.getElem_cons_succ, List.getElem_cons_zero]
  refine anyZ_take (i := 15) (v := ?_) rfl (by kernel_rfl) (by kernel_rfl) (by kernel_rfl) (by kernel_rfl) (fun _ _ _ h => h) (Or.inl ⟨by rfl, ?_⟩) (by assumption) ?_
  rotate_left 1
  · (intro w hSw; (try dsimp only at hSw); go_simp; try with_reducible rfl)
  try simp only [Act.put, List.setIfInBounds_toArray, List.set_cons_zero, List.set_cons_succ, List.getElem_toArray, List.getElem_cons_succ, List.getElem_cons_zero]
  refine anyZ_one (i := 16) (by kernel_rfl) rfl (fun K hK => ?_)
  go_simp
  refine hK.out _ _ (fun h => absurd rfl h) (fun _ => ?_)
  clear hK K
  try simp only [Act.put, List.setIfInBounds_toArray, List.set_cons_zero, List.set_cons_succ, List.getElem_toArray, List.getElem_cons_succ, List.getElem_cons_zero]
  refine anyZ_done (by kernel_rfl) ?_ _
  clear hS HS HGA HGC HSA
  have HK11 := Lib.hid (HK9.out.trans KV3.out)
  have HZ11 := Lib.hid (HS0.out.keep HK11.out (fun _ _ => id))
  clear HA9 HO9 HK9 KV3
  go_wp2_with fail
  refine (Read_any sa sc zs v3 HZ11.out hzl).mono ?_
  rintro e w12 ⟨hk12, ⟨D, da, dc, hro, rfl, hno, _⟩ | ⟨hro, rfl⟩⟩
  · have HK12 := Lib.hid (HK11.out.trans hk12)
    have HZ12 := Lib.hid (HZ11.out.keep hk12 (fun _ _ => id))
    obtain ⟨hb1, hb2, _⟩ := readN_back hro
    have HLB := Lib.hid hb1; have HRD := Lib.hid hb2
    have HD13 := Lib.hid (NB.new hno)
    have HK13 := Lib.hid (HK12.out.alloc (.cells #[.int .i64 D.kind, .int .i64 D.mode, .float .f64 D.time, .slice da D.bs.length dc] 57))
    have HZ13 := Lib.hid (HZ12.out.keep ((Kp.refl (fun _ => False) w12).alloc (.cells #[.int .i64 D.kind, .int .i64 D.mode, .float .f64 D.time, .slice da D.bs.length dc] 57)) (fun _ _ => id))
    clear hk12 hro hno hb1 hb2 HK11 HZ11 HK12 HZ12
    obtain ⟨c0, c1, c2, c3⟩ := cell_four HD13.out.hp
    unfold nodeVal
    go_wp2_with fail
    clear c0 c1 c2 c3
    generalize w12.alloc (.cells #[.int .i64 D.kind, .int .i64 D.mode, .float .f64 D.time, .slice da D.bs.length dc] 57) = w13 at *
    generalize w12.heap.size = nd at *
    refine (Lay_any D da dc w13 HD13.out.at').mono ?_
    rintro e w14 h14
    rcases h14 with ⟨_, v, rfl, hown, hk14⟩ | ⟨hf, _⟩
    case inr =>
      have := HRD.out
      rw [hf] at this
      cases this
    obtain ⟨ea, ec, hl, _, _⟩ := sl_of_owns hown
    have he := hl.eq
    subst he
    rw [HLB.out] at hl
    rw [HLB.out]
    have HK14 := Lib.hid (HK13.out.trans hk14)
    have HZ14 := Lib.hid (HZ13.out.keep hk14 (fun _ _ => id))
    have HD14 := Lib.hid (HD13.out.keepF hk14)
    have cv1 := run_conv hl
    have cv2 := run_conv HZ14.out
    obtain ⟨c0, c1, c2, c3⟩ := cell_four HD14.out.hp
    clear hown hl hk14 HD13 HK13 HZ13 HLB
    go_wp2_with fail
    refine (right_any D da dc w14 HD14.out.at').mono ?_
    rintro e w15 ⟨rfl, hk15⟩
    rw [HRD.out]
    have HK15 := Lib.hid (HK14.out.trans hk15)
    clear hk15 HD14 HK14 HZ14 c0 c1 c2 c3 cv1 cv2
    go_wp2
    go_ret
    exact ⟨rfl, HK15.out⟩
  · have HK13 := Lib.hid ((HK11.out.trans hk12).alloc (.cells #[.int .i64 0, .int .i64 0, .float .f64 0, .slice none 0 0] 57))
    obtain ⟨c0, c1, c2, c3⟩ := cell_four (hp_new w12 (.cells #[.int .i64 0, .int .i64 0, .float .f64 0, .slice none 0 0] 57))
    clear hk12 hro HK11 HZ11
    unfold nodeVal
    dsimp only [List.length_nil]
    go_wp2
    go_ret
    exact ⟨rfl, HK13.out⟩
end Go.Proofs.Ytgpidbdgodgefaa
