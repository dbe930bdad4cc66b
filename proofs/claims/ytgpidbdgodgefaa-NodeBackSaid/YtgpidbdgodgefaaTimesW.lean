/- The walk of NodeTimes: it answers true and turns nothing that was there. Conditions: as the theorems name them. -/
import Derived.Test.YtgpidbdgodgefaaSameW
import Derived.Test.YtgpidbdgodgefaaNodeLaw
namespace Go.Proofs.Ytgpidbdgodgefaa
open Go.RowKit Go.Deep

theorem NB.lt {w : World} {n : NodeV} {b : Nat} {a : Option Addr} {c : Nat} (h : NB w n b a c) : b < w.heap.size := hp_lt h.hp
/-- A node of another time. -/
def NodeV.at (n : NodeV) (t : Nat) : NodeV := ⟨n.kind, n.mode, t, n.bs⟩
theorem NB.setTime {w : World} {n : NodeV} {b : Nat} {a : Option Addr} {c : Nat} (h : NB w n b a c) (t : Nat) (ht : t < 18446744073709551616) : NB (w.setCell ⟨b, 2, none⟩ (.float .f64 t)) (n.at t) b a c :=
  ⟨set_f2 h.hp, ⟨h.at'.sl.keep2 ((Kp.refl (fun k => k = b) w).setCell ⟨b, 2, none⟩ (.inl rfl) _) (fun hp k hk e => h.sep hp k hk e), ht, h.at'.len⟩, h.sep⟩
theorem NB.setOther {w : World} {n : NodeV} {b q : Nat} {a : Option Addr} {c : Nat} (h : NB w n b a c) (hq : b ≠ q) (hs : 0 < n.bs.length → ∀ k, blk a = some k → k ≠ q) (i : Nat) (v : Value) : NB (w.setCell ⟨q, i, none⟩ v) n b a c :=
  h.keep ((Kp.refl (fun k => k = q) w).setCell ⟨q, i, none⟩ (.inl rfl) v) hq (fun hp k hk e => hs hp k hk e)
theorem rightN_at {n : NodeV} (h : rightN n = true) (t : Nat) : rightN (n.at (plainB t)) = true := by
  unfold rightN dataN NodeV.at at *
  dsimp only at h ⊢
  simp only [Bool.and_eq_true] at h ⊢
  exact ⟨h.1, h.2.1, h.2.2.1, by rw [plainB_idem]; simp⟩
theorem rightN_odd (n : NodeV) : rightN (n.at 9221120237041090562) = false := by
  unfold rightN NodeV.at
  have : (plainB 9221120237041090562 == 9221120237041090562) = false := by decide
  dsimp only
  rw [this]
  simp
theorem sameN_at (n : NodeV) (s t : Nat) : sameN (n.at s) (n.at t) = sameT s t := by
  unfold sameN NodeV.at
  simp

set_option maxHeartbeats 6000000 in
set_option maxRecDepth 100000 in
theorem nodeTimes_any (x : RawV) (xa : Option Addr) (xc : Nat) (a b : Int) (p q : Nat) (w : World) (hx : RawOk w x xa xc) (ha : -9223372036854775808 ≤ a ∧ a ≤ 9223372036854775807) (hb : -9223372036854775808 ≤ b ∧ b ≤ 9223372036854775807) (hp : p < 18446744073709551616) (hq : q < 18446744073709551616) :
    Calls Try.prog 12 #[rawVal x xa xc, .int .i64 a, .int .i64 b, .float .f64 p, .float .f64 q] w fun e w' => e = .returned (.bool true) ∧ Kp (fun _ => False) w w' := by
  have hsf : ∀ (a : Addr) (b : Nat) (m : Mode) (w : World), (store a (.float .f64 b) m).run Try.prog w = stored Try.prog w a (.float .f64 b) m := fun a b m w => run_store _ w a _ m rfl
  have hbits : ∀ (b : Nat) (w : World), (callFunc 38 #[.float .f64 b]).run Try.prog w = .ok (.value (.int .u64 b)) w := run_bits
  have hfrom : ∀ (w : World), (callFunc 62 #[.int .u64 9221120237041090562]).run Try.prog w = .ok (.value (.float .f64 9221120237041090562)) w := fun w => run_frombits 9221120237041090562 w
  obtain ⟨ha1, ha2⟩ := ha
  obtain ⟨hb1, hb2⟩ := hb
  have k0 : Kp (fun _ => False) w (w.alloc (.cells #[.int .i64 x.k, .int .i64 x.m, .int .i64 x.t, .float .f64 x.x, .slice xa x.d.length xc] 55)) := (Kp.refl _ w).alloc _
  have HX := Lib.hid (hx.keepF k0); have HK := Lib.hid k0
  have HXB := Lib.hid (hp_new w (.cells #[.int .i64 x.k, .int .i64 x.m, .int .i64 x.t, .float .f64 x.x, .slice xa x.d.length xc] 55))
  have HTA := Lib.hid (plainB_lt (timeB_lt a p hp)); have HTB := Lib.hid (plainB_lt (timeB_lt b q hq))
  have HTA0 := Lib.hid (timeB_lt a p hp); have HTB0 := Lib.hid (timeB_lt b q hq)
  clear hx k0 hp hq
  unfold rawVal
  go_enter Try.func12, Try.ntmps12
  go_wp2_with fail
  generalize w.alloc (.cells #[.int .i64 x.k, .int .i64 x.m, .int .i64 x.t, .float .f64 x.x, .slice xa x.d.length xc] 55) = w1 at *
  obtain ⟨x0, x1, x2, x3, x4⟩ := cell_fiv HXB.out
  go_wp2_with fail
  refine (handN_any x xa xc w1 HX.out).mono ?_
  rintro e w2 ⟨aa, ac, rfl, hna, hba, hk2⟩
  have HK2 := Lib.hid (HK.out.trans hk2)
  have HAN := Lib.hid hna
  have HR := Lib.hid (handNode_right x.k x.m x.t x.x x.d)
  clear hna hba hk2 HXB HX HK x0 x1 x2 x3 x4
  have hAeq : handNode x.k x.m x.t x.x x.d = handN x := rfl
  rw [hAeq] at HR
  clear hAeq
  generalize handN x = A at *
  unfold nodeVal
  have HA3 := Lib.hid (NB.new HAN.out)
  have HK3 := Lib.hid (HK2.out.alloc (.cells #[.int .i64 A.kind, .int .i64 A.mode, .float .f64 A.time, .slice aa A.bs.length ac] 57))
  have HNA := Lib.hid (show w.heap.size ≤ w2.heap.size from HK2.out.size)
  clear HK2 HAN
  go_wp2_with fail
  generalize w2.alloc (.cells #[.int .i64 A.kind, .int .i64 A.mode, .float .f64 A.time, .slice aa A.bs.length ac] 57) = w3 at *
  generalize w2.heap.size = na at *
  obtain ⟨c0, c1, c2, c3⟩ := cell_four HA3.out.hp
  go_wp2_with fail
  refine (Copy_any A aa ac w3 HA3.out.at').mono ?_
  rintro e w4 ⟨ba, bc, rfl, hnb, hbb, hk4⟩
  have HK4 := Lib.hid (HK3.out.trans hk4)
  have HA4 := Lib.hid (HA3.out.keepF hk4)
  have HBN := Lib.hid hnb
  have HBNA := Lib.hid (show ∀ k, blk ba = some k → k ≠ na from fun k hk => by have h1 := hbb k hk; have h2 := HA3.out.lt; omega)
  have HNAB := Lib.hid (show na < w4.heap.size from HA4.out.lt)
  have HANB := Lib.hid (show 0 < A.bs.length → ∀ k, blk aa = some k → k ≠ w4.heap.size from fun hp k hk => by have := HA4.out.at'.sl.lt hp k hk; omega)
  have HNB := Lib.hid (show w.heap.size ≤ w4.heap.size from HK4.out.size)
  clear hnb hbb hk4 HK3 HA3 c0 c1 c2 c3
  unfold nodeVal
  have HB5 := Lib.hid (NB.new HBN.out)
  have kF := (Kp.refl (fun _ => False) w4).alloc (.cells #[.int .i64 A.kind, .int .i64 A.mode, .float .f64 A.time, .slice ba A.bs.length bc] 57)
  have HA5 := Lib.hid (HA4.out.keepF kF)
  have HK5 := Lib.hid (HK4.out.trans kF)
  clear kF HBN HK4 HA4
  go_wp2_with fail
  generalize w4.alloc (.cells #[.int .i64 A.kind, .int .i64 A.mode, .float .f64 A.time, .slice ba A.bs.length bc] 57) = w5 at *
  generalize w4.heap.size = nb at *
  refine (Time_any a p w5 ha1 ha2).mono ?_
  rintro e w6 ⟨rfl, hk6⟩
  have HA6 := Lib.hid (HA5.out.keepF hk6); have HB6 := Lib.hid (HB5.out.keepF hk6); have HK6 := Lib.hid (HK5.out.trans hk6)
  clear hk6 HA5 HB5 HK5
  go_wp2_with fail
  refine (numPlain_any _ HTA0.out w6).mono ?_
  rintro e w7 ⟨rfl, rfl⟩
  obtain ⟨⟨c0, c1, c2, c3⟩, ⟨t0, t1, t2, t3⟩, lt1⟩ := cell_fr HA6.out.hp
  have HA7 := Lib.hid (HA6.out.setTime _ HTA.out)
  have HB7 := Lib.hid (HB6.out.setOther (q := na) (by have := HNAB.out; omega) (fun _ k hk => HBNA.out k hk) 2 (.float .f64 (plainB (timeB a p))))
  have HK7 := Lib.hid (HK6.out.setCell ⟨na, 2, none⟩ (.inr HNA.out) (.float .f64 (plainB (timeB a p))))
  clear HA6 HB6 HK6 HTA0
  go_wp2_with fail
  clear c0 c1 c2 c3 t0 t1 t2 t3 lt1
  generalize w6.setCell ⟨na, 2, none⟩ (.float .f64 (plainB (timeB a p))) = w7 at *
  refine (Time_any b q w7 hb1 hb2).mono ?_
  rintro e w8 ⟨rfl, hk8⟩
  have HA8 := Lib.hid (HA7.out.keepF hk8); have HB8 := Lib.hid (HB7.out.keepF hk8); have HK8 := Lib.hid (HK7.out.trans hk8)
  clear hk8 HA7 HB7 HK7
  go_wp2_with fail
  refine (numPlain_any _ HTB0.out w8).mono ?_
  rintro e w9 ⟨rfl, rfl⟩
  obtain ⟨⟨c0, c1, c2, c3⟩, ⟨t0, t1, t2, t3⟩, lt1⟩ := cell_fr HB8.out.hp
  have HB9 := Lib.hid (HB8.out.setTime _ HTB.out)
  have HA9 := Lib.hid (HA8.out.setOther (q := nb) (by have := HNAB.out; omega) (fun hp k hk => HANB.out hp k hk) 2 (.float .f64 (plainB (timeB b q))))
  have HK9 := Lib.hid (HK8.out.setCell ⟨nb, 2, none⟩ (.inr HNB.out) (.float .f64 (plainB (timeB b q))))
  have HRA := Lib.hid (rightN_at HR.out (timeB a p))
  have HRB := Lib.hid (rightN_at HR.out (timeB b q))
  have HSAME := Lib.hid (show sameN (A.at (plainB (timeB a p))) (A.at (plainB (timeB b q))) = sameT (A.at (plainB (timeB a p))).time (A.at (plainB (timeB b q))).time from sameN_at A _ _)
  clear HA8 HB8 HK8 HTB0 HTA HTB HR
  generalize A.at (plainB (timeB a p)) = M at *
  generalize A.at (plainB (timeB b q)) = N at *
  go_wp2_with fail
  clear c0 c1 c2 c3 t0 t1 t2 t3 lt1
  generalize w8.setCell ⟨nb, 2, none⟩ (.float .f64 (plainB (timeB b q))) = w9 at *
  clear HBNA HNAB HANB HNB
  have HGA := Lib.hid (fun (w' : World) (k : Kp (fun _ => False) w9 w') => (HA9.out.keepF k).at')
  have HGB := Lib.hid (fun (w' : World) (k : Kp (fun _ => False) w9 w') => (HB9.out.keepF k).at')
  have HCELL : Hid (∀ w', Kp (fun _ => False) w9 w' → (w'.cell? ⟨na, 0, none⟩ = some (.int .i64 M.kind) ∧ w'.cell? ⟨na, 1, none⟩ = some (.int .i64 M.mode) ∧ w'.cell? ⟨na, 2, none⟩ = some (.float .f64 M.time) ∧ w'.cell? ⟨na, 3, none⟩ = some (.slice aa M.bs.length ac) ∧ w'.cell? ⟨nb, 0, none⟩ = some (.int .i64 N.kind) ∧ w'.cell? ⟨nb, 1, none⟩ = some (.int .i64 N.mode) ∧ w'.cell? ⟨nb, 2, none⟩ = some (.float .f64 N.time) ∧ w'.cell? ⟨nb, 3, none⟩ = some (.slice ba N.bs.length bc))) := fun w' k => by
    obtain ⟨a0, a1, a2, a3⟩ := cell_four (HA9.out.keepF k).hp
    obtain ⟨b0, b1, b2, b3⟩ := cell_four (HB9.out.keepF k).hp
    exact ⟨a0, a1, a2, a3, b0, b1, b2, b3⟩
  go_region_held3 (fun w' => w'.cell? ⟨na, 0, none⟩ = some (.int .i64 M.kind) ∧ w'.cell? ⟨na, 1, none⟩ = some (.int .i64 M.mode) ∧ w'.cell? ⟨na, 2, none⟩ = some (.float .f64 M.time) ∧ w'.cell? ⟨na, 3, none⟩ = some (.slice aa M.bs.length ac) ∧ w'.cell? ⟨nb, 0, none⟩ = some (.int .i64 N.kind) ∧ w'.cell? ⟨nb, 1, none⟩ = some (.int .i64 N.mode) ∧ w'.cell? ⟨nb, 2, none⟩ = some (.float .f64 N.time) ∧ w'.cell? ⟨nb, 3, none⟩ = some (.slice ba N.bs.length bc)) (first | exact HCELL.out _ KV5.out | exact HCELL.out _ KV4.out | exact HCELL.out _ KV3.out | exact HCELL.out _ KV2.out | exact HCELL.out _ KV1.out | exact HCELL.out _ ((Kp.refl _ w9).drew)) (first
    | (go_at_call 48; refine (known10_any _).mono ?_; rintro e v1 ⟨rfl, hv1⟩; have KV1 := Lib.hid (((Kp.refl (fun _ => False) w9).drew).trans hv1); clear hv1)
    | (go_at_call_of 54 (#[(.agg #[.int .i64 M.kind, .int .i64 M.mode, .float .f64 M.time, .slice aa M.bs.length ac] : Value)] : Array Value); refine (right_any M aa ac _ (HGA.out _ (by (first | exact KV5.out | exact KV4.out | exact KV3.out | exact KV2.out | exact KV1.out)))).mono ?_; rintro e v2 ⟨rfl, hv2⟩; rw [HRA.out]; have KV2 := Lib.hid (Kp.trans (b := _) (by (first | exact KV5.out | exact KV4.out | exact KV3.out | exact KV2.out | exact KV1.out)) hv2); clear hv2)
    | (go_at_call_of 54 (#[(.agg #[.int .i64 N.kind, .int .i64 N.mode, .float .f64 N.time, .slice ba N.bs.length bc] : Value)] : Array Value); refine (right_any N ba bc _ (HGB.out _ (by (first | exact KV5.out | exact KV4.out | exact KV3.out | exact KV2.out | exact KV1.out)))).mono ?_; rintro e v3 ⟨rfl, hv3⟩; rw [HRB.out]; have KV3 := Lib.hid (Kp.trans (b := _) (by (first | exact KV5.out | exact KV4.out | exact KV3.out | exact KV2.out | exact KV1.out)) hv3); clear hv3)
    | (go_at_call 49; refine (nodeSame_any M N aa ba ac bc _ (HGA.out _ (by (first | exact KV5.out | exact KV4.out | exact KV3.out | exact KV2.out | exact KV1.out))) (HGB.out _ (by (first | exact KV5.out | exact KV4.out | exact KV3.out | exact KV2.out | exact KV1.out)))).mono ?_; rintro e v4 ⟨rfl, hv4⟩; rw [HSAME.out]; have KV4 := Lib.hid (Kp.trans (b := _) (by (first | exact KV5.out | exact KV4.out | exact KV3.out | exact KV2.out | exact KV1.out)) hv4); clear hv4)
    | (go_at_call 64; refine (numSame_any M.time N.time HA9.out.at'.time HB9.out.at'.time _).mono ?_; rintro e v5 ⟨rfl, hv5⟩; have KV5 := Lib.hid (Kp.trans (b := _) (by (first | exact KV5.out | exact KV4.out | exact KV3.out | exact KV2.out | exact KV1.out)) hv5); clear hv5))
  have HA10 := Lib.hid (HA9.out.keepF KV5.out)
  have HK10 := Lib.hid (HK9.out.trans KV5.out)
  clear HA9 HB9 HK9 HGA HGB HCELL KV1 KV2 KV3 KV4 KV5 HSAME
  rename_i hHeld
  clear hHeld
  generalize v5 = w10 at *
  obtain ⟨c0, c1, c2, c3⟩ := cell_four HA10.out.hp
  go_wp2_with fail
  refine (Lay_any M aa ac w10 HA10.out.at').mono ?_
  rintro e w11 h11
  rcases h11 with ⟨_, v, rfl, hown, hk11⟩ | ⟨hf, _⟩
  case inr =>
    have := HRA.out
    rw [hf] at this
    cases this
  obtain ⟨la, lc, hl, _, _⟩ := sl_of_owns hown
  have he := hl.eq
  subst he
  have HL11 := Lib.hid hl
  have HA11 := Lib.hid (HA10.out.keepF hk11)
  have HK11 := Lib.hid (HK10.out.trans hk11)
  have HLL := Lib.hid (show (layB M).length ≤ 140737488355328 by rw [layB_len]; have := rightN_len HRA.out; omega)
  have HRD := Lib.hid (readN_laid HRA.out HA10.out.at'.time)
  clear hown hk11 hl HA10 HK10 c0 c1 c2 c3
  generalize layB M = lb at *
  go_wp2_with fail
  refine (Read_any la lc lb w11 HL11.out HLL.out).mono ?_
  rintro e w12 ⟨hk12, ⟨o, oa, oc, hro, rfl, hno, _⟩ | ⟨hro, _⟩⟩
  case inr =>
    rw [HRD.out] at hro
    cases hro
  obtain rfl : M = o := by
    rw [HRD.out] at hro
    exact Option.some.inj hro
  have HA12 := Lib.hid (HA11.out.keepF hk12)
  have HK12 := Lib.hid (HK11.out.trans hk12)
  have HO12 := Lib.hid (NB.new hno)
  have kG : Kp (fun _ => False) w12 ((w12.alloc (.cells #[.int .i64 M.kind, .int .i64 M.mode, .float .f64 M.time, .slice oa M.bs.length oc] 57)).alloc (.cells #[.int .i64 M.kind, .int .i64 M.mode, .float .f64 9221120237041090562, .slice aa M.bs.length ac] 57)) := ((Kp.refl (fun _ => False) w12).alloc _).alloc _
  have HD15 : Hid (NB ((w12.alloc (.cells #[.int .i64 M.kind, .int .i64 M.mode, .float .f64 M.time, .slice oa M.bs.length oc] 57)).alloc (.cells #[.int .i64 M.kind, .int .i64 M.mode, .float .f64 9221120237041090562, .slice aa M.bs.length ac] 57)) (M.at 9221120237041090562) (w12.heap.size + 1) aa ac) := ⟨hp_new' _ _ (by simp), ⟨(HA12.out.at'.keepF kG).sl, by show 9221120237041090562 < 18446744073709551616; decide, HA12.out.at'.len⟩, fun hp k hk => by have := HA12.out.at'.sl.lt hp k hk; omega⟩
  have HA13 := Lib.hid (HA12.out.keepF ((Kp.refl (fun _ => False) w12).alloc (.cells #[.int .i64 M.kind, .int .i64 M.mode, .float .f64 M.time, .slice oa M.bs.length oc] 57)))
  have HA15 := Lib.hid (HA12.out.keepF kG)
  have HO15 := Lib.hid (hp_old HO12.out.hp (.cells #[.int .i64 M.kind, .int .i64 M.mode, .float .f64 9221120237041090562, .slice aa M.bs.length ac] 57))
  have HK15 := Lib.hid (HK12.out.trans kG)
  clear hk12 hno hro kG HA11 HK11 HL11 HLL HRD HA12 HK12 HO12
  obtain ⟨c0, c1, c2, c3⟩ := cell_four HA13.out.hp
  obtain ⟨e0, e1, e2, e3⟩ := cell_four HD15.out.hp
  unfold nodeVal
  dsimp only [NodeV.at] at e0 e1 e2 e3
  clear HA13
  have HROD := Lib.hid (rightN_odd M)
  go_wp2_with fail
  clear c0 c1 c2 c3 e0 e1 e2 e3
  generalize ((w12.alloc (.cells #[.int .i64 M.kind, .int .i64 M.mode, .float .f64 M.time, .slice oa M.bs.length oc] 57)).alloc (.cells #[.int .i64 M.kind, .int .i64 M.mode, .float .f64 9221120237041090562, .slice aa M.bs.length ac] 57)) = w15 at *
  generalize w12.heap.size + 1 = nd at *
  refine (Lay_any (M.at 9221120237041090562) aa ac w15 HD15.out.at').mono ?_
  rintro e w16 h16
  rcases h16 with ⟨hf, _⟩ | ⟨_, rfl, hk16⟩
  case inl =>
    have := HROD.out
    rw [hf] at this
    cases this
  have HD16 := Lib.hid (HD15.out.keepF hk16)
  have HA16 := Lib.hid (HA15.out.keepF hk16)
  have HO16 := Lib.hid (hk16.hp HO15.out id)
  have HK16 := Lib.hid (HK15.out.trans hk16)
  clear hk16 HD15 HA15 HO15 HK15
  go_wp2_with fail
  generalize w12.heap.size = no at *
  have HGD := Lib.hid (fun (w' : World) (k : Kp (fun _ => False) w16 w') => (HD16.out.keepF k).at')
  have HCELL : Hid (∀ w', Kp (fun _ => False) w16 w' → (w'.cell? ⟨no, 2, none⟩ = some (.float .f64 M.time) ∧ w'.cell? ⟨na, 2, none⟩ = some (.float .f64 M.time) ∧ w'.cell? ⟨nd, 0, none⟩ = some (.int .i64 M.kind) ∧ w'.cell? ⟨nd, 1, none⟩ = some (.int .i64 M.mode) ∧ w'.cell? ⟨nd, 2, none⟩ = some (.float .f64 9221120237041090562) ∧ w'.cell? ⟨nd, 3, none⟩ = some (.slice aa M.bs.length ac))) := fun w' k => by
    obtain ⟨_, _, a2, _⟩ := cell_four (HA16.out.keepF k).hp
    obtain ⟨b0, b1, b2, b3⟩ := cell_four (HD16.out.keepF k).hp
    obtain ⟨_, _, c2, _⟩ := cell_four (k.hp HO16.out id)
    exact ⟨c2, a2, b0, b1, b2, b3⟩
  clear HA16 HD16 HO16 HRA HRB
  go_region_held3 (fun w' => w'.cell? ⟨no, 2, none⟩ = some (.float .f64 M.time) ∧ w'.cell? ⟨na, 2, none⟩ = some (.float .f64 M.time) ∧ w'.cell? ⟨nd, 0, none⟩ = some (.int .i64 M.kind) ∧ w'.cell? ⟨nd, 1, none⟩ = some (.int .i64 M.mode) ∧ w'.cell? ⟨nd, 2, none⟩ = some (.float .f64 9221120237041090562) ∧ w'.cell? ⟨nd, 3, none⟩ = some (.slice aa M.bs.length ac)) (first | exact HCELL.out _ KW1.out | exact HCELL.out _ ((Kp.refl _ w16).drew)) (first
    | (go_at_call 54; refine (right_any (M.at 9221120237041090562) aa ac _ (HGD.out _ ((Kp.refl _ w16).drew))).mono ?_; rintro e v6 ⟨rfl, hv6⟩; rw [HROD.out]; have KW1 := Lib.hid (((Kp.refl (fun _ => False) w16).drew).trans hv6); clear hv6))
  go_wp2
  go_ret
  exact ⟨rfl, HK16.out.trans KW1.out⟩
end Go.Proofs.Ytgpidbdgodgefaa
