/- The walk of NodeSame: it answers true and turns nothing that was there. Conditions: as the theorems name them. -/
import Derived.Test.YtgpidbdgodgefaaKnown10
import Derived.Test.YtgpidbdgodgefaaZed
namespace Go.Proofs.Ytgpidbdgodgefaa
open Go.RowKit Go.Deep

theorem Sl.keep2 {w w' : World} {v : Value} {a : Option Addr} {c : Nat} {bs : List UInt8} {S : Nat → Prop} (h : Sl w v a c bs) (k : Kp S w w') (hn : 0 < bs.length → ∀ b, blk a = some b → ¬ S b) : Sl w' v a c bs :=
  ⟨h.eq, h.le, h.max, h.nocap, fun i hi => by
    obtain ⟨b, off, rfl, hc⟩ := h.seg i hi
    exact ⟨b, off, rfl, k.cell hc (hn (by omega) b rfl)⟩⟩
/-- Where bytes lie is a block that is there. -/
theorem Sl.lt {w : World} {v : Value} {a : Option Addr} {c : Nat} {bs : List UInt8} (h : Sl w v a c bs) (hp : 0 < bs.length) : ∀ b, blk a = some b → b < w.heap.size := by
  intro b hb
  obtain ⟨b', off, rfl, hc⟩ := h.seg 0 hp
  cases hb
  exact World.block_lt_of_cell? _ _ hc

/-- A node's block, and its data. -/
structure NB (w : World) (n : NodeV) (b : Nat) (a : Option Addr) (c : Nat) : Prop where
  hp : w.heap[b]? = some (.cells #[.int .i64 n.kind, .int .i64 n.mode, .float .f64 n.time, .slice a n.bs.length c] 57 (0, 0))
  at' : NAt w n a c
  sep : 0 < n.bs.length → ∀ k, blk a = some k → k ≠ b
theorem NB.keepF {w w' : World} {n : NodeV} {b : Nat} {a : Option Addr} {c : Nat} (h : NB w n b a c) (k : Kp (fun _ => False) w w') : NB w' n b a c := ⟨k.hp h.hp id, h.at'.keepF k, h.sep⟩
theorem NB.keep {w w' : World} {n : NodeV} {b : Nat} {a : Option Addr} {c : Nat} {S : Nat → Prop} (h : NB w n b a c) (k : Kp S w w') (h0 : ¬ S b) (h1 : 0 < n.bs.length → ∀ x, Go.Proofs.Ytgpidbdgodgefaa.blk a = some x → ¬ S x) : NB w' n b a c :=
  ⟨k.hp h.hp h0, ⟨h.at'.sl.keep2 k h1, h.at'.time, h.at'.len⟩, h.sep⟩
/-- A new node's block. -/
theorem NB.new {w : World} {n : NodeV} {a : Option Addr} {c : Nat} (h : NAt w n a c) : NB (w.alloc (.cells #[.int .i64 n.kind, .int .i64 n.mode, .float .f64 n.time, .slice a n.bs.length c] 57)) n w.heap.size a c :=
  ⟨hp_new _ _, h.keepF ((Kp.refl _ w).alloc _), fun hp k hk => by have := h.sl.lt hp k hk; omega⟩

/-- A raw node's cells. -/
structure RawV where
  k : Int
  m : Int
  t : Int
  x : Nat
  d : List UInt8
structure RawOk (w : World) (r : RawV) (a : Option Addr) (c : Nat) : Prop where
  sl : Sl w (.slice a r.d.length c) a c r.d
  len : r.d.length ≤ 140737488351232
  x : r.x < 18446744073709551616
  rk : -9223372036854775808 ≤ r.k ∧ r.k ≤ 9223372036854775807
  rm : -9223372036854775808 ≤ r.m ∧ r.m ≤ 9223372036854775807
  rt : -9223372036854775808 ≤ r.t ∧ r.t ≤ 9223372036854775807
theorem RawOk.keepF {w w' : World} {r : RawV} {a : Option Addr} {c : Nat} (h : RawOk w r a c) (k : Kp (fun _ => False) w w') : RawOk w' r a c := ⟨h.sl.keep k (fun _ _ => id), h.len, h.x, h.rk, h.rm, h.rt⟩
def rawVal (r : RawV) (a : Option Addr) (c : Nat) : Value := .agg #[.int .i64 r.k, .int .i64 r.m, .int .i64 r.t, .float .f64 r.x, .slice a r.d.length c]
def handN (r : RawV) : NodeV := handNode r.k r.m r.t r.x r.d
theorem handN_any (r : RawV) (a : Option Addr) (c : Nat) (w : World) (h : RawOk w r a c) : Calls Try.prog 47 #[rawVal r a c] w (HandEnd w (handN r)) :=
  Node_any r.k r.m r.t r.x a c r.d w h.sl (by have := h.len; omega) h.x h.rk h.rm h.rt

set_option maxHeartbeats 6000000 in
set_option maxRecDepth 100000 in
theorem nodeSameLaw_any (x y : RawV) (xa ya : Option Addr) (xc yc : Nat) (near : Int) (t : Nat) (w : World) (hx : RawOk w x xa xc) (hy : RawOk w y ya yc) (hn1 : -9223372036854775808 ≤ near) (hn2 : near ≤ 9223372036854775807) (ht : t < 18446744073709551616) :
    Calls Try.prog 8 #[rawVal x xa xc, rawVal y ya yc, .int .i64 near, .float .f64 t] w fun e w' => e = .returned (.bool true) ∧ Kp (fun _ => False) w w' := by
  have hsf : ∀ (a : Addr) (b : Nat) (m : Mode) (w : World), (store a (.float .f64 b) m).run Try.prog w = stored Try.prog w a (.float .f64 b) m := fun a b m w => run_store _ w a _ m rfl
  have k0 : Kp (fun _ => False) w ((w.alloc (.cells #[.int .i64 x.k, .int .i64 x.m, .int .i64 x.t, .float .f64 x.x, .slice xa x.d.length xc] 55)).alloc (.cells #[.int .i64 y.k, .int .i64 y.m, .int .i64 y.t, .float .f64 y.x, .slice ya y.d.length yc] 55)) := ((Kp.refl _ w).alloc _).alloc _
  have HX := Lib.hid (hx.keepF k0); have HY := Lib.hid (hy.keepF k0); have HK := Lib.hid k0
  have HXB := Lib.hid (hp_old (hp_new w (.cells #[.int .i64 x.k, .int .i64 x.m, .int .i64 x.t, .float .f64 x.x, .slice xa x.d.length xc] 55)) (.cells #[.int .i64 y.k, .int .i64 y.m, .int .i64 y.t, .float .f64 y.x, .slice ya y.d.length yc] 55))
  have HYB := Lib.hid (hp_new' (w.alloc (.cells #[.int .i64 x.k, .int .i64 x.m, .int .i64 x.t, .float .f64 x.x, .slice xa x.d.length xc] 55)) (.cells #[.int .i64 y.k, .int .i64 y.m, .int .i64 y.t, .float .f64 y.x, .slice ya y.d.length yc] 55) (n := w.heap.size + 1) (by simp))
  have HSZ := Lib.hid (show ((w.alloc (.cells #[.int .i64 x.k, .int .i64 x.m, .int .i64 x.t, .float .f64 x.x, .slice xa x.d.length xc] 55)).alloc (.cells #[.int .i64 y.k, .int .i64 y.m, .int .i64 y.t, .float .f64 y.x, .slice ya y.d.length yc] 55)).heap.size = w.heap.size + 2 by simp)
  clear hx hy k0
  unfold rawVal
  go_enter Try.func8, Try.ntmps8
  go_wp2_with fail
  generalize (w.alloc (.cells #[.int .i64 x.k, .int .i64 x.m, .int .i64 x.t, .float .f64 x.x, .slice xa x.d.length xc] 55)).alloc (.cells #[.int .i64 y.k, .int .i64 y.m, .int .i64 y.t, .float .f64 y.x, .slice ya y.d.length yc] 55) = w1 at *
  refine (handN_any x xa xc w1 HX.out).mono ?_
  rintro e w2 ⟨aa, ac, rfl, hna, hba, hk2⟩
  have HK2 := Lib.hid (HK.out.trans hk2); have HX2 := Lib.hid (HX.out.keepF hk2); have HY2 := Lib.hid (HY.out.keepF hk2)
  have HXB2 := Lib.hid (hk2.hp HXB.out id); have HYB2 := Lib.hid (hk2.hp HYB.out id)
  have HAN := Lib.hid hna
  have HAB := Lib.hid (show ∀ b, blk aa = some b → w1.heap.size ≤ b from hba)
  have HSA := Lib.hid hk2.size
  clear hna hba hk2
  generalize hA : handN x = A at *
  clear hA
  unfold nodeVal
  have HXB3 := Lib.hid (hp_old HXB2.out (.cells #[.int .i64 A.kind, .int .i64 A.mode, .float .f64 A.time, .slice aa A.bs.length ac] 57))
  have HYB3 := Lib.hid (hp_old HYB2.out (.cells #[.int .i64 A.kind, .int .i64 A.mode, .float .f64 A.time, .slice aa A.bs.length ac] 57))
  have HA3 := Lib.hid (NB.new HAN.out)
  have HX3 := Lib.hid (HX2.out.keepF ((Kp.refl _ w2).alloc (.cells #[.int .i64 A.kind, .int .i64 A.mode, .float .f64 A.time, .slice aa A.bs.length ac] 57))); have HY3 := Lib.hid (HY2.out.keepF ((Kp.refl _ w2).alloc (.cells #[.int .i64 A.kind, .int .i64 A.mode, .float .f64 A.time, .slice aa A.bs.length ac] 57)))
  have HK3 := Lib.hid (HK2.out.alloc (.cells #[.int .i64 A.kind, .int .i64 A.mode, .float .f64 A.time, .slice aa A.bs.length ac] 57))
  have HNA := Lib.hid (show w.heap.size + 2 ≤ w2.heap.size by have := HSA.out; have := HSZ.out; omega)
  have HZ3 := Lib.hid (show (w2.alloc (.cells #[.int .i64 A.kind, .int .i64 A.mode, .float .f64 A.time, .slice aa A.bs.length ac] 57)).heap.size = w2.heap.size + 1 by simp)
  obtain ⟨y0, y1, y2, y3, y4⟩ := cell_fiv HYB3.out
  clear HX HY HK HXB HYB HX2 HY2 HXB2 HYB2 HK2 HAN HSA HSZ HAB
  go_wp2_with fail
  generalize hna : w2.heap.size = na at *
  clear hna
  generalize w2.alloc (.cells #[.int .i64 A.kind, .int .i64 A.mode, .float .f64 A.time, .slice aa A.bs.length ac] 57) = w3 at *
  refine (handN_any y ya yc w3 HY3.out).mono ?_
  rintro e w4 ⟨ba, bc, rfl, hnb, hbb, hk4⟩
  have HB4 := Lib.hid hnb
  have HBB := Lib.hid (show ∀ b, blk ba = some b → w3.heap.size ≤ b from hbb)
  have HXB4 := Lib.hid (hk4.hp HXB3.out id); have HX4 := Lib.hid (HX3.out.keepF hk4); have HA4 := Lib.hid (HA3.out.keepF hk4); have HK4 := Lib.hid (HK3.out.trans hk4)
  have HS4 := Lib.hid (show na < w4.heap.size by have := hk4.size; have := HZ3.out; omega)
  clear hnb hbb hk4 y0 y1 y2 y3 y4 HXB3 HX3 HA3 HK3 HY3 HYB3
  generalize hB : handN y = B at *
  clear hB
  unfold nodeVal
  have HXB5 := Lib.hid (hp_old HXB4.out (.cells #[.int .i64 B.kind, .int .i64 B.mode, .float .f64 B.time, .slice ba B.bs.length bc] 57))
  have HA5 := Lib.hid (HA4.out.keepF ((Kp.refl _ w4).alloc (.cells #[.int .i64 B.kind, .int .i64 B.mode, .float .f64 B.time, .slice ba B.bs.length bc] 57)))
  have HB5 := Lib.hid (NB.new HB4.out)
  have HX5 := Lib.hid (HX4.out.keepF ((Kp.refl _ w4).alloc (.cells #[.int .i64 B.kind, .int .i64 B.mode, .float .f64 B.time, .slice ba B.bs.length bc] 57)))
  have HK5 := Lib.hid (HK4.out.alloc (.cells #[.int .i64 B.kind, .int .i64 B.mode, .float .f64 B.time, .slice ba B.bs.length bc] 57))
  have HNE := Lib.hid (show na < w4.heap.size ∧ w.heap.size + 2 ≤ na from ⟨HS4.out, HNA.out⟩)
  have HSEP := Lib.hid (show 0 < A.bs.length → ∀ k, blk aa = some k → k ≠ w4.heap.size from fun hp k hk => by have := HA4.out.at'.sl.lt hp k hk; omega)
  have HXSEP := Lib.hid (show 0 < x.d.length → ∀ k, blk xa = some k → k ≠ w4.heap.size from fun hp k hk => by have := HX4.out.sl.lt hp k hk; omega)
  clear HXB4 HA4 HB4 HX4 HK4 HS4 HNA HZ3 HBB
  by_cases hnear : 0 < near.tmod 3
  case' neg =>
    go_wp2_with fail
    generalize hnb : w4.heap.size = nb at *
    clear hnb
    generalize w4.alloc (.cells #[.int .i64 B.kind, .int .i64 B.mode, .float .f64 B.time, .slice ba B.bs.length bc] 57) = w9 at *
    have HAf := HA5; have HBf := HB5; have HKf := HK5
    clear HA5 HB5 HK5 HXB5 HX5 HSEP HNE HXSEP
  case' pos =>
    obtain ⟨q0, q1, q2, q3, q4⟩ := cell_fiv HXB5.out
    have HZ5 := Lib.hid (show w4.heap.size < (w4.alloc (.cells #[.int .i64 B.kind, .int .i64 B.mode, .float .f64 B.time, .slice ba B.bs.length bc] 57)).heap.size by simp)
    go_wp2_with fail
    generalize hnb : w4.heap.size = nb at *
    clear hnb
    generalize w4.alloc (.cells #[.int .i64 B.kind, .int .i64 B.mode, .float .f64 B.time, .slice ba B.bs.length bc] 57) = w5 at *
    refine (handN_any x xa xc w5 HX5.out).mono ?_
    rintro e w6 ⟨ca, cc, rfl, hnc, hcb, hk6⟩
    generalize handN x = C at *
    unfold nodeVal
    have hC6 := hk6.hp HB5.out.hp id
    obtain ⟨⟨p0, p1, p2, p3⟩, ⟨l0, l1, l2, l3⟩, lt3⟩ := cell_fr hC6
    have HNW := Lib.hid (show w.heap.size ≤ nb by have := HNE.out; omega)
    have kS : Kp (fun b => b = nb) w6 ((((w6.setCell ⟨nb, 0, none⟩ (.int .i64 C.kind)).setCell ⟨nb, 1, none⟩ (.int .i64 C.mode)).setCell ⟨nb, 2, none⟩ (.float .f64 C.time)).setCell ⟨nb, 3, none⟩ (.slice ca C.bs.length cc)) := (((((Kp.refl (fun b => b = nb) w6).setCell ⟨nb, 0, none⟩ (.inl rfl) (.int .i64 C.kind)).setCell ⟨nb, 1, none⟩ (.inl rfl) (.int .i64 C.mode)).setCell ⟨nb, 2, none⟩ (.inl rfl) (.float .f64 C.time)).setCell ⟨nb, 3, none⟩ (.inl rfl) (.slice ca C.bs.length cc))
    have HC7 : Hid (NB ((((w6.setCell ⟨nb, 0, none⟩ (.int .i64 C.kind)).setCell ⟨nb, 1, none⟩ (.int .i64 C.mode)).setCell ⟨nb, 2, none⟩ (.float .f64 C.time)).setCell ⟨nb, 3, none⟩ (.slice ca C.bs.length cc)) C nb ca cc) := ⟨set_f3 (set_f2 (set_f1 (set_f0 hC6))), ⟨hnc.sl.keep2 kS (fun hp b hb e => by have := hcb b hb; have := HZ5.out; omega), hnc.time, hnc.len⟩, fun hp b hb e => by have := hcb b hb; have := HZ5.out; omega⟩
    have HA7 := Lib.hid ((HA5.out.keepF hk6).keep kS (fun e => by have := HNE.out; omega) (fun hp k hk e => HSEP.out hp k hk e))
    have HXB7 := Lib.hid (kS.hp (hk6.hp HXB5.out id) (fun e => by have := HNE.out; omega))
    have HK7 := Lib.hid (((((((HK5.out.trans hk6)).setCell ⟨nb, 0, none⟩ (.inr HNW.out) (.int .i64 C.kind)).setCell ⟨nb, 1, none⟩ (.inr HNW.out) (.int .i64 C.mode)).setCell ⟨nb, 2, none⟩ (.inr HNW.out) (.float .f64 C.time)).setCell ⟨nb, 3, none⟩ (.inr HNW.out) (.slice ca C.bs.length cc)))
    have HX7 : Hid (RawOk ((((w6.setCell ⟨nb, 0, none⟩ (.int .i64 C.kind)).setCell ⟨nb, 1, none⟩ (.int .i64 C.mode)).setCell ⟨nb, 2, none⟩ (.float .f64 C.time)).setCell ⟨nb, 3, none⟩ (.slice ca C.bs.length cc)) x xa xc) := by
      have h6 := HX5.out.keepF hk6
      refine ⟨h6.sl.keep2 kS (fun hp b hb e => ?_), h6.len, h6.x, h6.rk, h6.rm, h6.rt⟩
      exact HXSEP.out hp b hb e
    clear hnc hcb hk6 hC6 kS q0 q1 q2 q3 q4
    have HNE' : Hid (¬ na = nb ∧ w.heap.size + 2 ≤ na) := ⟨by have := HNE.out; omega, HNE.out.2⟩
    clear HNE
    have HNE := HNE'
    clear HNE' HA5 HB5 HK5 HXB5 HX5 HZ5 HXSEP
    go_wp2_with fail
    generalize ((((w6.setCell ⟨nb, 0, none⟩ (.int .i64 C.kind)).setCell ⟨nb, 1, none⟩ (.int .i64 C.mode)).setCell ⟨nb, 2, none⟩ (.float .f64 C.time)).setCell ⟨nb, 3, none⟩ (.slice ca C.bs.length cc)) = w7 at *
    clear p0 p1 p2 p3 l0 l1 l2 l3 lt3
    refine (pick_any near 4 _ (by decide) (by decide) hn1 hn2).mono ?_
    rintro e w' ⟨rfl, rfl⟩
    have hm0 := Int.emod_nonneg near (show (4 : Int) ≠ 0 by decide)
    have hm1 := Int.emod_lt_of_pos near (show (0 : Int) < 4 by decide)
    have hcs : near % 4 = 0 ∨ near % 4 = 1 ∨ near % 4 = 2 ∨ near % 4 = 3 := by omega
    clear hm0 hm1
    rcases hcs with e0 | e0 | e0 | e0
    case' inl =>
      rw [e0]
      clear e0
      have ht1 : -9223372036854775808 ≤ near.tdiv 4 ∧ near.tdiv 4 ≤ 9223372036854775807 := by
        have h7 := Int.tdiv_eq_ediv (a := near) (b := 4)
        have hsg : (4 : Int).sign = 1 := rfl
        rw [hsg] at h7
        split at h7 <;> omega
      have htl := timeB_lt (near.tdiv 4) t ht
      go_wp2_with fail
      refine (Time_any (near.tdiv 4) t _ ht1.1 ht1.2).mono ?_
      rintro e w8 ⟨rfl, hk8⟩
      have HC8 := Lib.hid (HC7.out.keepF hk8); have HA8 := Lib.hid (HA7.out.keepF hk8); have HK8 := Lib.hid (HK7.out.trans hk8)
      obtain ⟨⟨p0, p1, p2, p3⟩, ⟨l0, l1, l2, l3⟩, lt3⟩ := cell_fr HC8.out.hp
      clear hk8
      skip
      go_wp2_with fail
      have kS : Kp (fun b => b = nb) w8 (w8.setCell ⟨nb, 2, none⟩ (.float .f64 (timeB (near.tdiv 4) t))) := (Kp.refl (fun b => b = nb) w8).setCell ⟨nb, 2, none⟩ (.inl rfl) _
      obtain ⟨B, hB9⟩ : ∃ B : NodeV, NB (w8.setCell ⟨nb, 2, none⟩ (.float .f64 (timeB (near.tdiv 4) t))) B nb ca cc := ⟨⟨C.kind, C.mode, timeB (near.tdiv 4) t, C.bs⟩, set_f2 HC8.out.hp, ⟨HC8.out.at'.sl.keep2 kS (fun hp b hb e => HC8.out.sep hp b hb e), htl, HC8.out.at'.len⟩, HC8.out.sep⟩
      have HBf := Lib.hid hB9
      have HAf := Lib.hid (HA8.out.keep kS (fun e => HNE.out.1 e) (fun hp k hk e => HSEP.out hp k hk e))
      have HKf := Lib.hid (HK8.out.setCell ⟨nb, 2, none⟩ (.inr HNW.out) (.float .f64 (timeB (near.tdiv 4) t)))
      clear hB9 kS HC8 HA8 HK8
      generalize w8.setCell ⟨nb, 2, none⟩ (.float .f64 (timeB (near.tdiv 4) t)) = w9 at *
      generalize ca = ba at *
      generalize cc = bc at *

    case' inr.inl =>
      rw [e0]
      clear e0
      go_wp2_with fail
      refine (pick_any near 4096 _ (by decide) (by decide) hn1 hn2).mono ?_
      rintro e w' ⟨rfl, rfl⟩
      have HC8 := HC7; have HA8 := HA7; have HK8 := HK7
      obtain ⟨⟨p0, p1, p2, p3⟩, ⟨l0, l1, l2, l3⟩, lt3⟩ := cell_fr HC8.out.hp
      skip
      go_wp2_with fail
      have kS : Kp (fun b => b = nb) w7 (w7.setCell ⟨nb, 1, none⟩ (.int .i64 (near % 4096))) := (Kp.refl (fun b => b = nb) w7).setCell ⟨nb, 1, none⟩ (.inl rfl) _
      obtain ⟨B, hB9⟩ : ∃ B : NodeV, NB (w7.setCell ⟨nb, 1, none⟩ (.int .i64 (near % 4096))) B nb ca cc := ⟨⟨C.kind, near % 4096, C.time, C.bs⟩, set_f1 HC8.out.hp, ⟨HC8.out.at'.sl.keep2 kS (fun hp b hb e => HC8.out.sep hp b hb e), HC8.out.at'.time, HC8.out.at'.len⟩, HC8.out.sep⟩
      have HBf := Lib.hid hB9
      have HAf := Lib.hid (HA8.out.keep kS (fun e => HNE.out.1 e) (fun hp k hk e => HSEP.out hp k hk e))
      have HKf := Lib.hid (HK8.out.setCell ⟨nb, 1, none⟩ (.inr HNW.out) (.int .i64 (near % 4096)))
      clear hB9 kS HC8 HA8 HK8
      generalize w7.setCell ⟨nb, 1, none⟩ (.int .i64 (near % 4096)) = w9 at *
      generalize ca = ba at *
      generalize cc = bc at *

    case' inr.inr.inl =>
      rw [e0]
      clear e0
      obtain ⟨⟨p0, p1, p2, p3⟩, ⟨l0, l1, l2, l3⟩, lt3⟩ := cell_fr HC7.out.hp
      obtain ⟨q0, q1, q2, q3, q4⟩ := cell_fiv HXB7.out
      obtain ⟨ti, I⟩ := byteInfo
      go_wp2_with fail
      refine region_z 7 (fun w' => w'.cell? ⟨nb, 3, none⟩ = some (.slice ca C.bs.length cc) ∧ w'.cell? ⟨w.heap.size, 4, none⟩ = some (.slice xa x.d.length xc)) (by kernel_rfl) ⟨p3, q4⟩ (fun hS => ?_)
      refine anyZ_take (i := 0) (v := ?_) rfl (by kernel_rfl) (by kernel_rfl) (by kernel_rfl) (by kernel_rfl) (fun _ _ _ h => h) (Or.inl ⟨by rfl, ?_⟩) (by assumption) ?_
      rotate_left 1
      · (intro w hSw; (try dsimp only at hSw); go_simp; try with_reducible rfl)
      try simp only [Act.put, List.setIfInBounds_toArray, List.set_cons_zero, List.set_cons_succ, List.getElem_toArray, List.getElem_cons_zero]
      refine anyZ_take (i := 1) (v := ?_) rfl (by kernel_rfl) (by kernel_rfl) (by kernel_rfl) (by kernel_rfl) (fun _ _ _ h => h) (Or.inl ⟨by rfl, ?_⟩) (by assumption) ?_
      rotate_left 1
      · (intro w hSw; (try dsimp only at hSw); go_simp; try with_reducible rfl)
      try simp only [Act.put, List.setIfInBounds_toArray, List.set_cons_zero, List.set_cons_succ, List.getElem_toArray, List.getElem_cons_succ, List.getElem_cons_zero]
      refine anyZ_take (i := 3) (v := ?_) rfl (by kernel_rfl) (by kernel_rfl) (by kernel_rfl) (by kernel_rfl) (fun _ _ _ h => h) (Or.inl ⟨by rfl, ?_⟩) (by assumption) ?_
      rotate_left 1
      · (intro w hSw; (try dsimp only at hSw); go_simp; try with_reducible rfl)
      try simp only [Act.put, List.setIfInBounds_toArray, List.set_cons_zero, List.set_cons_succ, List.getElem_toArray, List.getElem_cons_succ, List.getElem_cons_zero]
      refine anyZ_take (i := 4) (v := ?_) rfl (by kernel_rfl) (by kernel_rfl) (by kernel_rfl) (by kernel_rfl) (fun _ _ _ h => h) (Or.inl ⟨by rfl, ?_⟩) (by assumption) ?_
      rotate_left 1
      · (intro w hSw; (try dsimp only at hSw); go_simp; try with_reducible rfl)
      try simp only [Act.put, List.setIfInBounds_toArray, List.set_cons_zero, List.set_cons_succ, List.getElem_toArray, List.getElem_cons_succ, List.getElem_cons_zero]
      refine anyZ_one (i := 2) (by kernel_rfl) rfl (fun K hK => ?_)
      go_simp
      refine (Few_any _ ca cc C.bs 100 w7.drew (HC7.out.at'.sl.keep2 ((Kp.refl (fun _ => False) w7).drew) (fun _ _ _ => id)) HC7.out.at'.len (by decide)).mono ?_
      rintro e w8 ⟨v, rfl, hown, hk8⟩
      have KC := Lib.hid (((Kp.refl (fun _ => False) w7).drew).trans hk8)
      have HXB8 := Lib.hid (KC.out.hp HXB7.out id)
      have HC8 := Lib.hid (HC7.out.keepF KC.out)
      have HA8 := Lib.hid (HA7.out.keepF KC.out); have HK8 := Lib.hid (HK7.out.trans KC.out)
      have HXs := Lib.hid ((HX7.out.keepF KC.out).sl)
      obtain ⟨⟨p0, p1, p2, p3⟩, ⟨l0, l1, l2, l3⟩, lt3⟩ := cell_fr HC8.out.hp
      obtain ⟨q0, q1, q2, q3, q4⟩ := cell_fiv HXB8.out
      have hl100 : (C.bs.take 100).length ≤ 100 := by simp; omega
      have HOW := Lib.hid (show w8.ownsRow w7.heap.size 5 1 v (C.bs.take 100).length ((C.bs.take 100).map byteV) from hown)
      clear hown hk8
      generalize C.bs.take 100 = zs at *
      obtain ⟨fa, fc, rfl⟩ := owns_form HOW.out
      try go_wp2_with fail
      refine hK.out _ _ (fun _ => ?_) (fun hSS => ?_)
      · (first | exact ⟨p3, q4⟩ | go_keep)
      have hS := hSS (by decide)
      clear hSS hK K
      try simp only [Act.put, List.setIfInBounds_toArray, List.set_cons_zero, List.set_cons_succ, List.getElem_toArray, List.getElem_cons_succ, List.getElem_cons_zero]
      refine anyZ_one (i := 5) (by kernel_rfl) rfl (fun K hK => ?_)
      refine step_append_sl rfl I w7.heap.size (.tmp 38) (.tmp 40) rfl (.slice fa zs.length fc) zs rfl HOW.out KC.out.size (.slice xa x.d.length xc) xa xc x.d rfl HXs.out (by have := HX7.out.len; omega) ?_
      intro v' wC hown hgr hfr
      have kC : Kp (fun b => w7.heap.size ≤ b) w8 wC := (Kp.refl _ w8).grown hgr (fun b hb => .inl (owns_block HOW.out b hb).1)
      have HNB7 := Lib.hid (show nb < w7.heap.size ∧ na < w7.heap.size ∧ w.heap.size < w7.heap.size from ⟨hp_lt HC7.out.hp, hp_lt HA7.out.hp, hp_lt HXB7.out⟩)
      have hC9 := kC.hp HC8.out.hp (by have := HNB7.out; omega)
      obtain ⟨⟨p0, p1, p2, p3⟩, ⟨l0, l1, l2, l3⟩, lt3⟩ := cell_fr hC9
      have HC9 := Lib.hid hC9
      have hx9 := kC.hp HXB8.out (by have := HNB7.out; omega)
      obtain ⟨q0, q1, q2, q3, q4⟩ := cell_fiv hx9
      have HA9 := Lib.hid (HA7.out.keep (KC.out.step kC (S := fun b => False) (fun i hi h => by omega)) id (fun _ _ _ => id))
      have HK9 := Lib.hid (HK7.out.trans (KC.out.step kC (S := fun b => False) (fun i hi h => by omega)))
      have hlz : (zs ++ x.d).length = zs.length + x.d.length := List.length_append
      obtain ⟨za, zc, hz, _, hzb⟩ := sl_of_owns (bs := zs ++ x.d) hown
      have he := hz.eq
      subst he
      have HZS := Lib.hid hz; have HZB := Lib.hid (show ∀ k, blk za = some k → w7.heap.size ≤ k ∧ k < wC.heap.size from hzb)
      clear hown hgr hfr hC9 hx9 hz hzb
      refine hK.out _ _ (fun _ => ?_) (fun hSS => ?_)
      · (first | exact ⟨p3, q4⟩ | go_keep)
      have hS := hSS (by decide)
      clear hSS hK K
      try simp only [Act.put, List.setIfInBounds_toArray, List.set_cons_zero, List.set_cons_succ, List.getElem_toArray, List.getElem_cons_succ, List.getElem_cons_zero]
      refine anyZ_take (i := 6) (v := ?_) rfl (by kernel_rfl) (by kernel_rfl) (by kernel_rfl) (by kernel_rfl) (fun _ _ _ h => h) (Or.inl ⟨by rfl, ?_⟩) (by assumption) ?_
      rotate_left 1
      · (intro w hSw; (try dsimp only at hSw); go_simp; try with_reducible rfl)
      try simp only [Act.put, List.setIfInBounds_toArray, List.set_cons_zero, List.set_cons_succ, List.getElem_toArray, List.getElem_cons_succ, List.getElem_cons_zero]
      refine anyZ_one (i := 7) (by kernel_rfl) rfl (fun K hK => ?_)
      go_simp
      refine hK.out _ _ (fun h => absurd rfl h) (fun _ => ?_)
      clear hK K
      try simp only [Act.put, List.setIfInBounds_toArray, List.set_cons_zero, List.set_cons_succ, List.getElem_toArray, List.getElem_cons_succ, List.getElem_cons_zero]
      refine anyZ_done (by kernel_rfl) ?_ _

      have kS : Kp (fun b => b = nb) wC (wC.setCell ⟨nb, 3, none⟩ (.slice za (zs ++ x.d).length zc)) := (Kp.refl (fun b => b = nb) wC).setCell ⟨nb, 3, none⟩ (.inl rfl) _
      obtain ⟨B, hB9⟩ : ∃ B : NodeV, NB (wC.setCell ⟨nb, 3, none⟩ (.slice za (zs ++ x.d).length zc)) B nb za zc := ⟨⟨C.kind, C.mode, C.time, zs ++ x.d⟩, set_f3 HC9.out, ⟨HZS.out.keep kS (fun b hb e => by have := (HZB.out b hb).1; have := HNB7.out; omega), HC7.out.at'.time, by have := HX7.out.len; show (zs ++ x.d).length ≤ _; omega⟩, fun _ b hb e => by have := (HZB.out b hb).1; have := HNB7.out; omega⟩
      have HBf := Lib.hid hB9
      have HAf := Lib.hid (HA9.out.keep kS (fun e => HNE.out.1 e) (fun hp k hk e => HSEP.out hp k hk e))
      have HKf := Lib.hid (HK9.out.setCell ⟨nb, 3, none⟩ (.inr HNW.out) (.slice za (zs ++ x.d).length zc))
      clear hB9 kS HC9 HA9 HK9 HC8 HA8 HK8 HZS HZB HOW HXs HXB8
      simp only [hlz] at HBf HAf HKf
      go_wp2_with fail
      generalize wC.setCell ⟨nb, 3, none⟩ (.slice za (zs.length + x.d.length) zc) = w9 at *
      generalize za = ba at *
      generalize zc = bc at *

    case' inr.inr.inr =>
      rw [e0]
      clear e0
      go_wp2_with fail
      have HBf := HC7; have HAf := HA7; have HKf := HK7
      generalize C = B at *
      generalize ca = ba at *
      generalize cc = bc at *
      generalize w7 = w9 at *
  all_goals
    have HGA := Lib.hid (fun (w' : World) (k : Kp (fun _ => False) w9 w') => (HAf.out.keepF k).at')
    have HGB := Lib.hid (fun (w' : World) (k : Kp (fun _ => False) w9 w') => (HBf.out.keepF k).at')
    have HCELL : Hid (∀ w', Kp (fun _ => False) w9 w' → (w'.cell? ⟨na, 0, none⟩ = some (.int .i64 A.kind) ∧ w'.cell? ⟨na, 1, none⟩ = some (.int .i64 A.mode) ∧ w'.cell? ⟨na, 2, none⟩ = some (.float .f64 A.time) ∧ w'.cell? ⟨na, 3, none⟩ = some (.slice aa A.bs.length ac) ∧ w'.cell? ⟨nb, 0, none⟩ = some (.int .i64 B.kind) ∧ w'.cell? ⟨nb, 1, none⟩ = some (.int .i64 B.mode) ∧ w'.cell? ⟨nb, 2, none⟩ = some (.float .f64 B.time) ∧ w'.cell? ⟨nb, 3, none⟩ = some (.slice ba B.bs.length bc))) := fun w' k => by
      obtain ⟨a0, a1, a2, a3⟩ := cell_four (HAf.out.keepF k).hp
      obtain ⟨b0, b1, b2, b3⟩ := cell_four (HBf.out.keepF k).hp
      exact ⟨a0, a1, a2, a3, b0, b1, b2, b3⟩
    have hsym : sameN B A = sameN A B := sameN_comm B A
    have hrefl : sameN A A = true := sameN_refl A
    clear HAf HBf
    go_region_held3 (fun w' => w'.cell? ⟨na, 0, none⟩ = some (.int .i64 A.kind) ∧ w'.cell? ⟨na, 1, none⟩ = some (.int .i64 A.mode) ∧ w'.cell? ⟨na, 2, none⟩ = some (.float .f64 A.time) ∧ w'.cell? ⟨na, 3, none⟩ = some (.slice aa A.bs.length ac) ∧ w'.cell? ⟨nb, 0, none⟩ = some (.int .i64 B.kind) ∧ w'.cell? ⟨nb, 1, none⟩ = some (.int .i64 B.mode) ∧ w'.cell? ⟨nb, 2, none⟩ = some (.float .f64 B.time) ∧ w'.cell? ⟨nb, 3, none⟩ = some (.slice ba B.bs.length bc)) (first | exact HCELL.out _ KV6.out | exact HCELL.out _ KV5.out | exact HCELL.out _ KV4.out | exact HCELL.out _ KV3.out | exact HCELL.out _ KV2.out | exact HCELL.out _ KV1.out | exact HCELL.out _ ((Kp.refl _ w9).drew)) (first
      | (go_at_call 48; refine (known10_any _).mono ?_; rintro e v1 ⟨rfl, hv1⟩; have KV1 := Lib.hid (((Kp.refl (fun _ => False) w9).drew).trans hv1); clear hv1)
      | (go_at_call_of 49 (#[(.agg #[.int .i64 A.kind, .int .i64 A.mode, .float .f64 A.time, .slice aa A.bs.length ac] : Value), (.agg #[.int .i64 A.kind, .int .i64 A.mode, .float .f64 A.time, .slice aa A.bs.length ac] : Value)] : Array Value); refine (nodeSame_any A A aa aa ac ac _ (HGA.out _ (by (first | exact KV6.out | exact KV5.out | exact KV4.out | exact KV3.out | exact KV2.out | exact KV1.out))) (HGA.out _ (by (first | exact KV6.out | exact KV5.out | exact KV4.out | exact KV3.out | exact KV2.out | exact KV1.out)))).mono ?_; rintro e v6 ⟨rfl, hv6⟩; rw [hrefl]; have KV6 := Lib.hid (Kp.trans (b := _) (by (first | exact KV6.out | exact KV5.out | exact KV4.out | exact KV3.out | exact KV2.out | exact KV1.out)) hv6); clear hv6)
      | (go_at_call_of 49 (#[(.agg #[.int .i64 A.kind, .int .i64 A.mode, .float .f64 A.time, .slice aa A.bs.length ac] : Value), (.agg #[.int .i64 B.kind, .int .i64 B.mode, .float .f64 B.time, .slice ba B.bs.length bc] : Value)] : Array Value); refine (nodeSame_any A B aa ba ac bc _ (HGA.out _ (by (first | exact KV6.out | exact KV5.out | exact KV4.out | exact KV3.out | exact KV2.out | exact KV1.out))) (HGB.out _ (by (first | exact KV6.out | exact KV5.out | exact KV4.out | exact KV3.out | exact KV2.out | exact KV1.out)))).mono ?_; rintro e v2 ⟨rfl, hv2⟩;  have KV2 := Lib.hid (Kp.trans (b := _) (by (first | exact KV6.out | exact KV5.out | exact KV4.out | exact KV3.out | exact KV2.out | exact KV1.out)) hv2); clear hv2)
      | (go_at_call_of 49 (#[(.agg #[.int .i64 B.kind, .int .i64 B.mode, .float .f64 B.time, .slice ba B.bs.length bc] : Value), (.agg #[.int .i64 A.kind, .int .i64 A.mode, .float .f64 A.time, .slice aa A.bs.length ac] : Value)] : Array Value); refine (nodeSame_any B A ba aa bc ac _ (HGB.out _ (by (first | exact KV6.out | exact KV5.out | exact KV4.out | exact KV3.out | exact KV2.out | exact KV1.out))) (HGA.out _ (by (first | exact KV6.out | exact KV5.out | exact KV4.out | exact KV3.out | exact KV2.out | exact KV1.out)))).mono ?_; rintro e v4 ⟨rfl, hv4⟩; rw [hsym]; have KV4 := Lib.hid (Kp.trans (b := _) (by (first | exact KV6.out | exact KV5.out | exact KV4.out | exact KV3.out | exact KV2.out | exact KV1.out)) hv4); clear hv4)
      | (go_at_call_of 50 (#[(.agg #[.int .i64 A.kind, .int .i64 A.mode, .float .f64 A.time, .slice aa A.bs.length ac] : Value), (.agg #[.int .i64 B.kind, .int .i64 B.mode, .float .f64 B.time, .slice ba B.bs.length bc] : Value)] : Array Value); refine (refSameNode_any A B aa ba ac bc _ (HGA.out _ (by (first | exact KV6.out | exact KV5.out | exact KV4.out | exact KV3.out | exact KV2.out | exact KV1.out))) (HGB.out _ (by (first | exact KV6.out | exact KV5.out | exact KV4.out | exact KV3.out | exact KV2.out | exact KV1.out)))).mono ?_; rintro e v3 ⟨rfl, hv3⟩;  have KV3 := Lib.hid (Kp.trans (b := _) (by (first | exact KV6.out | exact KV5.out | exact KV4.out | exact KV3.out | exact KV2.out | exact KV1.out)) hv3); clear hv3))
    go_wp2
    go_ret
    exact ⟨rfl, HKf.out.trans KV6.out⟩
end Go.Proofs.Ytgpidbdgodgefaa
