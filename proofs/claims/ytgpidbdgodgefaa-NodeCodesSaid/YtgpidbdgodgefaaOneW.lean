/- The contract of the law file's function one (chapter 10): it hands back a node. Conditions: as the theorems name them. -/
import Derived.Test.YtgpidbdgodgefaaSameW
import Derived.Test.YtgpidbdgodgefaaCopy
import Derived.Test.YtgpidbdgodgefaaMake
namespace Go.Proofs.Ytgpidbdgodgefaa
open Go.RowKit Go.Deep

theorem NB.set0 {w : World} {n : NodeV} {b : Nat} {a : Option Addr} {c : Nat} (h : NB w n b a c) (v : Int) : NB (w.setCell ⟨b, 0, none⟩ (.int .i64 v)) ⟨v, n.mode, n.time, n.bs⟩ b a c :=
  ⟨set_f0 h.hp, ⟨h.at'.sl.keep2 ((Kp.refl (fun k => k = b) w).setCell ⟨b, 0, none⟩ (.inl rfl) _) (fun hp k hk e => h.sep hp k hk e), h.at'.time, h.at'.len⟩, h.sep⟩
theorem NB.set1 {w : World} {n : NodeV} {b : Nat} {a : Option Addr} {c : Nat} (h : NB w n b a c) (v : Int) : NB (w.setCell ⟨b, 1, none⟩ (.int .i64 v)) ⟨n.kind, v, n.time, n.bs⟩ b a c :=
  ⟨set_f1 h.hp, ⟨h.at'.sl.keep2 ((Kp.refl (fun k => k = b) w).setCell ⟨b, 1, none⟩ (.inl rfl) _) (fun hp k hk e => h.sep hp k hk e), h.at'.time, h.at'.len⟩, h.sep⟩
theorem NB.set2 {w : World} {n : NodeV} {b : Nat} {a : Option Addr} {c : Nat} (h : NB w n b a c) (v : Nat) (hv : v < 18446744073709551616) : NB (w.setCell ⟨b, 2, none⟩ (.float .f64 v)) ⟨n.kind, n.mode, v, n.bs⟩ b a c :=
  ⟨set_f2 h.hp, ⟨h.at'.sl.keep2 ((Kp.refl (fun k => k = b) w).setCell ⟨b, 2, none⟩ (.inl rfl) _) (fun hp k hk e => h.sep hp k hk e), hv, h.at'.len⟩, h.sep⟩
theorem NB.set3 {w : World} {n : NodeV} {b : Nat} {a a' : Option Addr} {c c' : Nat} {ys : List UInt8} (h : NB w n b a c) (hs : Sl w (.slice a' ys.length c') a' c' ys) (hl : ys.length ≤ 140737488355328) (hsep : 0 < ys.length → ∀ k, blk a' = some k → k ≠ b) :
    NB (w.setCell ⟨b, 3, none⟩ (.slice a' ys.length c')) ⟨n.kind, n.mode, n.time, ys⟩ b a' c' :=
  ⟨set_f3 h.hp, ⟨hs.keep2 ((Kp.refl (fun k => k = b) w).setCell ⟨b, 3, none⟩ (.inl rfl) _) (fun hp k hk e => hsep hp k hk e), h.at'.time, hl⟩, hsep⟩

/-- What one comes to. -/
def OneEnd (w : World) (e : Ending) (w' : World) : Prop :=
  ∃ n a c, e = .returned (nodeVal n a c) ∧ NAt w' n a c ∧ Kp (fun _ => False) w w'

set_option maxHeartbeats 4000000 in
set_option maxRecDepth 100000 in
theorem one_any (x : RawV) (xa : Option Addr) (xc : Nat) (how : Int) (w : World) (hx : RawOk w x xa xc) (hn1 : -9223372036854775808 ≤ how) (hn2 : how ≤ 9223372036854775807) :
    Calls Try.prog 51 #[rawVal x xa xc, .int .i64 how] w (OneEnd w) := by
  have hsf : ∀ (a : Addr) (b : Nat) (m : Mode) (w : World), (store a (.float .f64 b) m).run Try.prog w = stored Try.prog w a (.float .f64 b) m := fun a b m w => run_store _ w a _ m rfl
  have k0 : Kp (fun _ => False) w ((w.alloc (.cells #[.int .i64 x.k, .int .i64 x.m, .int .i64 x.t, .float .f64 x.x, .slice xa x.d.length xc] 55)).alloc (.cells #[.int .i64 0, .int .i64 0, .float .f64 0, .slice none 0 0] 57)) := ((Kp.refl _ w).alloc _).alloc _
  have HX := Lib.hid (hx.keepF k0); have HK := Lib.hid k0
  have HXB := Lib.hid (hp_old (hp_new w (.cells #[.int .i64 x.k, .int .i64 x.m, .int .i64 x.t, .float .f64 x.x, .slice xa x.d.length xc] 55)) (.cells #[.int .i64 0, .int .i64 0, .float .f64 0, .slice none 0 0] 57))
  have HQ := Lib.hid (hp_new' (w.alloc (.cells #[.int .i64 x.k, .int .i64 x.m, .int .i64 x.t, .float .f64 x.x, .slice xa x.d.length xc] 55)) (.cells #[.int .i64 0, .int .i64 0, .float .f64 0, .slice none 0 0] 57) (n := w.heap.size + 1) (by simp))
  clear hx k0
  unfold rawVal
  go_enter Try.func51, Try.ntmps51
  go_wp2_with fail
  generalize ((w.alloc (.cells #[.int .i64 x.k, .int .i64 x.m, .int .i64 x.t, .float .f64 x.x, .slice xa x.d.length xc] 55)).alloc (.cells #[.int .i64 0, .int .i64 0, .float .f64 0, .slice none 0 0] 57)) = w1 at *
  obtain ⟨x0, x1, x2, x3, x4⟩ := cell_fiv HXB.out
  go_wp2_with fail
  refine (handN_any x xa xc w1 HX.out).mono ?_
  rintro e w2 ⟨aa, ac, rfl, hna, hba, hk2⟩
  have k3 := hk2.alloc (.cells #[.int .i64 (handN x).kind, .int .i64 (handN x).mode, .float .f64 (handN x).time, .slice aa (handN x).bs.length ac] 57)
  have HN := Lib.hid (NB.new hna)
  have HK3 := Lib.hid (HK.out.trans k3); have HX3 := Lib.hid (HX.out.keepF k3); have HXB3 := Lib.hid (k3.hp HXB.out id); have HQ3 := Lib.hid (k3.hp HQ.out id)
  have HNB := Lib.hid (show w.heap.size + 1 < w2.heap.size from hp_lt (hk2.hp HQ.out id))
  have hba' : ∀ k, blk aa = some k → w.heap.size + 1 < k := fun k hk => by have h1 := hba k hk; have h2 := hp_lt HQ.out; omega
  clear hna hba hk2 k3 HXB HX HK HQ x0 x1 x2 x3 x4
  have HSEP0 := Lib.hid (show 0 < (handN x).bs.length → ∀ k, blk aa = some k → k ≠ w.heap.size + 1 from fun _ k hk => by have := hba' k hk; omega)
  clear hba'
  generalize handN x = A at *
  unfold nodeVal
  go_wp2_with fail
  generalize w2.alloc (.cells #[.int .i64 A.kind, .int .i64 A.mode, .float .f64 A.time, .slice aa A.bs.length ac] 57) = w3 at *
  generalize w2.heap.size = nb at *
  have HXS := Lib.hid (show 0 < x.d.length → ∀ k, blk xa = some k → k < w3.heap.size from fun hp k hk => HX3.out.sl.lt hp k hk)
  refine (pick_any how 14 _ (by decide) (by decide) hn1 hn2).mono ?_
  rintro e w' ⟨rfl, rfl⟩
  have hm0 := Int.emod_nonneg how (show (14 : Int) ≠ 0 by decide)
  have hm1 := Int.emod_lt_of_pos how (show (0 : Int) < 14 by decide)
  have ht1 : -9223372036854775808 ≤ how.tdiv 14 ∧ how.tdiv 14 ≤ 9223372036854775807 := by
    have h7 := Int.tdiv_eq_ediv (a := how) (b := 14)
    have h8 : Int.sign 14 = 1 := rfl
    rw [h8] at h7
    split at h7 <;> omega
  have HT1 := Lib.hid ht1
  clear ht1
  generalize how % 14 = i at *
  rcases (show i = 0 ∨ i = 1 ∨ i = 2 ∨ i = 3 ∨ i = 4 ∨ i = 5 ∨ 6 ≤ i by omega) with h | h | h | h | h | h | h
  · have q0 : (i == 0) = true := by simp; omega
    obtain ⟨⟨p0, p1, p2, p3⟩, ⟨l0, l1, l2, l3⟩, lt3⟩ := cell_fr HN.out.hp
    obtain ⟨x0, x1, x2, x3, x4⟩ := cell_fiv HXB3.out
    go_wp2_with fail
    refine (pick_any (how.tdiv 14) 6 _ (by decide) (by decide) HT1.out.1 HT1.out.2).mono ?_
    rintro e w' ⟨rfl, rfl⟩
    have hr0 := Int.emod_nonneg (how.tdiv 14) (show (6 : Int) ≠ 0 by decide)
    have hr1 := Int.emod_lt_of_pos (how.tdiv 14) (show (0 : Int) < 6 by decide)
    have hNB : NB (w3.setCell ⟨nb, 0, none⟩ (.int .i64 (how.tdiv 14 % 6 - 1))) _ nb _ _ := HN.out.set0 (how.tdiv 14 % 6 - 1)
    obtain ⟨F, fa, fc, hF⟩ : ∃ F fa fc, NB (w3.setCell ⟨nb, 0, none⟩ (.int .i64 (how.tdiv 14 % 6 - 1))) F nb fa fc ∧ (0 < F.bs.length → ∀ k, blk fa = some k → k ≠ w.heap.size + 1) := ⟨_, _, _, hNB, HSEP0.out⟩
    have HF := Lib.hid hF.1; have HSEP := Lib.hid hF.2
    have HQF := Lib.hid (hp_set HQ3.out ⟨nb, 0, none⟩ (.int .i64 (how.tdiv 14 % 6 - 1)) (by show w.heap.size + 1 ≠ nb; have := HNB.out; omega))
    have HKF := Lib.hid (HK3.out.setCell ⟨nb, 0, none⟩ (.inr (by show w.heap.size ≤ nb; have := HNB.out; omega)) (.int .i64 (how.tdiv 14 % 6 - 1)))
    clear hF hNB
    obtain ⟨c0, c1, c2, c3⟩ := cell_four HF.out.hp
    obtain ⟨⟨e0, e1, e2, e3⟩, ⟨f0, f1, f2, f3⟩, lt4⟩ := cell_fr HQF.out
    go_wp2
    obtain ⟨hl4, hk4⟩ := node_laid HQF.out F fa fc (fun _ => False) w (.inr (by omega)) HKF.out
    obtain ⟨_, hk5⟩ := node_laid HQF.out F fa fc (fun b => b = w.heap.size + 1) _ (.inl rfl) (Kp.refl _ _)
    obtain ⟨y0, y1, y2, y3⟩ := cell_four hl4
    refine bodyPost_ret (v := .agg #[.int .i64 F.kind, .int .i64 F.mode, .float .f64 F.time, .slice fa F.bs.length fc]) (by simp [results, Try.results51, go_sem, y0, y1, y2, y3]) rfl ?_
    exact ⟨F, fa, fc, rfl, (HF.out.keep hk5 (fun e => by have := HNB.out; omega) (fun hp k hk e => HSEP.out hp k hk e)).at', hk4⟩
  · have q0 : (i == 0) = false := by simp; omega
    have q1 : (i == 1) = true := by simp; omega
    obtain ⟨⟨p0, p1, p2, p3⟩, ⟨l0, l1, l2, l3⟩, lt3⟩ := cell_fr HN.out.hp
    obtain ⟨x0, x1, x2, x3, x4⟩ := cell_fiv HXB3.out
    have hNB : NB (w3.setCell ⟨nb, 1, none⟩ (.int .i64 x.m)) _ nb _ _ := HN.out.set1 x.m
    obtain ⟨F, fa, fc, hF⟩ : ∃ F fa fc, NB (w3.setCell ⟨nb, 1, none⟩ (.int .i64 x.m)) F nb fa fc ∧ (0 < F.bs.length → ∀ k, blk fa = some k → k ≠ w.heap.size + 1) := ⟨_, _, _, hNB, HSEP0.out⟩
    have HF := Lib.hid hF.1; have HSEP := Lib.hid hF.2
    have HQF := Lib.hid (hp_set HQ3.out ⟨nb, 1, none⟩ (.int .i64 x.m) (by show w.heap.size + 1 ≠ nb; have := HNB.out; omega))
    have HKF := Lib.hid (HK3.out.setCell ⟨nb, 1, none⟩ (.inr (by show w.heap.size ≤ nb; have := HNB.out; omega)) (.int .i64 x.m))
    clear hF hNB
    obtain ⟨c0, c1, c2, c3⟩ := cell_four HF.out.hp
    obtain ⟨⟨e0, e1, e2, e3⟩, ⟨f0, f1, f2, f3⟩, lt4⟩ := cell_fr HQF.out
    go_wp2
    obtain ⟨hl4, hk4⟩ := node_laid HQF.out F fa fc (fun _ => False) w (.inr (by omega)) HKF.out
    obtain ⟨_, hk5⟩ := node_laid HQF.out F fa fc (fun b => b = w.heap.size + 1) _ (.inl rfl) (Kp.refl _ _)
    obtain ⟨y0, y1, y2, y3⟩ := cell_four hl4
    refine bodyPost_ret (v := .agg #[.int .i64 F.kind, .int .i64 F.mode, .float .f64 F.time, .slice fa F.bs.length fc]) (by simp [results, Try.results51, go_sem, y0, y1, y2, y3]) rfl ?_
    exact ⟨F, fa, fc, rfl, (HF.out.keep hk5 (fun e => by have := HNB.out; omega) (fun hp k hk e => HSEP.out hp k hk e)).at', hk4⟩
  · have q0 : (i == 0) = false := by simp; omega
    have q1 : (i == 1) = false := by simp; omega
    have q2 : (i == 2) = true := by simp; omega
    obtain ⟨⟨p0, p1, p2, p3⟩, ⟨l0, l1, l2, l3⟩, lt3⟩ := cell_fr HN.out.hp
    obtain ⟨x0, x1, x2, x3, x4⟩ := cell_fiv HXB3.out
    go_wp2_with fail
    refine (Time_any (how.tdiv 14) x.x _ HT1.out.1 HT1.out.2).mono ?_
    rintro e w4 ⟨rfl, hk4⟩
    have HN4 := Lib.hid (HN.out.keepF hk4); have HK4 := Lib.hid (HK3.out.trans hk4); have HQ4 := Lib.hid (hk4.hp HQ3.out id)
    clear hk4 p0 p1 p2 p3 l0 l1 l2 l3 lt3 x0 x1 x2 x3 x4 HN HK3 HQ3
    obtain ⟨⟨p0, p1, p2, p3⟩, ⟨l0, l1, l2, l3⟩, lt3⟩ := cell_fr HN4.out.hp
    have hNB : NB (w4.setCell ⟨nb, 2, none⟩ (.float .f64 (timeB (how.tdiv 14) x.x))) _ nb _ _ := HN4.out.set2 (timeB (how.tdiv 14) x.x) (timeB_lt _ _ HX3.out.x)
    obtain ⟨F, fa, fc, hF⟩ : ∃ F fa fc, NB (w4.setCell ⟨nb, 2, none⟩ (.float .f64 (timeB (how.tdiv 14) x.x))) F nb fa fc ∧ (0 < F.bs.length → ∀ k, blk fa = some k → k ≠ w.heap.size + 1) := ⟨_, _, _, hNB, HSEP0.out⟩
    have HF := Lib.hid hF.1; have HSEP := Lib.hid hF.2
    have HQF := Lib.hid (hp_set HQ4.out ⟨nb, 2, none⟩ (.float .f64 (timeB (how.tdiv 14) x.x)) (by show w.heap.size + 1 ≠ nb; have := HNB.out; omega))
    have HKF := Lib.hid (HK4.out.setCell ⟨nb, 2, none⟩ (.inr (by show w.heap.size ≤ nb; have := HNB.out; omega)) (.float .f64 (timeB (how.tdiv 14) x.x)))
    clear hF hNB
    obtain ⟨c0, c1, c2, c3⟩ := cell_four HF.out.hp
    obtain ⟨⟨e0, e1, e2, e3⟩, ⟨f0, f1, f2, f3⟩, lt4⟩ := cell_fr HQF.out
    go_wp2
    obtain ⟨hl4, hk4⟩ := node_laid HQF.out F fa fc (fun _ => False) w (.inr (by omega)) HKF.out
    obtain ⟨_, hk5⟩ := node_laid HQF.out F fa fc (fun b => b = w.heap.size + 1) _ (.inl rfl) (Kp.refl _ _)
    obtain ⟨y0, y1, y2, y3⟩ := cell_four hl4
    refine bodyPost_ret (v := .agg #[.int .i64 F.kind, .int .i64 F.mode, .float .f64 F.time, .slice fa F.bs.length fc]) (by simp [results, Try.results51, go_sem, y0, y1, y2, y3]) rfl ?_
    exact ⟨F, fa, fc, rfl, (HF.out.keep hk5 (fun e => by have := HNB.out; omega) (fun hp k hk e => HSEP.out hp k hk e)).at', hk4⟩
  · have q0 : (i == 0) = false := by simp; omega
    have q1 : (i == 1) = false := by simp; omega
    have q2 : (i == 2) = false := by simp; omega
    have q3 : (i == 3) = true := by simp; omega
    obtain ⟨ti, I⟩ := byteInfo
    have HO5 : Hid ((w3.alloc (.cells #[.int .u8 0] 5)).ownsRow w3.heap.size 5 1 (.slice (some ⟨w3.heap.size, 0, none⟩) 1 1) 1 ([(0 : UInt8)].map byteV)) := owns_lit w3 #[.int .u8 0] 5 1 w3.heap.size ([(0 : UInt8)].map byteV) (Nat.le_refl _) rfl (by decide) rfl
    have k5 : Kp (fun _ => False) w3 (w3.alloc (.cells #[.int .u8 0] 5)) := (Kp.refl _ w3).alloc _
    have HX5 := Lib.hid (HX3.out.keepF k5).sl
    obtain ⟨y0, y1, y2, y3, y4⟩ := cell_fiv (k5.hp HXB3.out id)
    go_wp2_with (at_builtin; refine wpList_append_sl rfl I w3.heap.size (.tmp 32) (.tmp 34) rfl (.slice (some ⟨w3.heap.size, 0, none⟩) 1 1) [0] rfl HO5.out (by simp) (.slice xa x.d.length xc) xa xc x.d rfl HX5.out (by have := HX3.out.len; simp; omega) ?_)
    intro v' w6 hown' hgr _
    have hown2 : w6.ownsRow w3.heap.size 5 1 v' (([0] : List UInt8) ++ x.d).length ((([0] : List UInt8) ++ x.d).map byteV) := by simpa [Nat.add_comm] using hown'
    obtain ⟨za, zc, hz, _, hzb⟩ := sl_of_owns hown2
    have he := hz.eq
    subst he
    have k6 : Kp (fun _ => False) w3 w6 := k5.grown hgr (fun b hb => .inr (owns_block HO5.out b hb).1)
    have HN4 := Lib.hid (HN.out.keepF k6); have HK4 := Lib.hid (HK3.out.trans k6); have HQ4 := Lib.hid (k6.hp HQ3.out id)
    have HZ := Lib.hid hz
    have HZB := Lib.hid (show ∀ b, blk za = some b → nb < b from fun b hb => by have h1 := (hzb b hb).1; have := hp_lt HN.out.hp; omega)
    have HZL := Lib.hid (show (([0] : List UInt8) ++ x.d).length ≤ 140737488355328 by have := HX3.out.len; simp; omega)
    clear hown' hown2 hz hzb hgr k5 k6 HO5 HX5 y0 y1 y2 y3 y4 HN HK3 HQ3
    generalize ([0] : List UInt8) ++ x.d = zs at *
    obtain ⟨⟨p0, p1, p2, p3⟩, ⟨l0, l1, l2, l3⟩, lt3⟩ := cell_fr HN4.out.hp
    have hNB : NB (w6.setCell ⟨nb, 3, none⟩ (.slice za zs.length zc)) _ nb _ _ := HN4.out.set3 HZ.out HZL.out (fun _ b hb => by have := HZB.out b hb; omega)
    obtain ⟨F, fa, fc, hF⟩ : ∃ F fa fc, NB (w6.setCell ⟨nb, 3, none⟩ (.slice za zs.length zc)) F nb fa fc ∧ (0 < F.bs.length → ∀ k, blk fa = some k → k ≠ w.heap.size + 1) := ⟨_, _, _, hNB, fun _ b hb => by have := HZB.out b hb; have := HNB.out; omega⟩
    have HF := Lib.hid hF.1; have HSEP := Lib.hid hF.2
    have HQF := Lib.hid (hp_set HQ4.out ⟨nb, 3, none⟩ (.slice za zs.length zc) (by show w.heap.size + 1 ≠ nb; have := HNB.out; omega))
    have HKF := Lib.hid (HK4.out.setCell ⟨nb, 3, none⟩ (.inr (by show w.heap.size ≤ nb; have := HNB.out; omega)) (.slice za zs.length zc))
    clear hF hNB
    obtain ⟨c0, c1, c2, c3⟩ := cell_four HF.out.hp
    obtain ⟨⟨e0, e1, e2, e3⟩, ⟨f0, f1, f2, f3⟩, lt4⟩ := cell_fr HQF.out
    go_wp2
    obtain ⟨hl4, hk4⟩ := node_laid HQF.out F fa fc (fun _ => False) w (.inr (by omega)) HKF.out
    obtain ⟨_, hk5⟩ := node_laid HQF.out F fa fc (fun b => b = w.heap.size + 1) _ (.inl rfl) (Kp.refl _ _)
    obtain ⟨y0, y1, y2, y3⟩ := cell_four hl4
    refine bodyPost_ret (v := .agg #[.int .i64 F.kind, .int .i64 F.mode, .float .f64 F.time, .slice fa F.bs.length fc]) (by simp [results, Try.results51, go_sem, y0, y1, y2, y3]) rfl ?_
    exact ⟨F, fa, fc, rfl, (HF.out.keep hk5 (fun e => by have := HNB.out; omega) (fun hp k hk e => HSEP.out hp k hk e)).at', hk4⟩
  · have q0 : (i == 0) = false := by simp; omega
    have q1 : (i == 1) = false := by simp; omega
    have q2 : (i == 2) = false := by simp; omega
    have q3 : (i == 3) = false := by simp; omega
    have q4 : (i == 4) = true := by simp; omega
    obtain ⟨⟨p0, p1, p2, p3⟩, ⟨l0, l1, l2, l3⟩, lt3⟩ := cell_fr HN.out.hp
    obtain ⟨x0, x1, x2, x3, x4⟩ := cell_fiv HXB3.out
    have hNB : NB (w3.setCell ⟨nb, 3, none⟩ (.slice none 0 0)) _ nb _ _ := HN.out.set3 (ys := []) (Sl.nil _) (Nat.zero_le _) (fun h => absurd h (by simp))
    obtain ⟨F, fa, fc, hF⟩ : ∃ F fa fc, NB (w3.setCell ⟨nb, 3, none⟩ (.slice none 0 0)) F nb fa fc ∧ (0 < F.bs.length → ∀ k, blk fa = some k → k ≠ w.heap.size + 1) := ⟨_, _, _, hNB, fun h => absurd h (by simp)⟩
    have HF := Lib.hid hF.1; have HSEP := Lib.hid hF.2
    have HQF := Lib.hid (hp_set HQ3.out ⟨nb, 3, none⟩ (.slice none 0 0) (by show w.heap.size + 1 ≠ nb; have := HNB.out; omega))
    have HKF := Lib.hid (HK3.out.setCell ⟨nb, 3, none⟩ (.inr (by show w.heap.size ≤ nb; have := HNB.out; omega)) (.slice none 0 0))
    clear hF hNB
    obtain ⟨c0, c1, c2, c3⟩ := cell_four HF.out.hp
    obtain ⟨⟨e0, e1, e2, e3⟩, ⟨f0, f1, f2, f3⟩, lt4⟩ := cell_fr HQF.out
    go_wp2
    obtain ⟨hl4, hk4⟩ := node_laid HQF.out F fa fc (fun _ => False) w (.inr (by omega)) HKF.out
    obtain ⟨_, hk5⟩ := node_laid HQF.out F fa fc (fun b => b = w.heap.size + 1) _ (.inl rfl) (Kp.refl _ _)
    obtain ⟨y0, y1, y2, y3⟩ := cell_four hl4
    refine bodyPost_ret (v := .agg #[.int .i64 F.kind, .int .i64 F.mode, .float .f64 F.time, .slice fa F.bs.length fc]) (by simp [results, Try.results51, go_sem, y0, y1, y2, y3]) rfl ?_
    exact ⟨F, fa, fc, rfl, (HF.out.keep hk5 (fun e => by have := HNB.out; omega) (fun hp k hk e => HSEP.out hp k hk e)).at', hk4⟩
  · have q0 : (i == 0) = false := by simp; omega
    have q1 : (i == 1) = false := by simp; omega
    have q2 : (i == 2) = false := by simp; omega
    have q3 : (i == 3) = false := by simp; omega
    have q4 : (i == 4) = false := by simp; omega
    have q5 : (i == 5) = true := by simp; omega
    go_wp2_with fail
    refine (pick_any (how.tdiv 14) 2100 _ (by decide) (by decide) HT1.out.1 HT1.out.2).mono ?_
    rintro e w' ⟨rfl, rfl⟩
    have hr0 := Int.emod_nonneg (how.tdiv 14) (show (2100 : Int) ≠ 0 by decide)
    have hr1 := Int.emod_lt_of_pos (how.tdiv 14) (show (0 : Int) < 2100 by decide)
    obtain ⟨k, hk⟩ : ∃ k : Nat, how.tdiv 14 % 2100 = (k : Int) := ⟨(how.tdiv 14 % 2100).toNat, by omega⟩
    rw [hk] at hr0 hr1
    rw [hk]
    have hmk := run_mk k (by omega)
    have k5 : Kp (fun _ => False) w3 (w3.alloc (.cells (madeCells #[.int .u8 0] k) 5)) := (Kp.refl _ w3).alloc _
    have HNL := Lib.hid (show nb < w3.heap.size from hp_lt HN.out.hp)
    obtain ⟨zs, hzs, hz⟩ : ∃ zs : List UInt8, k = zs.length ∧ Sl (w3.alloc (.cells (madeCells #[.int .u8 0] k) 5)) (.slice (some ⟨w3.heap.size, 0, none⟩) k k) (some ⟨w3.heap.size, 0, none⟩) k zs := ⟨List.replicate k 0, by simp, sl_made w3 k 5 (by unfold maxLen; omega)⟩
    subst hzs
    have HZ := Lib.hid hz
    clear hz
    have HN4 := Lib.hid (HN.out.keepF k5); have HK4 := Lib.hid (HK3.out.trans k5); have HQ4 := Lib.hid (k5.hp HQ3.out id)
    obtain ⟨⟨p0, p1, p2, p3⟩, ⟨l0, l1, l2, l3⟩, lt3⟩ := cell_fr HN4.out.hp
    clear k5 HN HK3 HQ3
    have hNB : NB ((w3.alloc (.cells (madeCells #[.int .u8 0] zs.length) 5)).setCell ⟨nb, 3, none⟩ (.slice (some ⟨w3.heap.size, 0, none⟩) zs.length zs.length)) _ nb _ _ := HN4.out.set3 HZ.out (by omega) (fun _ b hb => by cases hb; have h1 := HNL.out; exact fun e => by have h2 : w3.heap.size = nb := e; omega)
    obtain ⟨F, fa, fc, hF⟩ : ∃ F fa fc, NB ((w3.alloc (.cells (madeCells #[.int .u8 0] zs.length) 5)).setCell ⟨nb, 3, none⟩ (.slice (some ⟨w3.heap.size, 0, none⟩) zs.length zs.length)) F nb fa fc ∧ (0 < F.bs.length → ∀ k, blk fa = some k → k ≠ w.heap.size + 1) := ⟨_, _, _, hNB, fun _ b hb => by cases hb; have h1 := HNL.out; have := HNB.out; exact fun e => by have h2 : w3.heap.size = w.heap.size + 1 := e; omega⟩
    have HF := Lib.hid hF.1; have HSEP := Lib.hid hF.2
    have HQF := Lib.hid (hp_set HQ4.out ⟨nb, 3, none⟩ (.slice (some ⟨w3.heap.size, 0, none⟩) zs.length zs.length) (by show w.heap.size + 1 ≠ nb; have := HNB.out; omega))
    have HKF := Lib.hid (HK4.out.setCell ⟨nb, 3, none⟩ (.inr (by show w.heap.size ≤ nb; have := HNB.out; omega)) (.slice (some ⟨w3.heap.size, 0, none⟩) zs.length zs.length))
    clear hF hNB
    obtain ⟨c0, c1, c2, c3⟩ := cell_four HF.out.hp
    obtain ⟨⟨e0, e1, e2, e3⟩, ⟨f0, f1, f2, f3⟩, lt4⟩ := cell_fr HQF.out
    go_wp2
    obtain ⟨hl4, hk4⟩ := node_laid HQF.out F fa fc (fun _ => False) w (.inr (by omega)) HKF.out
    obtain ⟨_, hk5⟩ := node_laid HQF.out F fa fc (fun b => b = w.heap.size + 1) _ (.inl rfl) (Kp.refl _ _)
    obtain ⟨y0, y1, y2, y3⟩ := cell_four hl4
    refine bodyPost_ret (v := .agg #[.int .i64 F.kind, .int .i64 F.mode, .float .f64 F.time, .slice fa F.bs.length fc]) (by simp [results, Try.results51, go_sem, y0, y1, y2, y3]) rfl ?_
    exact ⟨F, fa, fc, rfl, (HF.out.keep hk5 (fun e => by have := HNB.out; omega) (fun hp k hk e => HSEP.out hp k hk e)).at', hk4⟩
  · have q0 : (i == 0) = false := by simp; omega
    have q1 : (i == 1) = false := by simp; omega
    have q2 : (i == 2) = false := by simp; omega
    have q3 : (i == 3) = false := by simp; omega
    have q4 : (i == 4) = false := by simp; omega
    have q5 : (i == 5) = false := by simp; omega
    have hNB : NB w3 _ nb _ _ := HN.out
    obtain ⟨F, fa, fc, hF⟩ : ∃ F fa fc, NB w3 F nb fa fc ∧ (0 < F.bs.length → ∀ k, blk fa = some k → k ≠ w.heap.size + 1) := ⟨_, _, _, hNB, HSEP0.out⟩
    have HF := Lib.hid hF.1; have HSEP := Lib.hid hF.2
    have HQF := Lib.hid (HQ3.out)
    have HKF := Lib.hid (HK3.out)
    clear hF hNB
    obtain ⟨c0, c1, c2, c3⟩ := cell_four HF.out.hp
    obtain ⟨⟨e0, e1, e2, e3⟩, ⟨f0, f1, f2, f3⟩, lt4⟩ := cell_fr HQF.out
    go_wp2
    obtain ⟨hl4, hk4⟩ := node_laid HQF.out F fa fc (fun _ => False) w (.inr (by omega)) HKF.out
    obtain ⟨_, hk5⟩ := node_laid HQF.out F fa fc (fun b => b = w.heap.size + 1) _ (.inl rfl) (Kp.refl _ _)
    obtain ⟨y0, y1, y2, y3⟩ := cell_four hl4
    refine bodyPost_ret (v := .agg #[.int .i64 F.kind, .int .i64 F.mode, .float .f64 F.time, .slice fa F.bs.length fc]) (by simp [results, Try.results51, go_sem, y0, y1, y2, y3]) rfl ?_
    exact ⟨F, fa, fc, rfl, (HF.out.keep hk5 (fun e => by have := HNB.out; omega) (fun hp k hk e => HSEP.out hp k hk e)).at', hk4⟩
end Go.Proofs.Ytgpidbdgodgefaa
