/- The walk of OctetLays: it answers true and turns nothing that was there. Conditions: as the theorems name them. -/
import Derived.Test.YtgpidbdgodgefaaLays0
import Derived.Test.YtgpidbdgodgefaaOpen2
import Derived.Deep.RegionWith
import Derived.Deep.RegionHeld3
import Derived.Deep.QuietTactic
namespace Go.Proofs.Ytgpidbdgodgefaa
open Go.RowKit

/-- A step's copy lies in a block of its own. -/
structure XAt (w : World) (c : Nat) (s : BStep) : Prop where
  what : w.cell? ⟨c, 0, none⟩ = some (.int .i64 s.what)
  n : w.cell? ⟨c, 1, none⟩ = some (.int .i64 s.n)
  x : w.cell? ⟨c, 2, none⟩ = some (.float .f64 s.x)
  bs : w.cell? ⟨c, 3, none⟩ = some (.slice s.a s.bs.length s.c)
theorem XAt.keep {w w' : World} {c : Nat} {s : BStep} {S : Nat → Prop} (h : XAt w c s) (k : Kp S w w') (hc : ¬ S c) : XAt w' c s :=
  ⟨k.cell h.what hc, k.cell h.n hc, k.cell h.x hc, k.cell h.bs hc⟩
theorem cell_four {w : World} {n : Nat} {v0 v1 v2 v3 : Value} {t : TypeId} (h : w.heap[n]? = some (.cells #[v0, v1, v2, v3] t (0, 0))) :
    w.cell? ⟨n, 0, none⟩ = some v0 ∧ w.cell? ⟨n, 1, none⟩ = some v1 ∧ w.cell? ⟨n, 2, none⟩ = some v2 ∧ w.cell? ⟨n, 3, none⟩ = some v3 :=
  ⟨by simp [World.cell?, h], by simp [World.cell?, h], by simp [World.cell?, h], by simp [World.cell?, h]⟩
theorem XAt.new (w : World) (s : BStep) (t : TypeId) : XAt (w.alloc (.cells #[.int .i64 s.what, .int .i64 s.n, .float .f64 s.x, .slice s.a s.bs.length s.c] t)) w.heap.size s := by
  obtain ⟨h0, h1, h2, h3⟩ := cell_four (hp_new w (.cells #[.int .i64 s.what, .int .i64 s.n, .float .f64 s.x, .slice s.a s.bs.length s.c] t))
  exact ⟨h0, h1, h2, h3⟩
theorem Both.out {w : World} {p q : Nat} {rx rr : Option Nat} {bs : List UInt8} {c : Nat} (h : Both w p q rx rr bs) (hc : w.heap.size ≤ c) : ¬ (c = p ∨ rx = some c) ∧ ¬ (c = q ∨ rr = some c) := by
  have h1 := h.x.lt
  have h2 := h.r.lt
  constructor
  · rintro (e | e)
    · omega
    · have := (h.x.row c e).2; omega
  · rintro (e | e)
    · omega
    · have := (h.r.row c e).2; omega

/-- (the walk's letters hide 'u64') -/
def u64f (n : Int) : Nat := u64 n

theorem World.cell?_Kp {w w' : World} {p : Addr} {v : Value} {S : Nat → Prop} (h : w.cell? p = some v) (k : Kp S w w') (hn : ¬ S p.block) : w'.cell? p = some v := k.cell h hn

theorem byteXor (z : UInt8) : ∃ u : UInt8, bits .xor .u8 (z.toNat : Int) 1 = (u.toNat : Int) := by
  have h : ∀ n : Fin 256, bits .xor .u8 (n.val : Int) 1 = ((n.val ^^^ 1 : Nat) : Int) ∧ n.val ^^^ 1 < 256 := by decide +kernel
  obtain ⟨h1, h2⟩ := h ⟨z.toNat, z.toNat_lt⟩
  refine ⟨UInt8.ofNat (z.toNat ^^^ 1), ?_⟩
  rw [UInt8.toNat_ofNat', Nat.mod_eq_of_lt h2]
  exact h1

set_option maxHeartbeats 6000000 in
set_option maxRecDepth 100000 in
theorem lays_any (la : Option Addr) (ll lc : Nat) (f : Nat → BStep) (w : World) (hl : ll ≤ maxLen) (hf : ∀ i, i < ll → ∃ b off, la = some ⟨b, off, none⟩ ∧ StepAt w b (off + i * 4) (f i) ∧ (f i).bs.length ≤ 1048576) :
    Calls Try.prog 3 #[.slice la ll lc] w fun e w' => e = .returned (.bool true) ∧ Kp (fun _ => False) w w' := by
  have hnp : ∀ (a : Addr) (w : World), (binOp .eql 23 (.pointer (some a)) (.pointer none)).run Try.prog w = .ok (.bool false) w := fun a w => neq_nil_ptr _ w a Try.underlying23
  have hsf : ∀ (a : Addr) (b : Nat) (m : Mode) (w : World), (store a (.float .f64 b) m).run Try.prog w = stored Try.prog w a (.float .f64 b) m := fun a b m w => run_store _ w a _ m rfl
  have HF := Lib.hid hf
  clear hf
  unfold maxLen at hl
  go_enter Try.func3, Try.ntmps3
  go_wp2_with fail
  refine (NewWriter_any w).mono ?_
  rintro e w1 ⟨rfl, hw, hk⟩
  have HW1 := Lib.hid hw; have HK1 := Lib.hid hk
  clear hw hk
  go_wp2_with fail
  refine (known1_any _).mono ?_
  rintro e w2 ⟨rfl, hk⟩
  have HK2 := Lib.hid (HK1.out.trans hk)
  have HW2 := Lib.hid (HW1.out.keep hk id (fun _ _ => id))
  clear hk
  have HPQ := Lib.hid (show w.heap.size ≠ w2.heap.size from fun e => by have := HW2.out.lt; omega)
  have HQ := Lib.hid (show w.heap.size ≤ w2.heap.size from HK2.out.size)
  go_wp2_with fail
  go_loopw [5] (fun i wr => ∃ k : Nat, i = .int .i64 k ∧ k ≤ min ll 40 ∧ Hid (∃ rx rr bs, Both wr w.heap.size w2.heap.size rx rr bs ∧ bs.length ≤ 1048600 * k) ∧ Hid (Kp (fun _ => False) w wr)) (fun i _ => 40 - (intOf i).toNat)
  case atStart =>
    refine ⟨0, rfl, Nat.zero_le _, Lib.hid ⟨none, none, [], ⟨HW2.out.keep ((Kp.refl (fun _ => False) w2).alloc _) id (fun _ _ => id), ⟨.slice none 0 0, hp_new _ _, rfl, World.ownsRow_nil _ _ _ _⟩, fun b hb => ?_, fun b hb => ?_, fun b hb => ?_⟩, Nat.zero_le _⟩, Lib.hid (HK2.out.alloc _)⟩
    all_goals cases hb
  case round =>
    obtain ⟨k, rfl, hk, HW, HK⟩ := hrel
    by_cases hkn : k < min ll 40
    · have h1 : k < ll := by omega
      have h2 : k < 40 := by omega
      have h1' : decide ((k : Int) < (ll : Int)) = true := by simpa using h1
      have h2' : decide ((k : Int) < 40) = true := by simp; omega
      obtain ⟨b, off, rfl, hst, hbl⟩ := HF.out k h1
      have hst' := hst.keep HK.out
      have hz0 : 0 ≤ (k : Int) := by omega
      have hzl : (k : Int) < (ll : Int) := by omega
      have c0 := hst'.what; have c1 := hst'.n; have c2 := hst'.x; have c3 := hst'.bs
      have r0 := hst'.rw; have r1 := hst'.rn
      obtain ⟨r0a, r0b⟩ := r0
      obtain ⟨r1a, r1b⟩ := r1
      have HST := Lib.hid hst
      have HBL := Lib.hid hbl
      clear hst hst' hbl
      obtain ⟨rx, rr, bs, htw, htl⟩ := HW.out
      have HT := Lib.hid htw
      have HTB := Lib.hid htl
      have HTL := Lib.hid (show bs.length ≤ 41944000 - 1048600 by omega)
      clear htw HW htl
      go_wp2_with fail
      have hxa := XAt.new wr (f k) 32
      have hkp : Kp (fun _ => False) wr (wr.alloc (.cells #[.int .i64 (f k).what, .int .i64 (f k).n, .float .f64 (f k).x, .slice (f k).a (f k).bs.length (f k).c] 32)) := (Kp.refl _ wr).alloc _
      generalize wr.alloc (.cells #[.int .i64 (f k).what, .int .i64 (f k).n, .float .f64 (f k).x, .slice (f k).a (f k).bs.length (f k).c] 32) = w4 at *
      have HK4 := Lib.hid (HK.out.trans hkp)
      have HT4 := Lib.hid (HT.out.keep hkp id id (fun _ _ => id) (fun _ _ => id))
      have HO := Lib.hid (HT.out.out (Nat.le_refl _))
      have HX4 := Lib.hid hxa
      clear c0 c1 c2 c3
      obtain ⟨d0, d1, d2, d3⟩ := hxa
      generalize wr.heap.size = c at *
      clear hkp
      refine (pick_any _ _ _ (by decide) (by decide) r0a r0b).mono ?_
      rintro e w' ⟨rfl, rfl⟩
      have hm0 := Int.emod_nonneg (f k).what (show (6 : Int) ≠ 0 by decide)
      have hm4 := Int.emod_lt_of_pos (f k).what (show (0 : Int) < 6 by decide)
      have hcases : (f k).what % 6 = 0 ∨ (f k).what % 6 = 1 ∨ (f k).what % 6 = 2 ∨ (f k).what % 6 = 3 ∨ (f k).what % 6 = 4 ∨ (f k).what % 6 = 5 := by omega
      clear hm0 hm4
      rcases hcases with e0 | e0 | e0 | e0 | e0 | e0
      case' inl =>
        rw [e0]
        clear e0
        go_wp2_with fail
        refine (U8_any w.heap.size (f k).n rx bs w4 HT4.out.x (by have := HTL.out; omega)).mono ?_
        rintro e w5 ⟨rfl, rx5, hx5, fx5, kx5⟩
        have HK5 := Lib.hid (kp_wr HK4.out (Nat.le_refl _) HT4.out.x kx5)
        have HX5 := HX4.out.keep kx5 HO.out.1
        obtain ⟨_, d15, _, _⟩ := HX5
        have HRr := Lib.hid (HT4.out.mid HPQ.out kx5)
        have HMK := Lib.hid (And.intro hx5 (And.intro fx5 kx5))
        clear hx5 fx5 kx5
        go_wp2_with fail
        refine (rU8_any w2.heap.size (f k).n rr bs w5 HRr.out (by have := HTL.out; omega)).mono ?_
        rintro e w6 ⟨rfl, rr6, hr6, fr6, kr6⟩
        have HK6 := Lib.hid (kp_wr HK5.out HQ.out HRr.out kr6)
        have HT6 := Lib.hid (HT4.out.after HPQ.out HMK.out.1 HMK.out.2.1 HMK.out.2.2 hr6 fr6 kr6)
        have HB6 := Lib.hid (show (bs ++ be 1 (u64f (f k).n)).length ≤ 1048600 * (k + 1) by have := HTB.out; simp only [List.length_append, be_length]; omega)
        clear hr6 fr6 kr6
      case' inr.inl =>
        rw [e0]
        clear e0
        go_wp2_with fail
        refine (U16_any w.heap.size (f k).n rx bs w4 HT4.out.x (by have := HTL.out; omega)).mono ?_
        rintro e w5 ⟨rfl, rx5, hx5, fx5, kx5⟩
        have HK5 := Lib.hid (kp_wr HK4.out (Nat.le_refl _) HT4.out.x kx5)
        have HX5 := HX4.out.keep kx5 HO.out.1
        obtain ⟨_, d15, _, _⟩ := HX5
        have HRr := Lib.hid (HT4.out.mid HPQ.out kx5)
        have HMK := Lib.hid (And.intro hx5 (And.intro fx5 kx5))
        clear hx5 fx5 kx5
        go_wp2_with fail
        refine (rU16_any w2.heap.size (f k).n rr bs w5 HRr.out (by have := HTL.out; omega)).mono ?_
        rintro e w6 ⟨rfl, rr6, hr6, fr6, kr6⟩
        have HK6 := Lib.hid (kp_wr HK5.out HQ.out HRr.out kr6)
        have HT6 := Lib.hid (HT4.out.after HPQ.out HMK.out.1 HMK.out.2.1 HMK.out.2.2 hr6 fr6 kr6)
        have HB6 := Lib.hid (show (bs ++ be 2 (u64f (f k).n)).length ≤ 1048600 * (k + 1) by have := HTB.out; simp only [List.length_append, be_length]; omega)
        clear hr6 fr6 kr6
      case' inr.inr.inl =>
        rw [e0]
        clear e0
        go_wp2_with fail
        refine (U32_any w.heap.size (f k).n rx bs w4 HT4.out.x (by have := HTL.out; omega)).mono ?_
        rintro e w5 ⟨rfl, rx5, hx5, fx5, kx5⟩
        have HK5 := Lib.hid (kp_wr HK4.out (Nat.le_refl _) HT4.out.x kx5)
        have HX5 := HX4.out.keep kx5 HO.out.1
        obtain ⟨_, d15, _, _⟩ := HX5
        have HRr := Lib.hid (HT4.out.mid HPQ.out kx5)
        have HMK := Lib.hid (And.intro hx5 (And.intro fx5 kx5))
        clear hx5 fx5 kx5
        go_wp2_with fail
        refine (rU32_any w2.heap.size (f k).n rr bs w5 HRr.out (by have := HTL.out; omega)).mono ?_
        rintro e w6 ⟨rfl, rr6, hr6, fr6, kr6⟩
        have HK6 := Lib.hid (kp_wr HK5.out HQ.out HRr.out kr6)
        have HT6 := Lib.hid (HT4.out.after HPQ.out HMK.out.1 HMK.out.2.1 HMK.out.2.2 hr6 fr6 kr6)
        have HB6 := Lib.hid (show (bs ++ be 4 (u64f (f k).n)).length ≤ 1048600 * (k + 1) by have := HTB.out; simp only [List.length_append, be_length]; omega)
        clear hr6 fr6 kr6
      case' inr.inr.inr.inl =>
        rw [e0]
        clear e0
        have HX0 := Lib.hid HST.out.rx
        have HTM := Lib.hid (timeB_lt (f k).n (f k).x HX0.out)
        go_wp2_with fail
        refine (Time_any (f k).n (f k).x w4 r1a r1b).mono ?_
        rintro e w41 ⟨rfl, hk41⟩
        have HK41 := Lib.hid (HK4.out.trans hk41)
        have HT41 := Lib.hid (HT4.out.keep hk41 id id (fun _ _ => id) (fun _ _ => id))
        have HX41 := HX4.out.keep hk41 id
        clear hk41
        go_wp2_with fail
        refine (F64_any w.heap.size (timeB (f k).n (f k).x) HTM.out rx bs w41 HT41.out.x (by have := HTL.out; omega)).mono ?_
        rintro e w5 ⟨rfl, rx5, hx5, fx5, kx5⟩
        have HK5 := Lib.hid (kp_wr HK41.out (Nat.le_refl _) HT41.out.x kx5)
        have HX5 := HX41.keep kx5 HO.out.1
        obtain ⟨_, d15, d25, _⟩ := HX5
        have HRr := Lib.hid (HT41.out.mid HPQ.out kx5)
        have HMK := Lib.hid (And.intro hx5 (And.intro fx5 kx5))
        clear hx5 fx5 kx5 HX41
        go_wp2_with fail
        refine (Time_any (f k).n (f k).x w5 r1a r1b).mono ?_
        rintro e w51 ⟨rfl, hk51⟩
        have HK51 := Lib.hid (HK5.out.trans hk51)
        have HRr1 := Lib.hid (HRr.out.keep hk51 id (fun _ _ => id))
        have HXx1 := Lib.hid (HMK.out.1.keep hk51 id (fun _ _ => id))
        have HKx1 := Lib.hid (HMK.out.2.2.trans (hk51.mono fun _ _ h => h.elim))
        clear hk51
        go_wp2_with fail
        refine (rF64_any w2.heap.size (timeB (f k).n (f k).x) HTM.out rr bs w51 HRr1.out (by have := HTL.out; omega)).mono ?_
        rintro e w6 ⟨rfl, rr6, hr6, fr6, kr6⟩
        have HK6 := Lib.hid (kp_wr HK51.out HQ.out HRr1.out kr6)
        have HT6 := Lib.hid (HT41.out.after HPQ.out HXx1.out HMK.out.2.1 HKx1.out hr6 fr6 kr6)
        have HB6 := Lib.hid (show (bs ++ be 8 (timeB (f k).n (f k).x)).length ≤ 1048600 * (k + 1) by have := HTB.out; simp only [List.length_append, be_length]; omega)
        clear hr6 fr6 kr6 d15 d25
      case' inr.inr.inr.inr.inl =>
        rw [e0]
        clear e0
        have HSL := Lib.hid (HST.out.sl)
        go_wp2_with fail
        refine (Raw_any w.heap.size _ (f k).a (f k).c (f k).bs rx bs w4 (HSL.out.keep HK4.out (fun _ _ => id)) HT4.out.x (by have := HTL.out; have := HBL.out; omega)).mono ?_
        rintro e w5 ⟨rfl, rx5, hx5, fx5, kx5⟩
        have HK5 := Lib.hid (kp_wr HK4.out (Nat.le_refl _) HT4.out.x kx5)
        have HX5 := HX4.out.keep kx5 HO.out.1
        obtain ⟨_, _, _, d35⟩ := HX5
        have HRr := Lib.hid (HT4.out.mid HPQ.out kx5)
        have HMK := Lib.hid (And.intro hx5 (And.intro fx5 kx5))
        clear hx5 fx5 kx5
        go_wp2_with fail
        refine (rRaw_any w2.heap.size _ (f k).a (f k).c (f k).bs rr bs w5 (HSL.out.keep HK5.out (fun _ _ => id)) HRr.out (by have := HTL.out; have := HBL.out; omega)).mono ?_
        rintro e w6 ⟨rfl, rr6, hr6, fr6, kr6⟩
        have HK6 := Lib.hid (kp_wr HK5.out HQ.out HRr.out kr6)
        have HT6 := Lib.hid (HT4.out.after HPQ.out HMK.out.1 HMK.out.2.1 HMK.out.2.2 hr6 fr6 kr6)
        have HB6 := Lib.hid (show (bs ++ (f k).bs).length ≤ 1048600 * (k + 1) by have := HTB.out; have := HBL.out; simp only [List.length_append]; omega)
        clear hr6 fr6 kr6 d35
      case' inr.inr.inr.inr.inr =>
        rw [e0]
        clear e0
        have HSL := Lib.hid (HST.out.sl)
        have HKc := Lib.hid (HK4.out.drew)
        have HT4d := Lib.hid (HT4.out.keep ((Kp.refl (fun _ => False) w4).drew) id id (fun _ _ => id) (fun _ _ => id))
        have HX4d := Lib.hid (HX4.out.keep ((Kp.refl (fun _ => False) w4).drew) id)
        have HBc := Lib.hid HX4d.out.bs
        have hbl := HBL.out
        go_wp2_with fail
        by_cases h5 : (f k).bs.length ≤ 65535
        case' pos =>
          go_region_held3 (fun w' => w'.cell? ⟨c, 3, none⟩ = some (.slice (f k).a (f k).bs.length (f k).c) ∧ Hid (Kp (fun _ => False) w w')) (exact ⟨HBc.out, HKc⟩) (first
              | (go_at_call 27; refine (Text_yes2 w.heap.size _ (f k).a (f k).c (f k).bs rx bs w4.drew (HSL.out.keep HKc.out (fun _ _ => id)) HT4d.out.x (by have := HTL.out; have := HBL.out; omega) (by omega) (fun w' h => HSL.out.keep (kp_wr HKc.out (Nat.le_refl _) HT4d.out.x h) (fun _ _ => id))).mono ?_; rintro e w5 ⟨rfl, rx5, hx5, fx5, kx5⟩; have hb := (HX4d.out.keep kx5 HO.out.1).bs; have HKc := Lib.hid (kp_wr HKc.out (Nat.le_refl _) HT4d.out.x kx5); have HBc := Lib.hid hb; have HRr := Lib.hid (HT4d.out.mid HPQ.out kx5); have HMK := Lib.hid (And.intro hx5 (And.intro fx5 kx5)); clear hx5 fx5 kx5 hb)
              | (go_at_call 28; refine (rText_yes2 w2.heap.size _ (f k).a (f k).c (f k).bs rr bs w5 (HSL.out.keep HKc.out (fun _ _ => id)) HRr.out (by have := HTL.out; have := HBL.out; omega) (by omega) (fun w' h => HSL.out.keep (kp_wr HKc.out HQ.out HRr.out h) (fun _ _ => id))).mono ?_; rintro e w6 ⟨rfl, rr6, hr6, fr6, kr6⟩; have HBc := Lib.hid (World.cell?_Kp HBc.out kr6 HO.out.2); have HKc := Lib.hid (kp_wr HKc.out HQ.out HRr.out kr6); have HT6 := Lib.hid (HT4d.out.after HPQ.out HMK.out.1 HMK.out.2.1 HMK.out.2.2 hr6 fr6 kr6); clear hr6 fr6 kr6))
          have HK6 := HKc
          have HB6 := Lib.hid (show (bs ++ texted (f k).bs).length ≤ 1048600 * (k + 1) by have := HTB.out; have := HBL.out; simp only [texted, List.length_append, be_length]; omega)
        case' neg =>
          go_region_held3 (fun w' => w'.cell? ⟨c, 3, none⟩ = some (.slice (f k).a (f k).bs.length (f k).c) ∧ Hid (Kp (fun _ => False) w w')) (exact ⟨HBc.out, HKc⟩) (first
              | (go_at_call 27; refine (Text_no w.heap.size (f k).a (f k).c (f k).bs.length w4.drew (by omega) (by unfold maxLen; omega)).mono ?_; rintro e w' ⟨rfl, rfl⟩)
              | (go_at_call 28; refine (rText_no w2.heap.size (f k).a (f k).c (f k).bs.length w4.drew (by omega) (by unfold maxLen; omega)).mono ?_; rintro e w' ⟨rfl, rfl⟩))
          have HK6 := HKc
          have HT6 := HT4d
          have HB6 := Lib.hid (show bs.length ≤ 1048600 * (k + 1) by have := HTB.out; omega)
      all_goals
        clear r0a r0b r1a r1b d0 d1 d2 d3
        go_wp2
        exact ⟨⟨k + 1, by go_num, by omega, Lib.hid ⟨_, _, _, HT6.out, HB6.out⟩, HK6⟩, by simp [intOf]; omega⟩
    · obtain ⟨rx, rr, bs, htw, htl⟩ := HW.out
      have HT := Lib.hid htw
      have HTL := Lib.hid (show bs.length ≤ 41944000 by omega)
      clear htw HW htl
      by_cases h1 : k < ll
      case' pos =>
        have h1' : decide ((k : Int) < (ll : Int)) = true := by simpa using h1
        have h2' : decide ((k : Int) < 40) = false := by simp; omega
        go_wp2_with fail
        clear h1' h2' h1
      case' neg =>
        have h1' : decide ((k : Int) < (ll : Int)) = false := by simpa using h1
        go_wp2_with fail
        clear h1' h1
      all_goals
        clear hk hkn
        refine (Bytes_any w.heap.size rx bs wr HT.out.x (by have := HTL.out; omega)).mono ?_
        rintro e w7 ⟨v7, rfl, hown, hkk⟩
        obtain ⟨a7, c7, hs7, hob7, hb7⟩ := sl_of_owns hown
        have he := hs7.eq
        subst he
        have HT7 := Lib.hid (HT.out.keep hkk id id (fun _ _ => id) (fun _ _ => id))
        have HK7 := Lib.hid (HK.out.trans hkk)
        have HNB := Lib.hid (show ∀ b, blk a7 = some b → b ≠ w.heap.size ∧ b ≠ w2.heap.size ∧ rx ≠ some b ∧ rr ≠ some b ∧ w.heap.size ≤ b from fun b hb => by
          have h1 := (hb7 b hb).1
          have h2 := HT.out.x.lt
          have h3 := HT.out.r.lt
          have h4 := HK.out.size
          refine ⟨by omega, by omega, fun e => ?_, fun e => ?_, by omega⟩
          · have := (HT.out.x.row b e).2; omega
          · have := (HT.out.r.row b e).2; omega)
        have HS7 := Lib.hid hs7
        obtain ⟨z, hz⟩ : ∃ z, wr.heap.size = z := ⟨_, rfl⟩
        rw [hz] at hown
        have HOW := Lib.hid hown
        have hr := HT7.out.r
        obtain ⟨sv, hh, hrow, hownr⟩ := hr
        obtain ⟨ar, cr, hsr, _, _⟩ := sl_of_owns hownr
        have he := hsr.eq
        subst he
        obtain ⟨g1, _, _⟩ := cell_one hh
        have hcA : ∀ n : Nat, (convert 27 9 (.slice a7 bs.length c7)).run Try.prog (w7.drewN n) = .ok (.string ⟨bs.toArray⟩) (w7.drewN n) := fun n => run_conv (HS7.out.keep ((Kp.refl (fun _ => False) w7).drewN n) (fun _ _ => id))
        have hcB : ∀ n : Nat, (convert 27 9 (.slice ar bs.length cr)).run Try.prog (w7.drewN n) = .ok (.string ⟨bs.toArray⟩) (w7.drewN n) := fun n => run_conv (hsr.keep ((Kp.refl (fun _ => False) w7).drewN n) (fun _ _ => id))
        clear hs7 hkk hb7 hob7 hown hz hownr hrow hh hsr
        go_wp2_with fail
        go_quiet (fail)
        clear hcA hcB g1
        have HOWq := Lib.hid (show (w7.drewN nq).ownsRow z 5 1 (.slice a7 bs.length c7) bs.length (bs.map byteV) from owns_keep HOW.out ((Kp.refl (fun _ => False) w7).drewN nq) (fun _ _ => id))
        have HK7q := Lib.hid (show Kp (fun b => blk a7 = some b) w7 (w7.drewN nq) from (Kp.refl _ w7).drewN nq)
        go_wp2_with fail
        go_loopw [8] (fun i wv => ∃ j : Nat, i = .int .i64 j ∧ j ≤ bs.length ∧ Hid (∃ xs : List UInt8, xs.length = bs.length ∧ wv.ownsRow z 5 1 (.slice a7 bs.length c7) bs.length (xs.map byteV)) ∧ Hid (Kp (fun b => blk a7 = some b) w7 wv)) (fun i _ => bs.length - (intOf i).toNat)
        case atStart => exact ⟨0, rfl, Nat.zero_le _, Lib.hid ⟨bs, rfl, HOWq.out⟩, HK7q⟩
        case round =>
          obtain ⟨j, rfl, hj, HJ, HKj⟩ := hrel
          by_cases hjn : j < bs.length
          · obtain ⟨xs, hxl, hox⟩ := HJ.out
            have hown := hox
            obtain ⟨_, h2 | ⟨g, cap, cur, hv, hg, _, _, _, _, _⟩⟩ := hox
            · obtain ⟨_, h0⟩ := h2
              omega
            · obtain rfl : a7 = some ⟨g, 0, none⟩ := by
                simp only [Value.slice.injEq] at hv
                exact hv.1
              have hcell : wr.cell? ⟨g, j, none⟩ = some (byteV (xs[j]'(by omega))) := by
                rw [World.ownsRow.cellAt hown j (by omega)]
                simp [hxl, hjn]
              have hfz := World.ownsRow.frozenAt hown j
              have hst := fun u => (World.ownsRow.stored hown j u).1
              have hz0 : 0 ≤ (j : Int) := by omega
              have hzl : (j : Int) < (bs.length : Int) := by omega
              have HST2 := Lib.hid hst
              have hbl := HTL.out
              clear hst hown hv hg
              unfold byteV at hcell
              generalize hu : xs[j]'(by omega) = u0 at hcell
              clear hu
              go_wp2
              obtain ⟨u1, hu1⟩ := byteXor u0
              rw [hu1]
              refine ⟨⟨j + 1, by go_num, by omega, Lib.hid ⟨xs.set j u1, by simp [hxl], ?_⟩, Lib.hid (HKj.out.setCell ⟨g, j, none⟩ (.inl rfl) _)⟩, by simp [intOf]; omega⟩
              rw [List.map_set]
              exact HST2.out (byteV u1)
          · have h1' : decide ((j : Int) < (bs.length : Int)) = false := by simp; omega
            have HT8 := Lib.hid (HT7.out.keep HKj.out (fun e => (HNB.out _ e).1 rfl) (fun e => (HNB.out _ e).2.1 rfl) (fun b hb e => (HNB.out b e).2.2.1 hb) (fun b hb e => (HNB.out b e).2.2.2.1 hb))
            have HK8 := Lib.hid (HK7.out.step HKj.out (fun i hi e => by have := (HNB.out i e).2.2.2.2; omega))
            have HT8d := Lib.hid (HT8.out.keep ((Kp.refl (fun _ => False) wr).drew) id id (fun _ _ => id) (fun _ _ => id))
            have hr := HT8d.out.r
            obtain ⟨sv, hh, hrow, hownr⟩ := hr
            obtain ⟨ar8, cr8, hsr, _, _⟩ := sl_of_owns hownr
            have he := hsr.eq
            subst he
            obtain ⟨g1, _, _⟩ := cell_one hh
            have hcB := run_conv hsr
            have HHq := Lib.hid hh
            have HSR := Lib.hid hsr
            clear hrow hownr hh hsr HJ
            go_wp2_with fail
            go_region_with (first
              | (go_at_call 29; refine (Bytes_any w.heap.size rx bs wr.drew HT8d.out.x (by have := HTL.out; omega)).mono ?_; rintro e w9 ⟨v9, rfl, hown9, hk9⟩; obtain ⟨a9, c9, hs9, _, _⟩ := sl_of_owns hown9; have he := hs9.eq; subst he; have hcC := run_conv hs9; have hcD := run_conv (HSR.out.keep hk9 (fun _ _ => id)); have hg9 := (cell_one (hk9.hp HHq.out id)).1; have HK9 := Lib.hid (HK8.out.drew.trans hk9); clear hown9 hs9 hk9))
            all_goals
              go_wp2
              go_ret
              exact ⟨rfl, HK9.out⟩
end Go.Proofs.Ytgpidbdgodgefaa
