/- The walk of OctetReads: it answers true and turns nothing that was there. Conditions: as the theorem names them. -/
import Derived.Test.YtgpidbdgodgefaaSizesW
import Derived.Test.YtgpidbdgodgefaaSteps
import Derived.Test.YtgpidbdgodgefaaConv
import Derived.Deep.RegionWith
import Derived.Deep.QuietTactic
namespace Go.Proofs.Ytgpidbdgodgefaa
open Go.RowKit

/-- Both readers stand alike. -/
structure Two (w : World) (p q : Nat) (rx rr : Option Nat) (bs : List UInt8) (lack : Bool) : Prop where
  x : Rd 86 w p rx bs lack
  r : Rd 46 w q rr bs lack
  hx : ∀ b, rx = some b → b ≠ q
  hr : ∀ b, rr = some b → b ≠ p
  hl : bs.length ≤ 140737488355328

theorem Two.after {w w1 w2 : World} {p q : Nat} {rx rr rx1 rr1 : Option Nat} {bs bs1 : List UInt8} {lack lack1 : Bool} (h : Two w p q rx rr bs lack) (hpq : p ≠ q) (h1 : Rd 86 w1 p rx1 bs1 lack1) (e1 : rx1 = rx ∨ rx1 = none) (k1 : Kp (fun k => k = p) w w1)
    (h2 : Rd 46 w2 q rr1 bs1 lack1) (e2 : rr1 = rr ∨ rr1 = none) (k2 : Kp (fun k => k = q) w1 w2) (hl : bs1.length ≤ bs.length) : Two w2 p q rx1 rr1 bs1 lack1 := by
  have a1 : ∀ b, rx1 = some b → b ≠ q := by
    intro b hb
    rcases e1 with e | e
    · exact h.hx b (e ▸ hb)
    · rw [e] at hb; cases hb
  have a2 : ∀ b, rr1 = some b → b ≠ p := by
    intro b hb
    rcases e2 with e | e
    · exact h.hr b (e ▸ hb)
    · rw [e] at hb; cases hb
  exact ⟨h1.keep k2 (fun e => hpq e) (fun b hb e => a1 b hb e), h2, a1, a2, Nat.le_trans hl h.hl⟩

theorem Two.keep {w w1 : World} {p q : Nat} {rx rr : Option Nat} {bs : List UInt8} {lack : Bool} (h : Two w p q rx rr bs lack) (k : Kp (fun _ => False) w w1) : Two w1 p q rx rr bs lack :=
  ⟨h.x.keep k id (fun _ _ => id), h.r.keep k id (fun _ _ => id), h.hx, h.hr, h.hl⟩
theorem Two.mid {w w1 : World} {p q : Nat} {rx rr : Option Nat} {bs : List UInt8} {lack : Bool} (h : Two w p q rx rr bs lack) (hpq : p ≠ q) (k1 : Kp (fun k => k = p) w w1) : Rd 46 w1 q rr bs lack :=
  h.r.keep k1 (fun e => hpq e.symm) (fun b hb e => h.hr b hb e)

set_option maxHeartbeats 6000000 in
set_option maxRecDepth 100000 in
theorem reads_any (sv : Value) (sa : Option Addr) (sc : Nat) (xs : List UInt8) (la : Option Addr) (ll lc : Nat) (f : Nat → BStep) (w : World) (hs : Sl w sv sa sc xs) (hlen : xs.length ≤ 140737488355328)
    (hl : ll ≤ maxLen) (hf : ∀ i, i < ll → ∃ b off, la = some ⟨b, off, none⟩ ∧ StepAt w b (off + i * 4) (f i)) :
    Calls Try.prog 4 #[sv, .slice la ll lc] w fun e w' => e = .returned (.bool true) ∧ Kp (fun _ => False) w w' := by
  have hnr : ∀ (a : Addr) (w : World), (binOp .eql 41 (.pointer (some a)) (.pointer none)).run Try.prog w = .ok (.bool false) w := fun a w => neq_nil_ptr _ w a Try.underlying41
  have hbits : ∀ (b : Nat) (w : World), (callFunc 38 #[.float .f64 b]).run Try.prog w = .ok (.value (.int .u64 b)) w := run_bits
  have HF := Lib.hid hf
  have HS := Lib.hid hs
  have HL := Lib.hid hlen
  have he := hs.eq
  subst he
  clear hf hs hlen
  unfold maxLen at hl
  go_enter Try.func4, Try.ntmps4
  go_wp2_with fail
  refine (NewReader_any _ sa sc xs w HS.out HL.out).mono ?_
  rintro e w1 ⟨p, rx, rfl, hp, hrow, hrd, hk⟩
  have HK1 := Lib.hid hk; have HR1 := Lib.hid hrd; have HP := Lib.hid hp
  clear hk hrd hp hrow
  go_wp2_with fail
  refine (known1_any _).mono ?_
  rintro e w2 ⟨rfl, hk⟩
  have HK2 := Lib.hid (HK1.out.trans hk)
  have HR2 := Lib.hid (HR1.out.keep hk id (fun _ _ => id))
  clear hk
  go_wp2_with fail
  refine (Few_any _ sa sc xs xs.length w2 (HS.out.keep HK2.out (fun _ _ => id)) HL.out (by have := HL.out; omega)).mono ?_
  rintro e w3 ⟨v, rfl, hown, hk⟩
  rw [List.take_length] at hown
  obtain ⟨ya, yc, hy, _, hyb⟩ := sl_of_owns hown
  have he := hy.eq
  subst he
  have HY := Lib.hid hy; have HYB := Lib.hid hyb
  have HK3 := Lib.hid (HK2.out.trans hk)
  have HR3 := Lib.hid (HR2.out.keep hk id (fun _ _ => id))
  clear hk hown hy hyb
  have HPQ := Lib.hid (show p ≠ w3.heap.size from fun e => by have := HR3.out.lt; omega)
  have HQ := Lib.hid (show w.heap.size ≤ w3.heap.size from HK3.out.size)
  go_wp2_with fail
  go_loopw [7] (fun i wr => ∃ k : Nat, i = .int .i64 k ∧ k ≤ min ll 40 ∧ Hid (∃ rx rr bs lack, Two wr p w3.heap.size rx rr bs lack) ∧ Hid (Kp (fun _ => False) w wr)) (fun i _ => 40 - (intOf i).toNat)
  case atStart =>
    obtain ⟨a, c, g1, g2, g3, g4⟩ := HR3.out
    refine ⟨0, rfl, Nat.zero_le _, Lib.hid ⟨rx, blk ya, xs, false, ?_⟩, Lib.hid (HK3.out.alloc _)⟩
    refine ⟨⟨a, c, hp_old g1 _, g2.keep ((Kp.refl (fun _ => False) w3).alloc _) (fun _ _ => id), g3, fun b hb => ?_⟩, ⟨ya, yc, hp_new _ _, HY.out.keep ((Kp.refl (fun _ => False) w3).alloc _) (fun _ _ => id), rfl, fun b hb => ?_⟩, fun b hb e => ?_, fun b hb e => ?_, HL.out⟩
    · obtain ⟨h1, h2⟩ := g4 b hb
      exact ⟨h1, Nat.lt_of_lt_of_le h2 (((Kp.refl (fun _ => False) w3).alloc _).size)⟩
    · obtain ⟨_, h2⟩ := HYB.out b hb
      exact ⟨by omega, Nat.lt_of_lt_of_le h2 (((Kp.refl (fun _ => False) w3).alloc _).size)⟩
    · obtain ⟨_, h2⟩ := g4 b hb
      omega
    · obtain ⟨h2, _⟩ := HYB.out b hb
      have := HR2.out.lt
      omega
  case round =>
    obtain ⟨k, rfl, hk, HW, HK⟩ := hrel
    by_cases hkn : k < min ll 40
    · have h1 : k < ll := by omega
      have h2 : k < 40 := by omega
      have h1' : decide ((k : Int) < (ll : Int)) = true := by simpa using h1
      have h2' : decide ((k : Int) < 40) = true := by simp; omega
      obtain ⟨b, off, rfl, hst⟩ := HF.out k h1
      have hst' := hst.keep HK.out
      have hz0 : 0 ≤ (k : Int) := by omega
      have hzl : (k : Int) < (ll : Int) := by omega
      have c0 := hst'.what; have c1 := hst'.n
      have r0 := hst'.rw; have r1 := hst'.rn
      obtain ⟨r0a, r0b⟩ := r0
      obtain ⟨r1a, r1b⟩ := r1
      clear hst hst'
      obtain ⟨rx, rr, bs, lack, htw⟩ := HW.out
      have HT := Lib.hid htw
      clear htw HW
      go_wp2_with fail
      refine (pick_any _ _ _ (by decide) (by decide) r0a r0b).mono ?_
      rintro e w' ⟨rfl, rfl⟩
      have hm0 := Int.emod_nonneg (f k).what (show (6 : Int) ≠ 0 by decide)
      have hm4 := Int.emod_lt_of_pos (f k).what (show (0 : Int) < 6 by decide)
      have hcases : (f k).what % 6 = 0 ∨ (f k).what % 6 = 1 ∨ (f k).what % 6 = 2 ∨ (f k).what % 6 = 3 ∨ (f k).what % 6 = 4 ∨ (f k).what % 6 = 5 := by omega
      clear hm0 hm4
      rcases hcases with e0 | e0 | e0 | e0 | e0 | e0
      case' inl =>
        rw [e0]
        clear e0
        go_wp2_with fail
        refine (RdU8_any p rx bs lack wr HT.out.x HT.out.hl).mono ?_
        rintro e w7 ⟨rx7, rfl, hx7, ex7, hk7⟩
        have HKa := Lib.hid (kp_one HK.out HP.out hk7)
        have HRr := Lib.hid (HT.out.mid (w1 := w7) HPQ.out hk7)
        have HMK := Lib.hid (And.intro hx7 (And.intro ex7 hk7))
        clear hx7 ex7 hk7
        go_wp2_with fail
        refine (rRdU8_any w3.heap.size rr bs lack w7 HRr.out HT.out.hl).mono ?_
        rintro e w8 ⟨rr8, rfl, hr8, er8, hk8⟩
        have HK8 := Lib.hid (kp_one HKa.out HQ.out hk8)
        have HT8 := Lib.hid (HT.out.after HPQ.out HMK.out.1 HMK.out.2.1 HMK.out.2.2 hr8 er8 hk8 (taken_rest bs lack 1))
        clear hr8 er8 hk8 HMK
        generalize num (taken bs lack 1).1 = z at *
        generalize (taken bs lack 1).2.1 = bs8 at *
        generalize (taken bs lack 1).2.2 = lk8 at *
        go_wp2_with fail
      case' inr.inl =>
        rw [e0]
        clear e0
        go_wp2_with fail
        refine (RdU16_any p rx bs lack wr HT.out.x HT.out.hl).mono ?_
        rintro e w7 ⟨rx7, rfl, hx7, ex7, hk7⟩
        have HKa := Lib.hid (kp_one HK.out HP.out hk7)
        have HRr := Lib.hid (HT.out.mid (w1 := w7) HPQ.out hk7)
        have HMK := Lib.hid (And.intro hx7 (And.intro ex7 hk7))
        clear hx7 ex7 hk7
        go_wp2_with fail
        refine (rRdU16_any w3.heap.size rr bs lack w7 HRr.out HT.out.hl).mono ?_
        rintro e w8 ⟨rr8, rfl, hr8, er8, hk8⟩
        have HK8 := Lib.hid (kp_one HKa.out HQ.out hk8)
        have HT8 := Lib.hid (HT.out.after HPQ.out HMK.out.1 HMK.out.2.1 HMK.out.2.2 hr8 er8 hk8 (taken_rest bs lack 2))
        clear hr8 er8 hk8 HMK
        generalize num (taken bs lack 2).1 = z at *
        generalize (taken bs lack 2).2.1 = bs8 at *
        generalize (taken bs lack 2).2.2 = lk8 at *
        go_wp2_with fail
      case' inr.inr.inl =>
        rw [e0]
        clear e0
        go_wp2_with fail
        refine (RdU32_any p rx bs lack wr HT.out.x HT.out.hl).mono ?_
        rintro e w7 ⟨rx7, rfl, hx7, ex7, hk7⟩
        have HKa := Lib.hid (kp_one HK.out HP.out hk7)
        have HRr := Lib.hid (HT.out.mid (w1 := w7) HPQ.out hk7)
        have HMK := Lib.hid (And.intro hx7 (And.intro ex7 hk7))
        clear hx7 ex7 hk7
        go_wp2_with fail
        refine (rRdU32_any w3.heap.size rr bs lack w7 HRr.out HT.out.hl).mono ?_
        rintro e w8 ⟨rr8, rfl, hr8, er8, hk8⟩
        have HK8 := Lib.hid (kp_one HKa.out HQ.out hk8)
        have HT8 := Lib.hid (HT.out.after HPQ.out HMK.out.1 HMK.out.2.1 HMK.out.2.2 hr8 er8 hk8 (taken_rest bs lack 4))
        clear hr8 er8 hk8 HMK
        generalize num (taken bs lack 4).1 = z at *
        generalize (taken bs lack 4).2.1 = bs8 at *
        generalize (taken bs lack 4).2.2 = lk8 at *
        go_wp2_with fail
      case' inr.inr.inr.inl =>
        rw [e0]
        clear e0
        go_wp2_with fail
        refine (RdF64_any p rx bs lack wr HT.out.x HT.out.hl).mono ?_
        rintro e w7 ⟨rx7, rfl, hx7, ex7, hk7⟩
        have HKa := Lib.hid (kp_one HK.out HP.out hk7)
        have HRr := Lib.hid (HT.out.mid (w1 := w7) HPQ.out hk7)
        have HMK := Lib.hid (And.intro hx7 (And.intro ex7 hk7))
        clear hx7 ex7 hk7
        go_wp2_with fail
        refine (rRdF64_any w3.heap.size rr bs lack w7 HRr.out HT.out.hl).mono ?_
        rintro e w8 ⟨rr8, rfl, hr8, er8, hk8⟩
        have HK8 := Lib.hid (kp_one HKa.out HQ.out hk8)
        have HT8 := Lib.hid (HT.out.after HPQ.out HMK.out.1 HMK.out.2.1 HMK.out.2.2 hr8 er8 hk8 (taken_rest bs lack 8))
        clear hr8 er8 hk8 HMK
        generalize num (taken bs lack 8).1 = z at *
        generalize (taken bs lack 8).2.1 = bs8 at *
        generalize (taken bs lack 8).2.2 = lk8 at *
        go_wp2_with fail
      case' inr.inr.inr.inr.inl =>
        rw [e0]
        clear e0
        have hz1 := Int.emod_nonneg (f k).n (show (9 : Int) ≠ 0 by decide)
        have hz2 := Int.emod_lt_of_pos (f k).n (show (0 : Int) < 9 by decide)
        go_wp2_with fail
        refine (pick_any _ _ _ (by decide) (by decide) r1a r1b).mono ?_
        rintro e w' ⟨rfl, rfl⟩
        obtain ⟨ys, bs8, lk8, hys⟩ : ∃ ys bs8 lk8, taken bs lack ((f k).n % 9 - 1) = (ys, bs8, lk8) := ⟨_, _, _, rfl⟩
        have hrest : (taken bs lack ((f k).n % 9 - 1)).2.1.length ≤ bs.length := taken_rest bs lack _
        have HYS := Lib.hid hys
        rw [hys] at hrest
        have HRS := Lib.hid hrest
        clear hys hrest
        have HTd := Lib.hid (HT.out.keep ((Kp.refl (fun _ => False) wr).drew))
        have HKd : Hid (Kp (fun _ => False) w wr.drew) := Lib.hid HK.out.drew
        go_wp2_with fail
        go_region_with (first
          | (go_at_call 41; refine (RdRaw_all p rx bs lack ((f k).n % 9 - 1) _ HTd.out.x HT.out.hl).mono ?_; rintro e w7 ⟨v7, rx7, rfl, hown, hx7, ex7, hk7⟩; rw [HYS.out] at hown hx7; obtain ⟨ya7, yc7, hy7, _, hyb7⟩ := sl_of_owns hown; have he7 := hy7.eq; subst he7; have hc7 := run_conv hy7; have HY7 := Lib.hid hy7; have HYB7 := Lib.hid hyb7; have HKa := Lib.hid (kp_one HKd.out HP.out hk7); have HRr := Lib.hid (HTd.out.mid (w1 := w7) HPQ.out hk7); have HMK := Lib.hid (And.intro hx7 (And.intro ex7 hk7)); clear hown hy7 hyb7 hx7 ex7 hk7)
          | (go_at_call 42; refine (rRdRaw_all w3.heap.size rr bs lack ((f k).n % 9 - 1) w7 HRr.out HT.out.hl).mono ?_; rintro e w8 ⟨v8, rr8, rfl, hown, hr8, er8, hk8⟩; rw [HYS.out] at hown hr8; obtain ⟨ya8, yc8, hy8, _, hyb8⟩ := sl_of_owns hown; have he8 := hy8.eq; subst he8; have hc8 := run_conv hy8; have hc9 := run_conv (HY7.out.keep hk8 (fun b hb e => by have h5 := (HYB7.out b hb).1; have h6 := HTd.out.r.lt; omega)); have HK8 := Lib.hid (kp_one HKa.out HQ.out hk8); have HT8 := Lib.hid (HTd.out.after HPQ.out HMK.out.1 HMK.out.2.1 HMK.out.2.2 hr8 er8 hk8 HRS.out); clear hown hy8 hyb8 hr8 er8 hk8))
        all_goals
          go_wp2_with fail
      case' inr.inr.inr.inr.inr =>
        rw [e0]
        clear e0
        obtain ⟨ys, bs8, lk8, hys⟩ : ∃ ys bs8 lk8, textTaken bs lack = (ys, bs8, lk8) := ⟨_, _, _, rfl⟩
        have hrest : (textTaken bs lack).2.1.length ≤ bs.length := Nat.le_trans (taken_rest _ _ _) (taken_rest _ _ _)
        have HYS := Lib.hid hys
        rw [hys] at hrest
        have HRS := Lib.hid hrest
        clear hys hrest
        have HTd := Lib.hid (HT.out.keep ((Kp.refl (fun _ => False) wr).drew))
        have HKd : Hid (Kp (fun _ => False) w wr.drew) := Lib.hid HK.out.drew
        go_wp2_with fail
        go_region_with (first
          | (go_at_call 43; refine (RdText_any p rx bs lack _ HTd.out.x HT.out.hl).mono ?_; rintro e w7 ⟨v7, rx7, rfl, hown, hx7, ex7, hk7⟩; rw [HYS.out] at hown hx7; obtain ⟨ya7, yc7, hy7, _, hyb7⟩ := sl_of_owns hown; have he7 := hy7.eq; subst he7; have hc7 := run_conv hy7; have HY7 := Lib.hid hy7; have HYB7 := Lib.hid hyb7; have HKa := Lib.hid (kp_one HKd.out HP.out hk7); have HRr := Lib.hid (HTd.out.mid (w1 := w7) HPQ.out hk7); have HMK := Lib.hid (And.intro hx7 (And.intro ex7 hk7)); clear hown hy7 hyb7 hx7 ex7 hk7)
          | (go_at_call 44; refine (rRdText_any w3.heap.size rr bs lack w7 HRr.out HT.out.hl).mono ?_; rintro e w8 ⟨v8, rr8, rfl, hown, hr8, er8, hk8⟩; rw [HYS.out] at hown hr8; obtain ⟨ya8, yc8, hy8, _, hyb8⟩ := sl_of_owns hown; have he8 := hy8.eq; subst he8; have hc8 := run_conv hy8; have hc9 := run_conv (HY7.out.keep hk8 (fun b hb e => by have h5 := (HYB7.out b hb).1; have h6 := HTd.out.r.lt; omega)); have HK8 := Lib.hid (kp_one HKa.out HQ.out hk8); have HT8 := Lib.hid (HTd.out.after HPQ.out HMK.out.1 HMK.out.2.1 HMK.out.2.2 hr8 er8 hk8 HRS.out); clear hown hy8 hyb8 hr8 er8 hk8))
        all_goals
          go_wp2_with fail
      all_goals
        obtain ⟨a8, c8, hh8, _⟩ := HT8.out.r
        obtain ⟨g1, g2, _, _, _⟩ := cell_two hh8
        clear hh8
        try dsimp only [Act.put, List.setIfInBounds_toArray, List.set_cons_zero, List.set_cons_succ, List.getElem_toArray, List.getElem_cons_succ, List.getElem_cons_zero]
        go_quiet ((first
          | (go_at_call 45; exact Calls.quiet_of_same ((Lack_any p _ _ _ _ (HT8.out.keep ((Kp.refl (fun _ => False) w8).drewN _)).x).mono fun e w' h => ⟨h.1, h.2.symm⟩))
          | (go_at_call 46; exact Calls.quiet_of_same ((Left_any p _ _ _ _ (HT8.out.keep ((Kp.refl (fun _ => False) w8).drewN _)).x).mono fun e w' h => ⟨h.1, h.2.symm⟩))))
        clear r0a r0b r1a r1b c0 c1
        go_wp2
        exact ⟨⟨k + 1, by go_num, by omega, Lib.hid ⟨_, _, _, _, HT8.out.keep ((Kp.refl (fun _ => False) w8).drewN _)⟩, Lib.hid (HK8.out.drewN _)⟩, by simp [intOf]; omega⟩
    · have hke : k = min ll 40 := by omega
      by_cases h1 : k < ll
      · have h1' : decide ((k : Int) < (ll : Int)) = true := by simpa using h1
        have h2' : decide ((k : Int) < 40) = false := by simp; omega
        go_wp2
        go_ret
        exact ⟨rfl, HK.out⟩
      · have h1' : decide ((k : Int) < (ll : Int)) = false := by simpa using h1
        go_wp2
        go_ret
        exact ⟨rfl, HK.out⟩
end Go.Proofs.Ytgpidbdgodgefaa
