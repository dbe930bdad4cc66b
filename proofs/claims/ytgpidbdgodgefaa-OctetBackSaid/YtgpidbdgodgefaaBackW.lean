/- The walk of OctetBack: it answers true and turns nothing that was there. Conditions: as the theorem names them. -/
import Derived.Test.YtgpidbdgodgefaaSizesW
import Derived.Test.YtgpidbdgodgefaaSteps
import Derived.Test.YtgpidbdgodgefaaConv
import Derived.Deep.RegionHeld3
namespace Go.Proofs.Ytgpidbdgodgefaa
open Go.RowKit

theorem kp_drew (w : World) : Kp (fun _ => False) w w.drew := (Kp.refl _ w).drew
/-- What a step lays. -/
def laid (s : BStep) : List UInt8 :=
  if s.what % 4 = 0 then be 2 (u64 (s.n % 65536)) else if s.what % 4 = 1 then be 4 (u64 (s.n % 4294967296)) else if s.what % 4 = 2 then be 8 (timeB s.n s.x) else texted (s.bs.take 1000)
theorem laid_le (s : BStep) : (laid s).length ≤ 1002 := by
  unfold laid
  split
  · simp [be_length]
  · split
    · simp [be_length]
    · split
      · simp [be_length]
      · simp [texted, be_length]; omega
/-- What a region holds while it draws. -/
theorem StepAt.held {w w' : World} {b o : Nat} {s : BStep} (h : StepAt w b o s) (k : Kp (fun _ => False) w w') :
    w'.cell? ⟨b, o + 1, none⟩ = some (.int .i64 s.n) ∧ w'.cell? ⟨b, o + 2, none⟩ = some (.float .f64 s.x) ∧ w'.cell? ⟨b, o + 3, none⟩ = some (.slice s.a s.bs.length s.c) ∧ Hid (Kp (fun _ => False) w w') :=
  ⟨k.cell h.n id, k.cell h.x id, k.cell h.bs id, Lib.hid k⟩
theorem laid_0 (s : BStep) (h : s.what % 4 = 0) : laid s = be 2 (u64 (s.n % 65536)) := by unfold laid; rw [if_pos h]
theorem laid_1 (s : BStep) (h : s.what % 4 = 1) : laid s = be 4 (u64 (s.n % 4294967296)) := by unfold laid; rw [if_neg (by omega), if_pos h]
theorem laid_2 (s : BStep) (h : s.what % 4 = 2) : laid s = be 8 (timeB s.n s.x) := by unfold laid; rw [if_neg (by omega), if_neg (by omega), if_pos h]
theorem laid_3 (s : BStep) (h : s.what % 4 = 3) : laid s = texted (s.bs.take 1000) := by unfold laid; rw [if_neg (by omega), if_neg (by omega), if_neg (by omega)]
/-- What the first k of the steps lay. -/
def laidTo (f : Nat → BStep) : Nat → List UInt8
  | 0 => []
  | k + 1 => laidTo f k ++ laid (f k)
theorem laidTo_le (f : Nat → BStep) (k : Nat) : (laidTo f k).length ≤ 1002 * k := by
  induction k with
  | zero => simp [laidTo]
  | succ k ih =>
    have := laid_le (f k)
    simp only [laidTo, List.length_append]
    omega
/-- What the steps from k to n lay. -/
def laidFrom (f : Nat → BStep) (k : Nat) : Nat → List UInt8
  | 0 => []
  | n + 1 => laid (f k) ++ laidFrom f (k + 1) n
theorem laidFrom_snoc (f : Nat → BStep) : ∀ (n k : Nat), laidFrom f k (n + 1) = laidFrom f k n ++ laid (f (k + n))
  | 0, k => by simp [laidFrom]
  | n + 1, k => by
    rw [laidFrom, laidFrom_snoc f n (k + 1), laidFrom, List.append_assoc, show k + 1 + n = k + (n + 1) by omega]
theorem laidFrom_all (f : Nat → BStep) (n : Nat) : laidFrom f 0 n = laidTo f n := by
  induction n with
  | zero => rfl
  | succ n ih => rw [laidFrom_snoc, ih, laidTo, Nat.zero_add]

theorem laidFrom_le (f : Nat → BStep) : ∀ (n k : Nat), (laidFrom f k n).length ≤ 1002 * n
  | 0, k => by simp [laidFrom]
  | n + 1, k => by
    have h1 := laid_le (f k)
    have h2 := laidFrom_le f n (k + 1)
    simp only [laidFrom, List.length_append]
    omega
theorem u64_small (z : Int) (h : 0 ≤ z) (h2 : z < 4294967296) : ((u64 z : Nat) : Int) = z := by unfold u64; omega

/-- What is laid is taken: two bytes. -/
theorem take16 (p : Nat) (row : Option Nat) (z : Int) (rest : List UInt8) (w : World) (h0 : 0 ≤ z) (h1 : z < 65536) (hr : Rd 86 w p row (be 2 (u64 z) ++ rest) false) (hb : rest.length ≤ 40080) :
    Calls Try.prog 34 #[.pointer (some ⟨p, 0, none⟩)] w fun e w' => ∃ row', e = .returned (.int .i64 z) ∧ Rd 86 w' p row' rest false ∧ Kp (fun k => k = p) w w' := by
  refine (RdU16_any p row _ false w hr (by simp [be_length]; omega)).mono ?_
  rintro e w' ⟨row', rfl, hrd, _, hk⟩
  have e1 : taken (be 2 (u64 z) ++ rest) false 2 = (be 2 (u64 z), rest, false) := taken_append _ rest 2 (be_length _ _)
  have e2 := u64_small z h0 (by omega)
  rw [e1] at hrd ⊢
  refine ⟨row', ?_, hrd, hk⟩
  have e3 : ((u64 z % 256 ^ 2 : Nat) : Int) = z := by omega
  show Ending.returned (Value.int .i64 ((num (be 2 (u64 z)) : Nat) : Int)) = _
  rw [num_be, e3]
theorem take32 (p : Nat) (row : Option Nat) (z : Int) (rest : List UInt8) (w : World) (h0 : 0 ≤ z) (h1 : z < 4294967296) (hr : Rd 86 w p row (be 4 (u64 z) ++ rest) false) (hb : rest.length ≤ 40080) :
    Calls Try.prog 36 #[.pointer (some ⟨p, 0, none⟩)] w fun e w' => ∃ row', e = .returned (.int .i64 z) ∧ Rd 86 w' p row' rest false ∧ Kp (fun k => k = p) w w' := by
  refine (RdU32_any p row _ false w hr (by simp [be_length]; omega)).mono ?_
  rintro e w' ⟨row', rfl, hrd, _, hk⟩
  have e1 : taken (be 4 (u64 z) ++ rest) false 4 = (be 4 (u64 z), rest, false) := taken_append _ rest 4 (be_length _ _)
  have e2 := u64_small z h0 (by omega)
  rw [e1] at hrd ⊢
  refine ⟨row', ?_, hrd, hk⟩
  have e3 : ((u64 z % 256 ^ 4 : Nat) : Int) = z := by omega
  show Ending.returned (Value.int .i64 ((num (be 4 (u64 z)) : Nat) : Int)) = _
  rw [num_be, e3]
theorem take64 (p : Nat) (row : Option Nat) (b : Nat) (rest : List UInt8) (w : World) (h1 : b < 18446744073709551616) (hr : Rd 86 w p row (be 8 b ++ rest) false) (hb : rest.length ≤ 40080) :
    Calls Try.prog 39 #[.pointer (some ⟨p, 0, none⟩)] w fun e w' => ∃ row', e = .returned (.float .f64 b) ∧ Rd 86 w' p row' rest false ∧ Kp (fun k => k = p) w w' := by
  refine (RdF64_any p row _ false w hr (by simp [be_length]; omega)).mono ?_
  rintro e w' ⟨row', rfl, hrd, _, hk⟩
  have e1 : taken (be 8 b ++ rest) false 8 = (be 8 b, rest, false) := taken_append _ rest 8 (be_length _ _)
  rw [e1] at hrd ⊢
  refine ⟨row', ?_, hrd, hk⟩
  rw [num_be]
  congr 2
  exact Nat.mod_eq_of_lt (by simpa using h1)
theorem takeText (p : Nat) (row : Option Nat) (xs rest : List UInt8) (w : World) (h1 : xs.length < 65536) (hr : Rd 86 w p row (texted xs ++ rest) false) (hb : rest.length ≤ 40080) :
    Calls Try.prog 43 #[.pointer (some ⟨p, 0, none⟩)] w fun e w' => ∃ v row', e = .returned v ∧ w'.ownsRow w.heap.size 5 1 v xs.length (xs.map byteV) ∧ Rd 86 w' p row' rest false ∧ Kp (fun k => k = p) w w' := by
  refine (RdText_any p row _ false w hr (by simp [texted, be_length]; omega)).mono ?_
  rintro e w' ⟨v, row', rfl, hown, hrd, _, hk⟩
  rw [textTaken_append xs rest h1] at hown hrd
  exact ⟨v, row', rfl, hown, hrd, hk⟩

set_option maxHeartbeats 6000000 in
set_option maxRecDepth 100000 in
theorem back_lays (la : Option Addr) (ll lc : Nat) (f : Nat → BStep) (w : World) (hl : ll ≤ maxLen) (hf : ∀ i, i < ll → ∃ b off, la = some ⟨b, off, none⟩ ∧ StepAt w b (off + i * 4) (f i)) :
    Calls Try.prog 7 #[.slice la ll lc] w fun e w' => e = .returned (.bool true) ∧ Kp (fun _ => False) w w' := by
  have hnp : ∀ (a : Addr) (w : World), (binOp .eql 23 (.pointer (some a)) (.pointer none)).run Try.prog w = .ok (.bool false) w := fun a w => neq_nil_ptr _ w a Try.underlying23
  have hnr : ∀ (a : Addr) (w : World), (binOp .eql 41 (.pointer (some a)) (.pointer none)).run Try.prog w = .ok (.bool false) w := fun a w => neq_nil_ptr _ w a Try.underlying41
  have HF := Lib.hid hf
  clear hf
  unfold maxLen at hl
  go_enter Try.func7, Try.ntmps7
  go_wp2_with fail
  refine (NewWriter_any w).mono ?_
  rintro e w1 ⟨rfl, hw, hk⟩
  have HW1 := Lib.hid hw; have HK1 := Lib.hid hk
  clear hw hk
  go_wp2_with fail
  refine (known1_any _).mono ?_
  rintro e w2 ⟨rfl, hk⟩
  have HK2 := Lib.hid (HK1.out.trans hk)
  have HW2 := Lib.hid (HW1.out.keep hk id (fun _ _ => id))
  clear hk
  go_wp2_with fail
  go_loopw [4] (fun i wr => ∃ k : Nat, i = .int .i64 k ∧ k ≤ min ll 40 ∧ Hid (∃ row, Wr 81 5 wr w.heap.size row (laidTo f k)) ∧ Hid (Kp (fun _ => False) w wr)) (fun i _ => 40 - (intOf i).toNat)
  case atStart => exact ⟨0, rfl, Nat.zero_le _, ⟨none, HW2.out⟩, HK2⟩
  case round =>
    obtain ⟨k, rfl, hk, HW, HK⟩ := hrel
    by_cases hkn : k < min ll 40
    · have h1 : k < ll := by omega
      have h2 : k < 40 := by omega
      have h1' : decide ((k : Int) < (ll : Int)) = true := by simpa using h1
      have h2' : decide ((k : Int) < 40) = true := by simp; omega
      obtain ⟨b, off, rfl, hst⟩ := HF.out k h1
      have hst' := hst.keep HK.out
      have hz0 : 0 ≤ (k : Int) := by omega
      have hzl : (k : Int) < (ll : Int) := by omega
      have c0 := hst'.what; have c1 := hst'.n; have c2 := hst'.x; have c3 := hst'.bs
      have r0 := hst'.rw; have r1 := hst'.rn
      obtain ⟨r0a, r0b⟩ := r0
      obtain ⟨r1a, r1b⟩ := r1
      have HST := Lib.hid hst'
      have HST0 := Lib.hid hst
      clear hst hst'
      obtain ⟨row, HWR⟩ := HW.out
      have HWR := Lib.hid HWR
      have hlen := laidTo_le f k
      have HB := Lib.hid (show (laidTo f k).length ≤ 40080 by omega)
      clear hlen HW
      go_wp2_with fail
      refine (pick_any _ _ _ (by decide) (by decide) r0a r0b).mono ?_
      rintro e w' ⟨rfl, rfl⟩
      have hm0 := Int.emod_nonneg (f k).what (show (4 : Int) ≠ 0 by decide)
      have hm4 := Int.emod_lt_of_pos (f k).what (show (0 : Int) < 4 by decide)
      have hcases : (f k).what % 4 = 0 ∨ (f k).what % 4 = 1 ∨ (f k).what % 4 = 2 ∨ (f k).what % 4 = 3 := by omega
      clear hm0 hm4
      rcases hcases with e0 | e0 | e0 | e0
      · have HLD := Lib.hid (laid_0 (f k) e0)
        rw [e0]
        clear e0
        go_wp2_with fail
        refine (pick_any _ _ _ (by decide) (by decide) r1a r1b).mono ?_
        rintro e w' ⟨rfl, rfl⟩
        go_wp2_with fail
        refine (U16_any w.heap.size _ row _ wr HWR.out (by have := HB.out; omega)).mono ?_
        rintro e w4 ⟨rfl, row4, hw, hf, hkk⟩
        have HK4 := Lib.hid (kp_wr HK.out (Nat.le_refl _) HWR.out hkk)
        have HW4 := Lib.hid hw
        clear hw hf hkk
        clear r0a r0b r1a r1b c0 c1 c2 c3
        go_wp2
        go_roundw
        case rel => exact ⟨k + 1, by go_num, by omega, Lib.hid ⟨row4, by rw [laidTo, HLD.out]; exact HW4.out⟩, HK4⟩
        case measure => simp [intOf]; omega
      · have HLD := Lib.hid (laid_1 (f k) e0)
        rw [e0]
        clear e0
        go_wp2_with fail
        refine (pick_any _ _ _ (by decide) (by decide) r1a r1b).mono ?_
        rintro e w' ⟨rfl, rfl⟩
        go_wp2_with fail
        refine (U32_any w.heap.size _ row _ wr HWR.out (by have := HB.out; omega)).mono ?_
        rintro e w4 ⟨rfl, row4, hw, hf, hkk⟩
        have HK4 := Lib.hid (kp_wr HK.out (Nat.le_refl _) HWR.out hkk)
        have HW4 := Lib.hid hw
        clear hw hf hkk
        clear r0a r0b r1a r1b c0 c1 c2 c3
        go_wp2
        go_roundw
        case rel => exact ⟨k + 1, by go_num, by omega, Lib.hid ⟨row4, by rw [laidTo, HLD.out]; exact HW4.out⟩, HK4⟩
        case measure => simp [intOf]; omega
      · have HLD := Lib.hid (laid_2 (f k) e0)
        rw [e0]
        clear e0
        go_wp2_with fail
        have HKd := Lib.hid (HK.out.trans (kp_drew wr))
        have HWd := Lib.hid (HWR.out.keep (kp_drew wr) id (fun _ _ => id))
        have HX := Lib.hid HST.out.rx
        go_region_held3 (fun w' => w'.cell? ⟨b, off + k * 4 + 1, none⟩ = some (.int .i64 (f k).n) ∧ w'.cell? ⟨b, off + k * 4 + 2, none⟩ = some (.float .f64 (f k).x) ∧ w'.cell? ⟨b, off + k * 4 + 3, none⟩ = some (.slice (f k).a (f k).bs.length (f k).c) ∧ Hid (Kp (fun _ => False) w w')) (first | exact HST0.out.held HKd.out | exact HST0.out.held HK3.out | exact HST0.out.held HK4.out)
          (first
            | (go_at_call 23; refine (Time_any _ _ _ r1a r1b).mono ?_; rintro e w3 ⟨rfl, hkk⟩; have HK3 := Lib.hid (HKd.out.trans hkk); have HW3 := Lib.hid (HWd.out.keep hkk id (fun _ _ => id)); clear hkk)
            | (go_at_call 22; refine (F64_any w.heap.size _ (timeB_lt _ _ HX.out) row _ w3 HW3.out (by have := HB.out; omega)).mono ?_; rintro e w4 ⟨rfl, row4, hw, hf, hkk⟩; have HK4 := Lib.hid (kp_wr HK3.out (Nat.le_refl _) HW3.out hkk); have HW4 := Lib.hid hw; clear hw hf hkk))
        all_goals
          clear r0a r0b r1a r1b c0 c1 c2 c3
          go_wp2
          go_roundw
          case rel => exact ⟨k + 1, by go_num, by omega, Lib.hid ⟨row4, by rw [laidTo, HLD.out]; exact HW4.out⟩, HK4⟩
          case measure => simp [intOf]; omega
      · have HLD := Lib.hid (laid_3 (f k) e0)
        rw [e0]
        clear e0
        go_wp2_with fail
        have HSL := Lib.hid HST.out.sl
        have HRC := Lib.hid HST.out.rc
        refine (Few_any _ (f k).a (f k).c (f k).bs 1000 wr HSL.out (by have := HSL.out.le; have := HRC.out; omega) (by decide)).mono ?_
        rintro e w3 ⟨v, rfl, hown, hkk⟩
        have hle : ((f k).bs.take 1000).length ≤ 1000 := by simp; omega
        have HXL := Lib.hid hle
        generalize (f k).bs.take 1000 = ys at *
        obtain ⟨ya, yc, hy, _, hyb⟩ := sl_of_owns hown
        have he := hy.eq
        subst he
        have HY := Lib.hid hy; have HYB := Lib.hid hyb
        have HK3 := Lib.hid (HK.out.trans hkk)
        have HW3 := Lib.hid (HWR.out.keep hkk id (fun _ _ => id))
        have HRL := Lib.hid (fun b hb => (HWR.out.row b hb).2)
        clear hkk hown hy hyb hle
        go_wp2_with fail
        refine (Text_yes w.heap.size _ ya yc ys row _ w3 HY.out HW3.out (by have := HXL.out; have := HB.out; omega) (by have := HXL.out; omega) (fun j hj => ?_)).mono ?_
        · obtain ⟨q1, q2⟩ := HYB.out j hj
          have q3 := HWR.out.lt
          refine ⟨by omega, fun e => ?_, q2⟩
          have := HRL.out j e
          omega
        rintro e w4 ⟨rfl, row4, hw, hf, hkk⟩
        have HK4 := Lib.hid (kp_wr HK3.out (Nat.le_refl _) HW3.out hkk)
        have HW4 := Lib.hid hw
        clear hw hf hkk
        clear r0a r0b r1a r1b c0 c1 c2 c3
        go_wp2
        go_roundw
        case rel => exact ⟨k + 1, by go_num, by omega, Lib.hid ⟨row4, by rw [laidTo, HLD.out]; exact HW4.out⟩, HK4⟩
        case measure => simp [intOf]; omega
    · have hke : k = min ll 40 := by omega
      subst hke
      have HN : Hid (min ll 40 ≤ 40) := Lib.hid (Nat.min_le_right _ _)
      have HNL : Hid (min ll 40 ≤ ll) := Lib.hid (Nat.min_le_left _ _)
      obtain ⟨row, HWR⟩ := HW.out
      have HWR := Lib.hid HWR
      have hlen := laidTo_le f (min ll 40)
      have HB := Lib.hid (show (laidTo f (min ll 40)).length ≤ 40080 by have := HN.out; omega)
      clear hlen HW
      have hnn : min ll 40 < ll ∧ min ll 40 = 40 ∨ min ll 40 = ll ∧ ll ≤ 40 := by omega
      have hnd : ∀ i : Nat, i < min ll 40 ↔ i < ll ∧ i < 40 := fun i => by omega
      have HND := Lib.hid hnd
      clear hnd
      generalize min ll 40 = n at *
      by_cases h1 : n < ll
      case' pos =>
        have h1' : decide ((n : Int) < (ll : Int)) = true := by simpa using h1
        have h2' : decide ((n : Int) < 40) = false := by simp; omega
        clear hnn
        go_wp2_with fail
        clear h1' h2' h1
      case' neg =>
        have h1' : decide ((n : Int) < (ll : Int)) = false := by simpa using h1
        clear hnn
        go_wp2_with fail
        clear h1' h1
      all_goals
        refine (Bytes_any w.heap.size row _ wr HWR.out (by have := HB.out; omega)).mono ?_
        rintro e w5 ⟨v5, rfl, hown, hkk⟩
        obtain ⟨a5, c5, hs5, _, _⟩ := sl_of_owns hown
        have he := hs5.eq
        subst he
        have HS5 := Lib.hid hs5
        have HK5 := Lib.hid (HK.out.trans hkk)
        clear hkk hown hs5
        go_wp2_with fail
        refine (NewReader_any _ a5 c5 _ w5 HS5.out (by have := HB.out; omega)).mono ?_
        rintro e w6 ⟨p, row6, rfl, hp, hr, hrd, hkk⟩
        have HP : Hid (w.heap.size ≤ p) := Lib.hid (Nat.le_trans HK5.out.size hp)
        have HK6 := Lib.hid (HK5.out.trans hkk)
        rw [← laidFrom_all] at hrd
        have HR6 := Lib.hid hrd
        clear hkk hp hr hrd
        go_wp2_with fail
        go_loopw [6] (fun i wr => ∃ k : Nat, i = .int .i64 k ∧ k ≤ n ∧ Hid (∃ row, Rd 86 wr p row (laidFrom f k (n - k)) false) ∧ Hid (Kp (fun _ => False) w wr)) (fun i _ => 40 - (intOf i).toNat)
        case atStart => exact ⟨0, rfl, Nat.zero_le _, Lib.hid ⟨row6, HR6.out⟩, HK6⟩
        case round =>
          obtain ⟨k, rfl, hk, HW, HKq⟩ := hrel
          by_cases hkn : k < n
          · obtain ⟨h1, h2⟩ := (HND.out k).1 hkn
            have h1' : decide ((k : Int) < (ll : Int)) = true := by simpa using h1
            have h2' : decide ((k : Int) < 40) = true := by simp; omega
            obtain ⟨b, off, rfl, hst⟩ := HF.out k h1
            have hst' := hst.keep HKq.out
            have hz0 : 0 ≤ (k : Int) := by omega
            have hzl : (k : Int) < (ll : Int) := by omega
            have c0 := hst'.what; have c1 := hst'.n; have c2 := hst'.x; have c3 := hst'.bs
            have r0 := hst'.rw; have r1 := hst'.rn
            obtain ⟨r0a, r0b⟩ := r0
            obtain ⟨r1a, r1b⟩ := r1
            have HST0 := Lib.hid hst
            have HX := Lib.hid hst'.rx
            clear hst hst'
            obtain ⟨rowq, hrq⟩ := HW.out
            obtain ⟨m, hm⟩ : ∃ m, n - k = m + 1 := ⟨n - k - 1, by omega⟩
            have hm2 : n - (k + 1) = m := by omega
            rw [hm, laidFrom, ← hm2] at hrq
            have hlr := laidFrom_le f (n - (k + 1)) (k + 1)
            have HLR := Lib.hid (show (laidFrom f (k + 1) (n - (k + 1))).length ≤ 40080 by have := HN.out; omega)
            have HRQ := Lib.hid (Rd.keep hrq (kp_drew wr) id (fun _ _ => id))
            have HRW := Lib.hid hrq
            have HKd := Lib.hid (HKq.out.trans (kp_drew wr))
            clear hrq hm hm2 hlr HW
            have hmeas : (40 - ((k : Int) + 1).toNat) < 40 - ((k : Int)).toNat := by omega
            have HM := Lib.hid hmeas
            clear hmeas
            go_wp2_with fail
            refine (pick_any _ _ _ (by decide) (by decide) r0a r0b).mono ?_
            rintro e w' ⟨rfl, rfl⟩
            have hm0 := Int.emod_nonneg (f k).what (show (4 : Int) ≠ 0 by decide)
            have hm4 := Int.emod_lt_of_pos (f k).what (show (0 : Int) < 4 by decide)
            have hcases : (f k).what % 4 = 0 ∨ (f k).what % 4 = 1 ∨ (f k).what % 4 = 2 ∨ (f k).what % 4 = 3 := by omega
            clear hm0 hm4
            rcases hcases with e0 | e0 | e0 | e0
            · rw [laid_0 (f k) e0] at HRQ
              rw [e0]
              clear e0
              have hz1 := Int.emod_nonneg (f k).n (show (65536 : Int) ≠ 0 by decide)
              have hz2 := Int.emod_lt_of_pos (f k).n (show (0 : Int) < 65536 by decide)
              have HZ := Lib.hid (And.intro hz1 hz2)
              clear hz1 hz2
              go_wp2_with fail
              go_region_held3 (fun w' => w'.cell? ⟨b, off + k * 4 + 1, none⟩ = some (.int .i64 (f k).n) ∧ w'.cell? ⟨b, off + k * 4 + 2, none⟩ = some (.float .f64 (f k).x) ∧ w'.cell? ⟨b, off + k * 4 + 3, none⟩ = some (.slice (f k).a (f k).bs.length (f k).c) ∧ Hid (Kp (fun _ => False) w w')) (first | exact HST0.out.held HKd.out | exact HST0.out.held HK5.out)
                (first
                  | (go_at_call 15; refine (pick_any _ _ _ (by decide) (by decide) r1a r1b).mono ?_; rintro e w' ⟨rfl, rfl⟩)
                  | (go_at_call 34; refine (take16 p rowq _ _ _ HZ.out.1 HZ.out.2 HRQ.out HLR.out).mono ?_; rintro e w7 ⟨row7, rfl, hrd, hkk⟩; have HK5 := Lib.hid (kp_one HKd.out HP.out hkk); have HR7 := Lib.hid hrd; clear hrd hkk))
              all_goals
                clear r0a r0b r1a r1b c0 c1 c2 c3
                go_wp2
                exact ⟨⟨k + 1, by go_num, by omega, Lib.hid ⟨row7, HR7.out⟩, HK5⟩, by simp [intOf]; omega⟩
            · rw [laid_1 (f k) e0] at HRQ
              rw [e0]
              clear e0
              have hz1 := Int.emod_nonneg (f k).n (show (4294967296 : Int) ≠ 0 by decide)
              have hz2 := Int.emod_lt_of_pos (f k).n (show (0 : Int) < 4294967296 by decide)
              have HZ := Lib.hid (And.intro hz1 hz2)
              clear hz1 hz2
              go_wp2_with fail
              go_region_held3 (fun w' => w'.cell? ⟨b, off + k * 4 + 1, none⟩ = some (.int .i64 (f k).n) ∧ w'.cell? ⟨b, off + k * 4 + 2, none⟩ = some (.float .f64 (f k).x) ∧ w'.cell? ⟨b, off + k * 4 + 3, none⟩ = some (.slice (f k).a (f k).bs.length (f k).c) ∧ Hid (Kp (fun _ => False) w w')) (first | exact HST0.out.held HKd.out | exact HST0.out.held HK5.out)
                (first
                  | (go_at_call 15; refine (pick_any _ _ _ (by decide) (by decide) r1a r1b).mono ?_; rintro e w' ⟨rfl, rfl⟩)
                  | (go_at_call 36; refine (take32 p rowq _ _ _ HZ.out.1 HZ.out.2 HRQ.out HLR.out).mono ?_; rintro e w7 ⟨row7, rfl, hrd, hkk⟩; have HK5 := Lib.hid (kp_one HKd.out HP.out hkk); have HR7 := Lib.hid hrd; clear hrd hkk))
              all_goals
                clear r0a r0b r1a r1b c0 c1 c2 c3
                go_wp2
                exact ⟨⟨k + 1, by go_num, by omega, Lib.hid ⟨row7, HR7.out⟩, HK5⟩, by simp [intOf]; omega⟩
            · rw [laid_2 (f k) e0] at HRQ
              rw [e0]
              clear e0
              have HTB := Lib.hid (timeB_lt (f k).n (f k).x HX.out)
              have hbits : ∀ (b : Nat) (w : World), (callFunc 38 #[.float .f64 b]).run Try.prog w = .ok (.value (.int .u64 b)) w := run_bits
              go_wp2_with fail
              have HKc := HKd
              have HRc := HRQ
              go_region_held3 (fun w' => w'.cell? ⟨b, off + k * 4 + 1, none⟩ = some (.int .i64 (f k).n) ∧ w'.cell? ⟨b, off + k * 4 + 2, none⟩ = some (.float .f64 (f k).x) ∧ w'.cell? ⟨b, off + k * 4 + 3, none⟩ = some (.slice (f k).a (f k).bs.length (f k).c) ∧ Hid (Kp (fun _ => False) w w')) (exact HST0.out.held HKc.out)
                (first
                  | (go_at_call 23; refine (Time_any _ _ _ r1a r1b).mono ?_; rintro e w7 ⟨rfl, hkk⟩; have HKc := Lib.hid (HKc.out.trans hkk); have HRc := Lib.hid (HRc.out.keep hkk id (fun _ _ => id)); clear hkk)
                  | (go_at_call 39; refine (take64 p _ _ _ _ HTB.out HRc.out HLR.out).mono ?_; rintro e w8 ⟨row8, rfl, hrd, hkk⟩; have HKc := Lib.hid (kp_one HKc.out HP.out hkk); have HRc := Lib.hid hrd; clear hrd hkk))
              all_goals
                clear r0a r0b r1a r1b c0 c1 c2 c3
                go_wp2
                exact ⟨⟨k + 1, by go_num, by omega, Lib.hid ⟨_, HRc.out⟩, HKc⟩, by simp [intOf]; omega⟩
            · rw [laid_3 (f k) e0] at HRQ
              rw [e0]
              clear e0 HRW
              go_wp2_with fail
              have HKc := HKd
              have HRC := Lib.hid HST0.out.rc
              have HSL := Lib.hid HST0.out.sl
              have hle : ((f k).bs.take 1000).length ≤ 1000 := by simp; omega
              have HXL := Lib.hid hle
              have HTK := Lib.hid (Eq.refl ((f k).bs.take 1000))
              generalize hys : (f k).bs.take 1000 = ys at HRQ HXL HTK
              clear hle
              have HYS := Lib.hid hys
              clear hys HTK
              have c3d := (HST0.out.held HKd.out).2.2.1
              go_region_with
                (first
                  | (go_at_call 43; refine (takeText p _ ys _ _ (by have := HXL.out; omega) HRQ.out HLR.out).mono ?_; rintro e w7 ⟨v7, row7, rfl, hown, hrd, hkk⟩; obtain ⟨ya7, yc7, hy7, _, _⟩ := sl_of_owns hown; have he7 := hy7.eq; subst he7; have HY7 := Lib.hid hy7; have hc7 := run_conv hy7; have HKc := Lib.hid (kp_one HKc.out HP.out hkk); have HR7 := Lib.hid hrd; have c37 := (HST0.out.held HKc.out).2.2.1; clear hrd hkk hown hy7)
                  | (go_at_call 31; refine (Few_any _ (f k).a (f k).c (f k).bs 1000 w7 (HSL.out.keep HKc.out (fun _ _ => id)) (by have := HSL.out.le; have := HRC.out; omega) (by decide)).mono ?_; rintro e w8 ⟨v8, rfl, hown, hkk⟩; rw [HYS.out] at hown; obtain ⟨ya8, yc8, hy8, _, _⟩ := sl_of_owns hown; have he8 := hy8.eq; subst he8; have hc8 := run_conv hy8; have hc9 := run_conv (HY7.out.keep hkk (fun _ _ => id)); have HKc := Lib.hid (HKc.out.trans hkk); have HR8 := Lib.hid (HR7.out.keep hkk id (fun _ _ => id)); clear hkk hown hy8))
              all_goals
                clear r0a r0b r1a r1b c0 c1 c2 c3
                go_wp2
                exact ⟨⟨k + 1, by go_num, by omega, Lib.hid ⟨_, HR8.out⟩, HKc⟩, by simp [intOf]; omega⟩
          · have hke : k = n := by omega
            subst hke
            obtain ⟨rowq, hrq⟩ := HW.out
            rw [Nat.sub_self] at hrq
            have HRQ : Hid (Rd 86 wr p rowq [] false) := Lib.hid hrq
            clear hrq HW
            by_cases h1 : k < ll
            case' pos =>
              have h1' : decide ((k : Int) < (ll : Int)) = true := by simpa using h1
              have h2' : decide ((k : Int) < 40) = false := by
                have h3 := HND.out k
                simp
                omega
              go_wp2_with fail
            case' neg =>
              have h1' : decide ((k : Int) < (ll : Int)) = false := by simpa using h1
              go_wp2_with fail
            all_goals
              refine (Left_any p rowq _ _ wr HRQ.out).mono ?_
              rintro e w' ⟨rfl, rfl⟩
              go_wp2_with fail
              refine (Lack_any p rowq _ _ wr HRQ.out).mono ?_
              rintro e w' ⟨rfl, rfl⟩
              go_wp2
              go_ret
              exact ⟨rfl, HKq.out⟩
end Go.Proofs.Ytgpidbdgodgefaa
