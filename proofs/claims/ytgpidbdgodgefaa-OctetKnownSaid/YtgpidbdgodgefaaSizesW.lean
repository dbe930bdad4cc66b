/- The walk of OctetSizes: it answers true and turns nothing that was there. Conditions: as the theorem names them. -/
import Derived.Test.YtgpidbdgodgefaaKnown1
import Derived.Test.YtgpidbdgodgefaaPlain1
namespace Go.Proofs.Ytgpidbdgodgefaa
open Go.RowKit

theorem kp_wr {T B : TypeId} {w0 w1 w2 : World} {p : Nat} {row : Option Nat} {bs : List UInt8} (h : Kp (fun _ => False) w0 w1) (hp : w0.heap.size ≤ p) (hw : Wr T B w1 p row bs) (k : Kp (fun k => k = p ∨ row = some k) w1 w2) : Kp (fun _ => False) w0 w2 :=
  h.step k fun i hi hs => by
    rcases hs with hs | hs
    · omega
    · have := (hw.row i hs).1; omega
theorem kp_one {w0 w1 w2 : World} {p : Nat} (h : Kp (fun _ => False) w0 w1) (hp : w0.heap.size ≤ p) (k : Kp (fun k => k = p) w1 w2) : Kp (fun _ => False) w0 w2 :=
  h.step k fun i hi hs => by omega

/-- What is a slice elsewhere stays one, when a writer lays. -/
theorem keep_wr {w0 w1 w2 : World} {p : Nat} {row : Option Nat} {v : Value} {a : Option Addr} {c : Nat} {xs : List UInt8} (hs : Sl w1 v a c xs) (k : Kp (fun k => k = p ∨ row = some k) w1 w2) (hf : Fresh w0 none row) (ha : ∀ b, blk a = some b → p ≠ b ∧ b < w0.heap.size) : Sl w2 v a c xs :=
  hs.keep k fun b hb h => by
    obtain ⟨h1, h2⟩ := ha b hb
    rcases h with h | h
    · exact h1 h.symm
    · rcases hf with e | ⟨n, e, hn⟩
      · rw [e] at h; cases h
      · rw [e] at h; cases h; omega

set_option maxHeartbeats 800000 in
theorem sizes_any (a b c cut : Int) (x : Nat) (sv : Value) (sa : Option Addr) (sc : Nat) (xs : List UInt8) (w : World) (hx : x < 18446744073709551616) (hs : Sl w sv sa sc xs) (hlen : xs.length ≤ 140737488355328)
    (hc1 : -9223372036854775808 ≤ cut) (hc2 : cut ≤ 9223372036854775807) (hsa : ∀ k, blk sa = some k → 0 < xs.length → k < w.heap.size) :
    Calls Try.prog 6 #[.int .i64 a, .int .i64 b, .int .i64 c, .float .f64 x, sv, .int .i64 cut] w fun e w' => e = .returned (.bool true) ∧ Kp (fun _ => False) w w' := by
  have hnp : ∀ (a : Addr) (w : World), (binOp .eql 23 (.pointer (some a)) (.pointer none)).run Try.prog w = .ok (.bool false) w := fun a w => neq_nil_ptr _ w a Try.underlying23
  have hnr : ∀ (a : Addr) (w : World), (binOp .eql 41 (.pointer (some a)) (.pointer none)).run Try.prog w = .ok (.bool false) w := fun a w => neq_nil_ptr _ w a Try.underlying41
  have HS := Lib.hid hs; have HX := Lib.hid hx; have HL := Lib.hid hlen; have HSA := Lib.hid hsa
  have he := hs.eq
  subst he
  clear hs hx hlen hsa
  go_enter Try.func6, Try.ntmps6
  go_wp2_with fail
  refine (NewWriter_any w).mono ?_
  rintro e w1 ⟨rfl, hw, hk⟩
  have HW1 := Lib.hid hw; have HK1 := Lib.hid hk
  clear hw hk
  go_wp2_with fail
  refine (known1_any _).mono ?_
  rintro e w2 ⟨rfl, hk⟩
  have HK2 := Lib.hid (HK1.out.trans hk)
  have HW2 := Lib.hid (HW1.out.keep hk id (fun _ _ => id))
  clear hk
  go_wp2_with fail
  refine (Few_any _ sa sc xs 60000 w2 (HS.out.keep HK2.out (fun _ _ => id)) HL.out (by decide)).mono ?_
  rintro e w3 ⟨v, rfl, hown, hk⟩
  have hle : (xs.take 60000).length ≤ 60000 := by simp; omega
  have HXL := Lib.hid hle
  generalize xs.take 60000 = ys at *
  obtain ⟨ya, yc, hy, _, hyb⟩ := sl_of_owns hown
  have he := hy.eq
  subst he
  have HY := Lib.hid hy; have HYB := Lib.hid hyb
  have HK3 := Lib.hid (HK2.out.trans hk)
  have HW3 := Lib.hid (HW2.out.keep hk id (fun _ _ => id))
  clear hk hown hy hyb hle
  have hyb2 : ∀ b, blk ya = some b → w.heap.size ≠ b ∧ b < w3.heap.size := fun b hb => by
    have h1 := HYB.out b hb
    have h2 := HW2.out.lt
    exact ⟨by omega, h1.2⟩
  have HYB2 := Lib.hid hyb2
  clear hyb2
  go_wp2_with fail
  refine (U8_any w.heap.size a none _ w3 HW3.out (by simp [])).mono ?_
  rintro e w4 ⟨rfl, row4, hw, hf, hk⟩
  have HK4 := Lib.hid (kp_wr HK3.out (Nat.le_refl _) HW3.out hk)
  have HY4 := Lib.hid (keep_wr (w0 := w3) HY.out hk (.inl rfl) HYB2.out)
  have HF4 := Lib.hid (hf)
  have HZ4 : Hid (w3.heap.size ≤ w4.heap.size) := hk.size
  have HW4 := Lib.hid hw
  clear hk hw hf
  go_wp2_with fail
  refine (U16_any w.heap.size b row4 _ w4 HW4.out (by simp [be_length])).mono ?_
  rintro e w5 ⟨rfl, row5, hw, hf, hk⟩
  have HK5 := Lib.hid (kp_wr HK4.out (Nat.le_refl _) HW4.out hk)
  have HY5 := Lib.hid (keep_wr (w0 := w3) HY4.out hk HF4.out HYB2.out)
  have HF5 := Lib.hid ((HF4.out).trans hf (Nat.le_trans (Nat.le_refl _) (by have := HZ4.out; omega)))
  have HZ5 : Hid (w3.heap.size ≤ w5.heap.size) := Nat.le_trans HZ4.out hk.size
  have HW5 := Lib.hid hw
  clear hk hw hf
  go_wp2_with fail
  refine (U32_any w.heap.size c row5 _ w5 HW5.out (by simp [be_length])).mono ?_
  rintro e w6 ⟨rfl, row6, hw, hf, hk⟩
  have HK6 := Lib.hid (kp_wr HK5.out (Nat.le_refl _) HW5.out hk)
  have HY6 := Lib.hid (keep_wr (w0 := w3) HY5.out hk HF5.out HYB2.out)
  have HF6 := Lib.hid ((HF5.out).trans hf (Nat.le_trans (Nat.le_refl _) (by have := HZ5.out; omega)))
  have HZ6 : Hid (w3.heap.size ≤ w6.heap.size) := Nat.le_trans HZ5.out hk.size
  have HW6 := Lib.hid hw
  clear hk hw hf
  go_wp2_with fail
  refine (F64_any w.heap.size x HX.out row6 _ w6 HW6.out (by simp [be_length])).mono ?_
  rintro e w7 ⟨rfl, row7, hw, hf, hk⟩
  have HK7 := Lib.hid (kp_wr HK6.out (Nat.le_refl _) HW6.out hk)
  have HY7 := Lib.hid (keep_wr (w0 := w3) HY6.out hk HF6.out HYB2.out)
  have HF7 := Lib.hid ((HF6.out).trans hf (Nat.le_trans (Nat.le_refl _) (by have := HZ6.out; omega)))
  have HZ7 : Hid (w3.heap.size ≤ w7.heap.size) := Nat.le_trans HZ6.out hk.size
  have HW7 := Lib.hid hw
  clear hk hw hf
  go_wp2_with fail
  refine (Text_yes w.heap.size _ ya yc ys row7 _ w7 HY7.out HW7.out (by simp [be_length]; have := HXL.out; omega) (by have := HXL.out; omega) (fun k hk => ?_)).mono ?_
  · obtain ⟨q1, q2⟩ := HYB2.out k hk
    refine ⟨Ne.symm q1, fun e => ?_, Nat.lt_of_lt_of_le q2 HZ7.out⟩
    rcases HF7.out with h | ⟨n, h, hn⟩
    · rw [h] at e; cases e
    · rw [h] at e; cases e; omega
  rintro e w8 ⟨rfl, row8, hw, hf, hk⟩
  have HK8 := Lib.hid (kp_wr HK7.out (Nat.le_refl _) HW7.out hk)
  have HW8 := Lib.hid hw
  clear hk hw hf
  have hall : ([] ++ be 1 (u64 a) ++ be 2 (u64 b) ++ be 4 (u64 c) ++ be 8 x ++ texted ys).length = 17 + ys.length := by simp [be_length, texted]; omega
  have hdrop : (([] ++ be 1 (u64 a) ++ be 2 (u64 b) ++ be 4 (u64 c) ++ be 8 x ++ texted ys).drop 15).take 2 = be 2 ys.length := by
    have e1 : ([] ++ be 1 (u64 a) ++ be 2 (u64 b) ++ be 4 (u64 c) ++ be 8 x ++ texted ys) = (be 1 (u64 a) ++ be 2 (u64 b) ++ be 4 (u64 c) ++ be 8 x) ++ texted ys := by simp
    have e2 : (be 1 (u64 a) ++ be 2 (u64 b) ++ be 4 (u64 c) ++ be 8 x).length = 15 := by simp [be_length]
    rw [e1, ← e2, List.drop_left]
    unfold texted
    have e3 : (be 2 ys.length).length = 2 := be_length _ _
    conv => lhs; rw [← e3]
    exact List.take_left
  have HALL := Lib.hid hall; have HDROP := Lib.hid hdrop
  clear hall hdrop
  generalize ([] ++ be 1 (u64 a) ++ be 2 (u64 b) ++ be 4 (u64 c) ++ be 8 x ++ texted ys) = all at *
  have hal : all.length ≤ 140737488355328 := by have := HALL.out; have := HXL.out; omega
  have HAL := Lib.hid hal
  clear hal
  go_wp2_with fail
  refine (Bytes_any w.heap.size row8 all w8 HW8.out HAL.out).mono ?_
  rintro e w9 ⟨v9, rfl, hown, hk⟩
  obtain ⟨a9, c9, hs9, _, _⟩ := sl_of_owns hown
  have he := hs9.eq
  subst he
  have HK9 := Lib.hid (HK8.out.trans hk)
  have HW9 := Lib.hid (HW8.out.keep hk id (fun _ _ => id))
  have hyl : ys.length ≤ 60000 := HXL.out
  have hlen9 : (all.length : Int) = 17 + (ys.length : Int) := by have := HALL.out; omega
  clear hk hown hs9
  go_wp2_with fail
  refine (Bytes_any w.heap.size row8 all w9 HW9.out HAL.out).mono ?_
  rintro e w10 ⟨v10, rfl, hown, hk⟩
  obtain ⟨a10, c10, hs10, _, _⟩ := sl_of_owns hown
  have he := hs10.eq
  subst he
  have HK10 := Lib.hid (HK9.out.trans hk)
  have HS10 := Lib.hid hs10
  clear hk hown hs10
  go_wp2_with fail
  refine (pick_any cut (17 + (ys.length : Int)) _ (by omega) (by omega) hc1 hc2).mono ?_
  rintro e w' ⟨rfl, rfl⟩
  obtain ⟨k, hk⟩ : ∃ k : Nat, cut % (17 + (ys.length : Int)) = (k : Int) := ⟨(cut % (17 + (ys.length : Int))).toNat, by have := Int.emod_nonneg cut (show 17 + (ys.length : Int) ≠ 0 by omega); omega⟩
  have hkl : k < all.length := by
    have h1 := Int.emod_lt_of_pos cut (show 0 < 17 + (ys.length : Int) by omega)
    have := HALL.out
    omega
  rw [hk]
  clear hk hc1 hc2
  obtain ⟨ti, I⟩ := byteInfo
  obtain ⟨hsl, hs11⟩ := sl_head I HS10.out k (by omega)
  have hlk : (all.take k).length = k := by simp; omega
  have HC := Lib.hid (sizes_chain (all.take k) (by
    rw [hlk]
    by_cases h : k < 17
    · exact .inl h
    · right
      rw [List.drop_take, List.take_take, Nat.min_eq_left (by omega), HDROP.out, num_be, Nat.mod_eq_of_lt (by omega)]
      have := HALL.out
      omega))
  have HS11 := Lib.hid hs11; have HLK := Lib.hid hlk
  have hkl2 : (all.take k).length ≤ 140737488355328 := by rw [hlk]; have := HAL.out; omega
  have HKL := Lib.hid hkl2
  clear hs11 hlk hkl2
  generalize all.take k = pre at *
  go_wp2_with fail
  refine (NewReader_any _ a10 c10 pre w10 HS11.out HKL.out).mono ?_
  rintro e w11 ⟨p, row11, rfl, hp, hr, hrd, hk⟩
  have HK11 := Lib.hid (HK10.out.trans hk)
  have HP : Hid (w.heap.size ≤ p) := Nat.le_trans HK10.out.size hp
  have HR11 := Lib.hid hrd
  have HL11 := Lib.hid (Nat.le_refl pre.length)
  clear hk hp hr hrd
  go_wp2_with fail
  refine (RdU8_any p row11 _ _ w11 HR11.out (Nat.le_trans HL11.out HKL.out)).mono ?_
  rintro e w12 ⟨row12, rfl, hrd, _, hk⟩
  have HK12 := Lib.hid (kp_one HK11.out HP.out hk)
  have HR12 := Lib.hid hrd
  have HL12 := Lib.hid (Nat.le_trans (taken_rest pre false 1) HL11.out)
  clear hk hrd
  go_wp2_with fail
  refine (RdU16_any p row12 _ _ w12 HR12.out (Nat.le_trans HL12.out HKL.out)).mono ?_
  rintro e w13 ⟨row13, rfl, hrd, _, hk⟩
  have HK13 := Lib.hid (kp_one HK12.out HP.out hk)
  have HR13 := Lib.hid hrd
  have HL13 := Lib.hid (Nat.le_trans (taken_rest (taken pre false 1).2.1 (taken pre false 1).2.2 2) HL12.out)
  clear hk hrd
  go_wp2_with fail
  refine (RdU32_any p row13 _ _ w13 HR13.out (Nat.le_trans HL13.out HKL.out)).mono ?_
  rintro e w14 ⟨row14, rfl, hrd, _, hk⟩
  have HK14 := Lib.hid (kp_one HK13.out HP.out hk)
  have HR14 := Lib.hid hrd
  have HL14 := Lib.hid (Nat.le_trans (taken_rest (taken (taken pre false 1).2.1 (taken pre false 1).2.2 2).2.1 (taken (taken pre false 1).2.1 (taken pre false 1).2.2 2).2.2 4) HL13.out)
  clear hk hrd
  go_wp2_with fail
  refine (RdF64_any p row14 _ _ w14 HR14.out (Nat.le_trans HL14.out HKL.out)).mono ?_
  rintro e w15 ⟨row15, rfl, hrd, _, hk⟩
  have HK15 := Lib.hid (kp_one HK14.out HP.out hk)
  have HR15 := Lib.hid hrd
  have HL15 := Lib.hid (Nat.le_trans (taken_rest (taken (taken (taken pre false 1).2.1 (taken pre false 1).2.2 2).2.1 (taken (taken pre false 1).2.1 (taken pre false 1).2.2 2).2.2 4).2.1 (taken (taken (taken pre false 1).2.1 (taken pre false 1).2.2 2).2.1 (taken (taken pre false 1).2.1 (taken pre false 1).2.2 2).2.2 4).2.2 8) HL14.out)
  clear hk hrd
  go_wp2_with fail
  refine (RdText_any p row15 _ _ w15 HR15.out (Nat.le_trans HL15.out HKL.out)).mono ?_
  rintro e w16 ⟨v16, row16, rfl, _, hrd, _, hk⟩
  have HK16 := Lib.hid (kp_one HK15.out HP.out hk)
  have hch := HC.out
  try dsimp only at hch
  rw [hch] at hrd
  have HR16 := Lib.hid hrd
  clear hk hrd hch
  go_wp2_with fail
  refine (Lack_any p row16 _ _ w16 HR16.out).mono ?_
  rintro e w' ⟨rfl, rfl⟩
  go_wp2_with fail
  refine (Left_any p row16 _ _ w16 HR16.out).mono ?_
  rintro e w' ⟨rfl, rfl⟩
  go_wp2_with fail
  refine (RdF64_any p row16 _ _ w16 HR16.out (by decide)).mono ?_
  rintro e w17 ⟨row17, rfl, hrd, _, hk⟩
  rw [taken_lack] at hrd ⊢
  have HK17 := Lib.hid (kp_one HK16.out HP.out hk)
  have HR17 := Lib.hid hrd
  have hn0 : num ([] : List UInt8) = 0 := rfl
  try dsimp only
  try rw [hn0]
  have hfe : ∀ w : World, (binOp .eql 30 (.float .f64 0) (.float .f64 0)).run Try.prog w = .ok (.bool true) w := fun w => by kernel_rfl
  clear hk hrd
  go_wp2_with fail
  refine (RdU8_any p row17 _ _ w17 HR17.out (by decide)).mono ?_
  rintro e w18 ⟨row18, rfl, hrd, _, hk⟩
  rw [taken_lack] at hrd ⊢
  have HK18 := Lib.hid (kp_one HK17.out HP.out hk)
  try dsimp only
  try rw [hn0]
  clear hk hrd
  go_wp2
  go_ret
  exact ⟨rfl, HK18.out⟩
end Go.Proofs.Ytgpidbdgodgefaa
