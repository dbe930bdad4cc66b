/- The contracts of the document's RightNode and LayNode. Conditions: as the theorems name them. -/
import Derived.Test.YtgpidbdgodgefaaRefN
namespace Go.Proofs.Ytgpidbdgodgefaa
open Go.RowKit

set_option maxHeartbeats 1000000 in
theorem refRight_any (n : NodeV) (a : Option Addr) (c : Nat) (w : World) (h : NAt w n a c) :
    Calls Try.prog 55 #[nodeVal n a c] w fun e w' => e = .returned (.bool (rightN n)) ∧ Kp (fun _ => False) w w' := by
  obtain ⟨k, m, t, bs⟩ := n
  have ht : t < 18446744073709551616 := h.time
  have hl : bs.length ≤ 140737488355328 := h.len
  have k0 : Kp (fun _ => False) w (w.alloc (.cells #[.int .i64 k, .int .i64 m, .float .f64 t, .slice a bs.length c] 57)) := (Kp.refl _ w).alloc _
  have HK := Lib.hid k0
  have HN := Lib.hid (h.keepF k0)
  have HC := Lib.hid (hp_new w (.cells #[.int .i64 k, .int .i64 m, .float .f64 t, .slice a bs.length c] 57))
  have HR := Lib.hid (show rightN ⟨k, m, t, bs⟩ = (dataN ⟨k, m, t, bs⟩ && (decide (0 ≤ m) && (decide (m ≤ 4095) && (plainB t == t)))) from rfl)
  clear h k0
  unfold nodeVal
  dsimp only
  by_cases h1 : 0 ≤ m
  case neg =>
    go_enter Try.func55, Try.ntmps55
    obtain ⟨c0, c1, c2, c3⟩ := cell_four HC.out
    go_wp2
    go_ret
    rw [HR.out]
    exact ⟨by simp; intro _ h; omega, HK.out⟩
  by_cases h2 : m ≤ 4095
  case neg =>
    go_enter Try.func55, Try.ntmps55
    obtain ⟨c0, c1, c2, c3⟩ := cell_four HC.out
    go_wp2
    go_ret
    rw [HR.out]
    exact ⟨by simp; intro _ _ h; omega, HK.out⟩
  go_enter Try.func55, Try.ntmps55
  go_wp2_with fail
  generalize w.alloc (.cells #[.int .i64 k, .int .i64 m, .float .f64 t, .slice a bs.length c] 57) = w1 at *
  obtain ⟨c0, c1, c2, c3⟩ := cell_four HC.out
  go_wp2_with fail
  refine (refPlainB_any t ht w1).mono ?_
  rintro e w2 ⟨rfl, hk2⟩
  have HK2 := Lib.hid (HK.out.trans hk2)
  have HN2 := Lib.hid (HN.out.keepF hk2)
  have HC2 := Lib.hid (hk2.hp HC.out id)
  clear hk2 HK HN HC c0 c1 c2 c3
  obtain ⟨c0, c1, c2, c3⟩ := cell_four HC2.out
  cases hp : (plainB t == t) with
  | false =>
    have HP := Lib.hid hp
    clear hp
    go_wp2
    go_ret
    rw [HR.out, HP.out]
    exact ⟨by simp, HK2.out⟩
  | true =>
    have HP := Lib.hid hp
    clear hp
    have HR2 : Hid (rightN ⟨k, m, t, bs⟩ = dataN ⟨k, m, t, bs⟩) := by show _ = _; rw [HR.out, HP.out]; simp [h1, h2]
    clear HP HR
    by_cases hk1 : k = 1
    · subst hk1
      have HD := Lib.hid (show dataN ⟨1, m, t, bs⟩ = decide (bs.length ≤ 2000) from rfl)
      go_wp2
      go_ret
      rw [HR2.out, HD.out]
      exact ⟨by simp; omega, HK2.out⟩
    by_cases hk2 : k = 2
    · subst hk2
      have HD := Lib.hid (show dataN ⟨2, m, t, bs⟩ = decide (bs.length = 0) from rfl)
      go_wp2
      go_ret
      rw [HR2.out, HD.out]
      refine ⟨?_, HK2.out⟩
      have e : ((bs.length : Int) == 0) = decide (bs.length = 0) := by
        rw [Bool.eq_iff_iff]
        simp
      simp only [Array.getD]
      simp [e]
    by_cases hk3 : k = 3
    · subst hk3
      have HD := Lib.hid (show dataN ⟨3, m, t, bs⟩ = targetB bs from rfl)
      go_wp2_with fail
      refine (target_any a c bs w2 HN2.out.sl hl).mono ?_
      rintro e w3 ⟨rfl, rfl⟩
      go_wp2
      go_ret
      rw [HR2.out, HD.out]
      exact ⟨rfl, HK2.out⟩
    · have HD : Hid (dataN ⟨k, m, t, bs⟩ = false) := by
        show _ = _
        unfold dataN
        simp [hk1, hk2, hk3]
      have q1 : (k == 1) = false := by simp [hk1]
      have q2 : (k == 2) = false := by simp [hk2]
      have q3 : (k == 3) = false := by simp [hk3]
      go_wp2
      go_ret
      rw [HR2.out, HD.out]
      exact ⟨by simp, HK2.out⟩

/-- What the document's Lay comes to. -/
def RLayEnd (w : World) (n : NodeV) (e : Ending) (w' : World) : Prop :=
  (rightN n = true ∧ ∃ a c, e = .returned (.tuple #[.slice a (layB n).length c, .int .i64 0]) ∧ Sl w' (.slice a (layB n).length c) a c (layB n) ∧ (∀ b, blk a = some b → w.heap.size ≤ b) ∧ Kp (fun _ => False) w w') ∨
  (rightN n = false ∧ e = .returned (.tuple #[.slice none 0 0, .int .i64 1]) ∧ Kp (fun _ => False) w w')

set_option maxHeartbeats 1000000 in
theorem refLay_any (n : NodeV) (a : Option Addr) (c : Nat) (w : World) (h : NAt w n a c) :
    Calls Try.prog 53 #[nodeVal n a c] w (RLayEnd w n) := by
  have HS0 := Lib.hid h.sl
  obtain ⟨k, m, t, bs⟩ := n
  have ht : t < 18446744073709551616 := h.time
  have hl : bs.length ≤ 140737488355328 := h.len
  have k0 : Kp (fun _ => False) w (w.alloc (.cells #[.int .i64 k, .int .i64 m, .float .f64 t, .slice a bs.length c] 57)) := (Kp.refl _ w).alloc _
  have HK := Lib.hid k0
  have HN := Lib.hid (h.keepF k0)
  have HC := Lib.hid (hp_new w (.cells #[.int .i64 k, .int .i64 m, .float .f64 t, .slice a bs.length c] 57))
  clear h k0
  unfold nodeVal
  dsimp only
  go_enter Try.func53, Try.ntmps53
  go_wp2_with fail
  generalize w.alloc (.cells #[.int .i64 k, .int .i64 m, .float .f64 t, .slice a bs.length c] 57) = w1 at *
  obtain ⟨c0, c1, c2, c3⟩ := cell_four HC.out
  go_wp2_with fail
  refine (refRight_any ⟨k, m, t, bs⟩ a c w1 HN.out).mono ?_
  rintro e w2 ⟨rfl, hk2⟩
  have HK2 := Lib.hid (HK.out.trans hk2)
  have HN2 := Lib.hid (HN.out.keepF hk2)
  have HC2 := Lib.hid (hk2.hp HC.out id)
  clear hk2 c0 c1 c2 c3 HN HC HK
  cases hr : rightN ⟨k, m, t, bs⟩ with
  | false =>
    have HE : Hid (RLayEnd w ⟨k, m, t, bs⟩ (.returned (.tuple #[.slice none 0 0, .int .i64 1])) w2) := .inr ⟨hr, rfl, HK2.out⟩
    clear hr
    go_wp2
    go_ret2
    exact HE.out
  | true =>
    have hle : bs.length ≤ 2000 := rightN_len hr
    have HR := Lib.hid hr
    clear hr
    have hw3 : Wr 29 5 (w2.alloc (.cells #[.slice none 0 0] 29)) w2.heap.size none [] := ⟨_, hp_new w2 _, rfl, World.ownsRow_nil _ _ _ _⟩
    have hk3 : Kp (fun _ => False) w2 (w2.alloc (.cells #[.slice none 0 0] 29)) := (Kp.refl _ w2).alloc _
    have hq : w.heap.size < w2.heap.size := hp_lt HC2.out
    have HL3 : Hid (Laying 29 w (w2.alloc (.cells #[.slice none 0 0] 29)) w.heap.size w2.heap.size none ⟨k, m, t, bs⟩ a c []) := ⟨hw3, HK2.out.size, by omega, fun e => (by cases e), fun k e => (by cases e), hk3.hp HC2.out id, (HN2.out.keepF hk3).sl, fun hp b hb => HS0.out.blk_lt hp hb, HK2.out.trans hk3⟩
    clear hw3 hk3 hq
    obtain ⟨c0, c1, c2, c3⟩ := cell_four HL3.out.cell
    dsimp only at c0 c1 c2 c3
    go_wp2_with fail
    generalize w2.alloc (.cells #[.slice none 0 0] 29) = w3 at *
    refine (rU8_any w2.heap.size k none [] w3 HL3.out.wr (by simp)).mono ?_
    rintro e w4 ⟨rfl, hwe⟩
    obtain ⟨row4, hl4⟩ := HL3.out.step hwe
    have HL4 := Lib.hid hl4
    clear hwe hl4 HL3
    obtain ⟨c0, c1, c2, c3⟩ := cell_four HL4.out.cell
    dsimp only at c0 c1 c2 c3
    go_wp2_with fail
    refine (rU16_any w2.heap.size m row4 _ w4 HL4.out.wr (by simp [be_length])).mono ?_
    rintro e w5 ⟨rfl, hwe⟩
    obtain ⟨row5, hl5⟩ := HL4.out.step hwe
    have HL5 := Lib.hid hl5
    clear hwe hl5 HL4
    obtain ⟨c0, c1, c2, c3⟩ := cell_four HL5.out.cell
    dsimp only at c0 c1 c2 c3
    go_wp2_with fail
    refine (rF64_any w2.heap.size t ht row5 _ w5 HL5.out.wr (by simp [be_length])).mono ?_
    rintro e w6 ⟨rfl, hwe⟩
    obtain ⟨row6, hl6⟩ := HL5.out.step hwe
    have HL6 := Lib.hid hl6
    clear hwe hl6 HL5
    obtain ⟨c0, c1, c2, c3⟩ := cell_four HL6.out.cell
    dsimp only at c0 c1 c2 c3
    go_wp2_with fail
    refine (rText_yes1 w2.heap.size (.slice a bs.length c) a c bs row6 _ w6 HL6.out.sl HL6.out.wr (by simp [be_length]; omega) (by omega) HL6.out.text).mono ?_
    rintro e w7 ⟨rfl, hwe⟩
    obtain ⟨row7, hl7⟩ := HL6.out.step hwe
    have HL7 := Lib.hid hl7
    clear hwe hl7 HL6 c0 c1 c2 c3
    obtain ⟨sv, hcell, hrow, hown⟩ := HL7.out.wr
    have hown2 : w7.ownsRow (w2.heap.size + 1) 5 1 sv (layB ⟨k, m, t, bs⟩).length ((layB ⟨k, m, t, bs⟩).map byteV) := by simpa [layB] using hown
    obtain ⟨ra, rc, hs, _, hb⟩ := sl_of_owns hown2
    have he := hs.eq
    subst he
    have HE : Hid (RLayEnd w ⟨k, m, t, bs⟩ (.returned (.tuple #[.slice ra (layB ⟨k, m, t, bs⟩).length rc, .int .i64 0])) w7) := .inl ⟨HR.out, ra, rc, rfl, hs, fun b hbb => by have := (hb b hbb).1; have := HL7.out.hp; omega, HL7.out.kp⟩
    obtain ⟨p1, _, _⟩ := cell_one hcell
    clear hown hown2 hs hcell hrow hb HL7
    generalize (layB ⟨k, m, t, bs⟩).length = ln at *
    go_wp2
    go_ret2
    exact HE.out
end Go.Proofs.Ytgpidbdgodgefaa
