/- The contract of node.Lay. Conditions: as the theorems name them. -/
import Derived.Test.YtgpidbdgodgefaaCopy
import Derived.Test.YtgpidbdgodgefaaGet
namespace Go.Proofs.Ytgpidbdgodgefaa
open Go.RowKit

/-- A node, as its bytes. -/
def layB (n : NodeV) : List UInt8 := be 1 (u64 n.kind) ++ be 2 (u64 n.mode) ++ be 8 n.time ++ texted n.bs

/-- A node that lies at q is being laid by the writer at p. -/
structure Laying (T : TypeId) (w0 w : World) (q p : Nat) (row : Option Nat) (n : NodeV) (a : Option Addr) (c : Nat) (bs : List UInt8) : Prop where
  wr : Wr T 5 w p row bs
  hp : w0.heap.size ≤ p
  hq : q ≠ p
  hqr : row ≠ some q
  hrow : ∀ k, row = some k → w0.heap.size ≤ k
  cell : w.heap[q]? = some (.cells #[.int .i64 n.kind, .int .i64 n.mode, .float .f64 n.time, .slice a n.bs.length c] 57 (0, 0))
  sl : Sl w (.slice a n.bs.length c) a c n.bs
  hsl : 0 < n.bs.length → ∀ k, blk a = some k → k < w0.heap.size
  kp : Kp (fun _ => False) w0 w
theorem Laying.step {T : TypeId} {w0 w w' : World} {q p : Nat} {row : Option Nat} {n : NodeV} {a : Option Addr} {c : Nat} {bs bs' : List UInt8} (h : Laying T w0 w q p row n a c bs) (e : WrEnd T w p row bs' w') :
    ∃ row', Laying T w0 w' q p row' n a c bs' := by
  obtain ⟨row', hw, hf, hk⟩ := e
  have hql := hp_lt h.cell
  refine ⟨row', hw, h.hp, h.hq, ?_, ?_, hk.hp h.cell ?_, h.sl.keep1 hk ?_, h.hsl, h.kp.step hk ?_⟩
  · rcases hf with e | ⟨k, e, hk⟩
    · rw [e]; exact h.hqr
    · rw [e]; intro e2; cases e2; omega
  · rcases hf with e | ⟨k, e, hk⟩
    · rw [e]; exact h.hrow
    · rw [e]; intro k2 e2; cases e2; have := h.kp.size; omega
  · rintro (e | e)
    · exact h.hq e
    · exact h.hqr e
  · intro hpos b hb hs
    have h1 := h.hsl hpos b hb
    rcases hs with e | e
    · have := h.hp; omega
    · have := h.hrow b e; omega
  · rintro i hi (e | e)
    · have := h.hp; omega
    · have := h.hrow i e; omega
theorem Laying.text {T : TypeId} {w0 w : World} {q p : Nat} {row : Option Nat} {n : NodeV} {a : Option Addr} {c : Nat} {bs : List UInt8} (h : Laying T w0 w q p row n a c bs) :
    0 < n.bs.length → ∀ k, blk a = some k → k ≠ p ∧ row ≠ some k := by
  intro hpos b hb
  have h1 := h.hsl hpos b hb
  have h2 := h.hp
  exact ⟨by omega, fun e => by have := h.hrow b e; omega⟩

/-- What Lay comes to. -/
def LayEnd (w : World) (n : NodeV) (e : Ending) (w' : World) : Prop :=
  (rightN n = true ∧ ∃ v, e = .returned (.tuple #[v, .int .i64 0]) ∧ w'.ownsRow w.heap.size 5 1 v (layB n).length ((layB n).map byteV) ∧ Kp (fun _ => False) w w') ∨
  (rightN n = false ∧ e = .returned (.tuple #[.slice none 0 0, .int .i64 1]) ∧ Kp (fun _ => False) w w')

theorem rightN_len {n : NodeV} (h : rightN n = true) : n.bs.length ≤ 2000 := by
  unfold rightN dataN at h
  simp only [Bool.and_eq_true] at h
  have h1 := h.1
  split at h1
  · simpa using h1
  · split at h1
    · have : n.bs.length = 0 := by simpa using h1
      omega
    · split at h1
      · simp only [Bool.and_eq_true, decide_eq_true_eq] at h1
        omega
      · cases h1
theorem layB_len (n : NodeV) : (layB n).length = 13 + n.bs.length := by
  unfold layB texted
  simp [be_length]
  omega

set_option maxHeartbeats 1000000 in
theorem Lay_any (n : NodeV) (a : Option Addr) (c : Nat) (w : World) (h : NAt w n a c) :
    Calls Try.prog 52 #[nodeVal n a c] w (LayEnd w n) := by
  have HS0 := Lib.hid h.sl
  obtain ⟨k, m, t, bs⟩ := n
  have ht : t < 18446744073709551616 := h.time
  have hl : bs.length ≤ 140737488355328 := h.len
  have k0 : Kp (fun _ => False) w (w.alloc (.cells #[.int .i64 k, .int .i64 m, .float .f64 t, .slice a bs.length c] 57)) := (Kp.refl _ w).alloc _
  have HK := Lib.hid k0
  have HN := Lib.hid (h.keepF k0)
  have HC := Lib.hid (hp_new w (.cells #[.int .i64 k, .int .i64 m, .float .f64 t, .slice a bs.length c] 57))
  clear h k0
  unfold nodeVal
  dsimp only
  go_enter Try.func52, Try.ntmps52
  go_wp2_with fail
  generalize w.alloc (.cells #[.int .i64 k, .int .i64 m, .float .f64 t, .slice a bs.length c] 57) = w1 at *
  obtain ⟨c0, c1, c2, c3⟩ := cell_four HC.out
  go_wp2_with fail
  refine (right_any ⟨k, m, t, bs⟩ a c w1 HN.out).mono ?_
  rintro e w2 ⟨rfl, hk2⟩
  have HK2 := Lib.hid (HK.out.trans hk2)
  have HN2 := Lib.hid (HN.out.keepF hk2)
  have HC2 := Lib.hid (hk2.hp HC.out id)
  clear hk2 c0 c1 c2 c3 HN HC HK
  cases hr : rightN ⟨k, m, t, bs⟩ with
  | false =>
    have HE : Hid (LayEnd w ⟨k, m, t, bs⟩ (.returned (.tuple #[.slice none 0 0, .int .i64 1])) w2) := .inr ⟨hr, rfl, HK2.out⟩
    clear hr
    go_wp2
    go_ret2
    exact HE.out
  | true =>
    have hle : bs.length ≤ 2000 := rightN_len hr
    have HR := Lib.hid hr
    clear hr
    go_wp2_with fail
    refine (NewWriter_any w2).mono ?_
    rintro e w3 ⟨rfl, hw3, hk3⟩
    have hq : w.heap.size < w2.heap.size := hp_lt HC2.out
    have HL3 : Hid (Laying 81 w w3 w.heap.size w2.heap.size none ⟨k, m, t, bs⟩ a c []) := ⟨hw3, HK2.out.size, by omega, fun e => (by cases e), fun k e => (by cases e), hk3.hp HC2.out id, (HN2.out.keepF hk3).sl, fun hp b hb => HS0.out.blk_lt hp hb, HK2.out.trans hk3⟩
    clear hw3 hk3 hq
    obtain ⟨c0, c1, c2, c3⟩ := cell_four HL3.out.cell
    dsimp only at c0 c1 c2 c3
    go_wp2_with fail
    refine (U8_any w2.heap.size k none [] w3 HL3.out.wr (by simp)).mono ?_
    rintro e w4 ⟨rfl, hwe⟩
    obtain ⟨row4, hl4⟩ := HL3.out.step hwe
    have HL4 := Lib.hid hl4
    clear hwe hl4 HL3
    obtain ⟨c0, c1, c2, c3⟩ := cell_four HL4.out.cell
    dsimp only at c0 c1 c2 c3
    go_wp2_with fail
    refine (U16_any w2.heap.size m row4 _ w4 HL4.out.wr (by simp [be_length])).mono ?_
    rintro e w5 ⟨rfl, hwe⟩
    obtain ⟨row5, hl5⟩ := HL4.out.step hwe
    have HL5 := Lib.hid hl5
    clear hwe hl5 HL4
    obtain ⟨c0, c1, c2, c3⟩ := cell_four HL5.out.cell
    dsimp only at c0 c1 c2 c3
    go_wp2_with fail
    refine (F64_any w2.heap.size t ht row5 _ w5 HL5.out.wr (by simp [be_length])).mono ?_
    rintro e w6 ⟨rfl, hwe⟩
    obtain ⟨row6, hl6⟩ := HL5.out.step hwe
    have HL6 := Lib.hid hl6
    clear hwe hl6 HL5
    obtain ⟨c0, c1, c2, c3⟩ := cell_four HL6.out.cell
    dsimp only at c0 c1 c2 c3
    go_wp2_with fail
    refine (Text_yes1 w2.heap.size (.slice a bs.length c) a c bs row6 _ w6 HL6.out.sl HL6.out.wr (by simp [be_length]; omega) (by omega) HL6.out.text).mono ?_
    rintro e w7 ⟨rfl, hwe⟩
    obtain ⟨row7, hl7⟩ := HL6.out.step hwe
    have HL7 := Lib.hid hl7
    clear hwe hl7 HL6 c0 c1 c2 c3
    go_wp2_with fail
    refine (Bytes_any w2.heap.size row7 _ w7 HL7.out.wr (by simp [be_length, texted]; omega)).mono ?_
    rintro e w8 ⟨v, rfl, hown, hk8⟩
    have HE : Hid (LayEnd w ⟨k, m, t, bs⟩ (.returned (.tuple #[v, .int .i64 0])) w8) := .inl ⟨HR.out, v, rfl, owns_from (by simpa [layB] using hown) HL7.out.kp.size, HL7.out.kp.trans hk8⟩
    clear hown hk8 HL7
    go_wp2
    go_ret2
    exact HE.out
end Go.Proofs.Ytgpidbdgodgefaa
