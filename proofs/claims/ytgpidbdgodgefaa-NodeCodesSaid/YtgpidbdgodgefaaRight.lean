/- The contracts of node.Right and what it calls. Conditions: as the theorems name them. -/
import Derived.Test.YtgpidbdgodgefaaNode0
import Derived.Lib.BytesEntry
import Derived.Deep.QuietTactic
import Derived.BigQuiet
import Derived.Laws.Externs
namespace Go.Proofs.Ytgpidbdgodgefaa
open Go.RowKit Go.Deep

theorem indexByte_neg (l : List UInt8) (c : UInt8) : Lib.indexByte l c < 0 ↔ c ∉ l := by
  induction l with
  | nil => simp [Lib.indexByte]
  | cons b l ih =>
    have hge := Lib.indexByte_ge l c
    unfold Lib.indexByte
    by_cases hb : b = c
    · subst hb; simp
    · have h1 : (b == c) = false := by simp [hb]
      rw [h1]
      simp only [Bool.false_eq_true, if_false, List.mem_cons, not_or]
      by_cases h2 : Lib.indexByte l c = -1
      · have h3 : (Lib.indexByte l c == -1) = true := by simp [h2]
        rw [h3]
        simp only [if_true]
        have := ih.1 (by omega)
        exact ⟨fun _ => ⟨fun e => hb e.symm, this⟩, fun _ => by decide⟩
      · have h3 : (Lib.indexByte l c == -1) = false := by simp [h2]
        rw [h3]
        simp only [Bool.false_eq_true, if_false]
        constructor
        · intro h; omega
        · rintro ⟨_, h⟩
          have := ih.2 h
          omega

theorem bytesOf_map (bs : List UInt8) : Lib.bytesOf (bs.map fun b => (b.toNat : Int)) = bs := by
  unfold Lib.bytesOf
  rw [List.map_map]
  refine (List.map_congr_left (g := id) fun b _ => ?_).trans (List.map_id bs)
  simp

set_option maxHeartbeats 400000 in
theorem indexZero_any (a : Option Addr) (c : Nat) (bs : List UInt8) (w : World) (h : Sl w (.slice a bs.length c) a c bs) (hpos : 0 < bs.length) :
    Calls Try.prog 84 #[.slice a bs.length c, .int .u8 0] w fun e w' => (∃ i : Int, e = .returned (.int .i64 i) ∧ (i < 0 ↔ (0 : UInt8) ∉ bs)) ∧ w = w' := by
  have hib : ∃ i : Int, (callFunc 89 #[.slice a bs.length c, .int .u8 0]).run Try.prog w = .ok (.value (.int .i64 i)) w ∧ (i < 0 ↔ (0 : UInt8) ∉ bs) := by
    obtain ⟨b, off, rfl, _⟩ := h.seg 0 hpos
    refine ⟨_, ?_, indexByte_neg bs 0⟩
    rw [run_callFunc_extern Try.func89 (by kernel_rfl) (by kernel_rfl) (by kernel_rfl) (e := Extern.BytealgIndexByte.indexByte) (by kernel_rfl)]
    have hc : ∀ i, i < bs.length → w.cell? ⟨b, off + i, none⟩ = some (.int .u8 ((bs.map fun b => (b.toNat : Int)).getD i 0)) := fun i hi => by
      obtain ⟨b', off', e', hc⟩ := h.seg i hi
      cases e'
      rw [hc]
      simp [byteV, List.getD, List.getElem?_eq_getElem hi]
    rw [Lib.run_indexByteSlice w b off bs.length c _ (by simp) hc 0, bytesOf_map]
    rfl
  obtain ⟨i, hib, hi⟩ := hib
  have HI := Lib.hid hi
  clear hi h
  go_enter Try.func84, Try.ntmps84
  go_wp2
  go_ret
  exact ⟨⟨i, rfl, HI.out⟩, rfl⟩

/-- May a node have it? -/
def dataN (n : NodeV) : Bool :=
  if n.kind = 1 then decide (n.bs.length ≤ 2000) else if n.kind = 2 then decide (n.bs.length = 0)
  else if n.kind = 3 then (decide (1 ≤ n.bs.length) && (decide (n.bs.length ≤ 120) && decide ((0 : UInt8) ∉ n.bs))) else false

set_option maxHeartbeats 1000000 in
theorem data_any (n : NodeV) (a : Option Addr) (c : Nat) (w : World) (h : NAt w n a c) :
    Calls Try.prog 75 #[nodeVal n a c] w fun e w' => e = .returned (.bool (dataN n)) ∧ Kp (fun _ => False) w w' := by
  obtain ⟨k, m, t, bs⟩ := n
  have hl : bs.length ≤ 140737488355328 := h.len
  have k0 : Kp (fun _ => False) w (w.alloc (.cells #[.int .i64 k, .int .i64 m, .float .f64 t, .slice a bs.length c] 57)) := (Kp.refl _ w).alloc _
  have HK := Lib.hid k0
  have HS := Lib.hid (h.keepF k0).sl
  clear h k0
  unfold nodeVal
  dsimp only
  by_cases h1 : k = 1
  · subst h1
    have HR := Lib.hid (show dataN ⟨1, m, t, bs⟩ = decide (bs.length ≤ 2000) from rfl)
    go_enter Try.func75, Try.ntmps75
    go_wp2
    go_ret
    rw [HR.out]
    exact ⟨by simp; omega, HK.out⟩
  by_cases h2 : k = 2
  · subst h2
    have HR := Lib.hid (show dataN ⟨2, m, t, bs⟩ = decide (bs.length = 0) from rfl)
    go_enter Try.func75, Try.ntmps75
    go_wp2
    go_ret
    rw [HR.out]
    refine ⟨?_, HK.out⟩
    have e : ((bs.length : Int) == 0) = decide (bs.length = 0) := by
      rw [Bool.eq_iff_iff]
      simp
    simp only [Array.getD]
    simp [e]
  by_cases h3 : k = 3
  · subst h3
    have HR := Lib.hid (show dataN ⟨3, m, t, bs⟩ = (decide (1 ≤ bs.length) && (decide (bs.length ≤ 120) && decide ((0 : UInt8) ∉ bs))) from rfl)
    by_cases hb : 1 ≤ bs.length
    · by_cases hc : bs.length ≤ 120
      · go_enter Try.func75, Try.ntmps75
        go_wp2_with fail
        refine (indexZero_any a c bs _ HS.out (by omega)).mono ?_
        rintro e w' ⟨⟨i, rfl, hi⟩, rfl⟩
        have HI := Lib.hid hi
        clear hi
        by_cases hi0 : i < 0
        all_goals
          go_wp2
          go_ret
          rw [HR.out]
          refine ⟨?_, HK.out⟩
          have := HI.out
          simp_all
      · go_enter Try.func75, Try.ntmps75
        go_wp2
        go_ret
        rw [HR.out]
        exact ⟨by simp [hc], HK.out⟩
    · go_enter Try.func75, Try.ntmps75
      go_wp2
      go_ret
      rw [HR.out]
      exact ⟨by simp [hb], HK.out⟩
  · have HR : Hid (dataN ⟨k, m, t, bs⟩ = false) := by
      show _ = _
      unfold dataN
      simp [h1, h2, h3]
    have q1 : (k == 1) = false := by simp [h1]
    have q2 : (k == 2) = false := by simp [h2]
    have q3 : (k == 3) = false := by simp [h3]
    go_enter Try.func75, Try.ntmps75
    go_wp2
    go_ret
    rw [HR.out]
    exact ⟨by simp, HK.out⟩

/-- Which nodes may be. -/
def rightN (n : NodeV) : Bool := dataN n && (decide (0 ≤ n.mode) && (decide (n.mode ≤ 4095) && (plainB n.time == n.time)))

set_option maxHeartbeats 1000000 in
theorem right_any (n : NodeV) (a : Option Addr) (c : Nat) (w : World) (h : NAt w n a c) :
    Calls Try.prog 54 #[nodeVal n a c] w fun e w' => e = .returned (.bool (rightN n)) ∧ Kp (fun _ => False) w w' := by
  have hbits : ∀ (b : Nat) (w : World), (callFunc 38 #[.float .f64 b]).run Try.prog w = .ok (.value (.int .u64 b)) w := run_bits
  obtain ⟨k, m, t, bs⟩ := n
  have ht : t < 18446744073709551616 := h.time
  have k0 : Kp (fun _ => False) w (w.alloc (.cells #[.int .i64 k, .int .i64 m, .float .f64 t, .slice a bs.length c] 57)) := (Kp.refl _ w).alloc _
  have HK := Lib.hid k0
  have HN := Lib.hid (h.keepF k0)
  have HC := Lib.hid (hp_new w (.cells #[.int .i64 k, .int .i64 m, .float .f64 t, .slice a bs.length c] 57))
  have he : (((plainB t : Nat) : Int) == ((t : Nat) : Int)) = (plainB t == t) := by
    rw [Bool.eq_iff_iff]
    simp
    omega
  have HR := Lib.hid (show rightN ⟨k, m, t, bs⟩ = (dataN ⟨k, m, t, bs⟩ && (decide (0 ≤ m) && (decide (m ≤ 4095) && (plainB t == t)))) from rfl)
  clear h k0
  unfold nodeVal
  dsimp only
  go_enter Try.func54, Try.ntmps54
  go_wp2_with fail
  go_quiet ((first | (go_at_call 63; exact Calls.quiet_of_same ((numPlain_any t ht _).mono fun e w' h => ⟨h.1, h.2.symm⟩))))
  have HK2 := Lib.hid (HK.out.drewN nq)
  have HN2 := Lib.hid (HN.out.keepF ((Kp.refl (fun _ => False) _).drewN nq))
  have HC2 : Hid (((w.alloc (.cells #[.int .i64 k, .int .i64 m, .float .f64 t, .slice a bs.length c] 57)).drewN nq).heap[w.heap.size]? = some (.cells #[.int .i64 k, .int .i64 m, .float .f64 t, .slice a bs.length c] 57 (0, 0))) := HC.out
  clear HK HN HC
  generalize (w.alloc (.cells #[.int .i64 k, .int .i64 m, .float .f64 t, .slice a bs.length c] 57)).drewN nq = w2 at *
  obtain ⟨c0, c1, c2, c3⟩ := cell_four HC2.out
  go_wp2_with fail
  refine (data_any ⟨k, m, t, bs⟩ a c w2 HN2.out).mono ?_
  rintro e w3 ⟨rfl, hk3⟩
  have HK3 := Lib.hid (HK2.out.trans hk3)
  obtain ⟨c0, c1, c2, c3⟩ := cell_four (hk3.hp HC2.out id)
  clear hk3
  cases hd : dataN ⟨k, m, t, bs⟩ with
  | true =>
    by_cases h1 : 0 ≤ m
    · by_cases h2 : m ≤ 4095
      · go_wp2
        go_ret
        rw [HR.out]
        exact ⟨by simp [hd, h1, h2], HK3.out⟩
      · go_wp2
        go_ret
        rw [HR.out]
        exact ⟨by simp [hd, h1]; intro h; omega, HK3.out⟩
    · go_wp2
      go_ret
      rw [HR.out]
      exact ⟨by simp [hd]; intro h; omega, HK3.out⟩
  | false =>
    go_wp2
    go_ret
    rw [HR.out]
    exact ⟨by simp [hd], HK3.out⟩
end Go.Proofs.Ytgpidbdgodgefaa
