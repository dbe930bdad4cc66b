/- The contracts of the document's plain, target, RightNode and LayNode. Conditions: as the theorems name them. -/
import Derived.Test.YtgpidbdgodgefaaLay
import Derived.Test.YtgpidbdgodgefaaConv
import Derived.Test.YtgpidbdgodgefaaPlain1
import Derived.Deep.QuietTactic
import Derived.BigQuiet
namespace Go.Proofs.Ytgpidbdgodgefaa
open Go.RowKit Go.Deep

theorem be8_eq (s t : Nat) (hs : s < 18446744073709551616) (ht : t < 18446744073709551616) : (be 8 s == be 8 t) = (t == s) := by
  rw [Bool.eq_iff_iff, beq_iff_eq, beq_iff_eq]
  constructor
  · intro h
    have h2 := congrArg num h
    rw [num_be, num_be] at h2
    have e : (256 : Nat) ^ 8 = 18446744073709551616 := by decide
    rw [e] at h2
    omega
  · rintro rfl
    rfl

set_option maxHeartbeats 1000000 in
theorem refPlainB_any (t : Nat) (ht : t < 18446744073709551616) (w : World) :
    Calls Try.prog 76 #[.float .f64 t] w fun e w' => e = .returned (.bool (plainB t == t)) ∧ Kp (fun _ => False) w w' := by
  have hpl := plainB_lt ht
  rw [← be8_eq t (plainB t) ht hpl]
  have HW1 : Hid (Wr 29 5 (w.alloc (.cells #[.slice none 0 0] 29)) w.heap.size none []) := ⟨_, hp_new w _, rfl, World.ownsRow_nil _ _ _ _⟩
  have HK1 := Lib.hid ((Kp.refl (fun _ => False) w).alloc (.cells #[.slice none 0 0] 29))
  go_enter Try.func76, Try.ntmps76
  go_wp2_with fail
  generalize w.alloc (.cells #[.slice none 0 0] 29) = w1 at *
  refine (rF64_any w.heap.size t ht none [] w1 HW1.out (by simp)).mono ?_
  rintro e w2 ⟨rfl, row2, hw2, _, hk2⟩
  have HW2 := Lib.hid hw2
  have HK2 := Lib.hid (HK1.out.step hk2 (fun i hi h => by
    rcases h with h | h
    · omega
    · cases h))
  clear hw2 hk2 HW1 HK1
  go_wp2_with fail
  have HW3 := Lib.hid (HW2.out.keep ((Kp.refl (fun _ => False) w2).alloc (.cells #[.slice none 0 0] 29)) id (fun _ _ => id))
  have HV3 : Hid (Wr 29 5 (w2.alloc (.cells #[.slice none 0 0] 29)) w2.heap.size none []) := ⟨_, hp_new w2 _, rfl, World.ownsRow_nil _ _ _ _⟩
  have HK3 := Lib.hid (HK2.out.alloc (.cells #[.slice none 0 0] 29))
  have HLT := Lib.hid HW2.out.lt
  have HROW := Lib.hid HW2.out.row
  clear HW2 HK2
  generalize w2.alloc (.cells #[.slice none 0 0] 29) = w3 at *
  generalize w2.heap.size = p3 at *
  refine (refPlain_any t ht w3).mono ?_
  rintro e w' ⟨rfl, rfl⟩
  go_wp2_with fail
  refine (rF64_any p3 (plainB t) hpl none [] w3 HV3.out (by simp)).mono ?_
  rintro e w4 ⟨rfl, row4, hw4, _, hk4⟩
  have hW4 := HW3.out.keep hk4 (fun h => by
    rcases h with h | h
    · have := HLT.out; omega
    · cases h) (fun b hb h => by
    rcases h with h | h
    · have := (HROW.out b hb).2; omega
    · cases h)
  have HK4 := Lib.hid (HK3.out.step hk4 (fun i hi h => by
    rcases h with h | h
    · have := HLT.out; omega
    · cases h))
  obtain ⟨v1, hc1, _, hown1⟩ := hW4
  obtain ⟨a1, k1, hs1, _, _⟩ := sl_of_owns hown1
  have he1 := hs1.eq
  subst he1
  obtain ⟨v2, hc2, _, hown2⟩ := hw4
  obtain ⟨a2, k2, hs2, _, _⟩ := sl_of_owns hown2
  have he2 := hs2.eq
  subst he2
  rw [List.nil_append] at hs1 hs2 hc1 hc2
  have hv1 : ∀ n : Nat, (convert 27 9 (.slice a1 (be 8 t).length k1)).run Try.prog (w4.drewN n) = .ok (.string ⟨(be 8 t).toArray⟩) (w4.drewN n) := fun n => run_conv (hs1.keep ((Kp.refl (fun _ => False) w4).drewN n) (fun _ _ => id))
  have hv2 : ∀ n : Nat, (convert 27 9 (.slice a2 (be 8 (plainB t)).length k2)).run Try.prog (w4.drewN n) = .ok (.string ⟨(be 8 (plainB t)).toArray⟩) (w4.drewN n) := fun n => run_conv (hs2.keep ((Kp.refl (fun _ => False) w4).drewN n) (fun _ _ => id))
  obtain ⟨p1, _, _⟩ := cell_one hc1
  obtain ⟨p2, _, _⟩ := cell_one hc2
  have HK5 := Lib.hid (HK4.out.drewN 0)
  clear hs1 hs2 hown1 hown2 hc1 hc2 hk4 HW3 HV3 HK3 HLT HROW HK5
  generalize hx : be 8 t = xs at *
  generalize hy : be 8 (plainB t) = ys at *
  have HX := Lib.hid hx
  have HY := Lib.hid hy
  clear hx hy
  go_wp2_with fail
  go_quiet (fail)
  go_wp2
  go_ret
  rw [HX.out, HY.out]
  exact ⟨by simp, HK4.out.drewN nq⟩

/-- May a link lead there? -/
def targetB (bs : List UInt8) : Bool := decide (1 ≤ bs.length) && (decide (bs.length ≤ 120) && decide ((0 : UInt8) ∉ bs))
theorem not_mem_take (bs : List UInt8) (k : Nat) (h : k < bs.length) (hn : (0 : UInt8) ∉ bs.take k) (hz : bs[k] ≠ 0) : (0 : UInt8) ∉ bs.take (k + 1) := by
  rw [List.take_succ_eq_append_getElem h, List.mem_append]
  rintro (h1 | h1)
  · exact hn h1
  · simp only [List.mem_singleton] at h1
    exact hz h1.symm

set_option maxHeartbeats 400000 in
theorem target_any (a : Option Addr) (c : Nat) (bs : List UInt8) (w : World) (h : Sl w (.slice a bs.length c) a c bs) (hb : bs.length ≤ 140737488355328) :
    Calls Try.prog 77 #[.slice a bs.length c] w fun e w' => e = .returned (.bool (targetB bs)) ∧ w = w' := by
  have HS := Lib.hid h
  clear h
  go_enter Try.func77, Try.ntmps77
  go_wp2
  go_loop [3] (fun i => ∃ k : Nat, i = .int .i64 k ∧ k ≤ bs.length ∧ Hid ((0 : UInt8) ∉ bs.take k)) (fun i => bs.length - (intOf i).toNat)
  case atStart => exact ⟨0, rfl, Nat.zero_le _, Lib.hid (by simp)⟩
  case round =>
    obtain ⟨k, rfl, hk, HN⟩ := hrel
    by_cases hlt : k < bs.length
    · obtain ⟨b, off, rfl, hcell⟩ := HS.out.seg k hlt
      by_cases hz : bs[k] = 0
      · have HR : Hid (targetB bs = false) := by
          show _ = _
          have : (0 : UInt8) ∈ bs := by rw [← hz]; exact List.getElem_mem hlt
          unfold targetB
          simp [this]
        rw [hz] at hcell
        have hcell2 : w.cell? ⟨b, off + k, none⟩ = some (.int .u8 0) := hcell
        clear hcell hz
        go_wp2
        go_ret
        rw [HR.out]
        exact ⟨rfl, rfl⟩
      · have HN2 := Lib.hid (not_mem_take bs k hlt HN.out hz)
        have hne : ¬ ((bs[k].toNat : Int) = 0) := fun e => hz (UInt8.toNat_inj.1 (by show bs[k].toNat = 0; omega))
        unfold byteV at hcell
        generalize (bs[k].toNat : Int) = cb at *
        have hne2 : (cb == 0) = false := by simp [hne]
        clear hz HN
        go_wp2
        exact ⟨⟨k + 1, by go_num, by omega, HN2⟩, by simp [intOf]; omega⟩
    · have hn : (0 : UInt8) ∉ bs := by have := HN.out; rwa [List.take_of_length_le (by omega)] at this
      have HR : Hid (targetB bs = (decide (1 ≤ bs.length) && decide (bs.length ≤ 120))) := by
        show _ = _
        unfold targetB
        simp [hn]
      clear hn HN
      by_cases h1 : 1 ≤ bs.length
      · by_cases h2 : bs.length ≤ 120
        · go_wp2
          go_ret
          rw [HR.out]
          simp [h1, h2]
          omega
        · go_wp2
          go_ret
          rw [HR.out]
          simp [h1, h2]
          omega
      · go_wp2
        go_ret
        rw [HR.out]
        simp [h1]
end Go.Proofs.Ytgpidbdgodgefaa
