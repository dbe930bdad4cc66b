/- The contract of the law file's function known (chapter 1): it answers true and turns nothing that was there. No condition. -/
import Derived.Test.YtgpidbdgodgefaaGet
namespace Go.Proofs.Ytgpidbdgodgefaa
open Go.RowKit

theorem neq_nil_ptr (P : Program) (w : World) {tp te : TypeId} (a : Addr) (hp : P.underlying tp = some (.pointer te)) : (binOp .eql tp (.pointer (some a)) (.pointer none)).run P w = .ok (.bool false) w := by
  have h : ∀ d : Nat, (Op.equalIn (d + 1) tp (.pointer (some a)) (.pointer none)).run P w = .ok false w := fun d => by
    simp [Op.equalIn, run_underlying hp]
  simp only [binOp]
  simp [Op.equal, Op.maxDepth, h 9999]

set_option maxHeartbeats 400000 in
theorem known1_any (w : World) :
    Calls Try.prog 14 #[] w fun e w' => e = .returned (.bool true) ∧ Kp (fun _ => False) w w' := by
  have hnp : ∀ (a : Addr) (w : World), (binOp .eql 23 (.pointer (some a)) (.pointer none)).run Try.prog w = .ok (.bool false) w := fun a w => neq_nil_ptr _ w a Try.underlying23
  go_enter Try.func14, Try.ntmps14
  go_wp2_with fail
  refine (NewWriter_any w).mono ?_
  rintro e w1 ⟨rfl, hw, hk⟩
  have HW := Lib.hid hw; have HK := Lib.hid hk
  clear hw hk
  go_wp2_with fail
  refine (copysign_neg0 _).mono ?_
  rintro e w' ⟨rfl, rfl⟩
  go_wp2_with fail
  refine (F64_any w.heap.size 9223372036854775808 (by decide) none [] w1 HW.out (by decide)).mono ?_
  rintro e w2 ⟨rfl, row2, hw2, hf2, hk2⟩
  have HW2 := Lib.hid hw2; have HK2 : Hid (Kp (fun _ => False) w w2) := HK.out.step hk2 (fun i hi h => by
    rcases h with h | h
    · omega
    · cases h)
  clear hw2 hf2 hk2
  go_wp2_with fail
  refine (Bytes_any w.heap.size row2 _ w2 HW2.out (by decide)).mono ?_
  rintro e w3 ⟨v, rfl, hown, hk3⟩
  obtain ⟨a, c, hs, _, _⟩ := sl_of_owns hown
  have hcv := sl_string (P := Try.prog) hs 27 9 5 Try.underlying27 Try.underlying5 Try.underlying9
  have HK3 : Hid (Kp (fun _ => False) w w3) := HK2.out.trans hk3
  have hstr : (⟨(([] : List UInt8) ++ be 8 9223372036854775808).toArray⟩ : ByteArray) = ⟨#[128, 0, 0, 0, 0, 0, 0, 0]⟩ := by decide +kernel
  rw [hstr] at hcv
  clear hown hs hk3 hstr
  go_wp2
  go_ret
  exact ⟨rfl, HK3.out⟩
end Go.Proofs.Ytgpidbdgodgefaa
