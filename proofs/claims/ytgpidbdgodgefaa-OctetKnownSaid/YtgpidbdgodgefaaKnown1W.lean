/- The walk of OctetKnown: it answers true and turns nothing that was there. No condition. -/
import Derived.Test.YtgpidbdgodgefaaSizesW
import Derived.Test.YtgpidbdgodgefaaMake
import Derived.Deep.RegionWith
import Derived.Deep.QuietTactic
namespace Go.Proofs.Ytgpidbdgodgefaa
open Go.RowKit

def kb : List UInt8 := [1, 2, 3, 255, 255, 255, 254, 127, 248, 0, 0, 0, 0, 0, 1, 0, 1, 97, 9]

set_option maxHeartbeats 6000000 in
set_option maxRecDepth 100000 in
theorem octetKnown_any (w : World) :
    Calls Try.prog 5 #[] w fun e w' => e = .returned (.bool true) ∧ Kp (fun _ => False) w w' := by
  have hnp : ∀ (a : Addr) (w : World), (binOp .eql 23 (.pointer (some a)) (.pointer none)).run Try.prog w = .ok (.bool false) w := fun a w => neq_nil_ptr _ w a Try.underlying23
  have hnr : ∀ (a : Addr) (w : World), (binOp .eql 41 (.pointer (some a)) (.pointer none)).run Try.prog w = .ok (.bool false) w := fun a w => neq_nil_ptr _ w a Try.underlying41
  have hm1 : ∀ u : World, (Instr.makeSlice 27 (.int .i64 65536) (.int .i64 65536)).run Try.prog u = .ok (.slice (some ⟨u.heap.size, 0, none⟩) 65536 65536) (u.alloc (.cells (madeCells #[.int .u8 0] 65536) 5)) := run_mk 65536 (by decide)
  have hm2 : ∀ u : World, (Instr.makeSlice 27 (.int .i64 65535) (.int .i64 65535)).run Try.prog u = .ok (.slice (some ⟨u.heap.size, 0, none⟩) 65535 65535) (u.alloc (.cells (madeCells #[.int .u8 0] 65535) 5)) := run_mk 65535 (by decide)
  go_enter Try.func5, Try.ntmps5
  go_wp2_with fail
  refine (NewReader_any _ _ _ kb _ (sl_cells w kb _ _ 19 rfl (by decide) rfl) (by decide)).mono ?_
  rintro e w1 ⟨p, rx, rfl, hp, _, hrd, hk⟩
  have HK1 := Lib.hid (((Kp.refl (fun _ => False) w).alloc _).trans hk); have HR1 := Lib.hid hrd
  have HP := Lib.hid (show w.heap.size ≤ p by simp at hp; omega)
  clear hk hrd hp
  go_wp2_with fail
  refine (NewWriter_any w1).mono ?_
  rintro e w2 ⟨rfl, hw, hk⟩
  have HK2 := Lib.hid (HK1.out.trans hk); have HR2 := Lib.hid (HR1.out.keep hk id (fun _ _ => id)); have HW2 := Lib.hid hw
  have HQ := Lib.hid (show w.heap.size ≤ w1.heap.size from HK1.out.size)
  have HPQ := Lib.hid (HR1.out.lt)
  clear hk hw
  go_wp2_with fail
  refine (known1_any w2).mono ?_
  rintro e w3 ⟨rfl, hk⟩
  have HK3 := Lib.hid (HK2.out.trans hk); have HR3 := Lib.hid (HR2.out.keep hk id (fun _ _ => id)); have HW3 := Lib.hid (HW2.out.keep hk id (fun _ _ => id))
  clear hk
  go_wp2_with fail
  refine (RdU8_any p rx kb false w3 HR3.out (by decide)).mono ?_
  rintro e w4 ⟨r4, rfl, hrd, _, hk⟩
  have HK4 := Lib.hid (kp_one HK3.out HP.out hk)
  have HW4 := Lib.hid (HW3.out.keep hk (by have := HPQ.out; omega) (fun b hb => (by cases hb)))
  have t1 : taken kb false 1 = ([1], [2, 3, 255, 255, 255, 254, 127, 248, 0, 0, 0, 0, 0, 1, 0, 1, 97, 9], false) := by decide
  rw [t1] at hrd
  rw [t1]
  have HR4 := Lib.hid hrd
  clear hrd hk t1
  have n1 : num ([1] : List UInt8) = 1 := by decide
  rw [n1]
  clear n1
  go_wp2_with fail
  refine (RdU16_any p r4 _ false w4 HR4.out (by decide)).mono ?_
  rintro e w5 ⟨r5, rfl, hrd, _, hk⟩
  have HK5 := Lib.hid (kp_one HK4.out HP.out hk)
  have HW5 := Lib.hid (HW4.out.keep hk (by have := HPQ.out; omega) (fun b hb => (by cases hb)))
  have t1 : taken [2, 3, 255, 255, 255, 254, 127, 248, 0, 0, 0, 0, 0, 1, 0, 1, 97, 9] false 2 = ([2, 3], [255, 255, 255, 254, 127, 248, 0, 0, 0, 0, 0, 1, 0, 1, 97, 9], false) := by decide
  rw [t1] at hrd
  rw [t1]
  have HR5 := Lib.hid hrd
  clear hrd hk t1
  have n1 : num ([2, 3] : List UInt8) = 515 := by decide
  rw [n1]
  clear n1
  go_wp2_with fail
  refine (RdU32_any p r5 _ false w5 HR5.out (by decide)).mono ?_
  rintro e w6 ⟨r6, rfl, hrd, _, hk⟩
  have HK6 := Lib.hid (kp_one HK5.out HP.out hk)
  have HW6 := Lib.hid (HW5.out.keep hk (by have := HPQ.out; omega) (fun b hb => (by cases hb)))
  have t1 : taken [255, 255, 255, 254, 127, 248, 0, 0, 0, 0, 0, 1, 0, 1, 97, 9] false 4 = ([255, 255, 255, 254], [127, 248, 0, 0, 0, 0, 0, 1, 0, 1, 97, 9], false) := by decide
  rw [t1] at hrd
  rw [t1]
  have HR6 := Lib.hid hrd
  clear hrd hk t1
  have n1 : num ([255, 255, 255, 254] : List UInt8) = 4294967294 := by decide
  rw [n1]
  clear n1
  go_wp2_with fail
  refine (RdF64_any p r6 _ false w6 HR6.out (by decide)).mono ?_
  rintro e w7 ⟨r7, rfl, hrd, _, hk⟩
  have HK7 := Lib.hid (kp_one HK6.out HP.out hk)
  have HW7 := Lib.hid (HW6.out.keep hk (by have := HPQ.out; omega) (fun b hb => (by cases hb)))
  have t1 : taken [127, 248, 0, 0, 0, 0, 0, 1, 0, 1, 97, 9] false 8 = ([127, 248, 0, 0, 0, 0, 0, 1], [0, 1, 97, 9], false) := by decide
  rw [t1] at hrd
  rw [t1]
  have HR7 := Lib.hid hrd
  clear hrd hk t1
  have n1 : num ([127, 248, 0, 0, 0, 0, 0, 1] : List UInt8) = 9221120237041090561 := by decide
  rw [n1]
  clear n1
  go_wp2_with fail
  refine (RdText_any p r7 _ false w7 HR7.out (by decide)).mono ?_
  rintro e w8 ⟨tv, r8, rfl, hown, hrd, _, hk⟩
  have HK8 := Lib.hid (kp_one HK7.out HP.out hk)
  have HW8 := Lib.hid (HW7.out.keep hk (by have := HPQ.out; omega) (fun b hb => (by cases hb)))
  have t1 : textTaken [0, 1, 97, 9] false = ([97], [9], false) := by decide
  rw [t1] at hrd hown
  have HR8 := Lib.hid hrd
  obtain ⟨ta, tc, ht, _, htb⟩ := sl_of_owns hown
  have he := ht.eq
  subst he
  have HT8 := Lib.hid ht
  have HTB := Lib.hid (show ∀ k, blk ta = some k → ¬ k = p from fun k hk e => by
    have h1 := (htb k hk).1
    have h2 := HR7.out.lt
    omega)
  clear hrd hk t1 hown ht htb
  go_wp2_with fail
  refine (RdU16_any p r8 _ false w8 HR8.out (by decide)).mono ?_
  rintro e w9 ⟨r9, rfl, hrd, _, hk⟩
  have HK9 := Lib.hid (kp_one HK8.out HP.out hk)
  have HW9 := Lib.hid (HW8.out.keep hk (by have := HPQ.out; omega) (fun b hb => (by cases hb)))
  have HT9 := Lib.hid (HT8.out.keep hk (fun b hb => HTB.out b hb))
  have t1 : taken [9] false 2 = ([], [], true) := by decide
  rw [t1] at hrd
  rw [t1]
  have HR9 := Lib.hid hrd
  clear hrd hk t1
  have n1 : num ([] : List UInt8) = 0 := by decide
  rw [n1]
  clear n1
  have hcv : (convert 27 9 (.slice ta 1 tc)).run Try.prog w9 = .ok (.string ⟨#[97]⟩) w9 := run_conv HT9.out
  have hnq : ∀ w : World, (binOp .neq 30 (.float .f64 9221120237041090561) (.float .f64 9221120237041090561)).run Try.prog w = .ok (.bool true) w := fun w => by kernel_rfl
  go_wp2_with fail
  refine (Lack_any p r9 _ true w9 HR9.out).mono ?_
  rintro e w' ⟨rfl, rfl⟩
  go_wp2_with fail
  refine (Left_any p r9 _ true w9 HR9.out).mono ?_
  rintro e w' ⟨rfl, rfl⟩
  dsimp only [List.length_nil, Int.cast_ofNat_Int]
  go_wp2_with fail
  refine (Text_no w1.heap.size _ 65536 65536 _ (by decide) (by decide)).mono ?_
  rintro e w' ⟨rfl, rfl⟩
  have HK10 := Lib.hid (HK9.out.alloc (.cells (madeCells #[.int .u8 0] 65536) 5))
  have HW10 := Lib.hid (HW9.out.keep ((Kp.refl (fun _ => False) w9).alloc (.cells (madeCells #[.int .u8 0] 65536) 5)) id (fun _ _ => id))
  generalize w9.alloc (.cells (madeCells #[.int .u8 0] 65536) 5) = w10 at *
  go_wp2_with fail
  refine (Bytes_any w1.heap.size none [] w10 HW10.out (by decide)).mono ?_
  rintro e w11 ⟨v, rfl, hown, hk⟩
  obtain ⟨va, vc, hv, _, _⟩ := sl_of_owns hown
  have he := hv.eq
  subst he
  have HK11 := Lib.hid (HK10.out.trans hk)
  have HW11 := Lib.hid (HW10.out.keep hk id (fun _ _ => id))
  clear hk hown hv
  have HS12 := Lib.hid (sl_made w11 65535 5 (by decide))
  have HW12 := Lib.hid (HW11.out.keep ((Kp.refl (fun _ => False) w11).alloc (.cells (madeCells #[.int .u8 0] 65535) 5)) id (fun _ _ => id))
  have HK12 := Lib.hid (HK11.out.alloc (.cells (madeCells #[.int .u8 0] 65535) 5))
  have HB12 := Lib.hid (show ¬ w11.heap.size = w1.heap.size ∧ w11.heap.size < (w11.alloc (.cells (madeCells #[.int .u8 0] 65535) 5)).heap.size from by
    have := HW11.out.lt
    simp
    omega)
  go_wp2_with fail
  generalize w11.alloc (.cells (madeCells #[.int .u8 0] 65535) 5) = w12 at *
  have hz : (List.replicate 65535 (0 : UInt8)).length = 65535 := List.length_replicate
  generalize List.replicate 65535 (0 : UInt8) = zs at *
  refine (Text_yes w1.heap.size _ _ 65535 zs none [] w12 HS12.out HW12.out (by rw [hz]; decide) (by omega) (fun k hk => by cases hk; exact ⟨HB12.out.1, fun e => (by cases e), HB12.out.2⟩)).mono ?_
  rintro e w13 ⟨rfl, row, hw, _, hk⟩
  have HW13 := Lib.hid hw
  have HK13 := Lib.hid (kp_wr HK12.out HQ.out HW12.out hk)
  have hlen : ([] ++ texted zs).length = 65537 := by simp [texted, be_length, hz]
  clear hw hk hz HS12
  generalize [] ++ texted zs = out at *
  go_wp2_with fail
  refine (Bytes_any w1.heap.size row out w13 HW13.out (by omega)).mono ?_
  rintro e w14 ⟨v, rfl, hown, hk⟩
  rw [hlen] at hown
  obtain ⟨va', vc', rfl⟩ := owns_form hown
  have HK14 := Lib.hid (HK13.out.trans hk)
  clear hk hown
  go_wp2
  go_ret
  exact ⟨rfl, HK14.out⟩
end Go.Proofs.Ytgpidbdgodgefaa
