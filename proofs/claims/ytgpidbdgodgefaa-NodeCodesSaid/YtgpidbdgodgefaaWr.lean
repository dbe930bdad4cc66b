/- The contracts of the writers' methods, the program's and the document's. Conditions: as the theorems name them. -/
import Derived.Test.YtgpidbdgodgefaaPut
namespace Go.Proofs.Ytgpidbdgodgefaa
open Go.RowKit

/-- An int as a uint64. -/
def u64 (n : Int) : Nat := (n % 18446744073709551616).toNat
theorem u64_eq (n : Int) : n % 18446744073709551616 = (u64 n : Int) := by unfold u64; omega
theorem u64_lt (n : Int) : u64 n < 18446744073709551616 := by unfold u64; omega
theorem wrap_u64 (n : Int) : IntKind.u64.wrap n = (u64 n : Int) := by rw [IntKind.wrap_u64, u64_eq]

set_option maxHeartbeats 400000 in
theorem U8_any (p : Nat) (n : Int) (row : Option Nat) (bs : List UInt8) (w : World) (hw : Wr 81 5 w p row bs) (hb : bs.length + 1 ≤ 140737488355328) :
    Calls Try.prog 16 #[.pointer (some ⟨p, 0, none⟩), .int .i64 n] w fun e w' => e = .returned (.tuple #[]) ∧ WrEnd 81 w p row (bs ++ be 1 (u64 n)) w' := by
  have HC := Lib.hid (put_any p (u64 n) 1 row bs w (u64_lt n) (by decide) hw hb)
  have hwr := wrap_u64 n
  have hmd := u64_eq n
  clear hw hb
  generalize u64 n = v at *
  go_enter Try.func16, Try.ntmps16
  go_wp2_with fail
  refine HC.out.mono ?_
  rintro e w' ⟨rfl, h⟩
  have H := Lib.hid h
  clear h
  go_wp2
  go_end0
  exact ⟨rfl, H.out⟩

set_option maxHeartbeats 400000 in
theorem U16_any (p : Nat) (n : Int) (row : Option Nat) (bs : List UInt8) (w : World) (hw : Wr 81 5 w p row bs) (hb : bs.length + 2 ≤ 140737488355328) :
    Calls Try.prog 18 #[.pointer (some ⟨p, 0, none⟩), .int .i64 n] w fun e w' => e = .returned (.tuple #[]) ∧ WrEnd 81 w p row (bs ++ be 2 (u64 n)) w' := by
  have HC := Lib.hid (put_any p (u64 n) 2 row bs w (u64_lt n) (by decide) hw hb)
  have hwr := wrap_u64 n
  have hmd := u64_eq n
  clear hw hb
  generalize u64 n = v at *
  go_enter Try.func18, Try.ntmps18
  go_wp2_with fail
  refine HC.out.mono ?_
  rintro e w' ⟨rfl, h⟩
  have H := Lib.hid h
  clear h
  go_wp2
  go_end0
  exact ⟨rfl, H.out⟩

set_option maxHeartbeats 400000 in
theorem U32_any (p : Nat) (n : Int) (row : Option Nat) (bs : List UInt8) (w : World) (hw : Wr 81 5 w p row bs) (hb : bs.length + 4 ≤ 140737488355328) :
    Calls Try.prog 20 #[.pointer (some ⟨p, 0, none⟩), .int .i64 n] w fun e w' => e = .returned (.tuple #[]) ∧ WrEnd 81 w p row (bs ++ be 4 (u64 n)) w' := by
  have HC := Lib.hid (put_any p (u64 n) 4 row bs w (u64_lt n) (by decide) hw hb)
  have hwr := wrap_u64 n
  have hmd := u64_eq n
  clear hw hb
  generalize u64 n = v at *
  go_enter Try.func20, Try.ntmps20
  go_wp2_with fail
  refine HC.out.mono ?_
  rintro e w' ⟨rfl, h⟩
  have H := Lib.hid h
  clear h
  go_wp2
  go_end0
  exact ⟨rfl, H.out⟩

set_option maxHeartbeats 400000 in
theorem rU8_any (p : Nat) (n : Int) (row : Option Nat) (bs : List UInt8) (w : World) (hw : Wr 29 5 w p row bs) (hb : bs.length + 1 ≤ 140737488355328) :
    Calls Try.prog 17 #[.pointer (some ⟨p, 0, none⟩), .int .i64 n] w fun e w' => e = .returned (.tuple #[]) ∧ WrEnd 29 w p row (bs ++ be 1 (u64 n)) w' := by
  have HC := Lib.hid (u_any p (u64 n) 1 row bs w (u64_lt n) (by decide) hw hb)
  have hwr := wrap_u64 n
  have hmd := u64_eq n
  clear hw hb
  generalize u64 n = v at *
  go_enter Try.func17, Try.ntmps17
  go_wp2_with fail
  refine HC.out.mono ?_
  rintro e w' ⟨rfl, h⟩
  have H := Lib.hid h
  clear h
  go_wp2
  go_end0
  exact ⟨rfl, H.out⟩

set_option maxHeartbeats 400000 in
theorem rU16_any (p : Nat) (n : Int) (row : Option Nat) (bs : List UInt8) (w : World) (hw : Wr 29 5 w p row bs) (hb : bs.length + 2 ≤ 140737488355328) :
    Calls Try.prog 19 #[.pointer (some ⟨p, 0, none⟩), .int .i64 n] w fun e w' => e = .returned (.tuple #[]) ∧ WrEnd 29 w p row (bs ++ be 2 (u64 n)) w' := by
  have HC := Lib.hid (u_any p (u64 n) 2 row bs w (u64_lt n) (by decide) hw hb)
  have hwr := wrap_u64 n
  have hmd := u64_eq n
  clear hw hb
  generalize u64 n = v at *
  go_enter Try.func19, Try.ntmps19
  go_wp2_with fail
  refine HC.out.mono ?_
  rintro e w' ⟨rfl, h⟩
  have H := Lib.hid h
  clear h
  go_wp2
  go_end0
  exact ⟨rfl, H.out⟩

set_option maxHeartbeats 400000 in
theorem rU32_any (p : Nat) (n : Int) (row : Option Nat) (bs : List UInt8) (w : World) (hw : Wr 29 5 w p row bs) (hb : bs.length + 4 ≤ 140737488355328) :
    Calls Try.prog 21 #[.pointer (some ⟨p, 0, none⟩), .int .i64 n] w fun e w' => e = .returned (.tuple #[]) ∧ WrEnd 29 w p row (bs ++ be 4 (u64 n)) w' := by
  have HC := Lib.hid (u_any p (u64 n) 4 row bs w (u64_lt n) (by decide) hw hb)
  have hwr := wrap_u64 n
  have hmd := u64_eq n
  clear hw hb
  generalize u64 n = v at *
  go_enter Try.func21, Try.ntmps21
  go_wp2_with fail
  refine HC.out.mono ?_
  rintro e w' ⟨rfl, h⟩
  have H := Lib.hid h
  clear h
  go_wp2
  go_end0
  exact ⟨rfl, H.out⟩
end Go.Proofs.Ytgpidbdgodgefaa
