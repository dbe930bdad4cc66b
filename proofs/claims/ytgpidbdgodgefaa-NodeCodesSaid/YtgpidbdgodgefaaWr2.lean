/- The contracts of the writers' methods F64, Raw, Text, Bytes, of NewWriter and of the law file's known. Conditions: as the theorems name them. -/
import Derived.Test.YtgpidbdgodgefaaWr
namespace Go.Proofs.Ytgpidbdgodgefaa
open Go.RowKit

theorem run_bits (b : Nat) (w : World) : (callFunc 38 #[.float .f64 b]).run Try.prog w = .ok (.value (.int .u64 b)) w := by
  rw [run_callFunc_extern Try.func38 (by kernel_rfl) (by kernel_rfl) (by kernel_rfl) (e := Extern.MathFloatBits.float64bits) (by kernel_rfl)]
  rfl
theorem run_frombits (b : Int) (w : World) : (callFunc 62 #[.int .u64 b]).run Try.prog w = .ok (.value (.float .f64 b.toNat)) w := by
  rw [run_callFunc_extern Try.func62 (by kernel_rfl) (by kernel_rfl) (by kernel_rfl) (e := Extern.MathFloatBits.float64frombits) (by kernel_rfl)]
  rfl

/-- What Text lays. -/
def texted (bs : List UInt8) : List UInt8 := be 2 bs.length ++ bs

set_option maxHeartbeats 400000 in
theorem F64_any (p b : Nat) (hbb : b < 18446744073709551616) (row : Option Nat) (bs : List UInt8) (w : World) (hw : Wr 81 5 w p row bs) (hb : bs.length + 8 ≤ 140737488355328) :
    Calls Try.prog 22 #[.pointer (some ⟨p, 0, none⟩), .float .f64 b] w fun e w' => e = .returned (.tuple #[]) ∧ WrEnd 81 w p row (bs ++ be 8 b) w' := by
  have HC := Lib.hid (put_any p b 8 row bs w hbb (by decide) hw hb)
  have hrb := run_bits
  clear hw hb hbb
  go_enter Try.func22, Try.ntmps22
  go_wp2_with fail
  refine HC.out.mono ?_
  rintro e w' ⟨rfl, h⟩
  have H := Lib.hid h
  clear h
  go_wp2
  go_end0
  exact ⟨rfl, H.out⟩

set_option maxHeartbeats 400000 in
theorem Raw_any (p : Nat) (x : Value) (a : Option Addr) (c : Nat) (xs : List UInt8) (row : Option Nat) (bs : List UInt8) (w : World) (hx : Sl w x a c xs) (hw : Wr 81 5 w p row bs) (hb : bs.length + xs.length ≤ 140737488355328) :
    Calls Try.prog 25 #[.pointer (some ⟨p, 0, none⟩), x] w fun e w' => e = .returned (.tuple #[]) ∧ WrEnd 81 w p row (bs ++ xs) w' := by
  obtain ⟨ti, I⟩ := byteInfo
  obtain ⟨sv, hh, hrow, hown⟩ := hw
  obtain ⟨sa, sc, rfl⟩ := owns_form hown
  obtain ⟨hc, hf, hl⟩ := cell_one hh
  have HO := Lib.hid hown; have HH := Lib.hid hh; have HR := Lib.hid hrow; have HX := Lib.hid hx
  clear hown hh hrow hx
  go_enter Try.func25, Try.ntmps25
  go_wp2_with (at_builtin; refine wpList_append_sl rfl I (p + 1) (.tmp 8) (.tmp 9) rfl (.slice sa bs.length sc) bs rfl HO.out (by omega) x a c xs rfl HX.out hb ?_)
  intro v' w' hown' hgr hfr'
  obtain ⟨a', c', rfl⟩ := owns_form hown'
  have HO' := Lib.hid hown'; have HG' := Lib.hid hgr; have HF' := Lib.hid hfr'
  clear hown' hgr hfr'
  have hh' : w'.heap[p]? = some (.cells #[.slice sa bs.length sc] 81 (0, 0)) := (by rw [HG'.out.block p hl (fun e => by have := owns_block HO.out p e.symm; omega)]; exact HH.out)
  obtain ⟨hc', hf', hl'⟩ := cell_one hh'
  have HH' := Lib.hid hh'
  clear hh'
  go_wp2
  go_end0
  obtain rfl := HR.out
  have hW := wr_store HH'.out (bs := bs ++ xs) (v := .slice a' (bs.length + xs.length) c') (by simpa using HO'.out)
  refine ⟨rfl, _, hW, ?_, ?_⟩
  · simpa using HF'.out
  · exact ((Kp.refl _ w).appended (.inl rfl) HG'.out).setCell ⟨p, 0, none⟩ (.inl (.inl rfl)) _

set_option maxHeartbeats 400000 in
theorem Text_no (p : Nat) (a : Option Addr) (c n : Nat) (w : World) (hn : 65535 < n) (hm : n ≤ maxLen) :
    Calls Try.prog 27 #[.pointer (some ⟨p, 0, none⟩), .slice a n c] w fun e w' => e = .returned (.bool false) ∧ w = w' := by
  unfold maxLen at hm
  go_enter Try.func27, Try.ntmps27
  go_wp2
  go_ret
  exact ⟨rfl, rfl⟩

set_option maxHeartbeats 400000 in
theorem Text_yes (p : Nat) (x : Value) (a : Option Addr) (c : Nat) (xs : List UInt8) (row : Option Nat) (bs : List UInt8) (w : World) (hx : Sl w x a c xs) (hw : Wr 81 5 w p row bs) (hb : bs.length + 2 + xs.length ≤ 140737488355328)
    (hn : xs.length ≤ 65535) (ha : ∀ k, blk a = some k → k ≠ p ∧ row ≠ some k ∧ k < w.heap.size) :
    Calls Try.prog 27 #[.pointer (some ⟨p, 0, none⟩), x] w fun e w' => e = .returned (.bool true) ∧ WrEnd 81 w p row (bs ++ texted xs) w' := by
  have HC := Lib.hid (U16_any p xs.length row bs w hw (by omega))
  have HX := Lib.hid hx
  have he := hx.eq
  subst he
  clear hw hx
  go_enter Try.func27, Try.ntmps27
  go_wp2_with fail
  refine HC.out.mono ?_
  rintro e w1 ⟨rfl, row1, hw1, hf1, hk1⟩
  have hx1 : Sl w1 (.slice a xs.length c) a c xs := HX.out.keep hk1 (fun b hb h => by
    obtain ⟨q1, q2, q3⟩ := ha b hb
    rcases h with h | h
    · exact q1 h
    · exact q2 h)
  have HR := Lib.hid (Raw_any p (.slice a xs.length c) a c xs row1 _ w1 hx1 hw1 (by simp [be_length]; omega))
  have HF := Lib.hid hf1; have HK := Lib.hid hk1
  clear hf1 hk1 hx1 hw1
  go_wp2_with fail
  refine HR.out.mono ?_
  rintro e w2 ⟨rfl, row2, hw2, hf2, hk2⟩
  have HW := Lib.hid hw2; have HF2 := Lib.hid hf2; have HK2 := Lib.hid hk2
  clear hw2 hf2 hk2
  go_wp2
  go_ret
  refine ⟨rfl, row2, ?_, HF.out.trans HF2.out HK.out.size, ?_⟩
  · have e : bs ++ texted xs = bs ++ be 2 (u64 xs.length) ++ xs := by
      have : u64 (xs.length : Int) = xs.length := by unfold u64; omega
      rw [this, texted, List.append_assoc]
    rw [e]
    exact HW.out
  · refine HK.out.step HK2.out fun i hi h => ?_
    rcases h with h | h
    · exact .inl h
    · rcases HF.out with e | ⟨n, e, hn⟩
      · rw [e] at h; exact .inr h
      · rw [e] at h; cases h; omega

set_option maxHeartbeats 400000 in
theorem rF64_any (p b : Nat) (hbb : b < 18446744073709551616) (row : Option Nat) (bs : List UInt8) (w : World) (hw : Wr 29 5 w p row bs) (hb : bs.length + 8 ≤ 140737488355328) :
    Calls Try.prog 24 #[.pointer (some ⟨p, 0, none⟩), .float .f64 b] w fun e w' => e = .returned (.tuple #[]) ∧ WrEnd 29 w p row (bs ++ be 8 b) w' := by
  have HC := Lib.hid (u_any p b 8 row bs w hbb (by decide) hw hb)
  have hrb := run_bits
  clear hw hb hbb
  go_enter Try.func24, Try.ntmps24
  go_wp2_with fail
  refine HC.out.mono ?_
  rintro e w' ⟨rfl, h⟩
  have H := Lib.hid h
  clear h
  go_wp2
  go_end0
  exact ⟨rfl, H.out⟩

set_option maxHeartbeats 400000 in
theorem rRaw_any (p : Nat) (x : Value) (a : Option Addr) (c : Nat) (xs : List UInt8) (row : Option Nat) (bs : List UInt8) (w : World) (hx : Sl w x a c xs) (hw : Wr 29 5 w p row bs) (hb : bs.length + xs.length ≤ 140737488355328) :
    Calls Try.prog 26 #[.pointer (some ⟨p, 0, none⟩), x] w fun e w' => e = .returned (.tuple #[]) ∧ WrEnd 29 w p row (bs ++ xs) w' := by
  obtain ⟨ti, I⟩ := byteInfo
  obtain ⟨sv, hh, hrow, hown⟩ := hw
  obtain ⟨sa, sc, rfl⟩ := owns_form hown
  obtain ⟨hc, hf, hl⟩ := cell_one hh
  have HO := Lib.hid hown; have HH := Lib.hid hh; have HR := Lib.hid hrow; have HX := Lib.hid hx
  clear hown hh hrow hx
  go_enter Try.func26, Try.ntmps26
  go_wp2_with (at_builtin; refine wpList_append_sl rfl I (p + 1) (.tmp 8) (.tmp 9) rfl (.slice sa bs.length sc) bs rfl HO.out (by omega) x a c xs rfl HX.out hb ?_)
  intro v' w' hown' hgr hfr'
  obtain ⟨a', c', rfl⟩ := owns_form hown'
  have HO' := Lib.hid hown'; have HG' := Lib.hid hgr; have HF' := Lib.hid hfr'
  clear hown' hgr hfr'
  have hh' : w'.heap[p]? = some (.cells #[.slice sa bs.length sc] 29 (0, 0)) := (by rw [HG'.out.block p hl (fun e => by have := owns_block HO.out p e.symm; omega)]; exact HH.out)
  obtain ⟨hc', hf', hl'⟩ := cell_one hh'
  have HH' := Lib.hid hh'
  clear hh'
  go_wp2
  go_end0
  obtain rfl := HR.out
  have hW := wr_store HH'.out (bs := bs ++ xs) (v := .slice a' (bs.length + xs.length) c') (by simpa using HO'.out)
  refine ⟨rfl, _, hW, ?_, ?_⟩
  · simpa using HF'.out
  · exact ((Kp.refl _ w).appended (.inl rfl) HG'.out).setCell ⟨p, 0, none⟩ (.inl (.inl rfl)) _

set_option maxHeartbeats 400000 in
theorem rText_no (p : Nat) (a : Option Addr) (c n : Nat) (w : World) (hn : 65535 < n) (hm : n ≤ maxLen) :
    Calls Try.prog 28 #[.pointer (some ⟨p, 0, none⟩), .slice a n c] w fun e w' => e = .returned (.bool false) ∧ w = w' := by
  unfold maxLen at hm
  go_enter Try.func28, Try.ntmps28
  go_wp2
  go_ret
  exact ⟨rfl, rfl⟩

set_option maxHeartbeats 400000 in
theorem rText_yes (p : Nat) (x : Value) (a : Option Addr) (c : Nat) (xs : List UInt8) (row : Option Nat) (bs : List UInt8) (w : World) (hx : Sl w x a c xs) (hw : Wr 29 5 w p row bs) (hb : bs.length + 2 + xs.length ≤ 140737488355328)
    (hn : xs.length ≤ 65535) (ha : ∀ k, blk a = some k → k ≠ p ∧ row ≠ some k ∧ k < w.heap.size) :
    Calls Try.prog 28 #[.pointer (some ⟨p, 0, none⟩), x] w fun e w' => e = .returned (.bool true) ∧ WrEnd 29 w p row (bs ++ texted xs) w' := by
  have HC := Lib.hid (rU16_any p xs.length row bs w hw (by omega))
  have HX := Lib.hid hx
  have he := hx.eq
  subst he
  clear hw hx
  go_enter Try.func28, Try.ntmps28
  go_wp2_with fail
  refine HC.out.mono ?_
  rintro e w1 ⟨rfl, row1, hw1, hf1, hk1⟩
  have hx1 : Sl w1 (.slice a xs.length c) a c xs := HX.out.keep hk1 (fun b hb h => by
    obtain ⟨q1, q2, q3⟩ := ha b hb
    rcases h with h | h
    · exact q1 h
    · exact q2 h)
  have HR := Lib.hid (rRaw_any p (.slice a xs.length c) a c xs row1 _ w1 hx1 hw1 (by simp [be_length]; omega))
  have HF := Lib.hid hf1; have HK := Lib.hid hk1
  clear hf1 hk1 hx1 hw1
  go_wp2_with fail
  refine HR.out.mono ?_
  rintro e w2 ⟨rfl, row2, hw2, hf2, hk2⟩
  have HW := Lib.hid hw2; have HF2 := Lib.hid hf2; have HK2 := Lib.hid hk2
  clear hw2 hf2 hk2
  go_wp2
  go_ret
  refine ⟨rfl, row2, ?_, HF.out.trans HF2.out HK.out.size, ?_⟩
  · have e : bs ++ texted xs = bs ++ be 2 (u64 xs.length) ++ xs := by
      have : u64 (xs.length : Int) = xs.length := by unfold u64; omega
      rw [this, texted, List.append_assoc]
    rw [e]
    exact HW.out
  · refine HK.out.step HK2.out fun i hi h => ?_
    rcases h with h | h
    · exact .inl h
    · rcases HF.out with e | ⟨n, e, hn⟩
      · rw [e] at h; exact .inr h
      · rw [e] at h; cases h; omega

/-- What Bytes hands back: bytes of its own. -/
def Given (w : World) (bs : List UInt8) (e : Ending) (w' : World) : Prop :=
  ∃ v, e = .returned v ∧ w'.ownsRow w.heap.size 5 1 v bs.length (bs.map byteV) ∧ Kp (fun _ => False) w w'

set_option maxHeartbeats 400000 in
theorem Bytes_any (p : Nat) (row : Option Nat) (bs : List UInt8) (w : World) (hw : Wr 81 5 w p row bs) (hb : bs.length ≤ 140737488355328) :
    Calls Try.prog 29 #[.pointer (some ⟨p, 0, none⟩)] w (Given w bs) := by
  obtain ⟨ti, I⟩ := byteInfo
  obtain ⟨sv, hh, hrow, hown⟩ := hw
  obtain ⟨sa, sc, rfl⟩ := owns_form hown
  obtain ⟨hc, hf, hl⟩ := cell_one hh
  have h1 := owns_empty w w.heap.size 5 (Nat.le_refl _)
  obtain ⟨a, c, h2, h3, h4⟩ := sl_of_owns (owns_keep (S := fun _ => False) hown ((Kp.refl _ w).alloc (.cells #[] 5)) (fun _ _ => id))
  have HO := Lib.hid h1; have HX := Lib.hid h2
  clear hown hh hrow h1 h2 h3 h4
  go_enter Try.func29, Try.ntmps29
  go_wp2_with (at_builtin; refine wpList_append_sl rfl I w.heap.size (.tmp 3) (.tmp 7) rfl (.slice (some ⟨w.heap.size, 0, none⟩) 0 0) [] rfl HO.out (by simp) (.slice sa bs.length sc) a c bs rfl HX.out (by simpa using hb) ?_)
  intro v' w' hown' hgr hfr'
  have HO' := Lib.hid hown'; have HG' := Lib.hid hgr
  clear hown' hgr hfr'
  go_wp2
  go_ret
  exact ⟨_, rfl, by simpa using HO'.out, ((Kp.refl (fun _ => False) w).alloc _).grown HG'.out (fun k hk => by cases hk; exact .inr (Nat.le_refl _))⟩

set_option maxHeartbeats 400000 in
theorem NewWriter_any (w : World) :
    Calls Try.prog 13 #[] w fun e w' => e = .returned (.pointer (some ⟨w.heap.size, 0, none⟩)) ∧ Wr 81 5 w' w.heap.size none [] ∧ Kp (fun _ => False) w w' := by
  go_enter Try.func13, Try.ntmps13
  go_wp2
  go_ret
  exact ⟨rfl, ⟨_, hp_new w _, rfl, World.ownsRow_nil _ _ _ _⟩, (Kp.refl _ w).alloc _⟩
end Go.Proofs.Ytgpidbdgodgefaa
