/- The contracts of the readers' methods that take numbers, the program's and the document's. Conditions: as the theorems name them. -/
import Derived.Test.YtgpidbdgodgefaaRaw
namespace Go.Proofs.Ytgpidbdgodgefaa
open Go.RowKit

/-- The number of some bytes, the highest first. -/
def num (l : List UInt8) : Nat := l.foldl (fun v c => v * 256 + c.toNat) 0
theorem num_snoc (l : List UInt8) (c : UInt8) : num (l ++ [c]) = num l * 256 + c.toNat := by simp [num]
theorem num_acc : ∀ (l : List UInt8) (v : Nat), l.foldl (fun v c => v * 256 + c.toNat) v < (v + 1) * 256 ^ l.length
  | [], v => by simp
  | c :: l, v => by
    have h := num_acc l (v * 256 + c.toNat)
    have hc := c.toNat_lt
    rw [List.foldl_cons, List.length_cons, Nat.pow_succ, Nat.mul_comm (256 ^ l.length), ← Nat.mul_assoc]
    refine Nat.lt_of_lt_of_le h (Nat.mul_le_mul_right _ ?_)
    omega
theorem num_lt (l : List UInt8) : num l < 256 ^ l.length := by
  have := num_acc l 0
  simpa [num] using this
theorem num_take (l : List UInt8) (k : Nat) (h : k < l.length) : num (l.take (k + 1)) = num (l.take k) * 256 + l[k].toNat := by
  rw [List.take_succ_eq_append_getElem h, num_snoc]

theorem or_byte (x c : Nat) (hx : x < 72057594037927936) (hc : c < 256) : bits .or .u64 ((x : Int) * 256) (c : Int) = ((x * 256 + c : Nat) : Int) := by
  have e : x * 256 + c = (x * 256) ||| c := by
    have := Nat.two_pow_add_eq_or_of_lt (i := 8) (b := c) (by simpa using hc) x
    simpa [Nat.mul_comm] using this
  show IntKind.u64.wrap ((BitVec.ofInt 64 ((x : Int) * 256) ||| BitVec.ofInt 64 (c : Int)).toNat : Int) = _
  rw [show (x : Int) * 256 = ((x * 256 : Nat) : Int) by omega, BitVec.ofInt_natCast, BitVec.ofInt_natCast, BitVec.toNat_or, BitVec.toNat_ofNat, BitVec.toNat_ofNat,
    Nat.mod_eq_of_lt (by omega), Nat.mod_eq_of_lt (by omega), ← e, IntKind.wrap_u64]
  omega

/-- What taking a number comes to. -/
def GetEnd (T : TypeId) (w : World) (p : Nat) (row : Option Nat) (bs : List UInt8) (lack : Bool) (n : Int) (f : Nat → Value) (e : Ending) (w' : World) : Prop :=
  ∃ row', e = .returned (f (num (taken bs lack n).1)) ∧ Rd T w' p row' (taken bs lack n).2.1 (taken bs lack n).2.2 ∧ (row' = row ∨ row' = none) ∧ Kp (fun k => k = p) w w'
theorem taken_le (bs : List UInt8) (lack : Bool) (n : Int) (k : Nat) (h : n ≤ (k : Int)) : (taken bs lack n).1.length ≤ k := by
  unfold taken
  split
  · exact Nat.zero_le _
  · simp; omega

set_option maxHeartbeats 400000 in
theorem get_any (p : Nat) (row : Option Nat) (bs : List UInt8) (lack : Bool) (n : Nat) (hn : n ≤ 8) (w : World) (hr : Rd 86 w p row bs lack) (hb : bs.length ≤ 140737488355328) :
    Calls Try.prog 69 #[.pointer (some ⟨p, 0, none⟩), .int .i64 n] w (GetEnd 86 w p row bs lack n (fun v => .int .u64 v)) := by
  have HC := Lib.hid (RdRaw_all p row bs lack n w hr hb)
  have HT := Lib.hid (taken_le bs lack n 8 (by omega))
  clear hr hb
  go_enter Try.func69, Try.ntmps69
  go_wp2_with fail
  refine HC.out.mono ?_
  rintro e w1 ⟨v, row', rfl, hown, hrd, hrow, hkp⟩
  obtain ⟨a, c, hs, h2, h3⟩ := sl_of_owns hown
  have hout := HT.out
  have HG : Hid (∀ r : Nat, r = num (taken bs lack n).1 → GetEnd 86 w p row bs lack n (fun v => .int .u64 v) (.returned (.int .u64 (r : Int))) w1) := fun r hr => by subst hr; exact ⟨row', rfl, hrd, hrow, hkp⟩
  clear hown hrd hrow hkp h2 h3 HT
  generalize (taken bs lack n).1 = out at *
  have he := hs.eq
  subst he
  have HS := Lib.hid hs
  clear hs
  go_wp2
  go_loop [5, 12] (fun v i => ∃ k : Nat, i = .int .i64 k ∧ k ≤ out.length ∧ v = .int .u64 (num (out.take k))) (fun _ i => out.length - (intOf i).toNat)
  case atStart => exact ⟨0, rfl, Nat.zero_le _, rfl⟩
  case round =>
    obtain ⟨k, rfl, hk, rfl⟩ := hrel
    by_cases hlt : k < out.length
    · obtain ⟨b, off, rfl, hcell⟩ := HS.out.seg k hlt
      have hnt := num_take out k hlt
      have hx := num_lt (out.take k)
      have hx2 : num (out.take k) < 72057594037927936 := by
        have : (out.take k).length ≤ 7 := by simp; omega
        exact Nat.lt_of_lt_of_le hx (Nat.pow_le_pow_right (by decide) this)
      have hcb := out[k].toNat_lt
      have HN := Lib.hid hnt
      clear hx hnt
      generalize num (out.take k) = x at *
      generalize out[k] = cb at *
      unfold byteV at hcell
      go_wp2
      refine ⟨⟨k + 1, by go_num, by omega, ?_⟩, by simp [intOf]; omega⟩
      rw [HN.out, or_byte x _ hx2 hcb]
    · go_wp2
      go_ret
      exact HG.out _ (by rw [List.take_of_length_le (by omega)])

set_option maxHeartbeats 400000 in
theorem ru_any (p : Nat) (row : Option Nat) (bs : List UInt8) (lack : Bool) (n : Nat) (hn : n ≤ 8) (w : World) (hr : Rd 46 w p row bs lack) (hb : bs.length ≤ 140737488355328) :
    Calls Try.prog 70 #[.pointer (some ⟨p, 0, none⟩), .int .i64 n] w (GetEnd 46 w p row bs lack n (fun v => .int .u64 v)) := by
  have HC := Lib.hid (rRdRaw_all p row bs lack n w hr hb)
  have HT := Lib.hid (taken_le bs lack n 8 (by omega))
  clear hr hb
  go_enter Try.func70, Try.ntmps70
  go_wp2_with fail
  refine HC.out.mono ?_
  rintro e w1 ⟨v, row', rfl, hown, hrd, hrow, hkp⟩
  obtain ⟨a, c, hs, h2, h3⟩ := sl_of_owns hown
  have hout := HT.out
  have HG : Hid (∀ r : Nat, r = num (taken bs lack n).1 → GetEnd 46 w p row bs lack n (fun v => .int .u64 v) (.returned (.int .u64 (r : Int))) w1) := fun r hr => by subst hr; exact ⟨row', rfl, hrd, hrow, hkp⟩
  clear hown hrd hrow hkp h2 h3 HT
  generalize (taken bs lack n).1 = out at *
  have he := hs.eq
  subst he
  have HS := Lib.hid hs
  clear hs
  go_wp2
  go_loop [6, 7] (fun v i => ∃ k : Nat, i = .int .i64 k ∧ k ≤ out.length ∧ v = .int .u64 (num (out.take k))) (fun _ i => out.length - (intOf i).toNat)
  case atStart => exact ⟨0, rfl, Nat.zero_le _, rfl⟩
  case round =>
    obtain ⟨k, rfl, hk, rfl⟩ := hrel
    by_cases hlt : k < out.length
    · obtain ⟨b, off, rfl, hcell⟩ := HS.out.seg k hlt
      have hnt := num_take out k hlt
      have hx := num_lt (out.take k)
      have hx2 : num (out.take k) < 72057594037927936 := by
        have : (out.take k).length ≤ 7 := by simp; omega
        exact Nat.lt_of_lt_of_le hx (Nat.pow_le_pow_right (by decide) this)
      have hcb := out[k].toNat_lt
      have HN := Lib.hid hnt
      clear hx hnt
      generalize num (out.take k) = x at *
      generalize out[k] = cb at *
      unfold byteV at hcell
      go_wp2
      refine ⟨⟨k + 1, by go_num, by omega, ?_⟩, by simp [intOf]; omega⟩
      rw [HN.out]
      simp
    · go_wp2
      go_ret
      exact HG.out _ (by rw [List.take_of_length_le (by omega)])

theorem taken_rest (bs : List UInt8) (lack : Bool) (n : Int) : (taken bs lack n).2.1.length ≤ bs.length := by
  unfold taken
  split
  · exact Nat.zero_le _
  · simp
/-- What Text takes, what is left, and whether it lacks. -/
def textTaken (bs : List UInt8) (lack : Bool) : List UInt8 × List UInt8 × Bool :=
  taken (taken bs lack 2).2.1 (taken bs lack 2).2.2 (num (taken bs lack 2).1)
def TextEnd (T : TypeId) (w : World) (p : Nat) (row : Option Nat) (bs : List UInt8) (lack : Bool) (e : Ending) (w' : World) : Prop :=
  ∃ v row', e = .returned v ∧ w'.ownsRow w.heap.size 5 1 v (textTaken bs lack).1.length ((textTaken bs lack).1.map byteV) ∧ Rd T w' p row' (textTaken bs lack).2.1 (textTaken bs lack).2.2 ∧ (row' = row ∨ row' = none) ∧ Kp (fun k => k = p) w w'
theorem owns_from {w : World} {base base' : Nat} {e : TypeId} {size : Nat} {v : Value} {n : Nat} {xs : List Value} (h : w.ownsRow base e size v n xs) (hb : base' ≤ base) : w.ownsRow base' e size v n xs := by
  obtain ⟨h1, h2 | ⟨g, cap, cur, hv, hg, r⟩⟩ := h
  · exact ⟨h1, .inl h2⟩
  · exact ⟨h1, .inr ⟨g, cap, cur, hv, Nat.le_trans hb hg, r⟩⟩

set_option maxHeartbeats 400000 in
theorem RdU8_any (p : Nat) (row : Option Nat) (bs : List UInt8) (lack : Bool) (w : World) (hr : Rd 86 w p row bs lack) (hb : bs.length ≤ 140737488355328) :
    Calls Try.prog 32 #[.pointer (some ⟨p, 0, none⟩)] w (GetEnd 86 w p row bs lack 1 (fun v => .int .i64 v)) := by
  have HC := Lib.hid (get_any p row bs lack 1 (by decide) w hr hb)
  clear hr hb
  go_enter Try.func32, Try.ntmps32
  go_wp2_with fail
  refine HC.out.mono ?_
  rintro e w1 ⟨row', rfl, hrd, hrow, hkp⟩
  have hlt : (num (taken bs lack 1).1 : Int) ≤ 4294967295 := by
    have h1 := num_lt (taken bs lack 1).1
    have h2 := taken_le bs lack 1 1 (by decide)
    have := Nat.lt_of_lt_of_le h1 (Nat.pow_le_pow_right (by decide) h2)
    omega
  have H : Hid (GetEnd 86 w p row bs lack 1 (fun v => .int .i64 v) (.returned (.int .i64 (num (taken bs lack 1).1 : Int))) w1) := ⟨row', rfl, hrd, hrow, hkp⟩
  clear hrd hrow hkp
  generalize (num (taken bs lack 1).1) = v at *
  go_wp2
  go_ret
  exact H.out

set_option maxHeartbeats 400000 in
theorem RdU16_any (p : Nat) (row : Option Nat) (bs : List UInt8) (lack : Bool) (w : World) (hr : Rd 86 w p row bs lack) (hb : bs.length ≤ 140737488355328) :
    Calls Try.prog 34 #[.pointer (some ⟨p, 0, none⟩)] w (GetEnd 86 w p row bs lack 2 (fun v => .int .i64 v)) := by
  have HC := Lib.hid (get_any p row bs lack 2 (by decide) w hr hb)
  clear hr hb
  go_enter Try.func34, Try.ntmps34
  go_wp2_with fail
  refine HC.out.mono ?_
  rintro e w1 ⟨row', rfl, hrd, hrow, hkp⟩
  have hlt : (num (taken bs lack 2).1 : Int) ≤ 4294967295 := by
    have h1 := num_lt (taken bs lack 2).1
    have h2 := taken_le bs lack 2 2 (by decide)
    have := Nat.lt_of_lt_of_le h1 (Nat.pow_le_pow_right (by decide) h2)
    omega
  have H : Hid (GetEnd 86 w p row bs lack 2 (fun v => .int .i64 v) (.returned (.int .i64 (num (taken bs lack 2).1 : Int))) w1) := ⟨row', rfl, hrd, hrow, hkp⟩
  clear hrd hrow hkp
  generalize (num (taken bs lack 2).1) = v at *
  go_wp2
  go_ret
  exact H.out

set_option maxHeartbeats 400000 in
theorem RdU32_any (p : Nat) (row : Option Nat) (bs : List UInt8) (lack : Bool) (w : World) (hr : Rd 86 w p row bs lack) (hb : bs.length ≤ 140737488355328) :
    Calls Try.prog 36 #[.pointer (some ⟨p, 0, none⟩)] w (GetEnd 86 w p row bs lack 4 (fun v => .int .i64 v)) := by
  have HC := Lib.hid (get_any p row bs lack 4 (by decide) w hr hb)
  clear hr hb
  go_enter Try.func36, Try.ntmps36
  go_wp2_with fail
  refine HC.out.mono ?_
  rintro e w1 ⟨row', rfl, hrd, hrow, hkp⟩
  have hlt : (num (taken bs lack 4).1 : Int) ≤ 4294967295 := by
    have h1 := num_lt (taken bs lack 4).1
    have h2 := taken_le bs lack 4 4 (by decide)
    have := Nat.lt_of_lt_of_le h1 (Nat.pow_le_pow_right (by decide) h2)
    omega
  have H : Hid (GetEnd 86 w p row bs lack 4 (fun v => .int .i64 v) (.returned (.int .i64 (num (taken bs lack 4).1 : Int))) w1) := ⟨row', rfl, hrd, hrow, hkp⟩
  clear hrd hrow hkp
  generalize (num (taken bs lack 4).1) = v at *
  go_wp2
  go_ret
  exact H.out

set_option maxHeartbeats 400000 in
theorem RdF64_any (p : Nat) (row : Option Nat) (bs : List UInt8) (lack : Bool) (w : World) (hr : Rd 86 w p row bs lack) (hb : bs.length ≤ 140737488355328) :
    Calls Try.prog 39 #[.pointer (some ⟨p, 0, none⟩)] w (GetEnd 86 w p row bs lack 8 (fun v => .float .f64 v)) := by
  have HC := Lib.hid (get_any p row bs lack 8 (by decide) w hr hb)
  have hrf := run_frombits
  clear hr hb
  go_enter Try.func39, Try.ntmps39
  go_wp2_with fail
  refine HC.out.mono ?_
  rintro e w1 ⟨row', rfl, hrd, hrow, hkp⟩
  have H : Hid (GetEnd 86 w p row bs lack 8 (fun v => .float .f64 v) (.returned (.float .f64 (num (taken bs lack 8).1))) w1) := ⟨row', rfl, hrd, hrow, hkp⟩
  clear hrd hrow hkp
  generalize (num (taken bs lack 8).1) = v at *
  go_wp2
  go_ret
  exact H.out

/-- Text: the count, then as many bytes. -/
theorem RdText_any (p : Nat) (row : Option Nat) (bs : List UInt8) (lack : Bool) (w : World) (hr : Rd 86 w p row bs lack) (hb : bs.length ≤ 140737488355328) :
    Calls Try.prog 43 #[.pointer (some ⟨p, 0, none⟩)] w (TextEnd 86 w p row bs lack) := by
  have HC := Lib.hid (RdU16_any p row bs lack w hr hb)
  clear hr
  go_enter Try.func43, Try.ntmps43
  go_wp2_with fail
  refine HC.out.mono ?_
  rintro e w1 ⟨row1, rfl, hrd, hrow, hkp⟩
  have hle := taken_rest bs lack 2
  have HR := Lib.hid (RdRaw_all p row1 _ _ (num (taken bs lack 2).1 : Int) w1 hrd (by omega))
  have HROW := Lib.hid hrow; have HK := Lib.hid hkp
  clear hrd hrow hkp
  go_wp2_with fail
  refine HR.out.mono ?_
  rintro e w2 ⟨v, row2, rfl, hown, hrd, hrow2, hkp2⟩
  have HO := Lib.hid hown; have HD := Lib.hid hrd; have HROW2 := Lib.hid hrow2; have HK2 := Lib.hid hkp2
  clear hown hrd hrow2 hkp2
  go_wp2
  go_ret
  refine ⟨v, row2, rfl, owns_from HO.out HK.out.size, HD.out, ?_, HK.out.trans HK2.out⟩
  rcases HROW2.out with h | h
  · rw [h]; exact HROW.out
  · exact .inr h

set_option maxHeartbeats 400000 in
theorem rRdU8_any (p : Nat) (row : Option Nat) (bs : List UInt8) (lack : Bool) (w : World) (hr : Rd 46 w p row bs lack) (hb : bs.length ≤ 140737488355328) :
    Calls Try.prog 33 #[.pointer (some ⟨p, 0, none⟩)] w (GetEnd 46 w p row bs lack 1 (fun v => .int .i64 v)) := by
  have HC := Lib.hid (ru_any p row bs lack 1 (by decide) w hr hb)
  clear hr hb
  go_enter Try.func33, Try.ntmps33
  go_wp2_with fail
  refine HC.out.mono ?_
  rintro e w1 ⟨row', rfl, hrd, hrow, hkp⟩
  have hlt : (num (taken bs lack 1).1 : Int) ≤ 4294967295 := by
    have h1 := num_lt (taken bs lack 1).1
    have h2 := taken_le bs lack 1 1 (by decide)
    have := Nat.lt_of_lt_of_le h1 (Nat.pow_le_pow_right (by decide) h2)
    omega
  have H : Hid (GetEnd 46 w p row bs lack 1 (fun v => .int .i64 v) (.returned (.int .i64 (num (taken bs lack 1).1 : Int))) w1) := ⟨row', rfl, hrd, hrow, hkp⟩
  clear hrd hrow hkp
  generalize (num (taken bs lack 1).1) = v at *
  go_wp2
  go_ret
  exact H.out

set_option maxHeartbeats 400000 in
theorem rRdU16_any (p : Nat) (row : Option Nat) (bs : List UInt8) (lack : Bool) (w : World) (hr : Rd 46 w p row bs lack) (hb : bs.length ≤ 140737488355328) :
    Calls Try.prog 35 #[.pointer (some ⟨p, 0, none⟩)] w (GetEnd 46 w p row bs lack 2 (fun v => .int .i64 v)) := by
  have HC := Lib.hid (ru_any p row bs lack 2 (by decide) w hr hb)
  clear hr hb
  go_enter Try.func35, Try.ntmps35
  go_wp2_with fail
  refine HC.out.mono ?_
  rintro e w1 ⟨row', rfl, hrd, hrow, hkp⟩
  have hlt : (num (taken bs lack 2).1 : Int) ≤ 4294967295 := by
    have h1 := num_lt (taken bs lack 2).1
    have h2 := taken_le bs lack 2 2 (by decide)
    have := Nat.lt_of_lt_of_le h1 (Nat.pow_le_pow_right (by decide) h2)
    omega
  have H : Hid (GetEnd 46 w p row bs lack 2 (fun v => .int .i64 v) (.returned (.int .i64 (num (taken bs lack 2).1 : Int))) w1) := ⟨row', rfl, hrd, hrow, hkp⟩
  clear hrd hrow hkp
  generalize (num (taken bs lack 2).1) = v at *
  go_wp2
  go_ret
  exact H.out

set_option maxHeartbeats 400000 in
theorem rRdU32_any (p : Nat) (row : Option Nat) (bs : List UInt8) (lack : Bool) (w : World) (hr : Rd 46 w p row bs lack) (hb : bs.length ≤ 140737488355328) :
    Calls Try.prog 37 #[.pointer (some ⟨p, 0, none⟩)] w (GetEnd 46 w p row bs lack 4 (fun v => .int .i64 v)) := by
  have HC := Lib.hid (ru_any p row bs lack 4 (by decide) w hr hb)
  clear hr hb
  go_enter Try.func37, Try.ntmps37
  go_wp2_with fail
  refine HC.out.mono ?_
  rintro e w1 ⟨row', rfl, hrd, hrow, hkp⟩
  have hlt : (num (taken bs lack 4).1 : Int) ≤ 4294967295 := by
    have h1 := num_lt (taken bs lack 4).1
    have h2 := taken_le bs lack 4 4 (by decide)
    have := Nat.lt_of_lt_of_le h1 (Nat.pow_le_pow_right (by decide) h2)
    omega
  have H : Hid (GetEnd 46 w p row bs lack 4 (fun v => .int .i64 v) (.returned (.int .i64 (num (taken bs lack 4).1 : Int))) w1) := ⟨row', rfl, hrd, hrow, hkp⟩
  clear hrd hrow hkp
  generalize (num (taken bs lack 4).1) = v at *
  go_wp2
  go_ret
  exact H.out

set_option maxHeartbeats 400000 in
theorem rRdF64_any (p : Nat) (row : Option Nat) (bs : List UInt8) (lack : Bool) (w : World) (hr : Rd 46 w p row bs lack) (hb : bs.length ≤ 140737488355328) :
    Calls Try.prog 40 #[.pointer (some ⟨p, 0, none⟩)] w (GetEnd 46 w p row bs lack 8 (fun v => .float .f64 v)) := by
  have HC := Lib.hid (ru_any p row bs lack 8 (by decide) w hr hb)
  have hrf := run_frombits
  clear hr hb
  go_enter Try.func40, Try.ntmps40
  go_wp2_with fail
  refine HC.out.mono ?_
  rintro e w1 ⟨row', rfl, hrd, hrow, hkp⟩
  have H : Hid (GetEnd 46 w p row bs lack 8 (fun v => .float .f64 v) (.returned (.float .f64 (num (taken bs lack 8).1))) w1) := ⟨row', rfl, hrd, hrow, hkp⟩
  clear hrd hrow hkp
  generalize (num (taken bs lack 8).1) = v at *
  go_wp2
  go_ret
  exact H.out

/-- Text: the count, then as many bytes. -/
theorem rRdText_any (p : Nat) (row : Option Nat) (bs : List UInt8) (lack : Bool) (w : World) (hr : Rd 46 w p row bs lack) (hb : bs.length ≤ 140737488355328) :
    Calls Try.prog 44 #[.pointer (some ⟨p, 0, none⟩)] w (TextEnd 46 w p row bs lack) := by
  have HC := Lib.hid (rRdU16_any p row bs lack w hr hb)
  clear hr
  go_enter Try.func44, Try.ntmps44
  go_wp2_with fail
  refine HC.out.mono ?_
  rintro e w1 ⟨row1, rfl, hrd, hrow, hkp⟩
  have hle := taken_rest bs lack 2
  have HR := Lib.hid (rRdRaw_all p row1 _ _ (num (taken bs lack 2).1 : Int) w1 hrd (by omega))
  have HROW := Lib.hid hrow; have HK := Lib.hid hkp
  clear hrd hrow hkp
  go_wp2_with fail
  refine HR.out.mono ?_
  rintro e w2 ⟨v, row2, rfl, hown, hrd, hrow2, hkp2⟩
  have HO := Lib.hid hown; have HD := Lib.hid hrd; have HROW2 := Lib.hid hrow2; have HK2 := Lib.hid hkp2
  clear hown hrd hrow2 hkp2
  go_wp2
  go_ret
  refine ⟨v, row2, rfl, owns_from HO.out HK.out.size, HD.out, ?_, HK.out.trans HK2.out⟩
  rcases HROW2.out with h | h
  · rw [h]; exact HROW.out
  · exact .inr h

set_option maxHeartbeats 400000 in
theorem Lack_any (p : Nat) (row : Option Nat) (bs : List UInt8) (lack : Bool) (w : World) (hr : Rd 86 w p row bs lack) :
    Calls Try.prog 45 #[.pointer (some ⟨p, 0, none⟩)] w fun e w' => e = .returned (.bool lack) ∧ w = w' := by
  obtain ⟨a, c, hh, hs, hrow, hne⟩ := hr
  obtain ⟨hc0, hc1, hf0, hf1, hl⟩ := cell_two hh
  clear hh hs hrow hne
  go_enter Try.func45, Try.ntmps45
  go_wp2
  go_ret
  exact ⟨rfl, rfl⟩

set_option maxHeartbeats 400000 in
theorem Left_any (p : Nat) (row : Option Nat) (bs : List UInt8) (lack : Bool) (w : World) (hr : Rd 86 w p row bs lack) :
    Calls Try.prog 46 #[.pointer (some ⟨p, 0, none⟩)] w fun e w' => e = .returned (.int .i64 bs.length) ∧ w = w' := by
  obtain ⟨a, c, hh, hs, hrow, hne⟩ := hr
  obtain ⟨hc0, hc1, hf0, hf1, hl⟩ := cell_two hh
  clear hh hs hrow hne
  go_enter Try.func46, Try.ntmps46
  go_wp2
  go_ret
  exact ⟨rfl, rfl⟩
end Go.Proofs.Ytgpidbdgodgefaa
