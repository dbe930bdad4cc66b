/- Bytes laid, times, nodes of raw ones, which nodes may be. Conditions: as the theorems name them. -/
import Derived.Test.YtgpidbdgodgefaaDoorBase
import Derived.Test.YtgpidbdgodgefaaDoorSome
import Derived.Test.YtgpidbdgodgefaaDoorTells
import Derived.Laws.IdiomStrings
import Derived.Lib.SlBytesConst
import Derived.Deep.RegionHeld3
import Derived.Lib.BytesEntry
import Derived.Deep.QuietTactic
import Derived.BigQuiet
import Derived.Laws.Externs
import Ieee.Arith
import Derived.Laws.BytesArg
import Derived.Deep.RegionHeld
namespace Go.Proofs.YtgpidbdgodgefaaDoor
open Go.RowKit Go.Deep

/-- The n lowest bytes of v, the highest first. -/
def be : Nat → Nat → List UInt8
  | 0, _ => []
  | n + 1, v => UInt8.ofNat (v >>> (8 * n)) :: be n v
theorem be_length (n v : Nat) : (be n v).length = n := by
  induction n with
  | zero => rfl
  | succ n ih => simp [be, ih]
/-- What a call that lays bytes leaves. -/
def WrEnd (T : TypeId) (w : World) (p : Nat) (row : Option Nat) (bs : List UInt8) (w' : World) : Prop :=
  ∃ row', Wr T 5 w' p row' bs ∧ Fresh w row row' ∧ Kp (fun k => k = p ∨ row = some k) w w'
def PutRel (T : TypeId) (w : World) (p : Nat) (row : Option Nat) (all : List UInt8) (v k : Nat) (wr : World) : Prop :=
  ∃ row' cur, Wr T 5 wr p row' cur ∧ Fresh w row row' ∧ Kp (fun k => k = p ∨ row = some k) w wr ∧ cur ++ be k v = all
theorem round_byte' (v k : Nat) : ∃ b : UInt8, Hid (b = UInt8.ofNat (v >>> (8 * k))) ∧ (v : Int) / 2 ^ (8 * k) % 256 = (b.toNat : Int) := by
  refine ⟨UInt8.ofNat (v >>> (8 * k)), rfl, ?_⟩
  rw [UInt8.toNat_ofNat', Nat.shiftRight_eq_div_pow]
  simp
set_option maxHeartbeats 400000 in
theorem u_any (p v n : Nat) (row : Option Nat) (bs : List UInt8) (w : World) (hv : v < 18446744073709551616) (hn : n ≤ 8) (hw : Wr 133 5 w p row bs) (hb : bs.length + n ≤ 140737488355328) :
    Calls Tryd.prog 122 #[.pointer (some ⟨p, 0, none⟩), .int .u64 v, .int .i64 n] w fun e w' => e = .returned (.tuple #[]) ∧ WrEnd 133 w p row (bs ++ be n v) w' := by
  have HV := Lib.hid hv
  have HB := Lib.hid hb
  have HW := Lib.hid hw
  clear hv hb hw
  go_enter Tryd.func122, Tryd.ntmps122
  go_wp2
  go_loopw [6] (fun i wr => ∃ k : Nat, i = .int .i64 ((k : Int) - 1) ∧ k ≤ n ∧ PutRel 133 w p row (bs ++ be n v) v k wr) (fun i _ => (intOf i + 1).toNat)
  case atStart => exact ⟨n, rfl, Nat.le_refl _, row, bs, HW.out, .inl rfl, Kp.refl _ _, rfl⟩
  case round =>
    obtain ⟨k, rfl, hk, HR⟩ := hrel
    cases k with
    | zero =>
      go_wp2
      go_end0
      obtain ⟨row', cur, h1, h2, h3, h4⟩ := HR
      refine ⟨rfl, row', ?_, h2, h3⟩
      rw [← h4]
      simpa [be] using h1
    | succ k =>
      obtain ⟨row', cur, ⟨sv, hh, hrow, hown⟩, hfr, hkp, hcat⟩ := HR
      obtain ⟨hc, hf, hl⟩ := cell_one hh
      rw [show (((k + 1 : Nat)) : Int) - 1 = (k : Int) by omega]
      obtain ⟨sa, sc, rfl⟩ := owns_form hown
      have HO := Lib.hid hown; have HH := Lib.hid hh; have HR := Lib.hid hrow; have HC := Lib.hid hcat
      obtain ⟨b, HX, hcv⟩ := round_byte' v k
      obtain ⟨ti, I⟩ := byteInfo
      have hO2 : (wr.alloc (.cells #[byteV b] 5)).ownsRow (p + 1) 5 1 (.slice sa cur.length sc) cur.length (cur.map byteV) := owns_keep (S := fun _ => False) hown ((Kp.refl _ wr).alloc _) (fun _ _ => id)
      have hS2 : Sl (wr.alloc (.cells #[byteV b] 5)) (.slice (some ⟨wr.heap.size, 0, none⟩) 1 1) (some ⟨wr.heap.size, 0, none⟩) 1 [b] := sl_new wr b 5
      have hlen : cur.length + 1 ≤ 140737488355328 := by
        have h1 := congrArg List.length hcat
        simp only [List.length_append, be_length] at h1
        have := HB.out
        omega
      have HO2 := Lib.hid hO2; have HS2 := Lib.hid hS2
      clear hown hh hrow hcat hO2 hS2
      go_wp2_with (at_builtin; refine wpList_append_sl rfl I (p + 1) (.tmp 17) (.tmp 24) rfl (.slice sa cur.length sc) cur rfl HO2.out (by simp; omega) (.slice (some ⟨wr.heap.size, 0, none⟩) 1 1) _ 1 [b] rfl HS2.out hlen ?_)
      intro v' w' hown' hgr hfr'
      obtain ⟨a', c', rfl⟩ := owns_form hown'
      have HO' := Lib.hid hown'; have HG' := Lib.hid hgr; have HF' := Lib.hid hfr'
      clear hown' hgr hfr'
      have hh' : w'.heap[p]? = some (.cells #[.slice sa cur.length sc] 133 (0, 0)) := (by rw [HG'.out.block p (by simp; omega) (fun e => by have := owns_block HO2.out p e.symm; omega)]; exact hp_old HH.out _)
      obtain ⟨hc', hf', hl'⟩ := cell_one hh'
      have HH' := Lib.hid hh'
      clear hh'
      go_wp2
      go_roundw
      case rel =>
        refine ⟨k, rfl, by omega, ?_⟩
        obtain rfl := HR.out
        have hW := wr_store HH'.out (bs := cur ++ [b]) (v := .slice a' (cur.length + 1) c') (by simpa using HO'.out)
        refine ⟨_, cur ++ [b], hW, ?_, ?_, ?_⟩
        · exact hfr.trans HF'.out (by have := hkp.size; simp; omega)
        · exact (((hkp.alloc _).appended hfr HG'.out).setCell ⟨p, 0, none⟩ (.inl (.inl rfl)) _)
        · rw [List.append_assoc, ← HC.out, HX.out]
          rfl
      case measure => simp [intOf]
/-- An int as a uint64. -/
def u64 (n : Int) : Nat := (n % 18446744073709551616).toNat
theorem run_bits (b : Nat) (w : World) : (callFunc 109 #[.float .f64 b]).run Tryd.prog w = .ok (.value (.int .u64 b)) w := by
  rw [run_callFunc_extern Tryd.func109 (by kernel_rfl) (by kernel_rfl) (by kernel_rfl) (e := Extern.MathFloatBits.float64bits) (by kernel_rfl)]
  rfl
theorem run_frombits (b : Int) (w : World) : (callFunc 93 #[.int .u64 b]).run Tryd.prog w = .ok (.value (.float .f64 b.toNat)) w := by
  rw [run_callFunc_extern Tryd.func93 (by kernel_rfl) (by kernel_rfl) (by kernel_rfl) (e := Extern.MathFloatBits.float64frombits) (by kernel_rfl)]
  rfl
set_option maxHeartbeats 400000 in
theorem rF64_any (p b : Nat) (hbb : b < 18446744073709551616) (row : Option Nat) (bs : List UInt8) (w : World) (hw : Wr 133 5 w p row bs) (hb : bs.length + 8 ≤ 140737488355328) :
    Calls Tryd.prog 107 #[.pointer (some ⟨p, 0, none⟩), .float .f64 b] w fun e w' => e = .returned (.tuple #[]) ∧ WrEnd 133 w p row (bs ++ be 8 b) w' := by
  have HC := Lib.hid (u_any p b 8 row bs w hbb (by decide) hw hb)
  have hrb := run_bits
  clear hw hb hbb
  go_enter Tryd.func107, Tryd.ntmps107
  go_wp2_with fail
  refine HC.out.mono ?_
  rintro e w' ⟨rfl, h⟩
  have H := Lib.hid h
  clear h
  go_wp2
  go_end0
  exact ⟨rfl, H.out⟩
set_option maxHeartbeats 400000 in
theorem copysign_neg0 (w : World) :
    Calls Tryd.prog 90 #[.float .f64 0, .float .f64 13830554455654793216] w fun e w' => e = .returned (.float .f64 9223372036854775808) ∧ w = w' := by
  have hrb := run_bits
  have hrf := run_frombits
  go_enter Tryd.func90, Tryd.ntmps90
  go_wp2
  go_ret
  exact ⟨by kernel_rfl, rfl⟩
set_option maxHeartbeats 400000 in
theorem inf_pos (w : World) :
    Calls Tryd.prog 91 #[.int .i64 1] w fun e w' => e = .returned (.float .f64 9218868437227405312) ∧ w = w' := by
  have hrf := run_frombits
  go_enter Tryd.func91, Tryd.ntmps91
  go_wp2
  go_ret
  exact ⟨by kernel_rfl, rfl⟩
set_option maxHeartbeats 400000 in
theorem inf_neg (w : World) :
    Calls Tryd.prog 91 #[.int .i64 (-1)] w fun e w' => e = .returned (.float .f64 18442240474082181120) ∧ w = w' := by
  have hrf := run_frombits
  go_enter Tryd.func91, Tryd.ntmps91
  go_wp2
  go_ret
  exact ⟨by kernel_rfl, rfl⟩
set_option maxHeartbeats 400000 in
theorem nan_any (w : World) :
    Calls Tryd.prog 92 #[] w fun e w' => e = .returned (.float .f64 9221120237041090561) ∧ w = w' := by
  have hrf := run_frombits
  go_enter Tryd.func92, Tryd.ntmps92
  go_wp2
  go_ret
  exact ⟨by kernel_rfl, rfl⟩
/-- The edges of Time, by their bits. -/
def edges : List Nat := [0, 9223372036854775808, 4607182418800017408, 13830554455654793216, 9218868437227405312, 18442240474082181120, 9221120237041090561, 4612811918334230528, 1, 9223372036854775809, 9218868437227405311, 18444492273895866373]
/-- Time, by the bits. -/
def timeB (n : Int) (x : Nat) : Nat := if n % 15 < 12 then edges.getD (n % 15).toNat 0 else x
theorem timeB_lt (n : Int) (x : Nat) (hx : x < 18446744073709551616) : timeB n x < 18446744073709551616 := by
  unfold timeB
  split
  · have h0 := Int.emod_nonneg n (show (15 : Int) ≠ 0 by decide)
    generalize (n % 15).toNat = k
    by_cases h : k < 12
    · have : ∀ k, k < 12 → edges.getD k 0 < 18446744073709551616 := by decide +kernel
      exact this k h
    · simp [edges, List.getD]
      rw [List.getElem?_eq_none (by simp; omega)]
      decide
  · exact hx
set_option maxHeartbeats 400000 in
theorem Time_any (n : Int) (x : Nat) (w : World) (hn : -9223372036854775808 ≤ n) (hn2 : n ≤ 9223372036854775807) :
    Calls Tryd.prog 71 #[.int .i64 n, .float .f64 x] w fun e w' => e = .returned (.float .f64 (timeB n x)) ∧ Kp (fun _ => False) w w' := by
  have HT : Hid (∀ k : Nat, n % 15 = (k : Int) → timeB n x = if k < 12 then edges.getD k 0 else x) := fun k hk => by
    unfold timeB
    rw [hk]
    by_cases h : k < 12
    · rw [if_pos (by omega), if_pos h]; simp
    · rw [if_neg (by omega), if_neg h]
  have hrf := run_frombits
  have hsf : ∀ (a : Addr) (b : Nat) (m : Mode) (w : World), (store a (.float .f64 b) m).run Tryd.prog w = stored Tryd.prog w a (.float .f64 b) m := fun a b m w => run_store _ w a _ m rfl
  go_enter Tryd.func71, Tryd.ntmps71
  go_wp2_with fail
  refine (copysign_neg0 _).mono ?_
  rintro e w' ⟨rfl, rfl⟩
  go_wp2_with fail
  refine (inf_pos _).mono ?_
  rintro e w' ⟨rfl, rfl⟩
  go_wp2_with fail
  refine (inf_neg _).mono ?_
  rintro e w' ⟨rfl, rfl⟩
  go_wp2_with fail
  refine (nan_any _).mono ?_
  rintro e w' ⟨rfl, rfl⟩
  go_wp2_with fail
  refine (pick_any n 15 _ (by decide) (by decide) hn hn2).mono ?_
  rintro e w' ⟨rfl, rfl⟩
  obtain ⟨k, hk⟩ : ∃ k : Nat, n % 15 = (k : Int) := ⟨(n % 15).toNat, by omega⟩
  have hk15 : (k : Int) < 15 := by omega
  have HT' := Lib.hid (HT.out k hk)
  rw [hk]
  clear hk hn hn2 HT
  by_cases hk12 : (k : Int) < 12
  · have hc : k = 0 ∨ k = 1 ∨ k = 2 ∨ k = 3 ∨ k = 4 ∨ k = 5 ∨ k = 6 ∨ k = 7 ∨ k = 8 ∨ k = 9 ∨ k = 10 ∨ k = 11 := by omega
    clear hk12 hk15
    rcases hc with rfl | rfl | rfl | rfl | rfl | rfl | rfl | rfl | rfl | rfl | rfl | rfl
    all_goals
      go_wp2
      go_ret
      rw [HT'.out]
      exact ⟨rfl, (Kp.refl _ w).alloc _⟩
  · go_wp2
    go_ret
    rw [HT'.out, if_neg (by omega)]
    exact ⟨rfl, (Kp.refl _ w).alloc _⟩
/-- A reader: what is left, and whether it lacks. -/
def Rd (T : TypeId) (w : World) (p : Nat) (row : Option Nat) (bs : List UInt8) (lack : Bool) : Prop :=
  ∃ a c, w.heap[p]? = some (.cells #[.slice a bs.length c, .bool lack] T (0, 0)) ∧ Sl w (.slice a bs.length c) a c bs ∧ blk a = row ∧ ∀ b, row = some b → b ≠ p ∧ b < w.heap.size
theorem Rd.keep {T : TypeId} {w w' : World} {p : Nat} {row : Option Nat} {bs : List UInt8} {lack : Bool} {S : Nat → Prop} (h : Rd T w p row bs lack) (k : Kp S w w') (hp : ¬ S p) (hn : ∀ b, row = some b → ¬ S b) : Rd T w' p row bs lack := by
  obtain ⟨a, c, h1, h2, h3, h4⟩ := h
  subst h3
  exact ⟨a, c, k.hp h1 hp, h2.keep k hn, rfl, fun b hb => ⟨(h4 b hb).1, Nat.lt_of_lt_of_le (h4 b hb).2 k.size⟩⟩
theorem Rd.lt {T : TypeId} {w : World} {p : Nat} {row : Option Nat} {bs : List UInt8} {lack : Bool} (h : Rd T w p row bs lack) : p < w.heap.size := by
  obtain ⟨a, c, h1, _⟩ := h
  exact hp_lt h1
/-- The number of some bytes, the highest first. -/
def num (l : List UInt8) : Nat := l.foldl (fun v c => v * 256 + c.toNat) 0
theorem num_foldl : ∀ (l : List UInt8) (v : Nat), l.foldl (fun v c => v * 256 + c.toNat) v = v * 256 ^ l.length + num l
  | [], v => by simp [num]
  | c :: l, v => by
    have h1 := num_foldl l (v * 256 + c.toNat)
    have h2 := num_foldl l (0 * 256 + c.toNat)
    rw [List.foldl_cons, h1]
    unfold num
    rw [List.foldl_cons, h2]
    unfold num
    rw [List.length_cons, Nat.pow_succ, Nat.add_mul, Nat.zero_mul, Nat.zero_add, Nat.mul_assoc, Nat.mul_comm 256, Nat.add_assoc]
theorem num_cons (c : UInt8) (l : List UInt8) : num (c :: l) = c.toNat * 256 ^ l.length + num l := by
  have := num_foldl l (0 * 256 + c.toNat)
  rw [Nat.zero_mul, Nat.zero_add] at this
  unfold num
  rw [List.foldl_cons, Nat.zero_mul, Nat.zero_add]
  exact this
theorem num_be (n v : Nat) : num (be n v) = v % 256 ^ n := by
  induction n with
  | zero => simp [be, num, Nat.mod_one]
  | succ n ih =>
    rw [be, num_cons, be_length, ih, UInt8.toNat_ofNat', Nat.shiftRight_eq_div_pow]
    have e : 2 ^ (8 * n) = 256 ^ n := by rw [Nat.pow_mul]
    have e2 : v % (256 ^ n * 256) = v % 256 ^ n + 256 ^ n * (v / 256 ^ n % 256) := Nat.mod_mul
    rw [e, Nat.pow_succ 256 n, e2, Nat.mul_comm (256 ^ n), Nat.add_comm]
/-- The bits of a NaN. -/
def isN (b : Nat) : Prop := 9218868437227405312 < b % 9223372036854775808
instance (b : Nat) : Decidable (isN b) := inferInstanceAs (Decidable (_ < _))
/-- The magnitude and the place of a rung below infinity's. -/
def mg (r : Nat) : Nat := if r < 4503599627370496 then r else 4503599627370496 + r % 4503599627370496
def plc (r : Nat) : Nat := if r < 4503599627370496 then 0 else r / 4503599627370496 - 1
def sg (b : Nat) : Bool := b / 9223372036854775808 % 2 == 1
theorem read_nan (b : Nat) (h : isN b) : Ieee.double.read b = .nan (sg b) (b % 9223372036854775808 - 9218868437227405312) := by
  unfold isN at h
  have e1 : Ieee.double.signWeight = 9223372036854775808 := by decide
  have e2 : Ieee.double.binade = 4503599627370496 := by decide
  have e3 : Ieee.double.infRung = 9218868437227405312 := by decide
  unfold Ieee.Format.read
  rw [e1, e2, e3]
  dsimp only
  rw [if_neg (by omega), if_neg (by omega), if_neg (by omega)]
  rfl
theorem read_inf (b : Nat) (h : b % 9223372036854775808 = 9218868437227405312) : Ieee.double.read b = .infinity (sg b) := by
  have e1 : Ieee.double.signWeight = 9223372036854775808 := by decide
  have e2 : Ieee.double.binade = 4503599627370496 := by decide
  have e3 : Ieee.double.infRung = 9218868437227405312 := by decide
  unfold Ieee.Format.read
  rw [e1, e2, e3]
  dsimp only
  rw [if_neg (by omega), if_neg (by omega), if_pos h]
  rfl
theorem read_num (b : Nat) (h : b % 9223372036854775808 < 9218868437227405312) : Ieee.double.read b = .number (sg b) (mg (b % 9223372036854775808)) (-1074 + plc (b % 9223372036854775808)) := by
  have e1 : Ieee.double.signWeight = 9223372036854775808 := by decide
  have e2 : Ieee.double.binade = 4503599627370496 := by decide
  have e3 : Ieee.double.infRung = 9218868437227405312 := by decide
  have e4 : Ieee.double.leastPlace = -1074 := by decide
  unfold Ieee.Format.read mg plc
  rw [e1, e2, e3, e4]
  dsimp only
  by_cases h1 : b % 9223372036854775808 < 4503599627370496
  · rw [if_pos h1, if_pos h1, if_pos h1]; rfl
  · rw [if_neg h1, if_neg h1, if_neg h1, if_pos h]; rfl
theorem mg_mono (r q : Nat) (h : r < q) : mg r <<< (plc r - min (plc r) (plc q)) < mg q <<< (plc q - min (plc r) (plc q)) := by
  have hp : plc r ≤ plc q := by unfold plc; split <;> split <;> omega
  rw [Nat.min_eq_left hp, Nat.sub_self, Nat.shiftLeft_zero, Nat.shiftLeft_eq]
  by_cases he : plc r = plc q
  · rw [he, Nat.sub_self, Nat.pow_zero, Nat.mul_one]
    revert he; unfold plc mg; split <;> split <;> intro he <;> omega
  · have h1 : mg r < 2 * 4503599627370496 := by unfold mg; split <;> omega
    have h2 : 4503599627370496 ≤ mg q := by
      unfold mg
      split
      · exfalso; apply he; unfold plc; rw [if_pos (by omega), if_pos (by assumption)]
      · omega
    have h3 : 2 ^ 1 ≤ 2 ^ (plc q - plc r) := Nat.pow_le_pow_right (by decide) (by omega)
    calc mg r < 4503599627370496 * 2 := by omega
      _ ≤ mg q * 2 ^ (plc q - plc r) := Nat.mul_le_mul h2 h3
theorem shl_zero (n k : Nat) : n <<< k = 0 ↔ n = 0 := by
  rw [Nat.shiftLeft_eq]
  constructor
  · intro h
    rcases Nat.mul_eq_zero.1 h with h | h
    · exact h
    · have := Nat.two_pow_pos k; omega
  · rintro rfl; simp
theorem mg_zero (r : Nat) : mg r = 0 ↔ r = 0 := by
  unfold mg; split <;> omega
theorem signed_eq (s t : Bool) (m n a b : Nat) : Ieee.signed s m a = Ieee.signed t n b ↔ (m <<< a = n <<< b ∧ (s = t ∨ m <<< a = 0)) := by
  unfold Ieee.signed
  generalize m <<< a = x
  generalize n <<< b = y
  cases s <;> cases t <;> simp only [Bool.false_eq_true, if_true, if_false, reduceCtorEq, false_or, true_or, and_true] <;> omega
theorem cmp_int (x y : Int) : compare x y = .eq ↔ x = y := by
  rw [Int.compare_eq_ite_lt] 
  by_cases h1 : x < y
  · rw [if_pos h1]; constructor
    · intro h; cases h
    · intro h; omega
  · rw [if_neg h1]
    by_cases h2 : y < x
    · rw [if_pos h2]; constructor
      · intro h; cases h
      · intro h; omega
    · rw [if_neg h2]; constructor
      · intro _; omega
      · intro _; rfl
/-- Which words are equal as numbers. -/
theorem order_eq (a b : Nat) (ha : a < 18446744073709551616) (hb : b < 18446744073709551616) :
    Ieee.double.order a b = some .eq ↔ (¬ isN a ∧ ¬ isN b ∧ (a = b ∨ (a % 9223372036854775808 = 0 ∧ b % 9223372036854775808 = 0))) := by
  unfold Ieee.Format.order
  by_cases hna : isN a
  · rw [read_nan a hna]
    constructor
    · intro h; cases h
    · intro h; exact absurd hna h.1
  by_cases hnb : isN b
  · rw [read_nan b hnb]
    constructor
    · intro h; revert h; cases Ieee.double.read a <;> (intro h; cases h)
    · intro h; exact absurd hnb h.2.1
  have hna' := hna; have hnb' := hnb
  unfold isN at hna hnb
  have hsa : ∀ s : Bool, sg a = s ↔ a / 9223372036854775808 = (if s then 1 else 0) := by
    intro s; unfold sg; cases s <;> simp <;> omega
  have hsb : ∀ s : Bool, sg b = s ↔ b / 9223372036854775808 = (if s then 1 else 0) := by
    intro s; unfold sg; cases s <;> simp <;> omega
  have key : sg a = sg b → a % 9223372036854775808 = b % 9223372036854775808 → a = b := by
    intro h1 h2
    have h3 := (hsa (sg b)).1 h1
    have h4 := (hsb (sg b)).1 rfl
    omega
  by_cases hia : a % 9223372036854775808 = 9218868437227405312
  · rw [read_inf a hia]
    by_cases hib : b % 9223372036854775808 = 9218868437227405312
    · rw [read_inf b hib]
      show some (compare (sg b).toNat (sg a).toNat) = some .eq ↔ _
      constructor
      · intro h
        refine ⟨hna', hnb', .inl (key ?_ (by omega))⟩
        revert h
        cases sg a <;> cases sg b <;> simp <;> decide
      · rintro ⟨_, _, h⟩
        have : a = b := by omega
        subst this
        cases sg a <;> decide
    · rw [read_num b (by omega)]
      show some (if sg a then Ordering.lt else .gt) = some .eq ↔ _
      constructor
      · intro h; revert h; cases sg a <;> intro h <;> cases h
      · rintro ⟨_, _, h⟩; omega
  · rw [read_num a (by omega)]
    by_cases hib : b % 9223372036854775808 = 9218868437227405312
    · rw [read_inf b hib]
      show some (if sg b then Ordering.gt else .lt) = some .eq ↔ _
      constructor
      · intro h; revert h; cases sg b <;> intro h <;> cases h
      · rintro ⟨_, _, h⟩; omega
    · rw [read_num b (by omega)]
      generalize hr : a % 9223372036854775808 = r at *
      generalize hq : b % 9223372036854775808 = q at *
      show some (compare (Ieee.signed (sg a) (mg r) ((-1074 + (plc r : Int)) - min (-1074 + (plc r : Int)) (-1074 + (plc q : Int))).toNat) (Ieee.signed (sg b) (mg q) ((-1074 + (plc q : Int)) - min (-1074 + (plc r : Int)) (-1074 + (plc q : Int))).toNat)) = some .eq ↔ _
      have e1 : ((-1074 + (plc r : Int)) - min (-1074 + (plc r : Int)) (-1074 + (plc q : Int))).toNat = plc r - min (plc r) (plc q) := by omega
      have e2 : ((-1074 + (plc q : Int)) - min (-1074 + (plc r : Int)) (-1074 + (plc q : Int))).toNat = plc q - min (plc r) (plc q) := by omega
      rw [e1, e2, Option.some.injEq, cmp_int, signed_eq]
      have hrq : mg r <<< (plc r - min (plc r) (plc q)) = mg q <<< (plc q - min (plc r) (plc q)) ↔ r = q := by
        constructor
        · intro h
          rcases Nat.lt_trichotomy r q with hl | hl | hl
          · have := mg_mono r q hl; omega
          · exact hl
          · have := mg_mono q r hl
            rw [Nat.min_comm (plc q) (plc r)] at this
            omega
        · rintro rfl; rfl
      rw [hrq, shl_zero, mg_zero]
      constructor
      · rintro ⟨h1, h2 | h2⟩
        · exact ⟨hna', hnb', .inl (key h2 h1)⟩
        · exact ⟨hna', hnb', .inr ⟨h2, by omega⟩⟩
      · rintro ⟨_, _, h | h⟩
        · subst h
          exact ⟨by omega, .inl rfl⟩
        · exact ⟨by omega, .inr h.1⟩
/-- The bits with every NaN as the one. -/
def plainB (b : Nat) : Nat := if isN b then 9221120237041090561 else b
theorem plainB_lt {b : Nat} (h : b < 18446744073709551616) : plainB b < 18446744073709551616 := by
  unfold plainB; split
  · decide
  · exact h
theorem plainB_idem (b : Nat) : plainB (plainB b) = plainB b := by
  unfold plainB
  by_cases h : isN b
  · rw [if_pos h]
    have : isN 9221120237041090561 := by decide
    rw [if_pos this]
  · rw [if_neg h, if_neg h]
theorem nan_bool (b : Nat) (h : b < 18446744073709551616) : (FloatKind.f64.format.order b b != some .eq) = decide (isN b) := by
  have := order_eq b b h h
  by_cases hn : isN b
  · have h1 : ¬ (Ieee.double.order b b = some .eq) := fun e => (this.1 e).1 hn
    show (Ieee.double.order b b != some .eq) = _
    simp [hn, h1]
  · have h1 : Ieee.double.order b b = some .eq := this.2 ⟨hn, hn, .inl rfl⟩
    show (Ieee.double.order b b != some .eq) = _
    simp [hn, h1]
set_option maxHeartbeats 400000 in
theorem refBits_any (b : Nat) (hb : b < 18446744073709551616) (w : World) :
    Calls Tryd.prog 108 #[.float .f64 b] w fun e w' => e = .returned (.int .u64 (plainB b)) ∧ w = w' := by
  have hrb := run_bits
  have he := nan_bool b hb
  by_cases hn : isN b
  · have hq : (FloatKind.f64.format.order b b != some .eq) = true := by rw [he]; simp [hn]
    have hq2 : ¬ FloatKind.f64.format.order b b = some .eq := by simpa using hq
    clear he
    go_enter Tryd.func108, Tryd.ntmps108
    go_wp2
    go_ret
    simp [plainB, hn]
  · have hq : (FloatKind.f64.format.order b b != some .eq) = false := by rw [he]; simp [hn]
    have hq2 : FloatKind.f64.format.order b b = some .eq := by simpa using hq
    clear he
    go_enter Tryd.func108, Tryd.ntmps108
    go_wp2
    go_ret
    simp [plainB, hn]
set_option maxHeartbeats 400000 in
theorem refPlain_any (b : Nat) (hb : b < 18446744073709551616) (w : World) :
    Calls Tryd.prog 89 #[.float .f64 b] w fun e w' => e = .returned (.float .f64 (plainB b)) ∧ w = w' := by
  have hrf := run_frombits
  go_enter Tryd.func89, Tryd.ntmps89
  go_wp2_with fail
  refine (refBits_any b hb _).mono ?_
  rintro e w' ⟨rfl, rfl⟩
  go_wp2
  go_ret
  simp
set_option maxHeartbeats 400000 in
theorem plainTime_any (b : Nat) (hb : b < 18446744073709551616) (w : World) :
    Calls Tryd.prog 70 #[.float .f64 b] w fun e w' => e = .returned (.float .f64 (plainB b)) ∧ w = w' := by
  go_enter Tryd.func70, Tryd.ntmps70
  go_wp2_with fail
  refine (refPlain_any b hb _).mono ?_
  rintro e w' ⟨rfl, rfl⟩
  go_wp2
  go_ret
  simp
/-- A link's text. -/
def linkB (m : Int) : List UInt8 := (if m % 5 = 0 then [47] else []) ++ ((if m % 4 = 0 then [46, 46, 47] else []) ++ pathB m)
theorem linkB_len (m : Int) : 1 ≤ (linkB m).length ∧ (linkB m).length ≤ 15 := by
  have := pathB_len m
  unfold linkB
  simp only [List.length_append]
  split <;> split <;> simp <;> omega
/-- The node of a raw one. -/
def handNode (k m t : Int) (x : Nat) (d : List UInt8) : NodeV :=
  ⟨1 + k % 3, m % 4096, plainB (timeB t x), if k % 3 = 0 then d.take 60 else if k % 3 = 2 then linkB m else []⟩
/-- append onto a slice that has no room. -/
theorem run_append_sl2 {P : Program} {w : World} {t e : TypeId} {i : TypeInfo} (I : ByteInfo P t e i) (ty : TypeId) (v : Value) (ad : Addr) (c : Nat) (bs : List UInt8) (hv : Sl w v (some ad) c bs)
    (x : Value) (a : Option Addr) (c' : Nat) (news : List UInt8) (hx : Sl w x a c' news) (hg : c < bs.length + news.length) (hbytes : bs.length + news.length ≤ 140737488355328) :
    ∃ v' w', (Builtin.append_ #[t, t] ty #[v, x]).run P w = .ok v' w' ∧ w'.ownsRow w.heap.size e 1 v' (bs ++ news).length ((bs ++ news).map byteV) ∧ w.grownBy w' none := by
  have hmax : bs.length + news.length ≤ maxLen := by unfold maxLen; omega
  cases a with
  | none =>
    exfalso
    have h1 := hx.nocap rfl
    have h2 := hx.le
    have h3 := hv.le
    omega
  | some a2 =>
    rw [hx.eq, hv.eq]
    obtain ⟨v', w', r1, r2, r3⟩ := run_append_arg_grows (P := P) w t ty e i (.int .u8 0) 1 1 I.sl I.info I.zero I.size I.bytes rfl (by decide) ad bs.length c (bs.map byteV) (by simp) (Seg.cells hv.seg) a2 news.length c' (news.map byteV) (by simp) (Seg.cells hx.seg) hg hmax (by simpa using hbytes)
    refine ⟨v', w', r1, ?_, r3⟩
    rw [List.length_append, List.map_append]
    exact r2
theorem wpList_append_sl2 {P : Program} {w : World} {ops : Array Oper} {rest : List Oper} {o : Oper} {a : Act} {Q : Exit → Act → World → Prop} {t e : TypeId} {i : TypeInfo} (hgd : o.guard = none) (I : ByteInfo P t e i) (s x : Operand)
    (ho : o.op = .call { callee := .builtin .append, args := #[s, x], argTypes := #[t, t] })
    (v : Value) (ad : Addr) (c : Nat) (bs : List UInt8) (hs : a.eval s = v) (hv : Sl w v (some ad) c bs)
    (xv : Value) (ao : Option Addr) (c' : Nat) (news : List UInt8) (hxv : a.eval x = xv) (hx : Sl w xv ao c' news) (hg : c < bs.length + news.length) (hbytes : bs.length + news.length ≤ 140737488355328)
    (h : ∀ v' w', w'.ownsRow w.heap.size e 1 v' (bs ++ news).length ((bs ++ news).map byteV) → w.grownBy w' none → wpList P ops Q rest (a.put o.dst v') w') : wpList P ops Q (o :: rest) a w :=
  wpList_plain hgd fun K hK => by
    obtain ⟨v', w', hr, h2, h3⟩ := run_append_sl2 (P := P) I o.type v ad c bs hv xv ao c' news hx hg hbytes
    unfold Oper.wp execOp
    simp only [ho, resolve, invoke, builtin, Sem.run_bind, Sem.run_pure, Result.andThen_ok, List.map_toArray, List.map_cons, List.map_nil, hs, hxv, hr]
    exact hK _ _ (h v' w' h2 h3)
/-- A literal, marked as a string's, is a slice of its bytes. -/
theorem sl_mark (w : World) (cs : Array Value) (e : TypeId) (n : Nat) (f : Nat × Nat) (xs : List UInt8) (hn : n = xs.length) (hm : n ≤ maxLen) (hx : cs.toList = xs.map byteV) :
    Sl (w.alloc (.cells cs e f)) (.slice (some ⟨w.heap.size, 0, none⟩) n n) (some ⟨w.heap.size, 0, none⟩) n xs := by
  subst hn
  refine ⟨rfl, Nat.le_refl _, hm, fun h => (by cases h), fun i hi => ⟨_, 0, rfl, ?_⟩⟩
  have ec : cs[i]? = some (byteV xs[i]) := by
    rw [← Array.getElem?_toList, hx]
    simp [hi]
  have hh := hp_new w (.cells cs e f)
  simp only [World.cell?, hh, Nat.zero_add, ec]
  simp
/-- A literal is a row of its own. -/
theorem owns_lit (w : World) (cs : Array Value) (e : TypeId) (n base : Nat) (xs : List Value) (hb : base ≤ w.heap.size) (hn : cs.size = n) (hm : n ≤ maxLen) (hx : cs.toList = xs) :
    (w.alloc (.cells cs e)).ownsRow base e 1 (.slice (some ⟨w.heap.size, 0, none⟩) n n) n xs := by
  subst hx
  subst hn
  exact ⟨by simp, .inr ⟨w.heap.size, cs.size, cs, rfl, hb, hp_new _ _, Nat.le_refl _, hm, by simp, by rw [Nat.mul_one, List.take_of_length_le (by simp)]⟩⟩
theorem cell_fiv {w : World} {n : Nat} {a b c d e : Value} {t : TypeId} (h : w.heap[n]? = some (.cells #[a, b, c, d, e] t (0, 0))) :
    w.cell? ⟨n, 0, none⟩ = some a ∧ w.cell? ⟨n, 1, none⟩ = some b ∧ w.cell? ⟨n, 2, none⟩ = some c ∧ w.cell? ⟨n, 3, none⟩ = some d ∧ w.cell? ⟨n, 4, none⟩ = some e :=
  ⟨by simp [World.cell?, h], by simp [World.cell?, h], by simp [World.cell?, h], by simp [World.cell?, h], by simp [World.cell?, h]⟩
set_option maxHeartbeats 6000000 in
set_option maxRecDepth 100000 in
theorem Node_any (k m t : Int) (x : Nat) (a : Option Addr) (c : Nat) (d : List UInt8) (w : World) (hs : Sl w (.slice a d.length c) a c d) (hl : d.length ≤ 140737488355328) (hx : x < 18446744073709551616)
    (hk : -9223372036854775808 ≤ k ∧ k ≤ 9223372036854775807) (hm : -9223372036854775808 ≤ m ∧ m ≤ 9223372036854775807) (ht : -9223372036854775808 ≤ t ∧ t ≤ 9223372036854775807) :
    Calls Tryd.prog 64 #[.agg #[.int .i64 k, .int .i64 m, .int .i64 t, .float .f64 x, .slice a d.length c]] w (HandEnd w (handNode k m t x d)) := by
  have HS := Lib.hid hs; have HLd := Lib.hid hl
  have HXl := Lib.hid (timeB_lt t x hx)
  obtain ⟨hk1, hk2⟩ := hk
  obtain ⟨hm1, hm2⟩ := hm
  obtain ⟨ht1, ht2⟩ := ht
  clear hs hl hx
  have hsf : ∀ (a : Addr) (b : Nat) (m : Mode) (w : World), (store a (.float .f64 b) m).run Tryd.prog w = stored Tryd.prog w a (.float .f64 b) m := fun a b m w => run_store _ w a _ m rfl
  go_enter Tryd.func64, Tryd.ntmps64
  have hk0 := Int.emod_nonneg k (show (3 : Int) ≠ 0 by decide)
  have hk3 := Int.emod_lt_of_pos k (show (0 : Int) < 3 by decide)
  have hwr : IntKind.i64.wrap (1 + k % 3) = 1 + k % 3 := IntWalk.i64_in _ (by omega)
  have HB1 := Lib.hid (hp_old (hp_new w (.cells #[.int .i64 k, .int .i64 m, .int .i64 t, .float .f64 x, .slice a d.length c] 93)) (.cells #[.int .i64 0, .int .i64 0, .float .f64 0, .slice none 0 0] 42))
  have HR1 := Lib.hid (hp_new' (w.alloc (.cells #[.int .i64 k, .int .i64 m, .int .i64 t, .float .f64 x, .slice a d.length c] 93)) (.cells #[.int .i64 0, .int .i64 0, .float .f64 0, .slice none 0 0] 42) (n := w.heap.size + 1) (by simp))
  have HK1 := Lib.hid (((Kp.refl (fun _ => False) w).alloc (.cells #[.int .i64 k, .int .i64 m, .int .i64 t, .float .f64 x, .slice a d.length c] 93)).alloc (.cells #[.int .i64 0, .int .i64 0, .float .f64 0, .slice none 0 0] 42))
  go_wp2_with fail
  generalize hw1 : (w.alloc (.cells #[.int .i64 k, .int .i64 m, .int .i64 t, .float .f64 x, .slice a d.length c] 93)).alloc (.cells #[.int .i64 0, .int .i64 0, .float .f64 0, .slice none 0 0] 42) = w1 at *
  have hsz1 : w1.heap.size = w.heap.size + 2 := by rw [← hw1]; simp
  have HSZ1 := Lib.hid hsz1
  have hne : w1.heap.size ≠ w.heap.size := by omega
  clear hw1 hsz1
  obtain ⟨b0, b1, b2, b3, b4⟩ := cell_fiv HB1.out
  have HBX : Hid (∀ w', Kp (fun _ => False) w1 w' → w'.cell? ⟨w.heap.size, 0, none⟩ = some (.int .i64 k) ∧ w'.cell? ⟨w.heap.size, 1, none⟩ = some (.int .i64 m) ∧ w'.cell? ⟨w.heap.size, 2, none⟩ = some (.int .i64 t) ∧ w'.cell? ⟨w.heap.size, 3, none⟩ = some (.float .f64 x)) := fun w' kp => by
    obtain ⟨q0, q1, q2, q3, _⟩ := cell_fiv (kp.hp HB1.out id)
    exact ⟨q0, q1, q2, q3⟩
  refine Code.wp_mono (Q := fun e a' w' => match e with
    | .normal => ∃ n3, a' = ⟨#[.agg #[.int .i64 k, .int .i64 m, .int .i64 t, .float .f64 x, .slice a d.length c], .pointer (some ⟨w.heap.size, 0, none⟩), .pointer (some ⟨w.heap.size + 1, 0, none⟩), .pointer (some ⟨n3, 0, none⟩), .pointer (some ⟨w.heap.size, 0, none⟩), .int .i64 k, .int .i64 (k % 3), .int .i64 (1 + k % 3), .pointer (some ⟨w.heap.size, 1, none⟩), .int .i64 m, .int .i64 (m % 4096), .pointer (some ⟨w.heap.size, 2, none⟩), .int .i64 t, .pointer (some ⟨w.heap.size, 3, none⟩), .float .f64 x, .float .f64 (timeB t x), .float .f64 (plainB (timeB t x)), .agg #[.int .i64 (1 + k % 3), .int .i64 (m % 4096), .float .f64 (plainB (timeB t x)), .slice none 0 0], undef, undef, undef, undef, undef, undef, undef, undef, undef, undef, undef, undef, undef, undef, undef, undef, undef, undef, undef, undef, undef, undef, undef, undef, undef, undef, undef, undef, undef, undef, undef, undef, undef, undef, undef, undef], []⟩ ∧ w'.heap[n3]? = some (.cells #[.int .i64 (1 + k % 3), .int .i64 (m % 4096), .float .f64 (plainB (timeB t x)), .slice none 0 0] 42 (0, 0)) ∧ w1.heap.size ≤ n3 ∧ Kp (fun _ => False) w1 w'
    | _ => False) (fun e a' w' h => ?_) ?_
  case refine_2 =>
    go_region_held3 (fun w' => w'.cell? ⟨w.heap.size, 0, none⟩ = some (.int .i64 k) ∧ w'.cell? ⟨w.heap.size, 1, none⟩ = some (.int .i64 m) ∧ w'.cell? ⟨w.heap.size, 2, none⟩ = some (.int .i64 t) ∧ w'.cell? ⟨w.heap.size, 3, none⟩ = some (.float .f64 x)) (go_keep) (first
      | (go_at_call_of 36 (Value.int .i64 3); refine (pick_any k 3 _ (by decide) (by decide) hk1 hk2).mono ?_; rintro e w' ⟨rfl, rfl⟩)
      | (go_at_call_of 36 (Value.int .i64 4096); refine (pick_any m 4096 _ (by decide) (by decide) hm1 hm2).mono ?_; rintro e w' ⟨rfl, rfl⟩)
      | (go_at_call 71; refine (Time_any t x _ ht1 ht2).mono ?_; rintro e w5 ⟨rfl, hk5⟩; obtain ⟨z0, z1, z2, z3⟩ := HBX.out w5 (by first | exact ((Kp.refl _ w1).drew).trans hk5 | exact (((Kp.refl _ w1).alloc _).drew).trans hk5); (first | (have hN : w5.heap[w1.heap.size]? = some (.cells #[.int .i64 0, .int .i64 0, .float .f64 0, .slice none 0 0] 42 (0, 0)) := hk5.hp (show ((w1.alloc (.cells #[.int .i64 0, .int .i64 0, .float .f64 0, .slice none 0 0] 42)).drew).heap[w1.heap.size]? = some (.cells #[.int .i64 0, .int .i64 0, .float .f64 0, .slice none 0 0] 42 (0, 0)) from hp_new _ _) id; obtain ⟨⟨p0, p1, p2, p3⟩, ⟨l0, l1, l2, l3⟩, l4⟩ := cell_fr hN; have HN := Lib.hid hN; clear hN) | skip); have HK5 := Lib.hid hk5; clear hk5)
      | (go_at_call 70; refine (plainTime_any _ HXl.out _).mono ?_; rintro e w' ⟨rfl, rfl⟩))
    all_goals
      have kw : Kp (fun _ => False) w1 w5 := by first | exact ((Kp.refl _ w1).drew).trans HK5.out | exact (((Kp.refl _ w1).alloc _).drew).trans HK5.out
      first
        | (have hN := HN.out; exact ⟨w1.heap.size, rfl, set_f3 (set_f2 (set_f1 (set_f0 hN))), Nat.le_refl _, (((kw.setCell ⟨w1.heap.size, 0, none⟩ (.inr (Nat.le_refl _)) _).setCell ⟨w1.heap.size, 1, none⟩ (.inr (Nat.le_refl _)) _).setCell ⟨w1.heap.size, 2, none⟩ (.inr (Nat.le_refl _)) _).setCell ⟨w1.heap.size, 3, none⟩ (.inr (Nat.le_refl _)) _⟩)
        | exact ⟨w5.heap.size, rfl, hp_new w5 _, kw.size, kw.alloc _⟩
  case refine_1 =>
    cases e with
    | normal =>
      obtain ⟨n3, rfl, hn3, hn3l, hk3w⟩ := h
      have HN3 := Lib.hid hn3; have HL3 := Lib.hid hn3l; have HK3 := Lib.hid hk3w
      obtain ⟨q0, q1, q2, q3, q4⟩ := cell_fiv (hk3w.hp HB1.out id)
      obtain ⟨⟨p0, p1, p2, p3⟩, ⟨l0, l1, l2, l3⟩, lt3⟩ := cell_fr hn3
      have HR3 := Lib.hid (hk3w.hp HR1.out id)
      clear hn3 hn3l hk3w b0 b1 b2 b3 b4
      dsimp only
      have hkc : k % 3 = 0 ∨ k % 3 = 1 ∨ k % 3 = 2 := by omega
      clear hwr hk0 hk3
      rcases hkc with hk | hk | hk
      · have HN : Hid ((handNode k m t x d).bs = d.take 60) := by
          show _ = _
          unfold handNode
          simp [hk]
        rw [hk] at p0
        rw [hk]
        clear hk
        have HWW := Lib.hid (HK1.out.trans HK3.out)
        go_wp2_with fail
        refine (Few_any _ a c d 60 w' (HS.out.keep HWW.out (fun _ _ => id)) HLd.out (by decide)).mono ?_
        rintro e w7 ⟨v, rfl, hown, hk7⟩
        have hl60 : (d.take 60).length ≤ 60 := by simp; omega
        generalize d.take 60 = zs at *
        obtain ⟨ya, yc, hy, _, hyb⟩ := sl_of_owns hown
        have he := hy.eq
        subst he
        have HY := Lib.hid hy; have HYB := Lib.hid (show ∀ b, blk ya = some b → w'.heap.size ≤ b ∧ b < w7.heap.size from hyb)
        have hN7 := hk7.hp HN3.out id
        have hR7 := hk7.hp HR3.out id
        obtain ⟨⟨p0, p1, p2, p3⟩, ⟨l0, l1, l2, l3⟩, lt3⟩ := cell_fr hN7
        have HN8 := Lib.hid (set_f3 (v := .slice ya zs.length yc) hN7)
        have hn3r : w.heap.size + 1 ≠ n3 := by have := HL3.out; have := HSZ1.out; omega
        have HR8 := Lib.hid (hp_set hR7 ⟨n3, 3, none⟩ (.slice ya zs.length yc) hn3r)
        have HK8 := Lib.hid ((HWW.out.trans hk7).setCell ⟨n3, 3, none⟩ (.inr (by have := HL3.out; have := HSZ1.out; show w.heap.size ≤ n3; omega)) (.slice ya zs.length yc))
        obtain ⟨⟨s0, s1, s2, s3⟩, ⟨t0, t1, t2, t3⟩, lt4⟩ := cell_fr HR8.out
        obtain ⟨u0', u1', u2', u3'⟩ := cell_four HN8.out
        clear hown hy hyb hk7 hN7 hR7 q0 q1 q2 q3 q4
        go_wp2
        have HR9 := set_f3 (v := .slice ya zs.length yc) (set_f2 (v := .float .f64 (plainB (timeB t x))) (set_f1 (v := .int .i64 (m % 4096)) (set_f0 (v := .int .i64 (1 + k % 3)) HR8.out)))
        have hY9 := HY.out
        have kf : Kp (fun b => b = n3 ∨ b = w.heap.size + 1) w7 (((((w7.setCell ⟨n3, 3, none⟩ (.slice ya zs.length yc)).setCell ⟨w.heap.size + 1, 0, none⟩ (.int .i64 (1 + k % 3))).setCell ⟨w.heap.size + 1, 1, none⟩ (.int .i64 (m % 4096))).setCell ⟨w.heap.size + 1, 2, none⟩ (.float .f64 (plainB (timeB t x)))).setCell ⟨w.heap.size + 1, 3, none⟩ (.slice ya zs.length yc)) :=
          (((((Kp.refl _ w7).setCell ⟨n3, 3, none⟩ (.inl (.inl rfl)) _).setCell ⟨w.heap.size + 1, 0, none⟩ (.inl (.inr rfl)) _).setCell ⟨w.heap.size + 1, 1, none⟩ (.inl (.inr rfl)) _).setCell ⟨w.heap.size + 1, 2, none⟩ (.inl (.inr rfl)) _).setCell ⟨w.heap.size + 1, 3, none⟩ (.inl (.inr rfl)) _
        have kg := (((HK8.out.setCell ⟨w.heap.size + 1, 0, none⟩ (.inr (Nat.le_succ _)) (.int .i64 (1 + k % 3))).setCell ⟨w.heap.size + 1, 1, none⟩ (.inr (Nat.le_succ _)) (.int .i64 (m % 4096))).setCell ⟨w.heap.size + 1, 2, none⟩ (.inr (Nat.le_succ _)) (.float .f64 (plainB (timeB t x)))).setCell ⟨w.heap.size + 1, 3, none⟩ (.inr (Nat.le_succ _)) (.slice ya zs.length yc)
        generalize ((((w7.setCell ⟨n3, 3, none⟩ (.slice ya zs.length yc)).setCell ⟨w.heap.size + 1, 0, none⟩ (.int .i64 (1 + k % 3))).setCell ⟨w.heap.size + 1, 1, none⟩ (.int .i64 (m % 4096))).setCell ⟨w.heap.size + 1, 2, none⟩ (.float .f64 (plainB (timeB t x)))).setCell ⟨w.heap.size + 1, 3, none⟩ (.slice ya zs.length yc) = w9 at *
        obtain ⟨y0, y1, y2, y3⟩ := cell_four HR9
        refine bodyPost_ret (v := .agg #[.int .i64 (1 + k % 3), .int .i64 (m % 4096), .float .f64 (plainB (timeB t x)), .slice ya zs.length yc]) (by simp [results, Tryd.results64, go_sem, y0, y1, y2, y3]) rfl ?_
        refine ⟨ya, yc, by unfold nodeVal; rw [HN.out]; rfl, ⟨?_, plainB_lt HXl.out, ?_⟩, fun b hb => ?_, kg⟩
        · rw [HN.out]
          exact hY9.keep kf (fun b hb h => by
            have h1 := HYB.out b hb
            have h2 := HWW.out.size
            have h3 := hp_lt HN3.out
            have h4 := hp_lt HR3.out
            omega)
        · rw [HN.out]; omega
        · have h1 := HYB.out b hb
          have h2 := HWW.out.size
          omega
      · have HN : Hid ((handNode k m t x d).bs = []) := by
          show _ = _
          unfold handNode
          simp [hk]
        have HKD : Hid ((handNode k m t x d).kind = 2) := by
          show 1 + k % 3 = 2
          omega
        rw [hk] at p0
        rw [hk]
        clear hk
        have HKA := Lib.hid (HK1.out.trans HK3.out)
        have HRA := HR3
        have HSA := Lib.hid (Sl.nil w')
        have HYA : Hid (∀ b, blk none = some b → w.heap.size + 1 < b) := fun b hb => by cases hb
        have HNR := Lib.hid (show n3 ≠ w.heap.size + 1 by have := HL3.out; have := HSZ1.out; omega)
        have zs0 : ([] : List UInt8).length ≤ 20 := by decide
        obtain ⟨⟨s0, s1, s2, s3⟩, ⟨t0, t1, t2, t3⟩, lt4⟩ := cell_fr HR3.out
        go_wp2
        have HR9 := set_f3 (v := .slice none ([] : List UInt8).length 0) (set_f2 (v := .float .f64 (plainB (timeB t x))) (set_f1 (v := .int .i64 (m % 4096)) (set_f0 (v := .int .i64 2) HRA.out)))
        have hY9 := HSA.out
        have kf : Kp (fun b => b = w.heap.size + 1) w' ((((w'.setCell ⟨w.heap.size + 1, 0, none⟩ (.int .i64 2)).setCell ⟨w.heap.size + 1, 1, none⟩ (.int .i64 (m % 4096))).setCell ⟨w.heap.size + 1, 2, none⟩ (.float .f64 (plainB (timeB t x)))).setCell ⟨w.heap.size + 1, 3, none⟩ (.slice none ([] : List UInt8).length 0)) :=
          ((((Kp.refl (fun b => b = w.heap.size + 1) w').setCell ⟨w.heap.size + 1, 0, none⟩ (.inl rfl) _).setCell ⟨w.heap.size + 1, 1, none⟩ (.inl rfl) _).setCell ⟨w.heap.size + 1, 2, none⟩ (.inl rfl) _).setCell ⟨w.heap.size + 1, 3, none⟩ (.inl rfl) _
        have kg := (((HKA.out.setCell ⟨w.heap.size + 1, 0, none⟩ (.inr (Nat.le_succ _)) (.int .i64 2)).setCell ⟨w.heap.size + 1, 1, none⟩ (.inr (Nat.le_succ _)) (.int .i64 (m % 4096))).setCell ⟨w.heap.size + 1, 2, none⟩ (.inr (Nat.le_succ _)) (.float .f64 (plainB (timeB t x)))).setCell ⟨w.heap.size + 1, 3, none⟩ (.inr (Nat.le_succ _)) (.slice none ([] : List UInt8).length 0)
        generalize (((w'.setCell ⟨w.heap.size + 1, 0, none⟩ (.int .i64 2)).setCell ⟨w.heap.size + 1, 1, none⟩ (.int .i64 (m % 4096))).setCell ⟨w.heap.size + 1, 2, none⟩ (.float .f64 (plainB (timeB t x)))).setCell ⟨w.heap.size + 1, 3, none⟩ (.slice none ([] : List UInt8).length 0) = w9 at *
        obtain ⟨y0, y1, y2, y3⟩ := cell_four HR9
        refine bodyPost_ret (v := .agg #[.int .i64 2, .int .i64 (m % 4096), .float .f64 (plainB (timeB t x)), .slice none ([] : List UInt8).length 0]) (by simp [results, Tryd.results64, go_sem, y0, y1, y2, y3]) rfl ?_
        refine ⟨none, 0, by unfold nodeVal; rw [HN.out, HKD.out]; rfl, ⟨?_, plainB_lt HXl.out, ?_⟩, fun b hb => ?_, kg⟩
        · rw [HN.out]
          exact hY9.keep kf (fun b hb h => by
            have h1 := HYA.out b hb
            omega)
        · rw [HN.out]; omega
        · have h1 := HYA.out b hb
          omega
      · have HN0 : Hid ((handNode k m t x d).bs = linkB m) := by
          show _ = _
          unfold handNode
          simp [hk]
        rw [hk] at p0
        rw [hk]
        clear hk
        have HNR := Lib.hid (show n3 ≠ w.heap.size + 1 by have := HL3.out; have := HSZ1.out; omega)
        go_wp2_with fail
        refine (Path_any m w' hm1 hm2).mono ?_
        rintro e w'' ⟨rfl, rfl⟩
        have hpl := (pathB_len m).2
        have hpl1 := (pathB_len m).1
        unfold linkB at HN0
        generalize pathB m = bs at *
        obtain ⟨yc, w7, hcv, hsl7, hk7, hsz7⟩ := conv_bytes bs (by omega) w'
        have hN7 := hk7.hp HN3.out id
        obtain ⟨⟨p0, p1, p2, p3⟩, ⟨l0, l1, l2, l3⟩, lt3⟩ := cell_fr hN7
        have HNA := Lib.hid (set_f3 (v := .slice (some ⟨w'.heap.size, 0, none⟩) bs.length yc) hN7)
        have HRA := Lib.hid (hp_set (hk7.hp HR3.out id) ⟨n3, 3, none⟩ (.slice (some ⟨w'.heap.size, 0, none⟩) bs.length yc) (Ne.symm HNR.out))
        have HBA := Lib.hid (hp_set (hk7.hp (HK3.out.hp HB1.out id) id) ⟨n3, 3, none⟩ (.slice (some ⟨w'.heap.size, 0, none⟩) bs.length yc) (by have := HL3.out; have := HSZ1.out; show w.heap.size ≠ n3; omega))
        have HKA := Lib.hid (((HK1.out.trans HK3.out).trans hk7).setCell ⟨n3, 3, none⟩ (.inr (by have := HL3.out; have := HSZ1.out; show w.heap.size ≤ n3; omega)) (.slice (some ⟨w'.heap.size, 0, none⟩) bs.length yc))
        have HSA := Lib.hid (hsl7.keep ((Kp.refl (fun b => b = n3) w7).setCell ⟨n3, 3, none⟩ (.inl rfl) (.slice (some ⟨w'.heap.size, 0, none⟩) bs.length yc)) (fun b hb h => by have hb2 : w'.heap.size = b := (by simpa [blk] using hb); have h2 := hp_lt HN3.out; omega))
        have HYA := Lib.hid (show ∀ b, blk (some (⟨w'.heap.size, 0, none⟩ : Addr)) = some b → w.heap.size + 1 < b from fun b hb => by have hb2 : w'.heap.size = b := (by simpa [blk] using hb); have h2 := hp_lt HN3.out; have := HL3.out; have := HSZ1.out; omega)
        have hlen : bs.length ≤ 11 := hpl
        clear hsl7 hk7 hsz7 hN7 hpl q0 q1 q2 q3 q4
        obtain ⟨q0, q1, q2, q3, q4⟩ := cell_fiv HBA.out
        generalize hya : (some (⟨w'.heap.size, 0, none⟩ : Addr)) = ya at *
        clear hya
        generalize hwA : w7.setCell ⟨n3, 3, none⟩ (.slice ya bs.length yc) = wA at *
        have hszA : w7.heap.size = wA.heap.size := by rw [← hwA]; simp
        clear HK3 HN3 HR3 HB1 HR1 HK1
        by_cases h4 : m % 4 = 0
        case' pos =>
          have e4' : m.tmod 4 = 0 := Int.tmod_eq_zero_of_dvd (Int.dvd_of_emod_eq_zero h4)
          have e4 : (m.tmod 4 == 0) = true := by simp [e4']
          obtain ⟨ti, I⟩ := byteInfo
          have HO := Lib.hid (sl_mark wA #[.int .u8 46, .int .u8 46, .int .u8 47] 5 3 (3, 4) ([46, 46, 47] : List UInt8) rfl (by decide) rfl)
          have HSB := Lib.hid (HSA.out.keep ((Kp.refl (fun _ => False) wA).alloc (.cells #[.int .u8 46, .int .u8 46, .int .u8 47] 5 (3, 4))) (fun _ _ => id))
          have HNB := Lib.hid (hp_old HNA.out (.cells #[.int .u8 46, .int .u8 46, .int .u8 47] 5 (3, 4)))
          obtain ⟨⟨p0, p1, p2, p3⟩, ⟨l0, l1, l2, l3⟩, lt3⟩ := cell_fr HNB.out
          have hidc : (convert 40 40 (.slice (some ⟨wA.heap.size, 0, none⟩) 3 3)).run Tryd.prog (wA.alloc (.cells #[.int .u8 46, .int .u8 46, .int .u8 47] 5)) = .ok (.slice (some ⟨wA.heap.size, 0, none⟩) 3 3) (wA.alloc (.cells #[.int .u8 46, .int .u8 46, .int .u8 47] 5 (3, 4))) := Lib.run_convert_bytes_const wA 40 5 #[.int .u8 46, .int .u8 46, .int .u8 47] 3 3 Tryd.underlying40 Tryd.underlying5
          go_wp2_with (at_builtin; refine wpList_append_sl2 rfl I (.tmp 38) (.tmp 40) rfl (.slice (some ⟨wA.heap.size, 0, none⟩) 3 3) _ 3 ([46, 46, 47] : List UInt8) rfl HO.out (.slice ya bs.length yc) ya yc bs rfl HSB.out (by simp; omega) (by simp; omega) ?_)
          intro v' wC4 hown hgr
          obtain ⟨za, zc, hz, _, hzb⟩ := sl_of_owns (bs := [46, 46, 47] ++ bs) hown
          have he := hz.eq
          subst he
          have kC : Kp (fun _ => False) wA wC4 := ((Kp.refl (fun _ => False) wA).alloc _).grown hgr (fun b hb => by cases hb)
          have hNC := kC.hp HNA.out id
          have HNA' := Lib.hid (set_f3 (v := (.slice za ([46, 46, 47] ++ bs).length zc)) hNC)
          have HRA' := Lib.hid (hp_set (kC.hp HRA.out id) ⟨n3, 3, none⟩ (.slice za ([46, 46, 47] ++ bs).length zc) (Ne.symm HNR.out))
          have HBA' := Lib.hid (hp_set (kC.hp HBA.out id) ⟨n3, 3, none⟩ (.slice za ([46, 46, 47] ++ bs).length zc) (by have := HL3.out; have := HSZ1.out; show w.heap.size ≠ n3; omega))
          have HKA' := Lib.hid ((HKA.out.trans kC).setCell ⟨n3, 3, none⟩ (.inr (by have := HL3.out; have := HSZ1.out; show w.heap.size ≤ n3; omega)) (.slice za ([46, 46, 47] ++ bs).length zc))
          have HSA' := Lib.hid (hz.keep ((Kp.refl (fun b => b = n3) wC4).setCell ⟨n3, 3, none⟩ (.inl rfl) (.slice za ([46, 46, 47] ++ bs).length zc)) (fun b hb h => by have h1 := (hzb b hb).1; have h0 : wA.heap.size ≤ b := (by have h5 : wA.heap.size ≤ (wA.alloc (.cells #[.int .u8 46, .int .u8 46, .int .u8 47] 5 (3, 4))).heap.size := (by simp); omega); have h2 := hp_lt HNA.out; omega))
          have HYA' := Lib.hid (show ∀ b, blk za = some b → w.heap.size + 1 < b from fun b hb => by have h1 := (hzb b hb).1; have h0 : wA.heap.size ≤ b := (by have h5 : wA.heap.size ≤ (wA.alloc (.cells #[.int .u8 46, .int .u8 46, .int .u8 47] 5 (3, 4))).heap.size := (by simp); omega); have h2 := hp_lt HNA.out; have := HL3.out; have := HSZ1.out; omega)
          have hlen' : ([46, 46, 47] ++ bs).length ≤ 14 := by simp; omega
          have hone' : 1 ≤ ([46, 46, 47] ++ bs).length := by simp
          have HN4 : Hid ((handNode k m t x d).bs = (if m % 5 = 0 then [47] else []) ++ ([46, 46, 47] ++ bs)) := by
            show _ = _
            rw [HN0.out, if_pos h4]
          have hsz' : wC4.heap.size = (wC4.setCell ⟨n3, 3, none⟩ (.slice za ([46, 46, 47] ++ bs).length zc)).heap.size := by simp
          obtain ⟨⟨p0, p1, p2, p3⟩, ⟨l0, l1, l2, l3⟩, lt3⟩ := cell_fr hNC
          clear hown hgr hz hzb hNC kC HO HSB HNB HNA HRA HBA HKA HSA HYA hlen hidc HN0 hpl1
          generalize [46, 46, 47] ++ bs = bs2 at *
          generalize hwwD : wC4.setCell ⟨n3, 3, none⟩ (.slice za bs2.length zc) = wD at *
        case' neg =>
          have e4' : ¬ m.tmod 4 = 0 := fun e => h4 (Int.emod_eq_zero_of_dvd (Int.dvd_of_tmod_eq_zero e))
          have e4 : (m.tmod 4 == 0) = false := by simp [e4']
          have hlen' : bs.length ≤ 14 := by omega
          have hone' : 1 ≤ bs.length := hpl1
          have HN4 : Hid ((handNode k m t x d).bs = (if m % 5 = 0 then [47] else []) ++ bs) := by
            show _ = _
            rw [HN0.out, if_neg h4]
            rfl
          have HNA' := HNA; have HRA' := HRA; have HBA' := HBA; have HKA' := HKA; have HSA' := HSA; have HYA' := HYA
          clear HNA HRA HBA HKA HSA HYA hlen HN0 hpl1
          generalize ya = za at *
          generalize yc = zc at *
          generalize bs = bs2 at *
          generalize wA = wD at *
        all_goals
          have HNA := HNA'; have HRA := HRA'; have HBA := HBA'; have HKA := HKA'; have HSA := HSA'; have HYA := HYA'; have hlen := hlen'; have hpl1 := hone'
          clear hone' HNA' HRA' HBA' HKA' HSA' HYA' hlen'
          obtain ⟨q0, q1, q2, q3, q4⟩ := cell_fiv HBA.out
          by_cases h5 : m % 5 = 0
          case' pos =>
            have e5' : m.tmod 5 = 0 := Int.tmod_eq_zero_of_dvd (Int.dvd_of_emod_eq_zero h5)
            have e5 : (m.tmod 5 == 0) = true := by simp [e5']
            obtain ⟨ti, I⟩ := byteInfo
            have HO := Lib.hid (sl_mark wD #[.int .u8 47] 5 1 (1, 2) ([47] : List UInt8) rfl (by decide) rfl)
            have HSB := Lib.hid (HSA.out.keep ((Kp.refl (fun _ => False) wD).alloc (.cells #[.int .u8 47] 5 (1, 2))) (fun _ _ => id))
            have HNB := Lib.hid (hp_old HNA.out (.cells #[.int .u8 47] 5 (1, 2)))
            obtain ⟨⟨p0, p1, p2, p3⟩, ⟨l0, l1, l2, l3⟩, lt3⟩ := cell_fr HNB.out
            have hidc : (convert 40 40 (.slice (some ⟨wD.heap.size, 0, none⟩) 1 1)).run Tryd.prog (wD.alloc (.cells #[.int .u8 47] 5)) = .ok (.slice (some ⟨wD.heap.size, 0, none⟩) 1 1) (wD.alloc (.cells #[.int .u8 47] 5 (1, 2))) := Lib.run_convert_bytes_const wD 40 5 #[.int .u8 47] 1 1 Tryd.underlying40 Tryd.underlying5
            go_wp2_with (at_builtin; refine wpList_append_sl2 rfl I (.tmp 48) (.tmp 50) rfl (.slice (some ⟨wD.heap.size, 0, none⟩) 1 1) _ 1 ([47] : List UInt8) rfl HO.out (.slice za bs2.length zc) za zc bs2 rfl HSB.out (by simp; omega) (by simp; omega) ?_)
            intro v' wC5 hown hgr
            obtain ⟨xa, xc, hz, _, hzb⟩ := sl_of_owns (bs := [47] ++ bs2) hown
            have he := hz.eq
            subst he
            have kC : Kp (fun _ => False) wD wC5 := ((Kp.refl (fun _ => False) wD).alloc _).grown hgr (fun b hb => by cases hb)
            have hNC := kC.hp HNA.out id
            have HNA' := Lib.hid (set_f3 (v := (.slice xa ([47] ++ bs2).length xc)) hNC)
            have HRA' := Lib.hid (hp_set (kC.hp HRA.out id) ⟨n3, 3, none⟩ (.slice xa ([47] ++ bs2).length xc) (Ne.symm HNR.out))
            have HBA' := Lib.hid (hp_set (kC.hp HBA.out id) ⟨n3, 3, none⟩ (.slice xa ([47] ++ bs2).length xc) (by have := HL3.out; have := HSZ1.out; show w.heap.size ≠ n3; omega))
            have HKA' := Lib.hid ((HKA.out.trans kC).setCell ⟨n3, 3, none⟩ (.inr (by have := HL3.out; have := HSZ1.out; show w.heap.size ≤ n3; omega)) (.slice xa ([47] ++ bs2).length xc))
            have HSA' := Lib.hid (hz.keep ((Kp.refl (fun b => b = n3) wC5).setCell ⟨n3, 3, none⟩ (.inl rfl) (.slice xa ([47] ++ bs2).length xc)) (fun b hb h => by have h1 := (hzb b hb).1; have h0 : wD.heap.size ≤ b := (by have h5 : wD.heap.size ≤ (wD.alloc (.cells #[.int .u8 47] 5 (1, 2))).heap.size := (by simp); omega); have h2 := hp_lt HNA.out; omega))
            have HYA' := Lib.hid (show ∀ b, blk xa = some b → w.heap.size + 1 < b from fun b hb => by have h1 := (hzb b hb).1; have h0 : wD.heap.size ≤ b := (by have h5 : wD.heap.size ≤ (wD.alloc (.cells #[.int .u8 47] 5 (1, 2))).heap.size := (by simp); omega); have h2 := hp_lt HNA.out; have := HL3.out; have := HSZ1.out; omega)
            have hlen' : ([47] ++ bs2).length ≤ 15 := by simp; omega
            have hone' : 1 ≤ ([47] ++ bs2).length := by simp
            have HN : Hid ((handNode k m t x d).bs = ([47] ++ bs2)) := by
              show _ = _
              rw [HN4.out, if_pos h5]
            have hsz' : wC5.heap.size = (wC5.setCell ⟨n3, 3, none⟩ (.slice xa ([47] ++ bs2).length xc)).heap.size := by simp
            obtain ⟨⟨p0, p1, p2, p3⟩, ⟨l0, l1, l2, l3⟩, lt3⟩ := cell_fr hNC
            clear hown hgr hz hzb hNC kC HO HSB HNB HNA HRA HBA HKA HSA HYA hlen hidc HN4 hpl1
            generalize [47] ++ bs2 = bs3 at *
            generalize hwwE : wC5.setCell ⟨n3, 3, none⟩ (.slice xa bs3.length xc) = wE at *
          case' neg =>
            have e5' : ¬ m.tmod 5 = 0 := fun e => h5 (Int.emod_eq_zero_of_dvd (Int.dvd_of_tmod_eq_zero e))
            have e5 : (m.tmod 5 == 0) = false := by simp [e5']
            have hlen' : bs2.length ≤ 15 := by omega
            have hone' : 1 ≤ bs2.length := hpl1
            have HN : Hid ((handNode k m t x d).bs = bs2) := by
              show _ = _
              rw [HN4.out, if_neg h5]
              rfl
            have HNA' := HNA; have HRA' := HRA; have HBA' := HBA; have HKA' := HKA; have HSA' := HSA; have HYA' := HYA
            clear HNA HRA HBA HKA HSA HYA hlen HN4 hpl1
            generalize za = xa at *
            generalize zc = xc at *
            generalize bs2 = bs3 at *
            generalize wD = wE at *
          all_goals
            have HNA := HNA'; have HRA := HRA'; have HBA := HBA'; have HKA := HKA'; have HSA := HSA'; have HYA := HYA'; have hlen := hlen'; have hpl1 := hone'
            clear hone' HNA' HRA' HBA' HKA' HSA' HYA' hlen'
            obtain ⟨q0, q1, q2, q3, q4⟩ := cell_fiv HBA.out
            obtain ⟨⟨s0, s1, s2, s3⟩, ⟨t0, t1, t2, t3⟩, lt4⟩ := cell_fr HRA.out
            obtain ⟨u0', u1', u2', u3'⟩ := cell_four HNA.out
            go_wp2
            have HR9 := set_f3 (v := .slice xa bs3.length xc) (set_f2 (v := .float .f64 (plainB (timeB t x))) (set_f1 (v := .int .i64 (m % 4096)) (set_f0 (v := .int .i64 (1 + k % 3)) HRA.out)))
            have hY9 := HSA.out
            have kf : Kp (fun b => b = w.heap.size + 1) wE ((((wE.setCell ⟨w.heap.size + 1, 0, none⟩ (.int .i64 (1 + k % 3))).setCell ⟨w.heap.size + 1, 1, none⟩ (.int .i64 (m % 4096))).setCell ⟨w.heap.size + 1, 2, none⟩ (.float .f64 (plainB (timeB t x)))).setCell ⟨w.heap.size + 1, 3, none⟩ (.slice xa bs3.length xc)) :=
              ((((Kp.refl (fun b => b = w.heap.size + 1) wE).setCell ⟨w.heap.size + 1, 0, none⟩ (.inl rfl) _).setCell ⟨w.heap.size + 1, 1, none⟩ (.inl rfl) _).setCell ⟨w.heap.size + 1, 2, none⟩ (.inl rfl) _).setCell ⟨w.heap.size + 1, 3, none⟩ (.inl rfl) _
            have kg := (((HKA.out.setCell ⟨w.heap.size + 1, 0, none⟩ (.inr (Nat.le_succ _)) (.int .i64 (1 + k % 3))).setCell ⟨w.heap.size + 1, 1, none⟩ (.inr (Nat.le_succ _)) (.int .i64 (m % 4096))).setCell ⟨w.heap.size + 1, 2, none⟩ (.inr (Nat.le_succ _)) (.float .f64 (plainB (timeB t x)))).setCell ⟨w.heap.size + 1, 3, none⟩ (.inr (Nat.le_succ _)) (.slice xa bs3.length xc)
            generalize (((wE.setCell ⟨w.heap.size + 1, 0, none⟩ (.int .i64 (1 + k % 3))).setCell ⟨w.heap.size + 1, 1, none⟩ (.int .i64 (m % 4096))).setCell ⟨w.heap.size + 1, 2, none⟩ (.float .f64 (plainB (timeB t x)))).setCell ⟨w.heap.size + 1, 3, none⟩ (.slice xa bs3.length xc) = w9 at *
            obtain ⟨y0, y1, y2, y3⟩ := cell_four HR9
            refine bodyPost_ret (v := .agg #[.int .i64 (1 + k % 3), .int .i64 (m % 4096), .float .f64 (plainB (timeB t x)), .slice xa bs3.length xc]) (by simp [results, Tryd.results64, go_sem, y0, y1, y2, y3]) rfl ?_
            refine ⟨xa, xc, by unfold nodeVal; rw [HN.out]; rfl, ⟨?_, plainB_lt HXl.out, ?_⟩, fun b hb => ?_, kg⟩
            · rw [HN.out]
              exact hY9.keep kf (fun b hb h => by
                have h1 := HYA.out b hb
                omega)
            · rw [HN.out]; omega
            · have h1 := HYA.out b hb
              omega
    | _ => exact h.elim
/-- May a node have it? -/
def dataN (n : NodeV) : Bool :=
  if n.kind = 1 then decide (n.bs.length ≤ 2000) else if n.kind = 2 then decide (n.bs.length = 0)
  else if n.kind = 3 then (decide (1 ≤ n.bs.length) && (decide (n.bs.length ≤ 120) && decide ((0 : UInt8) ∉ n.bs))) else false
/-- Which nodes may be. -/
def rightN (n : NodeV) : Bool := dataN n && (decide (0 ≤ n.mode) && (decide (n.mode ≤ 4095) && (plainB n.time == n.time)))
/-- Where bytes lie is a block that is there. -/
theorem Sl.lt {w : World} {v : Value} {a : Option Addr} {c : Nat} {bs : List UInt8} (h : Sl w v a c bs) (hp : 0 < bs.length) : ∀ b, blk a = some b → b < w.heap.size := by
  intro b hb
  obtain ⟨b', off, rfl, hc⟩ := h.seg 0 hp
  cases hb
  exact World.block_lt_of_cell? _ _ hc
theorem be8_eq (s t : Nat) (hs : s < 18446744073709551616) (ht : t < 18446744073709551616) : (be 8 s == be 8 t) = (t == s) := by
  rw [Bool.eq_iff_iff, beq_iff_eq, beq_iff_eq]
  constructor
  · intro h
    have h2 := congrArg num h
    rw [num_be, num_be] at h2
    have e : (256 : Nat) ^ 8 = 18446744073709551616 := by decide
    rw [e] at h2
    omega
  · rintro rfl
    rfl
set_option maxHeartbeats 1000000 in
theorem refPlainB_any (t : Nat) (ht : t < 18446744073709551616) (w : World) :
    Calls Tryd.prog 87 #[.float .f64 t] w fun e w' => e = .returned (.bool (plainB t == t)) ∧ Kp (fun _ => False) w w' := by
  have hpl := plainB_lt ht
  rw [← be8_eq t (plainB t) ht hpl]
  have HW1 : Hid (Wr 133 5 (w.alloc (.cells #[.slice none 0 0] 133)) w.heap.size none []) := ⟨_, hp_new w _, rfl, World.ownsRow_nil _ _ _ _⟩
  have HK1 := Lib.hid ((Kp.refl (fun _ => False) w).alloc (.cells #[.slice none 0 0] 133))
  go_enter Tryd.func87, Tryd.ntmps87
  go_wp2_with fail
  generalize w.alloc (.cells #[.slice none 0 0] 133) = w1 at *
  refine (rF64_any w.heap.size t ht none [] w1 HW1.out (by simp)).mono ?_
  rintro e w2 ⟨rfl, row2, hw2, _, hk2⟩
  have HW2 := Lib.hid hw2
  have HK2 := Lib.hid (HK1.out.step hk2 (fun i hi h => by
    rcases h with h | h
    · omega
    · cases h))
  clear hw2 hk2 HW1 HK1
  go_wp2_with fail
  have HW3 := Lib.hid (HW2.out.keep ((Kp.refl (fun _ => False) w2).alloc (.cells #[.slice none 0 0] 133)) id (fun _ _ => id))
  have HV3 : Hid (Wr 133 5 (w2.alloc (.cells #[.slice none 0 0] 133)) w2.heap.size none []) := ⟨_, hp_new w2 _, rfl, World.ownsRow_nil _ _ _ _⟩
  have HK3 := Lib.hid (HK2.out.alloc (.cells #[.slice none 0 0] 133))
  have HLT := Lib.hid HW2.out.lt
  have HROW := Lib.hid HW2.out.row
  clear HW2 HK2
  generalize w2.alloc (.cells #[.slice none 0 0] 133) = w3 at *
  generalize w2.heap.size = p3 at *
  refine (refPlain_any t ht w3).mono ?_
  rintro e w' ⟨rfl, rfl⟩
  go_wp2_with fail
  refine (rF64_any p3 (plainB t) hpl none [] w3 HV3.out (by simp)).mono ?_
  rintro e w4 ⟨rfl, row4, hw4, _, hk4⟩
  have hW4 := HW3.out.keep hk4 (fun h => by
    rcases h with h | h
    · have := HLT.out; omega
    · cases h) (fun b hb h => by
    rcases h with h | h
    · have := (HROW.out b hb).2; omega
    · cases h)
  have HK4 := Lib.hid (HK3.out.step hk4 (fun i hi h => by
    rcases h with h | h
    · have := HLT.out; omega
    · cases h))
  obtain ⟨v1, hc1, _, hown1⟩ := hW4
  obtain ⟨a1, k1, hs1, _, _⟩ := sl_of_owns hown1
  have he1 := hs1.eq
  subst he1
  obtain ⟨v2, hc2, _, hown2⟩ := hw4
  obtain ⟨a2, k2, hs2, _, _⟩ := sl_of_owns hown2
  have he2 := hs2.eq
  subst he2
  rw [List.nil_append] at hs1 hs2 hc1 hc2
  have hv1 : ∀ n : Nat, (convert 40 9 (.slice a1 (be 8 t).length k1)).run Tryd.prog (w4.drewN n) = .ok (.string ⟨(be 8 t).toArray⟩) (w4.drewN n) := fun n => run_conv (hs1.keep ((Kp.refl (fun _ => False) w4).drewN n) (fun _ _ => id))
  have hv2 : ∀ n : Nat, (convert 40 9 (.slice a2 (be 8 (plainB t)).length k2)).run Tryd.prog (w4.drewN n) = .ok (.string ⟨(be 8 (plainB t)).toArray⟩) (w4.drewN n) := fun n => run_conv (hs2.keep ((Kp.refl (fun _ => False) w4).drewN n) (fun _ _ => id))
  obtain ⟨p1, _, _⟩ := cell_one hc1
  obtain ⟨p2, _, _⟩ := cell_one hc2
  have HK5 := Lib.hid (HK4.out.drewN 0)
  clear hs1 hs2 hown1 hown2 hc1 hc2 hk4 HW3 HV3 HK3 HLT HROW HK5
  generalize hx : be 8 t = xs at *
  generalize hy : be 8 (plainB t) = ys at *
  have HX := Lib.hid hx
  have HY := Lib.hid hy
  clear hx hy
  go_wp2_with fail
  go_quiet (fail)
  go_wp2
  go_ret
  rw [HX.out, HY.out]
  exact ⟨by simp, HK4.out.drewN nq⟩
/-- May a link lead there? -/
def targetB (bs : List UInt8) : Bool := decide (1 ≤ bs.length) && (decide (bs.length ≤ 120) && decide ((0 : UInt8) ∉ bs))
theorem not_mem_take (bs : List UInt8) (k : Nat) (h : k < bs.length) (hn : (0 : UInt8) ∉ bs.take k) (hz : bs[k] ≠ 0) : (0 : UInt8) ∉ bs.take (k + 1) := by
  rw [List.take_succ_eq_append_getElem h, List.mem_append]
  rintro (h1 | h1)
  · exact hn h1
  · simp only [List.mem_singleton] at h1
    exact hz h1.symm
set_option maxHeartbeats 400000 in
theorem target_any (a : Option Addr) (c : Nat) (bs : List UInt8) (w : World) (h : Sl w (.slice a bs.length c) a c bs) (hb : bs.length ≤ 140737488355328) :
    Calls Tryd.prog 88 #[.slice a bs.length c] w fun e w' => e = .returned (.bool (targetB bs)) ∧ w = w' := by
  have HS := Lib.hid h
  clear h
  go_enter Tryd.func88, Tryd.ntmps88
  go_wp2
  go_loop [3] (fun i => ∃ k : Nat, i = .int .i64 k ∧ k ≤ bs.length ∧ Hid ((0 : UInt8) ∉ bs.take k)) (fun i => bs.length - (intOf i).toNat)
  case atStart => exact ⟨0, rfl, Nat.zero_le _, Lib.hid (by simp)⟩
  case round =>
    obtain ⟨k, rfl, hk, HN⟩ := hrel
    by_cases hlt : k < bs.length
    · obtain ⟨b, off, rfl, hcell⟩ := HS.out.seg k hlt
      by_cases hz : bs[k] = 0
      · have HR : Hid (targetB bs = false) := by
          show _ = _
          have : (0 : UInt8) ∈ bs := by rw [← hz]; exact List.getElem_mem hlt
          unfold targetB
          simp [this]
        rw [hz] at hcell
        have hcell2 : w.cell? ⟨b, off + k, none⟩ = some (.int .u8 0) := hcell
        clear hcell hz
        go_wp2
        go_ret
        rw [HR.out]
        exact ⟨rfl, rfl⟩
      · have HN2 := Lib.hid (not_mem_take bs k hlt HN.out hz)
        have hne : ¬ ((bs[k].toNat : Int) = 0) := fun e => hz (UInt8.toNat_inj.1 (by show bs[k].toNat = 0; omega))
        unfold byteV at hcell
        generalize (bs[k].toNat : Int) = cb at *
        have hne2 : (cb == 0) = false := by simp [hne]
        clear hz HN
        go_wp2
        exact ⟨⟨k + 1, by go_num, by omega, HN2⟩, by simp [intOf]; omega⟩
    · have hn : (0 : UInt8) ∉ bs := by have := HN.out; rwa [List.take_of_length_le (by omega)] at this
      have HR : Hid (targetB bs = (decide (1 ≤ bs.length) && decide (bs.length ≤ 120))) := by
        show _ = _
        unfold targetB
        simp [hn]
      clear hn HN
      by_cases h1 : 1 ≤ bs.length
      · by_cases h2 : bs.length ≤ 120
        · go_wp2
          go_ret
          rw [HR.out]
          simp [h1, h2]
          omega
        · go_wp2
          go_ret
          rw [HR.out]
          simp [h1, h2]
          omega
      · go_wp2
        go_ret
        rw [HR.out]
        simp [h1]
set_option maxHeartbeats 1000000 in
theorem refRight_any (n : NodeV) (a : Option Addr) (c : Nat) (w : World) (h : NAt w n a c) :
    Calls Tryd.prog 65 #[nodeVal n a c] w fun e w' => e = .returned (.bool (rightN n)) ∧ Kp (fun _ => False) w w' := by
  obtain ⟨k, m, t, bs⟩ := n
  have ht : t < 18446744073709551616 := h.time
  have hl : bs.length ≤ 140737488355328 := h.len
  have k0 : Kp (fun _ => False) w (w.alloc (.cells #[.int .i64 k, .int .i64 m, .float .f64 t, .slice a bs.length c] 42)) := (Kp.refl _ w).alloc _
  have HK := Lib.hid k0
  have HN := Lib.hid (h.keepF k0)
  have HC := Lib.hid (hp_new w (.cells #[.int .i64 k, .int .i64 m, .float .f64 t, .slice a bs.length c] 42))
  have HR := Lib.hid (show rightN ⟨k, m, t, bs⟩ = (dataN ⟨k, m, t, bs⟩ && (decide (0 ≤ m) && (decide (m ≤ 4095) && (plainB t == t)))) from rfl)
  clear h k0
  unfold nodeVal
  dsimp only
  by_cases h1 : 0 ≤ m
  case neg =>
    go_enter Tryd.func65, Tryd.ntmps65
    obtain ⟨c0, c1, c2, c3⟩ := cell_four HC.out
    go_wp2
    go_ret
    rw [HR.out]
    exact ⟨by simp; intro _ h; omega, HK.out⟩
  by_cases h2 : m ≤ 4095
  case neg =>
    go_enter Tryd.func65, Tryd.ntmps65
    obtain ⟨c0, c1, c2, c3⟩ := cell_four HC.out
    go_wp2
    go_ret
    rw [HR.out]
    exact ⟨by simp; intro _ _ h; omega, HK.out⟩
  go_enter Tryd.func65, Tryd.ntmps65
  go_wp2_with fail
  generalize w.alloc (.cells #[.int .i64 k, .int .i64 m, .float .f64 t, .slice a bs.length c] 42) = w1 at *
  obtain ⟨c0, c1, c2, c3⟩ := cell_four HC.out
  go_wp2_with fail
  refine (refPlainB_any t ht w1).mono ?_
  rintro e w2 ⟨rfl, hk2⟩
  have HK2 := Lib.hid (HK.out.trans hk2)
  have HN2 := Lib.hid (HN.out.keepF hk2)
  have HC2 := Lib.hid (hk2.hp HC.out id)
  clear hk2 HK HN HC c0 c1 c2 c3
  obtain ⟨c0, c1, c2, c3⟩ := cell_four HC2.out
  cases hp : (plainB t == t) with
  | false =>
    have HP := Lib.hid hp
    clear hp
    go_wp2
    go_ret
    rw [HR.out, HP.out]
    exact ⟨by simp, HK2.out⟩
  | true =>
    have HP := Lib.hid hp
    clear hp
    have HR2 : Hid (rightN ⟨k, m, t, bs⟩ = dataN ⟨k, m, t, bs⟩) := by show _ = _; rw [HR.out, HP.out]; simp [h1, h2]
    clear HP HR
    by_cases hk1 : k = 1
    · subst hk1
      have HD := Lib.hid (show dataN ⟨1, m, t, bs⟩ = decide (bs.length ≤ 2000) from rfl)
      go_wp2
      go_ret
      rw [HR2.out, HD.out]
      exact ⟨by simp; omega, HK2.out⟩
    by_cases hk2 : k = 2
    · subst hk2
      have HD := Lib.hid (show dataN ⟨2, m, t, bs⟩ = decide (bs.length = 0) from rfl)
      go_wp2
      go_ret
      rw [HR2.out, HD.out]
      refine ⟨?_, HK2.out⟩
      have e : ((bs.length : Int) == 0) = decide (bs.length = 0) := by
        rw [Bool.eq_iff_iff]
        simp
      simp only [Array.getD]
      simp [e]
    by_cases hk3 : k = 3
    · subst hk3
      have HD := Lib.hid (show dataN ⟨3, m, t, bs⟩ = targetB bs from rfl)
      go_wp2_with fail
      refine (target_any a c bs w2 HN2.out.sl hl).mono ?_
      rintro e w3 ⟨rfl, rfl⟩
      go_wp2
      go_ret
      rw [HR2.out, HD.out]
      exact ⟨rfl, HK2.out⟩
    · have HD : Hid (dataN ⟨k, m, t, bs⟩ = false) := by
        show _ = _
        unfold dataN
        simp [hk1, hk2, hk3]
      have q1 : (k == 1) = false := by simp [hk1]
      have q2 : (k == 2) = false := by simp [hk2]
      have q3 : (k == 3) = false := by simp [hk3]
      go_wp2
      go_ret
      rw [HR2.out, HD.out]
      exact ⟨by simp, HK2.out⟩
end Go.Proofs.YtgpidbdgodgefaaDoor
