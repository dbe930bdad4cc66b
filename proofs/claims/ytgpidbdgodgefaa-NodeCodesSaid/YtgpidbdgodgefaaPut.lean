/- The contracts of the functions that lay the bytes of a number, the program's and the document's. Conditions: as the theorems name them. -/
import Derived.Test.YtgpidbdgodgefaaApp
import Derived.Test.YtgpidbdgodgefaaRows
namespace Go.Proofs.Ytgpidbdgodgefaa
open Go.RowKit

/-- The n lowest bytes of v, the highest first. -/
def be : Nat → Nat → List UInt8
  | 0, _ => []
  | n + 1, v => UInt8.ofNat (v >>> (8 * n)) :: be n v
theorem be_length (n v : Nat) : (be n v).length = n := by
  induction n with
  | zero => rfl
  | succ n ih => simp [be, ih]

theorem infoByte : (Try.prog.info? 5).map (fun i => (i.zero, i.size, i.bytes)) = some (some (.int .u8 0), 1, 1) := by kernel_rfl
theorem byteInfo : ∃ i, ByteInfo Try.prog 27 5 i := by
  obtain ⟨i, h1, h2, h3, h4⟩ := info_parts infoByte
  exact ⟨i, Try.underlying27, h1, h2, h3, h4⟩

/-- What a call that lays bytes leaves. -/
def WrEnd (T : TypeId) (w : World) (p : Nat) (row : Option Nat) (bs : List UInt8) (w' : World) : Prop :=
  ∃ row', Wr T 5 w' p row' bs ∧ Fresh w row row' ∧ Kp (fun k => k = p ∨ row = some k) w w'

def PutRel (T : TypeId) (w : World) (p : Nat) (row : Option Nat) (all : List UInt8) (v k : Nat) (wr : World) : Prop :=
  ∃ row' cur, Wr T 5 wr p row' cur ∧ Fresh w row row' ∧ Kp (fun k => k = p ∨ row = some k) w wr ∧ cur ++ be k v = all

theorem u8_byteV (n : Nat) : Value.int .u8 ((n % 256 : Nat) : Int) = byteV (UInt8.ofNat n) := by
  simp [byteV, UInt8.toNat_ofNat']

/-- The byte that a round lays: the operations' own equations. -/
theorem round_byte (P : Program) (v k : Nat) (hk : k < 8) : ∃ (x : Nat) (b : UInt8), Hid (b = UInt8.ofNat (v >>> (8 * k))) ∧
    (∀ w, (Op.shift .shr .u64 (v : Int) .i64 (IntKind.i64.wrap (8 * (k : Int)))).run P w = .ok (.int .u64 (x : Int)) w) ∧ IntKind.u8.wrap (x : Int) = (b.toNat : Int) := by
  refine ⟨v >>> (8 * k), UInt8.ofNat (v >>> (8 * k)), rfl, fun w => ?_, ?_⟩
  · have hw : IntKind.i64.wrap (8 * (k : Int)) = ((8 * k : Nat) : Int) := by rw [IntWalk.i64_in _ (by omega)]; omega
    rw [hw]
    have hn : ¬ (((8 * k : Nat) : Int) < 0) := by omega
    have hm : min (8 * k) 64 = 8 * k := by omega
    simp only [Op.shift, if_neg hn, IntKind.bits, Int.toNat_natCast, hm]
    rw [Int.fdiv_eq_ediv_of_nonneg _ (by exact Int.le_of_lt (Int.pow_pos (by decide))), Nat.shiftRight_eq_div_pow]
    simp
  · rw [IntKind.wrap_u8]
    simp [UInt8.toNat_ofNat']

set_option maxHeartbeats 400000 in
theorem put_any (p v n : Nat) (row : Option Nat) (bs : List UInt8) (w : World) (hv : v < 18446744073709551616) (hn : n ≤ 8) (hw : Wr 81 5 w p row bs) (hb : bs.length + n ≤ 140737488355328) :
    Calls Try.prog 66 #[.pointer (some ⟨p, 0, none⟩), .int .u64 v, .int .i64 n] w fun e w' => e = .returned (.tuple #[]) ∧ WrEnd 81 w p row (bs ++ be n v) w' := by
  have HV := Lib.hid hv
  have HB := Lib.hid hb
  have HW := Lib.hid hw
  clear hv hb hw
  go_enter Try.func66, Try.ntmps66
  go_wp2
  go_loopw [6] (fun i wr => ∃ k : Nat, i = .int .i64 ((k : Int) - 1) ∧ k ≤ n ∧ PutRel 81 w p row (bs ++ be n v) v k wr) (fun i _ => (intOf i + 1).toNat)
  case atStart => exact ⟨n, rfl, Nat.le_refl _, row, bs, HW.out, .inl rfl, Kp.refl _ _, rfl⟩
  case round =>
    obtain ⟨k, rfl, hk, HR⟩ := hrel
    cases k with
    | zero =>
      go_wp2
      go_end0
      obtain ⟨row', cur, h1, h2, h3, h4⟩ := HR
      refine ⟨rfl, row', ?_, h2, h3⟩
      rw [← h4]
      simpa [be] using h1
    | succ k =>
      obtain ⟨row', cur, ⟨sv, hh, hrow, hown⟩, hfr, hkp, hcat⟩ := HR
      obtain ⟨hc, hf, hl⟩ := cell_one hh
      rw [show (((k + 1 : Nat)) : Int) - 1 = (k : Int) by omega]
      obtain ⟨sa, sc, rfl⟩ := owns_form hown
      have HO := Lib.hid hown; have HH := Lib.hid hh; have HR := Lib.hid hrow; have HC := Lib.hid hcat
      obtain ⟨x, b, HX, hsh, hcv⟩ := round_byte Try.prog v k (by omega)
      obtain ⟨ti, I⟩ := byteInfo
      have hO2 : ((wr.alloc (.cells #[byteV b] 5)).drew).ownsRow (p + 1) 5 1 (.slice sa cur.length sc) cur.length (cur.map byteV) := owns_keep (S := fun _ => False) hown (((Kp.refl _ wr).alloc _).drew) (fun _ _ => id)
      have hS2 : Sl ((wr.alloc (.cells #[byteV b] 5)).drew) (.slice (some ⟨wr.heap.size, 0, none⟩) 1 1) (some ⟨wr.heap.size, 0, none⟩) 1 [b] := (sl_new wr b 5).keep (S := fun _ => False) ((Kp.refl _ _).drew) (fun _ _ => id)
      have hlen : cur.length + 1 ≤ 140737488355328 := by
        have h1 := congrArg List.length hcat
        simp only [List.length_append, be_length] at h1
        have := HB.out
        omega
      have HO2 := Lib.hid hO2; have HS2 := Lib.hid hS2
      clear hown hh hrow hcat hO2 hS2
      go_wp2
      go_region_law (refine step_append_sl rfl I (p + 1) (.tmp 17) (.tmp 23) rfl (.slice sa cur.length sc) cur rfl HO2.out (by simp; omega) (.slice (some ⟨wr.heap.size, 0, none⟩) 1 1) _ 1 [b] rfl HS2.out hlen ?_; intro v' w' hown' hgr hfr'; obtain ⟨a', c', rfl⟩ := owns_form hown'; have HO' := Lib.hid hown'; have HG' := Lib.hid hgr; have HF' := Lib.hid hfr'; clear hown' hgr hfr'; have hh' : w'.heap[p]? = some (.cells #[.slice sa cur.length sc] 81 (0, 0)) := (by rw [HG'.out.block p (by simp; omega) (fun e => by have := owns_block HO2.out p e.symm; omega)]; exact hp_old HH.out _); obtain ⟨hc', hf', hl'⟩ := cell_one hh'; have HH' := Lib.hid hh'; clear hh')
      all_goals
        go_wp2
        go_roundw
        case rel =>
          refine ⟨k, rfl, by omega, ?_⟩
          obtain rfl := HR.out
          have hW := wr_store HH'.out (bs := cur ++ [b]) HO'.out
          have e1 : (cur ++ [b]).length = cur.length + 1 := by simp
          rw [e1] at hW
          refine ⟨_, cur ++ [b], hW, ?_, ?_, ?_⟩
          · rw [← e1]
            exact hfr.trans HF'.out (by have := hkp.size; simp; omega)
          · exact ((((hkp.alloc _).drew).appended hfr HG'.out).setCell ⟨p, 0, none⟩ (.inl (.inl rfl)) _)
          · rw [List.append_assoc, ← HC.out, HX.out]
            rfl
        case measure => simp [intOf]
theorem round_byte' (v k : Nat) : ∃ b : UInt8, Hid (b = UInt8.ofNat (v >>> (8 * k))) ∧ (v : Int) / 2 ^ (8 * k) % 256 = (b.toNat : Int) := by
  refine ⟨UInt8.ofNat (v >>> (8 * k)), rfl, ?_⟩
  rw [UInt8.toNat_ofNat', Nat.shiftRight_eq_div_pow]
  simp

set_option maxHeartbeats 400000 in
theorem u_any (p v n : Nat) (row : Option Nat) (bs : List UInt8) (w : World) (hv : v < 18446744073709551616) (hn : n ≤ 8) (hw : Wr 29 5 w p row bs) (hb : bs.length + n ≤ 140737488355328) :
    Calls Try.prog 67 #[.pointer (some ⟨p, 0, none⟩), .int .u64 v, .int .i64 n] w fun e w' => e = .returned (.tuple #[]) ∧ WrEnd 29 w p row (bs ++ be n v) w' := by
  have HV := Lib.hid hv
  have HB := Lib.hid hb
  have HW := Lib.hid hw
  clear hv hb hw
  go_enter Try.func67, Try.ntmps67
  go_wp2
  go_loopw [6] (fun i wr => ∃ k : Nat, i = .int .i64 ((k : Int) - 1) ∧ k ≤ n ∧ PutRel 29 w p row (bs ++ be n v) v k wr) (fun i _ => (intOf i + 1).toNat)
  case atStart => exact ⟨n, rfl, Nat.le_refl _, row, bs, HW.out, .inl rfl, Kp.refl _ _, rfl⟩
  case round =>
    obtain ⟨k, rfl, hk, HR⟩ := hrel
    cases k with
    | zero =>
      go_wp2
      go_end0
      obtain ⟨row', cur, h1, h2, h3, h4⟩ := HR
      refine ⟨rfl, row', ?_, h2, h3⟩
      rw [← h4]
      simpa [be] using h1
    | succ k =>
      obtain ⟨row', cur, ⟨sv, hh, hrow, hown⟩, hfr, hkp, hcat⟩ := HR
      obtain ⟨hc, hf, hl⟩ := cell_one hh
      rw [show (((k + 1 : Nat)) : Int) - 1 = (k : Int) by omega]
      obtain ⟨sa, sc, rfl⟩ := owns_form hown
      have HO := Lib.hid hown; have HH := Lib.hid hh; have HR := Lib.hid hrow; have HC := Lib.hid hcat
      obtain ⟨b, HX, hcv⟩ := round_byte' v k
      obtain ⟨ti, I⟩ := byteInfo
      have hO2 : (wr.alloc (.cells #[byteV b] 5)).ownsRow (p + 1) 5 1 (.slice sa cur.length sc) cur.length (cur.map byteV) := owns_keep (S := fun _ => False) hown ((Kp.refl _ wr).alloc _) (fun _ _ => id)
      have hS2 : Sl (wr.alloc (.cells #[byteV b] 5)) (.slice (some ⟨wr.heap.size, 0, none⟩) 1 1) (some ⟨wr.heap.size, 0, none⟩) 1 [b] := sl_new wr b 5
      have hlen : cur.length + 1 ≤ 140737488355328 := by
        have h1 := congrArg List.length hcat
        simp only [List.length_append, be_length] at h1
        have := HB.out
        omega
      have HO2 := Lib.hid hO2; have HS2 := Lib.hid hS2
      clear hown hh hrow hcat hO2 hS2
      go_wp2_with (at_builtin; refine wpList_append_sl rfl I (p + 1) (.tmp 17) (.tmp 24) rfl (.slice sa cur.length sc) cur rfl HO2.out (by simp; omega) (.slice (some ⟨wr.heap.size, 0, none⟩) 1 1) _ 1 [b] rfl HS2.out hlen ?_)
      intro v' w' hown' hgr hfr'
      obtain ⟨a', c', rfl⟩ := owns_form hown'
      have HO' := Lib.hid hown'; have HG' := Lib.hid hgr; have HF' := Lib.hid hfr'
      clear hown' hgr hfr'
      have hh' : w'.heap[p]? = some (.cells #[.slice sa cur.length sc] 29 (0, 0)) := (by rw [HG'.out.block p (by simp; omega) (fun e => by have := owns_block HO2.out p e.symm; omega)]; exact hp_old HH.out _)
      obtain ⟨hc', hf', hl'⟩ := cell_one hh'
      have HH' := Lib.hid hh'
      clear hh'
      go_wp2
      go_roundw
      case rel =>
        refine ⟨k, rfl, by omega, ?_⟩
        obtain rfl := HR.out
        have hW := wr_store HH'.out (bs := cur ++ [b]) (v := .slice a' (cur.length + 1) c') (by simpa using HO'.out)
        refine ⟨_, cur ++ [b], hW, ?_, ?_, ?_⟩
        · exact hfr.trans HF'.out (by have := hkp.size; simp; omega)
        · exact (((hkp.alloc _).appended hfr HG'.out).setCell ⟨p, 0, none⟩ (.inl (.inl rfl)) _)
        · rw [List.append_assoc, ← HC.out, HX.out]
          rfl
      case measure => simp [intOf]
end Go.Proofs.Ytgpidbdgodgefaa
