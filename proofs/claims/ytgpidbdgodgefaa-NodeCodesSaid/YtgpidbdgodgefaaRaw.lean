/- The contracts of the readers' Raw, the program's and the document's. Conditions: as the theorems name them. -/
import Derived.Test.YtgpidbdgodgefaaRd
namespace Go.Proofs.Ytgpidbdgodgefaa
open Go.RowKit

/-- What Raw comes to. -/
def RawEnd (T : TypeId) (w : World) (p : Nat) (row : Option Nat) (bs : List UInt8) (lack : Bool) (n : Int) (e : Ending) (w' : World) : Prop :=
  ∃ v row', e = .returned v ∧ w'.ownsRow w.heap.size 5 1 v (taken bs lack n).1.length ((taken bs lack n).1.map byteV) ∧ Rd T w' p row' (taken bs lack n).2.1 (taken bs lack n).2.2 ∧ (row' = row ∨ row' = none) ∧ Kp (fun k => k = p) w w'

theorem raw_bad {T : TypeId} {w w' : World} {p : Nat} {row : Option Nat} {bs : List UInt8} {lack : Bool} {n : Int} (h : lack = true ∨ n < 0 ∨ (bs.length : Int) < n)
    (hh : w'.heap[p]? = some (.cells #[.slice none 0 0, .bool true] T (0, 0))) (hk : Kp (fun k => k = p) w w') : RawEnd T w p row bs lack n (.returned (.slice none 0 0)) w' := by
  have e : taken bs lack n = ([], [], true) := by unfold taken; rw [if_pos h]
  unfold RawEnd
  rw [e]
  exact ⟨_, none, rfl, World.ownsRow_nil _ _ _ _, ⟨none, 0, hh, Sl.nil _, rfl, fun b hb => by cases hb⟩, .inr rfl, hk⟩

set_option maxHeartbeats 400000 in
theorem RdRaw_no (p : Nat) (row : Option Nat) (bs : List UInt8) (lack : Bool) (n : Int) (w : World) (hr : Rd 86 w p row bs lack) (_hb : bs.length ≤ 140737488355328) (h : lack = true ∨ n < 0 ∨ (bs.length : Int) < n) :
    Calls Try.prog 41 #[.pointer (some ⟨p, 0, none⟩), .int .i64 n] w (RawEnd 86 w p row bs lack n) := by
  have HE := Lib.hid (fun w' a b => raw_bad (T := 86) (w := w) (w' := w') (p := p) (row := row) (bs := bs) (lack := lack) (n := n) h a b)
  obtain ⟨a, c, hh, hs, hrow, hne⟩ := hr
  obtain ⟨hc0, hc1, hf0, hf1, hl⟩ := cell_two hh
  have HH := Lib.hid hh
  clear hh hs hrow hne
  cases lack with
  | true =>
    clear h
    go_enter Try.func41, Try.ntmps41
    go_wp2
    go_ret
    exact HE.out _ (set_two1 (set_two0 HH.out)) (((Kp.refl (fun k => k = p) w).setCell ⟨p, 0, none⟩ (.inl rfl) _).setCell ⟨p, 1, none⟩ (.inl rfl) _)
  | false =>
    have h' : n < 0 ∨ (bs.length : Int) < n := by simpa using h
    clear h
    by_cases hn : n < 0
    · have hd : decide (n < 0) = true := by simpa using hn
      clear h'
      go_enter Try.func41, Try.ntmps41
      go_wp2
      go_ret
      exact HE.out _ (set_two1 (set_two0 HH.out)) (((Kp.refl (fun k => k = p) w).setCell ⟨p, 0, none⟩ (.inl rfl) _).setCell ⟨p, 1, none⟩ (.inl rfl) _)
    · have hn' : (bs.length : Int) < n := by omega
      have hd : decide (n < 0) = false := by simpa using hn
      have hd2 : decide ((bs.length : Int) < n) = true := by simpa using hn'
      clear h'
      go_enter Try.func41, Try.ntmps41
      go_wp2
      go_ret
      exact HE.out _ (set_two1 (set_two0 HH.out)) (((Kp.refl (fun k => k = p) w).setCell ⟨p, 0, none⟩ (.inl rfl) _).setCell ⟨p, 1, none⟩ (.inl rfl) _)

set_option maxHeartbeats 400000 in
theorem RdRaw_yes (p : Nat) (row : Option Nat) (bs : List UInt8) (n : Nat) (w : World) (hr : Rd 86 w p row bs false) (hb : bs.length ≤ 140737488355328) (h : n ≤ bs.length) :
    Calls Try.prog 41 #[.pointer (some ⟨p, 0, none⟩), .int .i64 n] w (RawEnd 86 w p row bs false n) := by
  obtain ⟨ti, I⟩ := byteInfo
  obtain ⟨a, c, hh, hs, hrow, hne⟩ := hr
  obtain ⟨hc0, hc1, hf0, hf1, hl⟩ := cell_two hh
  have e : taken bs false n = (bs.take n, bs.drop n, false) := by
    unfold taken
    rw [if_neg (by simp; omega)]
    simp
  have hlen : (bs.take n).length = n := by simp; omega
  have h1 := owns_empty w w.heap.size 5 (Nat.le_refl _)
  have h2 := hs.keep (S := fun _ => False) ((Kp.refl _ w).alloc (.cells #[] 5)) (fun _ _ => id)
  obtain ⟨hsl, h3⟩ := sl_head I h2 n h
  obtain ⟨a2, hst, h4, h5⟩ := sl_tail I hs n h
  have HO := Lib.hid h1; have HX := Lib.hid h3; have HT := Lib.hid h4; have H5 := Lib.hid h5; have HH := Lib.hid hh; have HE := Lib.hid e; have HL := Lib.hid hlen; have HR := Lib.hid hrow; have HN := Lib.hid hne
  have hd : decide ((n : Int) < 0) = false := decide_eq_false (by omega)
  have hd2 : decide (bs.length < n) = false := decide_eq_false (by omega)
  have hd3 : decide ((bs.length : Int) < (n : Int)) = false := decide_eq_false (by omega)
  clear h1 h2 h3 h4 h5 hh hs hrow hne e hlen
  go_enter Try.func41, Try.ntmps41
  go_wp2_with (at_builtin; refine wpList_append_sl rfl I w.heap.size (.tmp 29) (.tmp 35) rfl (.slice (some ⟨w.heap.size, 0, none⟩) 0 0) [] rfl HO.out (by simp) (.slice a n c) a c (bs.take n) rfl HX.out (by rw [HL.out]; simp; omega) ?_)
  intro v' w' hown' hgr hfr'
  have hk : Kp (fun _ => False) w w' := ((Kp.refl (fun _ => False) w).alloc _).grown hgr (fun k hk => by cases hk; exact .inr (Nat.le_refl _))
  have hh' := hk.hp HH.out id
  obtain ⟨kc0, kc1, kf0, kf1, kl⟩ := cell_two hh'
  have HO' := Lib.hid hown'; have HK := Lib.hid hk; have HH' := Lib.hid hh'
  clear hown' hgr hfr' hk hh'
  go_wp2
  go_ret
  unfold RawEnd
  rw [HE.out]
  have hk2 : Kp (fun k => k = p) w' (w'.setCell ⟨p, 0, none⟩ (.slice a2 (bs.length - n) (c - n))) := (Kp.refl (fun k => k = p) w').setCell ⟨p, 0, none⟩ (.inl rfl) _
  have hk3 : Kp (fun k => k = p) w (w'.setCell ⟨p, 0, none⟩ (.slice a2 (bs.length - n) (c - n))) := (HK.out.mono (fun _ _ h => h.elim)).trans hk2
  refine ⟨_, blk a2, rfl, owns_keep (S := fun k => k = p) (by rw [HL.out]; simpa using HO'.out) hk2 (fun b hb e => ?_), ⟨a2, c - n, ?_, ?_, rfl, fun b hb => ?_⟩, .inl (by rw [H5.out]; exact HR.out), hk3⟩
  · have := (owns_block HO'.out b hb).1; omega
  · simp only [List.length_drop]
    exact set_two0 HH'.out
  · simp only [List.length_drop]
    exact HT.out.keep hk3 (fun b hb e => by rw [H5.out, HR.out] at hb; exact (HN.out b hb).1 e)
  · rw [H5.out, HR.out] at hb
    have := HN.out b hb
    exact ⟨this.1, Nat.lt_of_lt_of_le this.2 hk3.size⟩

theorem RdRaw_all (p : Nat) (row : Option Nat) (bs : List UInt8) (lack : Bool) (n : Int) (w : World) (hr : Rd 86 w p row bs lack) (hb : bs.length ≤ 140737488355328) :
    Calls Try.prog 41 #[.pointer (some ⟨p, 0, none⟩), .int .i64 n] w (RawEnd 86 w p row bs lack n) := by
  by_cases h : lack = true ∨ n < 0 ∨ (bs.length : Int) < n
  · exact RdRaw_no p row bs lack n w hr hb h
  · have h1 : lack = false := by
      cases lack with
      | true => exact absurd (.inl rfl) h
      | false => rfl
    subst h1
    obtain ⟨k, rfl⟩ := Int.eq_ofNat_of_zero_le (show 0 ≤ n by omega)
    exact RdRaw_yes p row bs k w hr hb (by omega)

set_option maxHeartbeats 400000 in
theorem rRdRaw_no (p : Nat) (row : Option Nat) (bs : List UInt8) (lack : Bool) (n : Int) (w : World) (hr : Rd 46 w p row bs lack) (_hb : bs.length ≤ 140737488355328) (h : lack = true ∨ n < 0 ∨ (bs.length : Int) < n) :
    Calls Try.prog 42 #[.pointer (some ⟨p, 0, none⟩), .int .i64 n] w (RawEnd 46 w p row bs lack n) := by
  have HE := Lib.hid (fun w' a b => raw_bad (T := 46) (w := w) (w' := w') (p := p) (row := row) (bs := bs) (lack := lack) (n := n) h a b)
  obtain ⟨a, c, hh, hs, hrow, hne⟩ := hr
  obtain ⟨hc0, hc1, hf0, hf1, hl⟩ := cell_two hh
  have HH := Lib.hid hh
  clear hh hs hrow hne
  cases lack with
  | true =>
    clear h
    go_enter Try.func42, Try.ntmps42
    go_wp2
    go_ret
    exact HE.out _ (set_two0 (set_two1 HH.out)) (((Kp.refl (fun k => k = p) w).setCell ⟨p, 1, none⟩ (.inl rfl) _).setCell ⟨p, 0, none⟩ (.inl rfl) _)
  | false =>
    have h' : n < 0 ∨ (bs.length : Int) < n := by simpa using h
    clear h
    by_cases hn : n < 0
    · have hd : decide (n < 0) = true := by simpa using hn
      clear h'
      go_enter Try.func42, Try.ntmps42
      go_wp2
      go_ret
      exact HE.out _ (set_two0 (set_two1 HH.out)) (((Kp.refl (fun k => k = p) w).setCell ⟨p, 1, none⟩ (.inl rfl) _).setCell ⟨p, 0, none⟩ (.inl rfl) _)
    · have hn' : (bs.length : Int) < n := by omega
      have hd : decide (n < 0) = false := by simpa using hn
      have hd2 : decide ((bs.length : Int) < n) = true := by simpa using hn'
      clear h'
      go_enter Try.func42, Try.ntmps42
      go_wp2
      go_ret
      exact HE.out _ (set_two0 (set_two1 HH.out)) (((Kp.refl (fun k => k = p) w).setCell ⟨p, 1, none⟩ (.inl rfl) _).setCell ⟨p, 0, none⟩ (.inl rfl) _)

set_option maxHeartbeats 400000 in
theorem rRdRaw_yes (p : Nat) (row : Option Nat) (bs : List UInt8) (n : Nat) (w : World) (hr : Rd 46 w p row bs false) (hb : bs.length ≤ 140737488355328) (h : n ≤ bs.length) :
    Calls Try.prog 42 #[.pointer (some ⟨p, 0, none⟩), .int .i64 n] w (RawEnd 46 w p row bs false n) := by
  obtain ⟨ti, I⟩ := byteInfo
  obtain ⟨a, c, hh, hs, hrow, hne⟩ := hr
  obtain ⟨hc0, hc1, hf0, hf1, hl⟩ := cell_two hh
  have e : taken bs false n = (bs.take n, bs.drop n, false) := by
    unfold taken
    rw [if_neg (by simp; omega)]
    simp
  have hlen : (bs.take n).length = n := by simp; omega
  have h1 := owns_empty w w.heap.size 5 (Nat.le_refl _)
  have h2 := hs.keep (S := fun _ => False) ((Kp.refl _ w).alloc (.cells #[] 5)) (fun _ _ => id)
  obtain ⟨hsl, h3⟩ := sl_head I h2 n h
  obtain ⟨a2, hst, h4, h5⟩ := sl_tail I hs n h
  have HO := Lib.hid h1; have HX := Lib.hid h3; have HT := Lib.hid h4; have H5 := Lib.hid h5; have HH := Lib.hid hh; have HE := Lib.hid e; have HL := Lib.hid hlen; have HR := Lib.hid hrow; have HN := Lib.hid hne
  have hd : decide ((n : Int) < 0) = false := decide_eq_false (by omega)
  have hd2 : decide (bs.length < n) = false := decide_eq_false (by omega)
  have hd3 : decide ((bs.length : Int) < (n : Int)) = false := decide_eq_false (by omega)
  clear h1 h2 h3 h4 h5 hh hs hrow hne e hlen
  go_enter Try.func42, Try.ntmps42
  go_wp2_with (at_builtin; refine wpList_append_sl rfl I w.heap.size (.tmp 29) (.tmp 35) rfl (.slice (some ⟨w.heap.size, 0, none⟩) 0 0) [] rfl HO.out (by simp) (.slice a n c) a c (bs.take n) rfl HX.out (by rw [HL.out]; simp; omega) ?_)
  intro v' w' hown' hgr hfr'
  have hk : Kp (fun _ => False) w w' := ((Kp.refl (fun _ => False) w).alloc _).grown hgr (fun k hk => by cases hk; exact .inr (Nat.le_refl _))
  have hh' := hk.hp HH.out id
  obtain ⟨kc0, kc1, kf0, kf1, kl⟩ := cell_two hh'
  have HO' := Lib.hid hown'; have HK := Lib.hid hk; have HH' := Lib.hid hh'
  clear hown' hgr hfr' hk hh'
  go_wp2
  go_ret
  unfold RawEnd
  rw [HE.out]
  have hk2 : Kp (fun k => k = p) w' (w'.setCell ⟨p, 0, none⟩ (.slice a2 (bs.length - n) (c - n))) := (Kp.refl (fun k => k = p) w').setCell ⟨p, 0, none⟩ (.inl rfl) _
  have hk3 : Kp (fun k => k = p) w (w'.setCell ⟨p, 0, none⟩ (.slice a2 (bs.length - n) (c - n))) := (HK.out.mono (fun _ _ h => h.elim)).trans hk2
  refine ⟨_, blk a2, rfl, owns_keep (S := fun k => k = p) (by rw [HL.out]; simpa using HO'.out) hk2 (fun b hb e => ?_), ⟨a2, c - n, ?_, ?_, rfl, fun b hb => ?_⟩, .inl (by rw [H5.out]; exact HR.out), hk3⟩
  · have := (owns_block HO'.out b hb).1; omega
  · simp only [List.length_drop]
    exact set_two0 HH'.out
  · simp only [List.length_drop]
    exact HT.out.keep hk3 (fun b hb e => by rw [H5.out, HR.out] at hb; exact (HN.out b hb).1 e)
  · rw [H5.out, HR.out] at hb
    have := HN.out b hb
    exact ⟨this.1, Nat.lt_of_lt_of_le this.2 hk3.size⟩

theorem rRdRaw_all (p : Nat) (row : Option Nat) (bs : List UInt8) (lack : Bool) (n : Int) (w : World) (hr : Rd 46 w p row bs lack) (hb : bs.length ≤ 140737488355328) :
    Calls Try.prog 42 #[.pointer (some ⟨p, 0, none⟩), .int .i64 n] w (RawEnd 46 w p row bs lack n) := by
  by_cases h : lack = true ∨ n < 0 ∨ (bs.length : Int) < n
  · exact rRdRaw_no p row bs lack n w hr hb h
  · have h1 : lack = false := by
      cases lack with
      | true => exact absurd (.inl rfl) h
      | false => rfl
    subst h1
    obtain ⟨k, rfl⟩ := Int.eq_ofNat_of_zero_le (show 0 ≤ n by omega)
    exact rRdRaw_yes p row bs k w hr hb (by omega)
end Go.Proofs.Ytgpidbdgodgefaa
