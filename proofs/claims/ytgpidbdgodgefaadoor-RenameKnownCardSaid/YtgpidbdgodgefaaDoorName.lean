/- The contracts of name.Join, Below, Dir, Base and Right. Conditions: as the theorems name them. -/
import Derived.Test.YtgpidbdgodgefaaDoorHand
import Derived.Test.YtgpidbdgodgefaaDoorShelf
namespace Go.Proofs.YtgpidbdgodgefaaDoor
open Go.RowKit

def joinB (d s : List UInt8) : List UInt8 := if d = [] then s else (d ++ [47]) ++ s
def belowB (p q : List UInt8) : Bool := if p = [] then q != [] else Lib.hasPrefix q (p ++ [47])
/-- Where the last slash is; -1: nowhere. -/
def lastB (p : List UInt8) : Int := Lib.lastIndexByte ⟨p.toArray⟩ 47
def dirB (p : List UInt8) : List UInt8 := p.take (max 0 (lastB p)).toNat
def baseB (p : List UInt8) : List UInt8 := p.drop (lastB p + 1).toNat

set_option maxHeartbeats 400000 in
theorem join_any (d s : List UInt8) (w : World) (h : d.length + 1 + s.length ≤ 9223372036854775807) :
    Calls Tryd.prog 17 #[.string ⟨d.toArray⟩, .string ⟨s.toArray⟩] w fun e w' => e = .returned (.string ⟨(joinB d s).toArray⟩) ∧ w = w' := by
  cases d with
  | nil =>
    have hj : joinB [] s = s := rfl
    rw [hj]
    go_enter Tryd.func17, Tryd.ntmps17
    go_wp2
    go_ret
    exact ⟨rfl, rfl⟩
  | cons x xs =>
    have hj : joinB (x :: xs) s = ((x :: xs) ++ [47]) ++ s := rfl
    rw [hj]
    have hc1 := run_cat (x :: xs) [47] (by simp at h ⊢; omega)
    have hc2 := run_cat ((x :: xs) ++ [47]) s (by simp at h ⊢; omega)
    have hne : (x :: xs).isEmpty = false := rfl
    generalize (x :: xs) = l at *
    go_enter Tryd.func17, Tryd.ntmps17
    go_wp2
    go_ret
    exact ⟨by simp, rfl⟩

theorem hasPrefix_any (q p : List UInt8) (w : World) : Calls Tryd.prog 54 #[.string ⟨q.toArray⟩, .string ⟨p.toArray⟩] w fun e w' => e = .returned (.bool (Lib.hasPrefix q p)) ∧ w = w' :=
  (Tryd.strings_HasPrefix ⟨q.toArray⟩ ⟨p.toArray⟩ w).mono fun _ _ h => ⟨h.1, h.2.symm⟩

set_option maxHeartbeats 400000 in
theorem below_any (p q : List UInt8) (w : World) (h : p.length + 1 ≤ 9223372036854775807) :
    Calls Tryd.prog 20 #[.string ⟨p.toArray⟩, .string ⟨q.toArray⟩] w fun e w' => e = .returned (.bool (belowB p q)) ∧ w = w' := by
  cases p with
  | nil =>
    have hj : belowB [] q = (!q.isEmpty) := by unfold belowB; cases q <;> rfl
    rw [hj]
    go_enter Tryd.func20, Tryd.ntmps20
    go_wp2
    go_ret
    exact ⟨by simp, rfl⟩
  | cons x xs =>
    have hj : belowB (x :: xs) q = Lib.hasPrefix q ((x :: xs) ++ [47]) := rfl
    rw [hj]
    have hc1 := run_cat (x :: xs) [47] (by simp at h ⊢; omega)
    have hne : (x :: xs).isEmpty = false := rfl
    generalize (x :: xs) = l at *
    go_enter Tryd.func20, Tryd.ntmps20
    go_wp2_with fail
    refine (hasPrefix_any q (l ++ [47]) w).mono ?_
    rintro e w' ⟨rfl, rfl⟩
    go_wp2
    go_ret
    exact ⟨by simp, rfl⟩

theorem bytes_take (p : List UInt8) (n : Nat) : (⟨p.toArray⟩ : ByteArray).extract 0 n = ⟨(p.take n).toArray⟩ := by
  refine ByteArray.ext ?_
  simp [ByteArray.data_extract]
theorem bytes_drop (p : List UInt8) (n : Nat) : (⟨p.toArray⟩ : ByteArray).extract n p.length = ⟨(p.drop n).toArray⟩ := by
  refine ByteArray.ext ?_
  simp [ByteArray.data_extract]
  exact List.take_of_length_le (by simp)
theorem lastB_bound (p : List UInt8) : -1 ≤ lastB p ∧ lastB p < p.length := by
  rcases Lib.lastIndexByte_spec ⟨p.toArray⟩ 47 with ⟨h, _⟩ | ⟨i, hi, h, _⟩
  · unfold lastB; rw [h]; omega
  · unfold lastB
    rw [h]
    have : i < p.length := by simpa [ByteArray.size] using hi
    omega

set_option maxHeartbeats 400000 in
theorem dir_any (p : List UInt8) (w : World) (h : p.length < 4611686018427387904) :
    Calls Tryd.prog 21 #[.string ⟨p.toArray⟩] w fun e w' => e = .returned (.string ⟨(dirB p).toArray⟩) ∧ w = w' := by
  obtain ⟨hb1, hb2⟩ := lastB_bound p
  have HL := Lib.hid (Tryd.strings_LastIndexByte ⟨p.toArray⟩ 47 (by simpa [ByteArray.size] using h) w)
  have HD := Lib.hid (show dirB p = p.take (max 0 (lastB p)).toNat from rfl)
  have hlb : Lib.lastIndexByte ⟨p.toArray⟩ 47 = lastB p := rfl
  go_enter Tryd.func21, Tryd.ntmps21
  go_wp2_with fail
  refine HL.out.mono ?_
  rintro e w' ⟨rfl, rfl⟩
  rw [hlb]
  clear hlb HL
  generalize lastB p = i at *
  go_wp2_with fail
  go_ret
  rw [HD.out, ← bytes_take]
  exact ⟨rfl, rfl⟩

set_option maxHeartbeats 400000 in
theorem base_any (p : List UInt8) (w : World) (h : p.length < 4611686018427387904) :
    Calls Tryd.prog 22 #[.string ⟨p.toArray⟩] w fun e w' => e = .returned (.string ⟨(baseB p).toArray⟩) ∧ w = w' := by
  obtain ⟨hb1, hb2⟩ := lastB_bound p
  have HL := Lib.hid (Tryd.strings_LastIndexByte ⟨p.toArray⟩ 47 (by simpa [ByteArray.size] using h) w)
  have HD := Lib.hid (show baseB p = p.drop (lastB p + 1).toNat from rfl)
  have hlb : Lib.lastIndexByte ⟨p.toArray⟩ 47 = lastB p := rfl
  go_enter Tryd.func22, Tryd.ntmps22
  go_wp2_with fail
  refine HL.out.mono ?_
  rintro e w' ⟨rfl, rfl⟩
  rw [hlb]
  clear hlb HL
  generalize lastB p = i at *
  go_wp2_with fail
  go_ret
  rw [HD.out, ← bytes_drop]
  exact ⟨rfl, rfl⟩

/-- Which names may be. -/
def rightNm (s : List UInt8) : Bool := !s.isEmpty && (decide (s.length ≤ 24) && (decide ((0 : UInt8) ∉ s) && (decide ((47 : UInt8) ∉ s) && (s != [46] && s != [46, 46]))))
theorem indexByte_neg (l : List UInt8) (c : UInt8) : Lib.indexByte l c < 0 ↔ c ∉ l := by
  induction l with
  | nil => simp [Lib.indexByte]
  | cons b l ih =>
    have hge := Lib.indexByte_ge l c
    unfold Lib.indexByte
    by_cases hb : b = c
    · subst hb; simp
    · have h1 : (b == c) = false := by simp [hb]
      rw [h1]
      simp only [Bool.false_eq_true, if_false, List.mem_cons, not_or]
      by_cases h2 : Lib.indexByte l c = -1
      · have h3 : (Lib.indexByte l c == -1) = true := by simp [h2]
        rw [h3]
        simp only [if_true]
        have := ih.1 (by omega)
        exact ⟨fun _ => ⟨fun e => hb e.symm, this⟩, fun _ => by decide⟩
      · have h3 : (Lib.indexByte l c == -1) = false := by simp [h2]
        rw [h3]
        simp only [Bool.false_eq_true, if_false]
        constructor
        · intro h; omega
        · rintro ⟨_, h⟩
          have := ih.2 h
          omega
theorem index_any (s : List UInt8) (c : Nat) (_hc : c < 256) (w : World) :
    Calls Tryd.prog 56 #[.string ⟨s.toArray⟩, .int .u8 c] w fun e w' => (∃ i : Int, e = .returned (.int .i64 i) ∧ (i < 0 ↔ UInt8.ofNat c ∉ s)) ∧ w = w' := by
  refine (Tryd.strings_IndexByte ⟨s.toArray⟩ c w).mono ?_
  rintro e w' ⟨rfl, rfl⟩
  exact ⟨⟨_, rfl, indexByte_neg s (UInt8.ofNat c)⟩, rfl⟩

set_option maxHeartbeats 1000000 in
theorem nright_any (s : List UInt8) (w : World) (h : s.length ≤ 9223372036854775807) :
    Calls Tryd.prog 24 #[.string ⟨s.toArray⟩] w fun e w' => e = .returned (.bool (rightNm s)) ∧ w = w' := by
  have HR := Lib.hid (show rightNm s = (!s.isEmpty && (decide (s.length ≤ 24) && (decide ((0 : UInt8) ∉ s) && (decide ((47 : UInt8) ∉ s) && (s != [46] && s != [46, 46]))))) from rfl)
  go_enter Tryd.func24, Tryd.ntmps24
  cases he : s.isEmpty with
  | true =>
    go_wp2
    go_ret
    rw [HR.out, he]
    exact ⟨rfl, rfl⟩
  | false =>
    by_cases hl : s.length ≤ 24
    case neg =>
      have hl1 : decide ((s.length : Int) ≤ 24) = false := by simp; omega
      go_wp2
      go_ret
      rw [HR.out, he]
      exact ⟨by simp; omega, rfl⟩
    have hl1 : decide ((s.length : Int) ≤ 24) = true := by simp; omega
    go_wp2_with fail
    refine (index_any s 0 (by decide) w).mono ?_
    rintro e w' ⟨⟨i, rfl, hi⟩, rfl⟩
    by_cases hi0 : i < 0
    case neg =>
      have hz : ¬ (0 : UInt8) ∉ s := fun hh => hi0 (hi.2 hh)
      have HZ := Lib.hid hz
      clear hi hz
      go_wp2
      go_ret
      rw [HR.out, he]
      have := HZ.out
      exact ⟨by simp_all, rfl⟩
    have HZ := Lib.hid (hi.1 hi0)
    clear hi
    go_wp2_with fail
    refine (index_any s 47 (by decide) w).mono ?_
    rintro e w' ⟨⟨j, rfl, hj⟩, rfl⟩
    by_cases hj0 : j < 0
    case neg =>
      have hz : ¬ (47 : UInt8) ∉ s := fun hh => hj0 (hj.2 hh)
      have HZ2 := Lib.hid hz
      clear hj hz
      go_wp2
      go_ret
      rw [HR.out, he]
      have := HZ2.out
      exact ⟨by simp_all, rfl⟩
    have HZ2 := Lib.hid (hj.1 hj0)
    clear hj
    have hne1 : rightNm s = (s != [46] && s != [46, 46]) := by
      have h0 : (0 : UInt8) ∉ s := HZ.out
      have h47 : (47 : UInt8) ∉ s := HZ2.out
      rw [HR.out, he]
      simp [hl, h0, h47]
    have HN := Lib.hid hne1
    clear hne1 HR HZ HZ2
    cases h1 : (s == [46]) with
    | true =>
      go_wp2
      go_ret
      rw [HN.out]
      exact ⟨by simp [bne, h1], rfl⟩
    | false =>
      cases h2 : (s == [46, 46]) with
      | true =>
        go_wp2
        go_ret
        rw [HN.out]
        exact ⟨by simp [bne, h2], rfl⟩
      | false =>
        go_wp2
        go_ret
        rw [HN.out]
        exact ⟨by simp [bne, h1, h2], rfl⟩
end Go.Proofs.YtgpidbdgodgefaaDoor
