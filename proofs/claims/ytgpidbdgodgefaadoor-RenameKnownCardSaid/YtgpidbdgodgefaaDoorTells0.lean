/- The contracts of the law file's text (chapter 9) and of the document's RightName, Join, Below. Conditions: as the theorems name them. -/
import Derived.Test.YtgpidbdgodgefaaDoorPathsLaw
import Derived.Deep.CutBlock
namespace Go.Proofs.YtgpidbdgodgefaaDoor
open Go.RowKit

def words : List (List UInt8) := [[97], [98], [47], [47], [46], [46, 46], [97, 47, 98], [0], List.replicate 10 120, List.replicate 24 121, [45], [255]]
theorem words_len (r : Nat) (h : r < 12) : (words.getD r []).length ≤ 24 := by
  have : ∀ k : Fin 12, (words.getD k.val []).length ≤ 24 := by decide
  exact this ⟨r, h⟩
theorem words_at (r : Nat) (hr : r < 12) (w : World) : (Instr.index 81 (.agg #[.string ⟨#[97]⟩, .string ⟨#[98]⟩, .string ⟨#[47]⟩, .string ⟨#[47]⟩, .string ⟨#[46]⟩, .string ⟨#[46, 46]⟩, .string ⟨#[97, 47, 98]⟩, .string ⟨#[0]⟩, .string ⟨#[120, 120, 120, 120, 120, 120, 120, 120, 120, 120]⟩, .string ⟨#[121, 121, 121, 121, 121, 121, 121, 121, 121, 121, 121, 121, 121, 121, 121, 121, 121, 121, 121, 121, 121, 121, 121, 121]⟩, .string ⟨#[45]⟩, .string ⟨#[255]⟩]) (.int .i64 (r : Int))).run Tryd.prog w = .ok (.string ⟨(words.getD r []).toArray⟩) w := by
  rcases (show r = 0 ∨ r = 1 ∨ r = 2 ∨ r = 3 ∨ r = 4 ∨ r = 5 ∨ r = 6 ∨ r = 7 ∨ r = 8 ∨ r = 9 ∨ r = 10 ∨ r = 11 by omega) with rfl | rfl | rfl | rfl | rfl | rfl | rfl | rfl | rfl | rfl | rfl | rfl
  all_goals kernel_rfl
theorem byte_at (s : List UInt8) (k : Nat) (h : k < s.length) : (⟨s.toArray⟩ : ByteArray)[k]'(by simpa [ByteArray.size] using h) = s[k] := rfl

set_option maxHeartbeats 2000000 in
set_option maxRecDepth 100000 in
theorem text_any (ta : Option Addr) (tl tc : Nat) (g : Nat → Int) (w : World) (hg : ∀ i, -9223372036854775808 ≤ g i ∧ g i ≤ 9223372036854775807) (htl : tl ≤ 9223372036854775807)
    (hat : ∀ i, i < tl → ∃ b off, ta = some ⟨b, off, none⟩ ∧ w.cell? ⟨b, off + i, none⟩ = some (.int .i64 (g i))) :
    Calls Tryd.prog 26 #[.slice ta tl tc] w fun e w' => (∃ xs : List UInt8, e = .returned (.string ⟨xs.toArray⟩) ∧ xs.length ≤ 1440) ∧ w = w' := by
  have HAT := Lib.hid hat; have HG := Lib.hid hg
  clear hat hg
  go_enter Tryd.func26, Tryd.ntmps26
  go_wp2_with fail
  go_loop [3, 4] (fun v i => ∃ (k : Nat) (p : List UInt8), i = .int .i64 k ∧ v = .string ⟨p.toArray⟩ ∧ k ≤ min tl 60 ∧ p.length ≤ 24 * k) (fun _ i => 60 - (intOf i).toNat)
  case atStart => exact ⟨0, [], rfl, rfl, Nat.zero_le _, Nat.le_refl _⟩
  case round =>
    obtain ⟨k, p, rfl, rfl, hk, hpl⟩ := hrel
    by_cases h1 : k < tl
    · by_cases h2 : k < 60
      · obtain ⟨tb, off, rfl, htc⟩ := HAT.out k h1
        obtain ⟨hg1, hg2⟩ := HG.out k
        have hr0 := Int.emod_nonneg (g k) (show (12 : Int) ≠ 0 by decide)
        have hr1 := Int.emod_lt_of_pos (g k) (show (0 : Int) < 12 by decide)
        obtain ⟨r, hr⟩ : ∃ r : Nat, g k % 12 = (r : Int) := ⟨(g k % 12).toNat, by omega⟩
        have hrl : r < 12 := by omega
        clear hr0 hr1
        have hpk := pick_any (g k) 12 w (by decide) (by decide) hg1 hg2
        rw [hr] at hpk
        replace hpk := Lib.hid hpk
        clear hr
        go_wp2_with fail
        refine hpk.out.mono ?_
        rintro e w' ⟨rfl, rfl⟩
        have hix := words_at r hrl
        have hwl := words_len r hrl
        generalize words.getD r [] = x at *
        have hcat := run_cat p x (by omega)
        go_wp2
        refine ⟨⟨k + 1, p ++ x, by go_num, rfl, by omega, by simp; omega⟩, by simp [intOf]; omega⟩
      · go_wp2
        go_ret
        exact ⟨⟨p, rfl, by omega⟩, rfl⟩
    · go_wp2
      go_ret
      exact ⟨⟨p, rfl, by omega⟩, rfl⟩

theorem refJoin_any (d s : List UInt8) (w : World) (h : d.length + 1 + s.length ≤ 9223372036854775807) :
    Calls Tryd.prog 30 #[.string ⟨d.toArray⟩, .string ⟨s.toArray⟩] w fun e w' => e = .returned (.string ⟨(joinB d s).toArray⟩) ∧ w = w' := by
  cases d with
  | nil =>
    have hj : joinB [] s = s := rfl
    rw [hj]
    go_enter Tryd.func30, Tryd.ntmps30
    go_wp2
    go_ret
    exact ⟨rfl, rfl⟩
  | cons x xs =>
    have hj : joinB (x :: xs) s = ((x :: xs) ++ [47]) ++ s := rfl
    rw [hj]
    have hc1 := run_cat (x :: xs) [47] (by simp at h ⊢; omega)
    have hc2 := run_cat ((x :: xs) ++ [47]) s (by simp at h ⊢; omega)
    have hne : (x :: xs).isEmpty = false := rfl
    generalize (x :: xs) = l at *
    go_enter Tryd.func30, Tryd.ntmps30
    go_wp2
    go_ret
    exact ⟨by simp, rfl⟩

set_option maxHeartbeats 1000000 in
theorem refName_any (s : List UInt8) (w : World) (h : s.length ≤ 9223372036854775807) :
    Calls Tryd.prog 28 #[.string ⟨s.toArray⟩] w fun e w' => e = .returned (.bool (rightNm s)) ∧ w = w' := by
  have HR := Lib.hid (show rightNm s = (!s.isEmpty && (decide (s.length ≤ 24) && (decide ((0 : UInt8) ∉ s) && (decide ((47 : UInt8) ∉ s) && (s != [46] && s != [46, 46]))))) from rfl)
  go_enter Tryd.func28, Tryd.ntmps28
  go_wp2_with fail
  go_loop [3] (fun i => ∃ k : Nat, i = .int .i64 k ∧ k ≤ s.length ∧ Hid ((0 : UInt8) ∉ s.take k ∧ (47 : UInt8) ∉ s.take k)) (fun i => s.length - (intOf i).toNat)
  case atStart => exact ⟨0, rfl, Nat.zero_le _, Lib.hid (by simp)⟩
  case round =>
    obtain ⟨k, rfl, hk, HN⟩ := hrel
    by_cases hlt : k < s.length
    · have hb := byte_at s k hlt
      have hn1 := HN.out.1
      have hn2 := HN.out.2
      have htk : s.take (k + 1) = s.take k ++ [s[k]] := List.take_succ_eq_append_getElem hlt
      have hmem : s[k] ∈ s := List.getElem_mem hlt
      have HTK := Lib.hid htk; have HMEM := Lib.hid hmem
      clear htk hmem
      generalize s[k] = c at *
      by_cases h0 : c = 0
      · subst h0
        have HF : Hid (rightNm s = false) := by
          show _ = _
          rw [HR.out]
          have := HMEM.out
          simp [this]
        go_wp2
        go_ret
        rw [HF.out]
        exact ⟨rfl, rfl⟩
      by_cases h47 : c = 47
      · subst h47
        have HF : Hid (rightNm s = false) := by
          show _ = _
          rw [HR.out]
          have := HMEM.out
          simp [this]
        go_wp2
        go_ret
        rw [HF.out]
        exact ⟨rfl, rfl⟩
      · have q0 : ((c.toNat : Int) == 0) = false := by simp; exact fun e => h0 (UInt8.toNat_inj.1 e)
        have q1 : ((c.toNat : Int) == 47) = false := by simp; exact fun e => h47 (UInt8.toNat_inj.1 (by show c.toNat = 47; omega))
        have HN2 : Hid ((0 : UInt8) ∉ s.take (k + 1) ∧ (47 : UInt8) ∉ s.take (k + 1)) := by
          show _ ∧ _
          rw [HTK.out]
          simp only [List.mem_append, List.mem_singleton, not_or]
          exact ⟨⟨hn1, fun e => h0 e.symm⟩, hn2, fun e => h47 e.symm⟩
        clear HTK HMEM HN hn1 hn2
        go_wp2
        exact ⟨⟨k + 1, by go_num, by omega, HN2⟩, by simp [intOf]; omega⟩
    · have hn1 := HN.out.1
      have hn2 := HN.out.2
      rw [List.take_of_length_le (by omega)] at hn1 hn2
      have hne1 : rightNm s = (!s.isEmpty && (decide (s.length ≤ 24) && (s != [46] && s != [46, 46]))) := by
        rw [HR.out]
        simp [hn1, hn2]
      have HN1 := Lib.hid hne1
      clear hne1 hn1 hn2 HN HR
      by_cases hl0 : 1 ≤ s.length
      case neg =>
        have hs0 : s = [] := List.eq_nil_of_length_eq_zero (by omega)
        subst hs0
        go_wp2
        go_ret
        rw [HN1.out]
        exact ⟨rfl, rfl⟩
      have he : s.isEmpty = false := by cases s with
        | nil => simp at hl0
        | cons a b => rfl
      by_cases hl24 : s.length ≤ 24
      case neg =>
        go_wp2
        go_ret
        rw [HN1.out, he]
        exact ⟨by simp; omega, rfl⟩
      cases h1 : (s == [46]) with
      | true =>
        go_wp2
        go_ret
        rw [HN1.out]
        exact ⟨by simp [bne, h1], rfl⟩
      | false =>
        cases h2 : (s == [46, 46]) with
        | true =>
          go_wp2
          go_ret
          rw [HN1.out]
          exact ⟨by simp [bne, h2], rfl⟩
        | false =>
          go_wp2
          go_ret
          rw [HN1.out, he]
          exact ⟨by simp [bne, h1, h2]; omega, rfl⟩
end Go.Proofs.YtgpidbdgodgefaaDoor
