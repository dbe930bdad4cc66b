/- The contract of name.Split. Conditions: as the theorems name them. -/
import Derived.Test.YtgpidbdgodgefaaDoorCut
namespace Go.Proofs.YtgpidbdgodgefaaDoor
open Go.RowKit

theorem infoStr : (Tryd.prog.info? 9).map (fun i => (i.zero, i.size, i.bytes)) = some (some (.string ByteArray.empty), 1, 16) := by kernel_rfl
theorem owns_from {w : World} {base base' : Nat} {e : TypeId} {size : Nat} {v : Value} {n : Nat} {xs : List Value} (h : w.ownsRow base e size v n xs) (hb : base' ≤ base) : w.ownsRow base' e size v n xs := by
  obtain ⟨h1, h2 | ⟨g, cap, cur, e1, e2, h⟩⟩ := h
  · exact ⟨h1, .inl h2⟩
  · exact ⟨h1, .inr ⟨g, cap, cur, e1, Nat.le_trans hb e2, h⟩⟩
/-- What Split comes to. -/
def SplitEnd (w : World) (s : List UInt8) (e : Ending) (w' : World) : Prop :=
  Kp (fun _ => False) w w' ∧
  ((errN s = 0 ∧ ∃ v, e = .returned (.tuple #[v, .int .i64 0]) ∧ w'.ownsRow w.heap.size 9 1 v (segs (cutB s)).length ((segs (cutB s)).map strV)) ∨
   (errN s ≠ 0 ∧ e = .returned (.tuple #[.slice none 0 0, .int .i64 (errN s)])))

set_option maxHeartbeats 2000000 in
set_option maxRecDepth 100000 in
theorem nsplit_any (s : List UInt8) (m : Int) (w : World) (h : s.length ≤ 9223372036854775807) (hm : w.cell? ⟨0, 0, none⟩ = some (.int .i64 m)) :
    Calls Tryd.prog 23 #[.string ⟨s.toArray⟩] w (SplitEnd w s) := by
  by_cases hl : s.length ≤ 120
  case neg =>
    have hl1 : decide ((s.length : Int) > 120) = true := by simp; omega
    have HE : Hid (errN s = 12) := by
      show _ = _
      unfold errN
      rw [if_pos (by omega)]
    go_enter Tryd.func23, Tryd.ntmps23
    have HEE : Hid (SplitEnd w s (.returned (.tuple #[.slice none 0 0, .int .i64 12])) w) := ⟨Kp.refl _ _, .inr ⟨by rw [HE.out]; decide, by rw [HE.out]⟩⟩
    go_wp2
    go_ret2
    exact HEE.out
  have hl1 : decide ((s.length : Int) > 120) = false := by simp; omega
  obtain ⟨ix, hiz0, hiz1, hiz2, hiz3⟩ := info_parts infoStr
  go_enter Tryd.func23, Tryd.ntmps23
  go_wp2_with fail
  refine (index_any s 0 (by decide) w).mono ?_
  rintro e w' ⟨⟨i, rfl, hi⟩, rfl⟩
  by_cases hi0 : i < 0
  case neg =>
    have hz : (0 : UInt8) ∈ s := Decidable.of_not_not fun hh => hi0 (hi.2 hh)
    have HE : Hid (errN s = 1) := by
      show _ = _
      unfold errN
      rw [if_neg (by omega), if_pos hz]
    have hi1 : decide (i ≥ 0) = true := by simp; omega
    have HEE : Hid (SplitEnd w s (.returned (.tuple #[.slice none 0 0, .int .i64 1])) w) := ⟨Kp.refl _ _, .inr ⟨by rw [HE.out]; decide, by rw [HE.out]⟩⟩
    clear hz hi HE
    go_wp2
    go_ret2
    exact HEE.out
  have hi1 : decide (i ≥ 0) = false := by simp; omega
  have HE : Hid (errN s = if (cutB s).any (fun p => decide (24 < p.length)) then 12 else 0) := by
    show _ = _
    unfold errN
    rw [if_neg (by omega), if_neg (show (0 : UInt8) ∉ s from hi.1 hi0)]
  clear hi
  have hc := Tryd.strings_Split ⟨s.toArray⟩ ⟨#[47]⟩ m w (by show s.toArray.size < _; simp; omega) hm (by decide)
  rw [split_cells, split_count] at hc
  have HC := Lib.hid hc
  have HNL := Lib.hid (show (cutB s).length ≤ 121 by rw [cutB_len]; have := List.count_le_length (a := 47) (l := s); omega)
  clear hc
  generalize hps : cutB s = ps at *
  have HPS := Lib.hid hps
  clear hps
  go_wp2_with fail
  refine HC.out.mono ?_
  rintro e w1 ⟨rfl, hw1⟩
  have kp1 : Kp (fun _ => False) w w1 := by rw [hw1]; exact (Kp.refl _ w).alloc _
  have hpc : ∀ k (hk : k < ps.length), w1.cell? ⟨w.heap.size, k, none⟩ = some (strV ps[k]) := fun k hk => by
    rw [hw1]
    have hh := hp_new w (.cells (ps.map strV).toArray 9)
    simp only [World.cell?, hh]
    simp [hk]
  have HK1 := Lib.hid kp1; have HPC := Lib.hid hpc
  clear kp1 hpc hw1 HC
  go_wp2_with fail
  go_loopw [4, 18] (fun v i wr => ∃ k : Nat, i = .int .i64 k ∧ k ≤ ps.length ∧ Hid (∀ p ∈ ps.take k, p.length ≤ 24) ∧ Hid (wr.ownsRow w1.heap.size 9 1 v (segs (ps.take k)).length ((segs (ps.take k)).map strV)) ∧ Hid (Kp (fun _ => False) w1 wr)) (fun _ i _ => ps.length - (intOf i).toNat)
  case atStart => exact ⟨0, rfl, Nat.zero_le _, Lib.hid (by simp), Lib.hid (World.ownsRow_nil _ _ _ _), Lib.hid (Kp.refl _ _)⟩
  case round =>
    obtain ⟨k, rfl, hk, HL, HO, HKw⟩ := hrel
    have hnl := HNL.out
    by_cases hlt : k < ps.length
    · have hcell := HKw.out.cell (HPC.out k hlt) id
      have hst := segs_take ps k hlt
      have htk : ∀ p ∈ ps.take (k + 1), p ∈ ps.take k ∨ p = ps[k] := fun p hp => by
        rw [List.take_succ_eq_append_getElem hlt, List.mem_append] at hp
        simpa using hp
      have hmem : ps[k] ∈ ps := List.getElem_mem hlt
      have HST := Lib.hid hst; have HTK := Lib.hid htk; have HMEM := Lib.hid hmem
      clear hst htk hmem
      unfold strV at hcell
      generalize ps[k] = p at *
      by_cases h24 : 24 < p.length
      · have h24q : decide ((p.length : Int) > 24) = true := by simp; omega
        have HE2 : Hid (errN s = 12) := by
          show _ = _
          rw [HE.out, if_pos (List.any_eq_true.2 ⟨p, HMEM.out, by simpa using h24⟩)]
        have HEE : Hid (SplitEnd w s (.returned (.tuple #[.slice none 0 0, .int .i64 12])) wr) := ⟨HK1.out.trans HKw.out, .inr ⟨by rw [HE2.out]; decide, by rw [HE2.out]⟩⟩
        clear HE2 HST HTK HMEM
        go_wp2
        go_ret2
        exact HEE.out
      · have h24q : decide ((p.length : Int) > 24) = false := by simp; omega
        have HL2 : Hid (∀ p ∈ ps.take (k + 1), p.length ≤ 24) := fun q hq => by
          rcases HTK.out q hq with h | h
          · exact HL.out q h
          · rw [h]; omega
        cases hemp : p.isEmpty with
        | true =>
          have HST2 : Hid (segs (ps.take (k + 1)) = segs (ps.take k)) := by show _ = _; rw [HST.out, hemp]; rfl
          clear HST HTK HMEM
          go_wp2
          refine ⟨⟨k + 1, by go_num, by omega, HL2, ?_, HKw⟩, by simp [intOf]; omega⟩
          rw [HST2.out]
          exact HO
        | false =>
          have HST2 : Hid (segs (ps.take (k + 1)) = segs (ps.take k) ++ [p]) := by show _ = _; rw [HST.out, hemp]; rfl
          have HSL := Lib.hid (show (segs (ps.take k)).length ≤ 121 by have h1 := segs_le (ps.take k); have h2 := HNL.out; have h3 : (ps.take k).length ≤ ps.length := (by simp; omega); omega)
          have hww : w1.heap.size ≤ wr.heap.size := HKw.out.size
          have HWW := Lib.hid hww
          clear HST HTK HMEM hww
          generalize segs (ps.take k) = qs at *
          have HOX := Lib.hid (HO.out.alloc (.cells #[.string ⟨p.toArray⟩] 9))
          have kx : Kp (fun _ => False) w1 (wr.alloc (.cells #[.string ⟨p.toArray⟩] 9)) := HKw.out.alloc _
          have HKX := Lib.hid kx
          have HNEW := Lib.hid (hp_new wr (.cells #[.string ⟨p.toArray⟩] 9))
          clear kx
          have hbase : w1.heap.size ≤ (wr.alloc (.cells #[.string ⟨p.toArray⟩] 9)).heap.size := by simp; have := HWW.out; omega
          go_wp2_with (at_builtin; refine wpList_append_own _ rfl (.tmp 27) (.tmp 29) 28 rfl w1.heap.size 9 ix (.string ByteArray.empty) 1 16 Tryd.underlying28 hiz0 hiz1 hiz2 hiz3 rfl (by decide) _ qs.length (qs.map strV) rfl HOX.out ⟨wr.heap.size, 0, none⟩ 1 1 [strV p] rfl rfl (fun j u hj => ?_) (fun u hu => ?_) ?_ ?_ hbase ?_)
          · cases j with
            | zero =>
              have hu : strV p = u := by simpa using hj
              subst hu
              exact (cell_one HNEW.out).1
            | succ j => simp at hj
          · have hu : u = strV p := by simpa using hu
            subst hu
            rfl
          · have := HSL.out
            unfold maxLen
            omega
          · have := HSL.out
            omega
          intro v' w6 hown' hgr _
          have k6 := HKX.out.grown hgr (fun b hb => .inr (HOX.out.lt b hb).1)
          have HK6 := Lib.hid k6
          have HO6 : Hid (w6.ownsRow w1.heap.size 9 1 v' (qs ++ [p]).length ((qs ++ [p]).map strV)) := by
            show World.ownsRow _ _ _ _ _ _ _
            simpa using hown'
          clear hown' hgr k6 HOX HKX HNEW HSL HO
          go_wp2
          refine ⟨⟨k + 1, by go_num, by omega, HL2, ?_, HK6⟩, by simp [intOf]; omega⟩
          rw [HST2.out]
          exact HO6
    · have hL : ps.any (fun p => decide (24 < p.length)) = false := by
        rw [List.any_eq_false]
        intro p hp
        have := HL.out p (by rw [List.take_of_length_le (by omega)]; exact hp)
        simp
        omega
      have hE0 : errN s = 0 := by rw [HE.out, hL]; rfl
      have hO := HO.out
      rw [List.take_of_length_le (by omega)] at hO
      have HO2 := Lib.hid (owns_from hO HK1.out.size)
      have HKE := Lib.hid (HK1.out.trans HKw.out)
      have HE0 := Lib.hid hE0
      clear hL hE0 hO HO HL
      go_wp2
      go_ret2
      rw [← HPS.out] at HO2
      exact ⟨HKE.out, .inl ⟨HE0.out, _, rfl, HO2.out⟩⟩
end Go.Proofs.YtgpidbdgodgefaaDoor
