/- The contracts of the document's Split and IsPath. Conditions: as the theorems name them. -/
import Derived.Test.YtgpidbdgodgefaaDoorTells2
import Derived.Test.YtgpidbdgodgefaaDoorKnown9
namespace Go.Proofs.YtgpidbdgodgefaaDoor
open Go.RowKit

theorem cutB_pos (s : List UInt8) : 0 < (cutB s).length := by rw [cutB_len]; omega

set_option maxHeartbeats 2000000 in
set_option maxRecDepth 100000 in
theorem refIsPath_any (s : List UInt8) (w : World) (h : s.length ≤ 8000000) :
    Calls Tryd.prog 29 #[.string ⟨s.toArray⟩] w fun e w' => e = .returned (.bool (isPathB s)) ∧ Kp (fun _ => False) w w' := by
  have HR := Lib.hid (show isPathB s = (s.isEmpty || ((cutB s).all rightNm && decide (s.length ≤ 120))) from rfl)
  cases he : s.isEmpty with
  | true =>
    go_enter Tryd.func29, Tryd.ntmps29
    go_wp2
    go_ret
    rw [HR.out, he]
    exact ⟨rfl, Kp.refl _ _⟩
  | false =>
    have HC := Lib.hid (cut_any s w h)
    have HNL := Lib.hid (show (cutB s).length ≤ 8000001 by rw [cutB_len]; have := List.count_le_length (a := 47) (l := s); omega)
    have HPOS := Lib.hid (cutB_pos s)
    have hsm : ∀ p ∈ cutB s, p.length ≤ 8000000 := fun p hp => by
      have := cutB_small s p hp
      omega
    have HSM := Lib.hid hsm
    unfold CutEnd at HC
    clear hsm
    generalize cutB s = ps at *
    go_enter Tryd.func29, Tryd.ntmps29
    go_wp2_with fail
    refine HC.out.mono ?_
    rintro e w1 ⟨v, rfl, hown, kp1⟩
    obtain ⟨g, c, rfl⟩ := owns_some hown HPOS.out
    have hpc : ∀ k (hk : k < ps.length), w1.cell? ⟨g, k, none⟩ = some (strV ps[k]) := fun k hk => by
      rw [World.ownsRow.cellAt hown k (by omega)]
      simp [hk]
    have HK1 := Lib.hid kp1; have HPC := Lib.hid hpc
    clear kp1 hpc hown HC HPOS
    go_wp2_with fail
    go_loop [4] (fun i => ∃ k : Nat, i = .int .i64 k ∧ k ≤ ps.length ∧ Hid (∀ p ∈ ps.take k, rightNm p = true)) (fun i => ps.length - (intOf i).toNat)
    case atStart => exact ⟨0, rfl, Nat.zero_le _, Lib.hid (by simp)⟩
    case round =>
      obtain ⟨k, rfl, hk, HL⟩ := hrel
      have hnl := HNL.out
      by_cases hlt : k < ps.length
      · have hcell := HPC.out k hlt
        have hmem : ps[k] ∈ ps := List.getElem_mem hlt
        have htk : ∀ p ∈ ps.take (k + 1), p ∈ ps.take k ∨ p = ps[k] := fun p hp => by
          rw [List.take_succ_eq_append_getElem hlt, List.mem_append] at hp
          simpa using hp
        have HTK := Lib.hid htk; have HMEM := Lib.hid hmem
        have hpl := HSM.out _ hmem
        clear htk hmem
        unfold strV at hcell
        generalize ps[k] = p at *
        go_wp2_with fail
        refine (refName_any p w1 (by omega)).mono ?_
        rintro e w' ⟨rfl, rfl⟩
        cases hp : rightNm p with
        | true =>
          have HL2 : Hid (∀ p ∈ ps.take (k + 1), rightNm p = true) := fun q hq => by
            rcases HTK.out q hq with h | h
            · exact HL.out q h
            · rw [h]; exact hp
          clear hp HTK HMEM HL
          go_wp2
          exact ⟨⟨k + 1, by go_num, by omega, HL2⟩, by simp [intOf]; omega⟩
        | false =>
          have HF : Hid (ps.all rightNm = false) := by
            show _ = _
            rw [List.all_eq_false]
            exact ⟨p, HMEM.out, by rw [hp]; decide⟩
          clear hp HTK HMEM HL
          go_wp2
          go_ret
          rw [HR.out, he, HF.out]
          exact ⟨rfl, HK1.out⟩
      · have HT : Hid (ps.all rightNm = true) := by
          show _ = _
          rw [List.all_eq_true]
          intro p hp
          exact HL.out p (by rw [List.take_of_length_le (by omega)]; exact hp)
        clear HL
        go_wp2
        go_ret
        rw [HR.out, he, HT.out]
        exact ⟨by simp; omega, HK1.out⟩

set_option maxHeartbeats 4000000 in
set_option maxRecDepth 100000 in
theorem refSplit_any (s : List UInt8) (w : World) (h : s.length ≤ 9223372036854775807) :
    Calls Tryd.prog 27 #[.string ⟨s.toArray⟩] w (SplitEnd w s) := by
  by_cases hl : s.length ≤ 120
  case neg =>
    have hl1 : decide ((s.length : Int) > 120) = true := by simp; omega
    have HE : Hid (errN s = 12) := by
      show _ = _
      unfold errN
      rw [if_pos (by omega)]
    go_enter Tryd.func27, Tryd.ntmps27
    have HEE : Hid (SplitEnd w s (.returned (.tuple #[.slice none 0 0, .int .i64 12])) w) := ⟨Kp.refl _ _, .inr ⟨by rw [HE.out]; decide, by rw [HE.out]⟩⟩
    go_wp2
    go_ret2
    exact HEE.out
  replace h : s.length ≤ 8000000 := by omega
  have hl1 : decide ((s.length : Int) > 120) = false := by simp; omega
  obtain ⟨ix, hiz0, hiz1, hiz2, hiz3⟩ := info_parts infoStr
  go_enter Tryd.func27, Tryd.ntmps27
  go_wp2_with fail
  go_loop [4] (fun i => ∃ k : Nat, i = .int .i64 k ∧ k ≤ s.length ∧ Hid ((0 : UInt8) ∉ s.take k)) (fun i => s.length - (intOf i).toNat)
  case atStart => exact ⟨0, rfl, Nat.zero_le _, Lib.hid (by simp)⟩
  case round =>
    obtain ⟨k, rfl, hk, HN⟩ := hrel
    by_cases hlt : k < s.length
    · have hb := byte_at s k hlt
      have htk : s.take (k + 1) = s.take k ++ [s[k]] := List.take_succ_eq_append_getElem hlt
      have hmem : s[k] ∈ s := List.getElem_mem hlt
      have HTK := Lib.hid htk; have HMEM := Lib.hid hmem
      clear htk hmem
      generalize s[k] = c at *
      by_cases h0 : c = 0
      · subst h0
        have HE : Hid (errN s = 1) := by
          show _ = _
          unfold errN
          rw [if_neg (by omega), if_pos HMEM.out]
        have HEE : Hid (SplitEnd w s (.returned (.tuple #[.slice none 0 0, .int .i64 1])) w) := ⟨Kp.refl _ _, .inr ⟨by rw [HE.out]; decide, by rw [HE.out]⟩⟩
        clear HTK HMEM HN HE
        go_wp2
        go_ret2
        exact HEE.out
      · have q0 : ((c.toNat : Int) == 0) = false := by simp; exact fun e => h0 (UInt8.toNat_inj.1 e)
        have HN2 : Hid ((0 : UInt8) ∉ s.take (k + 1)) := by
          show _ ∉ _
          rw [HTK.out, List.mem_append, List.mem_singleton]
          rintro (e | e)
          · exact HN.out e
          · exact h0 e.symm
        clear HTK HMEM HN
        go_wp2
        exact ⟨⟨k + 1, by go_num, by omega, HN2⟩, by simp [intOf]; omega⟩
    · have hz : (0 : UInt8) ∉ s := by have := HN.out; rwa [List.take_of_length_le (by omega)] at this
      have HE : Hid (errN s = if (cutB s).any (fun p => decide (24 < p.length)) then 12 else 0) := by
        show _ = _
        unfold errN
        rw [if_neg (by omega), if_neg hz]
      clear hz HN
      have HC := Lib.hid (cut_any s w h)
      have HNL := Lib.hid (show (cutB s).length ≤ 121 by rw [cutB_len]; have := List.count_le_length (a := 47) (l := s); omega)
      have HPOS := Lib.hid (cutB_pos s)
      unfold CutEnd at HC
      generalize hps : cutB s = ps at *
      have HPS := Lib.hid hps
      clear hps
      go_wp2_with fail
      refine HC.out.mono ?_
      rintro e w1 ⟨v, rfl, hown, kp1⟩
      obtain ⟨g, c, rfl⟩ := owns_some hown HPOS.out
      have hpc : ∀ k (hk : k < ps.length), w1.cell? ⟨g, k, none⟩ = some (strV ps[k]) := fun k hk => by
        rw [World.ownsRow.cellAt hown k (by omega)]
        simp [hk]
      have HK1 := Lib.hid kp1; have HPC := Lib.hid hpc
      clear kp1 hpc hown HC HPOS
      go_wp2_with fail
      go_loopw [5, 7] (fun v i wr => ∃ k : Nat, i = .int .i64 k ∧ k ≤ ps.length ∧ Hid (∀ p ∈ ps.take k, p.length ≤ 24) ∧ Hid (wr.ownsRow w1.heap.size 9 1 v (segs (ps.take k)).length ((segs (ps.take k)).map strV)) ∧ Hid (Kp (fun _ => False) w1 wr)) (fun _ i _ => ps.length - (intOf i).toNat)
      case atStart => exact ⟨0, rfl, Nat.zero_le _, Lib.hid (by simp), Lib.hid (World.ownsRow_nil _ _ _ _), Lib.hid (Kp.refl _ _)⟩
      case round =>
        obtain ⟨k, rfl, hk, HL, HO, HKw⟩ := hrel
        have hnl := HNL.out
        by_cases hlt : k < ps.length
        · have hcell := HKw.out.cell (HPC.out k hlt) id
          have hst := segs_take ps k hlt
          have htk : ∀ p ∈ ps.take (k + 1), p ∈ ps.take k ∨ p = ps[k] := fun p hp => by
            rw [List.take_succ_eq_append_getElem hlt, List.mem_append] at hp
            simpa using hp
          have hmem : ps[k] ∈ ps := List.getElem_mem hlt
          have HST := Lib.hid hst; have HTK := Lib.hid htk; have HMEM := Lib.hid hmem
          clear hst htk hmem
          unfold strV at hcell
          generalize ps[k] = p at *
          by_cases h24 : 24 < p.length
          · have h24q : decide ((p.length : Int) > 24) = true := by simp; omega
            have HE2 : Hid (errN s = 12) := by
              show _ = _
              rw [HE.out, if_pos (List.any_eq_true.2 ⟨p, HMEM.out, by simpa using h24⟩)]
            have HEE : Hid (SplitEnd w s (.returned (.tuple #[.slice none 0 0, .int .i64 12])) wr) := ⟨HK1.out.trans HKw.out, .inr ⟨by rw [HE2.out]; decide, by rw [HE2.out]⟩⟩
            clear HE2 HST HTK HMEM
            go_wp2
            go_ret2
            exact HEE.out
          · have h24q : decide ((p.length : Int) > 24) = false := by simp; omega
            have HL2 : Hid (∀ p ∈ ps.take (k + 1), p.length ≤ 24) := fun q hq => by
              rcases HTK.out q hq with h | h
              · exact HL.out q h
              · rw [h]; omega
            cases hemp : p.isEmpty with
            | true =>
              have HST2 : Hid (segs (ps.take (k + 1)) = segs (ps.take k)) := by show _ = _; rw [HST.out, hemp]; rfl
              clear HST HTK HMEM
              go_wp2
              refine ⟨⟨k + 1, by go_num, by omega, HL2, ?_, HKw⟩, by simp [intOf]; omega⟩
              rw [HST2.out]
              exact HO
            | false =>
              have HST2 : Hid (segs (ps.take (k + 1)) = segs (ps.take k) ++ [p]) := by show _ = _; rw [HST.out, hemp]; rfl
              have HSL := Lib.hid (show (segs (ps.take k)).length ≤ 121 by have h1 := segs_le (ps.take k); have h2 := HNL.out; have h3 : (ps.take k).length ≤ ps.length := (by simp; omega); omega)
              have hww : w1.heap.size ≤ wr.heap.size := HKw.out.size
              have HWW := Lib.hid hww
              clear HST HTK HMEM hww
              generalize segs (ps.take k) = qs at *
              have HOX := Lib.hid (HO.out.alloc (.cells #[.string ⟨p.toArray⟩] 9))
              have kx : Kp (fun _ => False) w1 (wr.alloc (.cells #[.string ⟨p.toArray⟩] 9)) := HKw.out.alloc _
              have HKX := Lib.hid kx
              have HNEW := Lib.hid (hp_new wr (.cells #[.string ⟨p.toArray⟩] 9))
              clear kx
              have hbase : w1.heap.size ≤ (wr.alloc (.cells #[.string ⟨p.toArray⟩] 9)).heap.size := by simp; have := HWW.out; omega
              go_wp2_with (at_builtin; refine wpList_append_own _ rfl (.tmp 40) (.tmp 45) 28 rfl w1.heap.size 9 ix (.string ByteArray.empty) 1 16 Tryd.underlying28 hiz0 hiz1 hiz2 hiz3 rfl (by decide) _ qs.length (qs.map strV) rfl HOX.out ⟨wr.heap.size, 0, none⟩ 1 1 [strV p] rfl rfl (fun j u hj => ?_) (fun u hu => ?_) ?_ ?_ hbase ?_)
              · cases j with
                | zero =>
                  have hu : strV p = u := by simpa using hj
                  subst hu
                  exact (cell_one HNEW.out).1
                | succ j => simp at hj
              · have hu : u = strV p := by simpa using hu
                subst hu
                rfl
              · have := HSL.out
                unfold maxLen
                omega
              · have := HSL.out
                omega
              intro v' w6 hown' hgr _
              have k6 := HKX.out.grown hgr (fun b hb => .inr (HOX.out.lt b hb).1)
              have HK6 := Lib.hid k6
              have HO6 : Hid (w6.ownsRow w1.heap.size 9 1 v' (qs ++ [p]).length ((qs ++ [p]).map strV)) := by
                show World.ownsRow _ _ _ _ _ _ _
                simpa using hown'
              clear hown' hgr k6 HOX HKX HNEW HSL HO
              go_wp2
              refine ⟨⟨k + 1, by go_num, by omega, HL2, ?_, HK6⟩, by simp [intOf]; omega⟩
              rw [HST2.out]
              exact HO6
        · have hL : ps.any (fun p => decide (24 < p.length)) = false := by
            rw [List.any_eq_false]
            intro p hp
            have := HL.out p (by rw [List.take_of_length_le (by omega)]; exact hp)
            simp
            omega
          have hE0 : errN s = 0 := by rw [HE.out, hL]; rfl
          have hO := HO.out
          rw [List.take_of_length_le (by omega)] at hO
          have HO2 := Lib.hid (owns_from hO HK1.out.size)
          have HKE := Lib.hid (HK1.out.trans HKw.out)
          have HE0 := Lib.hid hE0
          clear hL hE0 hO HO HL
          go_wp2
          go_ret2
          rw [← HPS.out] at HO2
          exact ⟨HKE.out, .inl ⟨HE0.out, _, rfl, HO2.out⟩⟩
end Go.Proofs.YtgpidbdgodgefaaDoor
