/- The contract of name.IsPath. Conditions: as the theorems name them. -/
import Derived.Test.YtgpidbdgodgefaaDoorSplit
namespace Go.Proofs.YtgpidbdgodgefaaDoor
open Go.RowKit

/-- Is it a path of a tree? -/
def isPathB (s : List UInt8) : Bool := s.isEmpty || ((cutB s).all rightNm && decide (s.length ≤ 120))

set_option maxHeartbeats 2000000 in
set_option maxRecDepth 100000 in
theorem isPath_any (s : List UInt8) (m : Int) (w : World) (h : s.length < 4294967281) (hm : w.cell? ⟨0, 0, none⟩ = some (.int .i64 m)) :
    Calls Tryd.prog 25 #[.string ⟨s.toArray⟩] w fun e w' => e = .returned (.bool (isPathB s)) ∧ Kp (fun _ => False) w w' := by
  have HR := Lib.hid (show isPathB s = (s.isEmpty || ((cutB s).all rightNm && decide (s.length ≤ 120))) from rfl)
  cases he : s.isEmpty with
  | true =>
    go_enter Tryd.func25, Tryd.ntmps25
    go_wp2
    go_ret
    rw [HR.out, he]
    exact ⟨rfl, Kp.refl _ _⟩
  | false =>
    have hc := Tryd.strings_Split ⟨s.toArray⟩ ⟨#[47]⟩ m w (by show s.toArray.size < _; simpa using h) hm (by decide)
    rw [split_cells, split_count] at hc
    have HC := Lib.hid hc
    have HNL := Lib.hid (show (cutB s).length ≤ 4294967282 by rw [cutB_len]; have := List.count_le_length (a := 47) (l := s); omega)
    have hsm : ∀ p ∈ cutB s, p.length ≤ 4294967281 := fun p hp => by
      have := cutB_small s p hp
      omega
    have HSM := Lib.hid hsm
    clear hc hsm
    generalize cutB s = ps at *
    go_enter Tryd.func25, Tryd.ntmps25
    go_wp2_with fail
    refine HC.out.mono ?_
    rintro e w1 ⟨rfl, hw1⟩
    have kp1 : Kp (fun _ => False) w w1 := by rw [hw1]; exact (Kp.refl _ w).alloc _
    have hpc : ∀ k (hk : k < ps.length), w1.cell? ⟨w.heap.size, k, none⟩ = some (strV ps[k]) := fun k hk => by
      rw [hw1]
      have hh := hp_new w (.cells (ps.map strV).toArray 9)
      simp only [World.cell?, hh]
      simp [hk]
    have HK1 := Lib.hid kp1; have HPC := Lib.hid hpc
    clear kp1 hpc hw1 HC
    go_wp2_with fail
    go_loop [10] (fun i => ∃ k : Nat, i = .int .i64 k ∧ k ≤ ps.length ∧ Hid (∀ p ∈ ps.take k, rightNm p = true)) (fun i => ps.length - (intOf i).toNat)
    case atStart => exact ⟨0, rfl, Nat.zero_le _, Lib.hid (by simp)⟩
    case round =>
      obtain ⟨k, rfl, hk, HL⟩ := hrel
      have hnl := HNL.out
      by_cases hlt : k < ps.length
      · have hcell := HPC.out k hlt
        have hmem : ps[k] ∈ ps := List.getElem_mem hlt
        have htk : ∀ p ∈ ps.take (k + 1), p ∈ ps.take k ∨ p = ps[k] := fun p hp => by
          rw [List.take_succ_eq_append_getElem hlt, List.mem_append] at hp
          simpa using hp
        have HTK := Lib.hid htk; have HMEM := Lib.hid hmem
        have hpl := HSM.out _ hmem
        clear htk hmem
        unfold strV at hcell
        generalize ps[k] = p at *
        go_wp2_with fail
        refine (nright_any p w1 (by omega)).mono ?_
        rintro e w' ⟨rfl, rfl⟩
        cases hp : rightNm p with
        | true =>
          have HL2 : Hid (∀ p ∈ ps.take (k + 1), rightNm p = true) := fun q hq => by
            rcases HTK.out q hq with h | h
            · exact HL.out q h
            · rw [h]; exact hp
          clear hp HTK HMEM HL
          go_wp2
          exact ⟨⟨k + 1, by go_num, by omega, HL2⟩, by simp [intOf]; omega⟩
        | false =>
          have HF : Hid (ps.all rightNm = false) := by
            show _ = _
            rw [List.all_eq_false]
            exact ⟨p, HMEM.out, by rw [hp]; decide⟩
          clear hp HTK HMEM HL
          go_wp2
          go_ret
          rw [HR.out, he, HF.out]
          exact ⟨rfl, HK1.out⟩
      · have HT : Hid (ps.all rightNm = true) := by
          show _ = _
          rw [List.all_eq_true]
          intro p hp
          exact HL.out p (by rw [List.take_of_length_le (by omega)]; exact hp)
        clear HL
        go_wp2
        go_ret
        rw [HR.out, he, HT.out]
        exact ⟨by simp; omega, HK1.out⟩
end Go.Proofs.YtgpidbdgodgefaaDoor
