/- The contracts of taken and To of package rename. Conditions: as the theorems name them. -/
import Derived.Test.YtgpidbdgodgefaaDoorRenM
namespace Go.Proofs.YtgpidbdgodgefaaDoor
open Go.RowKit

theorem taken_take (l : List PairV) (p : List UInt8) (i : Nat) (hi : i < l.length) (h : takenL (l.take i) p = false) : takenL (l.take (i + 1)) p = (l[i].dst == p) := by
  unfold takenL at h ⊢
  rw [List.take_succ_eq_append_getElem hi, List.any_append, h]
  simp
theorem taken_more (l : List PairV) (p : List UInt8) (i : Nat) (hi : i < l.length) (h : l[i].dst = p) : takenL l p = true := taken_iff.2 ⟨l[i], List.getElem_mem hi, h⟩
theorem to_take (l : List PairV) (p : List UInt8) (i : Nat) (hi : i < l.length) (h : toL (l.take i) p = none) (hp : l[i].fr ≠ p) : toL (l.take (i + 1)) p = none := by
  unfold toL at h ⊢
  rw [List.take_succ_eq_append_getElem hi, List.find?_append]
  have h2 : (l.take i).find? (fun x => x.fr == p) = none := by simpa using h
  rw [h2]
  simp [hp]
theorem to_hit (l : List PairV) (p : List UInt8) (i : Nat) (hi : i < l.length) (h : toL (l.take i) p = none) (hp : l[i].fr = p) : toL l p = some l[i].dst := by
  unfold toL at h ⊢
  have h2 : (l.take i).find? (fun x => x.fr == p) = none := by simpa using h
  have e : l = l.take i ++ l[i] :: l.drop (i + 1) := by rw [← List.drop_eq_getElem_cons hi, List.take_append_drop]
  conv => lhs; arg 2; rw [e]
  rw [List.find?_append, h2, List.find?_cons]
  simp [hp]

set_option maxHeartbeats 1000000 in
theorem taken_any (a : Option Addr) (c : Nat) (l : List PairV) (p : List UInt8) (w : World) (h : PairsAt w a l) (hl : l.length ≤ 4611686018427387903) :
    Calls Tryd.prog 63 #[.slice a l.length c, .string ⟨p.toArray⟩] w fun e w' => e = .returned (.bool (takenL l p)) ∧ Kp (fun _ => False) w w' := by
  have HT := Lib.hid h
  clear h
  go_enter Tryd.func63, Tryd.ntmps63
  go_wp2_with fail
  go_loopw [9] (fun v wr => ∃ i : Nat, v = .int .i64 i ∧ i ≤ l.length ∧ Hid (takenL (l.take i) p = false) ∧ Hid (Kp (fun _ => False) w wr)) (fun v _ => l.length - (intOf v).toNat)
  case atStart => exact ⟨0, rfl, Nat.zero_le _, Lib.hid rfl, Lib.hid (Kp.refl _ _)⟩
  case round =>
    obtain ⟨i, rfl, hil, HL, HK⟩ := hrel
    by_cases hlt : i < l.length
    · obtain ⟨b, off, rfl, d0, d1⟩ := HT.out i hlt
      replace d0 := HK.out.cell d0 id
      replace d1 := HK.out.cell d1 id
      have HK1 := Lib.hid (HK.out.alloc (.cells #[.string ⟨l[i].fr.toArray⟩, .string ⟨l[i].dst.toArray⟩] 58))
      by_cases hp : l[i].dst = p
      · have HR := Lib.hid (taken_more l p i hlt hp)
        have hb : (l[i].dst == p) = true := by simpa using hp
        clear hp
        go_wp2
        go_ret
        rw [HR.out]
        exact ⟨rfl, HK1.out⟩
      · have hb : (l[i].dst == p) = false := by simpa using hp
        have HR := Lib.hid (show takenL (l.take (i + 1)) p = false from by rw [taken_take l p i hlt HL.out, hb])
        clear hp
        go_wp2
        exact ⟨⟨i + 1, by go_num, by omega, HR, HK1⟩, by simp only [intOf]; omega⟩
    · have HR := Lib.hid (show takenL l p = false from by have h5 := HL.out; rwa [List.take_of_length_le (by omega)] at h5)
      go_wp2
      go_ret
      rw [HR.out]
      exact ⟨rfl, HK.out⟩

set_option maxHeartbeats 1000000 in
theorem to_any (a : Option Addr) (c : Nat) (l : List PairV) (p : List UInt8) (w : World) (h : PairsAt w a l) (hl : l.length ≤ 4611686018427387903) :
    Calls Tryd.prog 42 #[.slice a l.length c, .string ⟨p.toArray⟩] w fun e w' => e = .returned (.tuple #[.string ⟨((toL l p).getD []).toArray⟩, .bool (toL l p).isSome]) ∧ Kp (fun _ => False) w w' := by
  have HT := Lib.hid h
  clear h
  go_enter Tryd.func42, Tryd.ntmps42
  go_wp2_with fail
  go_loopw [10] (fun v wr => ∃ i : Nat, v = .int .i64 i ∧ i ≤ l.length ∧ Hid (toL (l.take i) p = none) ∧ Hid (Kp (fun _ => False) w wr)) (fun v _ => l.length - (intOf v).toNat)
  case atStart => exact ⟨0, rfl, Nat.zero_le _, Lib.hid rfl, Lib.hid (Kp.refl _ _)⟩
  case round =>
    obtain ⟨i, rfl, hil, HL, HK⟩ := hrel
    by_cases hlt : i < l.length
    · obtain ⟨b, off, rfl, d0, d1⟩ := HT.out i hlt
      replace d0 := HK.out.cell d0 id
      replace d1 := HK.out.cell d1 id
      have HK1 := Lib.hid (HK.out.alloc (.cells #[.string ⟨l[i].fr.toArray⟩, .string ⟨l[i].dst.toArray⟩] 58))
      by_cases hp : l[i].fr = p
      · have HR := Lib.hid (to_hit l p i hlt HL.out hp)
        have hb : (l[i].fr == p) = true := by simpa using hp
        clear hp
        go_wp2
        refine bodyPost_ret (v := .tuple #[.string ⟨l[i].dst.toArray⟩, .bool true]) (by simp [results, Tryd.results42]) rfl ?_
        rw [HR.out]
        exact ⟨rfl, HK1.out⟩
      · have hb : (l[i].fr == p) = false := by simpa using hp
        have HR := Lib.hid (to_take l p i hlt HL.out hp)
        clear hp
        go_wp2
        exact ⟨⟨i + 1, by go_num, by omega, HR, HK1⟩, by simp only [intOf]; omega⟩
    · have HR := Lib.hid (show toL l p = none from by have h5 := HL.out; rwa [List.take_of_length_le (by omega)] at h5)
      go_wp2
      refine bodyPost_ret (v := .tuple #[.string ⟨#[]⟩, .bool false]) (by simp [results, Tryd.results42]) rfl ?_
      rw [HR.out]
      exact ⟨rfl, HK.out⟩
end Go.Proofs.YtgpidbdgodgefaaDoor
