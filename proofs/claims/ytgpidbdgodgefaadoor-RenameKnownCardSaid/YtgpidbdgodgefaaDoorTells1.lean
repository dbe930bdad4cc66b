/- The contracts of the document's Below, DirOf, BaseOf, cut. Conditions: as the theorems name them. -/
import Derived.Test.YtgpidbdgodgefaaDoorTells0
namespace Go.Proofs.YtgpidbdgodgefaaDoor
open Go.RowKit

theorem lastB_at {p : List UInt8} {i : Nat} (hi : i < p.length) (hc : p[i] = 47) (hno : (47 : UInt8) ∉ p.drop (i + 1)) : lastB p = i := by
  have h : p = p.take i ++ 47 :: p.drop (i + 1) := by
    rw [← hc, List.getElem_cons_drop hi, List.take_append_drop]
  rw [h, lastB_app _ _ hno]
  simp
  omega

set_option maxHeartbeats 400000 in
theorem refBelow_any (p q : List UInt8) (w : World) (h : p.length + 1 ≤ 4611686018427387904) (hq : q.length ≤ 4611686018427387904) :
    Calls Tryd.prog 33 #[.string ⟨p.toArray⟩, .string ⟨q.toArray⟩] w fun e w' => e = .returned (.bool (belowB p q)) ∧ w = w' := by
  cases p with
  | nil =>
    have hj : belowB [] q = (!q.isEmpty) := by unfold belowB; cases q <;> rfl
    rw [hj]
    go_enter Tryd.func33, Tryd.ntmps33
    go_wp2
    go_ret
    exact ⟨by simp, rfl⟩
  | cons x xs =>
    have hj : belowB (x :: xs) q = Lib.hasPrefix q ((x :: xs) ++ [47]) := rfl
    have HJ := Lib.hid hj
    clear hj
    have hc1 := run_cat (x :: xs) [47] (by simp at h ⊢; omega)
    have hne : (x :: xs).isEmpty = false := rfl
    generalize (x :: xs) = l at *
    by_cases h1 : l.length + 1 < q.length
    · have ht := bytes_take q (l.length + 1)
      have hp : Lib.hasPrefix q (l ++ [47]) = (q.take (l.length + 1) == l ++ [47]) := by
        show (l ++ [47]).isPrefixOf q = _
        rw [Bool.eq_iff_iff, List.isPrefixOf_iff_prefix, List.prefix_iff_eq_take, beq_iff_eq]
        have : (l ++ [(47 : UInt8)]).length = l.length + 1 := by simp
        rw [this]
        exact eq_comm
      rw [hp] at HJ
      cases hb : (q.take (l.length + 1) == l ++ [47]) with
      | true =>
        rw [hb] at HJ
        go_enter Tryd.func33, Tryd.ntmps33
        go_wp2
        go_ret
        rw [HJ.out]
        exact ⟨rfl, rfl⟩
      | false =>
        rw [hb] at HJ
        go_enter Tryd.func33, Tryd.ntmps33
        go_wp2
        go_ret
        rw [HJ.out]
        exact ⟨by simp, rfl⟩
    · by_cases h2 : q.length = l.length + 1
      · have hp : Lib.hasPrefix q (l ++ [47]) = (q == l ++ [47]) := by
          show (l ++ [47]).isPrefixOf q = _
          rw [Bool.eq_iff_iff, List.isPrefixOf_iff_prefix, beq_iff_eq]
          constructor
          · intro hpre
            exact (hpre.eq_of_length (by simp [h2])).symm
          · rintro rfl
            exact List.prefix_refl _
        rw [hp] at HJ
        have h2' : (q.length : Int) = (l.length : Int) + 1 := by omega
        go_enter Tryd.func33, Tryd.ntmps33
        go_wp2
        go_ret
        rw [HJ.out]
        exact ⟨by simp, rfl⟩
      · have hp : Lib.hasPrefix q (l ++ [47]) = false := by
          show (l ++ [47]).isPrefixOf q = _
          rw [← Bool.not_eq_true, List.isPrefixOf_iff_prefix]
          intro hpre
          have := hpre.length_le
          simp at this
          omega
        rw [hp] at HJ
        have h2' : ((q.length : Int) == (l.length : Int) + 1) = false := by simp; omega
        go_enter Tryd.func33, Tryd.ntmps33
        go_wp2
        go_ret
        rw [HJ.out]
        exact ⟨by simp, rfl⟩

set_option maxHeartbeats 400000 in
theorem refDir_any (p : List UInt8) (w : World) (h : p.length < 4611686018427387904) :
    Calls Tryd.prog 31 #[.string ⟨p.toArray⟩] w fun e w' => e = .returned (.string ⟨(dirB p).toArray⟩) ∧ w = w' := by
  go_enter Tryd.func31, Tryd.ntmps31
  go_wp2_with fail
  go_loop [3] (fun i => ∃ k : Nat, i = .int .i64 ((k : Int) - 1) ∧ k ≤ p.length ∧ Hid ((47 : UInt8) ∉ p.drop k)) (fun i => (intOf i + 1).toNat)
  case atStart => exact ⟨p.length, rfl, Nat.le_refl _, Lib.hid (by simp)⟩
  case round =>
    obtain ⟨k, rfl, hk, HN⟩ := hrel
    cases k with
    | zero =>
      have hd : dirB p = [] := by
        unfold dirB
        rw [lastB_none (by simpa using HN.out)]
        rfl
      have HD := Lib.hid hd
      clear hd
      go_wp2
      go_ret
      rw [HD.out]
      exact ⟨rfl, rfl⟩
    | succ k =>
      have e1 : ((k + 1 : Nat) : Int) - 1 = (k : Int) := by omega
      rw [e1]
      have hb := byte_at p k (by omega)
      have hd : p.drop k = p[k] :: p.drop (k + 1) := (List.getElem_cons_drop (by omega)).symm
      have HD := Lib.hid hd
      have HL : Hid (p[k] = 47 → dirB p = p.take k) := fun hc => by
        have hl := lastB_at (by omega) hc HN.out
        unfold dirB
        rw [hl]
        congr 1
      have ht := bytes_take p k
      clear hd e1
      generalize p[k] = c at *
      by_cases h47 : c = 47
      · subst h47
        have HL2 := Lib.hid (HL.out rfl)
        clear HL HD HN
        go_wp2
        go_ret
        rw [HL2.out]
        exact ⟨by simp, rfl⟩
      · have q1 : ((c.toNat : Int) == 47) = false := by simp; exact fun e => h47 (UInt8.toNat_inj.1 (by show c.toNat = 47; omega))
        have HN2 : Hid ((47 : UInt8) ∉ p.drop k) := by
          show _ ∉ _
          rw [HD.out, List.mem_cons]
          rintro (e | e)
          · exact h47 e.symm
          · exact HN.out e
        clear HL HD HN
        go_wp2
        exact ⟨⟨k, by go_num, by omega, HN2⟩, by simp [intOf]⟩

set_option maxHeartbeats 400000 in
theorem refBase_any (p : List UInt8) (w : World) (h : p.length < 4611686018427387904) :
    Calls Tryd.prog 32 #[.string ⟨p.toArray⟩] w fun e w' => e = .returned (.string ⟨(baseB p).toArray⟩) ∧ w = w' := by
  go_enter Tryd.func32, Tryd.ntmps32
  go_wp2_with fail
  go_loop [3] (fun i => ∃ k : Nat, i = .int .i64 ((k : Int) - 1) ∧ k ≤ p.length ∧ Hid ((47 : UInt8) ∉ p.drop k)) (fun i => (intOf i + 1).toNat)
  case atStart => exact ⟨p.length, rfl, Nat.le_refl _, Lib.hid (by simp)⟩
  case round =>
    obtain ⟨k, rfl, hk, HN⟩ := hrel
    cases k with
    | zero =>
      have hd : baseB p = p := by
        unfold baseB
        rw [lastB_none (by simpa using HN.out)]
        rfl
      have HD := Lib.hid hd
      clear hd
      go_wp2
      go_ret
      rw [HD.out]
      exact ⟨rfl, rfl⟩
    | succ k =>
      have e1 : ((k + 1 : Nat) : Int) - 1 = (k : Int) := by omega
      rw [e1]
      have hb := byte_at p k (by omega)
      have hd : p.drop k = p[k] :: p.drop (k + 1) := (List.getElem_cons_drop (by omega)).symm
      have HD := Lib.hid hd
      have HL : Hid (p[k] = 47 → baseB p = p.drop (k + 1)) := fun hc => by
        have hl := lastB_at (by omega) hc HN.out
        unfold baseB
        rw [hl]
        congr 1
      have ht := bytes_drop p (k + 1)
      clear hd e1
      generalize p[k] = c at *
      by_cases h47 : c = 47
      · subst h47
        have HL2 := Lib.hid (HL.out rfl)
        clear HL HD HN
        go_wp2
        go_ret
        rw [HL2.out]
        exact ⟨by simp, rfl⟩
      · have q1 : ((c.toNat : Int) == 47) = false := by simp; exact fun e => h47 (UInt8.toNat_inj.1 (by show c.toNat = 47; omega))
        have HN2 : Hid ((47 : UInt8) ∉ p.drop k) := by
          show _ ∉ _
          rw [HD.out, List.mem_cons]
          rintro (e | e)
          · exact h47 e.symm
          · exact HN.out e
        clear HL HD HN
        go_wp2
        exact ⟨⟨k, by go_num, by omega, HN2⟩, by simp [intOf]⟩
end Go.Proofs.YtgpidbdgodgefaaDoor
