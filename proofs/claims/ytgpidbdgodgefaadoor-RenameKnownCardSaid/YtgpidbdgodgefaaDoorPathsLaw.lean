/- Plain laws of paths that are joined of names. Conditions: as the theorems name them. -/
import Derived.Test.YtgpidbdgodgefaaDoorBelowLaw
import Derived.Test.YtgpidbdgodgefaaDoorIsPath
namespace Go.Proofs.YtgpidbdgodgefaaDoor
open Go.RowKit

theorem cut_app : ∀ (p y : List UInt8), cutB (p ++ 47 :: y) = cutB p ++ cutB y
  | [], y => by
    show cutB (47 :: y) = [[]] ++ cutB y
    rw [cutB, if_pos rfl]
    rfl
  | c :: p, y => by
    show cutB (c :: (p ++ 47 :: y)) = cutB (c :: p) ++ cutB y
    by_cases hc : c = 47
    · rw [cutB, if_pos hc, cutB, if_pos hc, cut_app p y]
      rfl
    · rw [cutB, if_neg hc, cutB, if_neg hc, cut_app p y]
      cases h : cutB p with
      | nil => have := cutB_len p; rw [h] at this; simp at this
      | cons a t => rfl
theorem cut_one : ∀ (n : List UInt8), (47 : UInt8) ∉ n → cutB n = [n]
  | [], _ => rfl
  | c :: n, h => by
    have hc : c ≠ 47 := fun e => h (by rw [e]; exact List.mem_cons_self)
    rw [cutB, if_neg hc, cut_one n (fun e => h (List.mem_cons_of_mem _ e))]
    rfl
theorem nmB_zero (k : Nat) : (0 : UInt8) ∉ nmB k := by
  unfold nmB
  split <;> decide
theorem nmB_right (k : Nat) : rightNm (nmB k) = true := by
  unfold nmB
  split <;> decide +kernel

/-- The name of a raw number. -/
def nm (g : Nat → Int) (k : Nat) : List UInt8 := nmB (g k % 6).toNat
/-- The first k names, joined. -/
def jn (g : Nat → Int) : Nat → List UInt8
  | 0 => []
  | k + 1 => joinB (jn g k) (nm g k)
def nms (g : Nat → Int) (k : Nat) : List (List UInt8) := (List.range k).map (nm g)
theorem jn_ne (g : Nat → Int) : ∀ k, jn g (k + 1) ≠ []
  | 0 => nmB_ne _
  | k + 1 => joinB_ne (jn_ne g k) _
theorem jn_one (g : Nat → Int) : jn g 1 = nm g 0 := rfl
theorem jn_more (g : Nat → Int) (k : Nat) : jn g (k + 2) = jn g (k + 1) ++ 47 :: nm g (k + 1) := joinB_app (jn_ne g k) _
theorem nm_len (g : Nat → Int) (k : Nat) : (nm g k).length ≤ 3 := (nmB_len _).2
theorem jn_len (g : Nat → Int) : ∀ k, (jn g k).length ≤ 4 * k
  | 0 => Nat.le_refl _
  | 1 => by have := nm_len g 0; rw [jn_one]; omega
  | k + 2 => by
    have h1 := jn_len g (k + 1)
    have h2 := nm_len g (k + 1)
    rw [jn_more, List.length_append, List.length_cons]
    omega
theorem jn_zero (g : Nat → Int) : ∀ k, (0 : UInt8) ∉ jn g k
  | 0 => by simp [jn]
  | 1 => nmB_zero _
  | k + 2 => by
    rw [jn_more, List.mem_append, List.mem_cons]
    rintro (h | h | h)
    · exact jn_zero g (k + 1) h
    · cases h
    · exact nmB_zero _ h
theorem nms_succ (g : Nat → Int) (k : Nat) : nms g (k + 1) = nms g k ++ [nm g k] := by
  unfold nms
  rw [List.range_succ, List.map_append]
  rfl
theorem nms_len (g : Nat → Int) (k : Nat) : (nms g k).length = k := by simp [nms]
theorem jn_cut (g : Nat → Int) : ∀ k, cutB (jn g (k + 1)) = nms g (k + 1)
  | 0 => cut_one _ (nmB_slash _)
  | k + 1 => by
    rw [jn_more, cut_app, jn_cut g k, cut_one _ (show (47 : UInt8) ∉ nm g (k + 1) from nmB_slash _), nms_succ g (k + 1)]
theorem nms_mem {g : Nat → Int} {k : Nat} {p : List UInt8} (h : p ∈ nms g k) : ∃ j, p = nm g j := by
  unfold nms at h
  rw [List.mem_map] at h
  obtain ⟨j, _, rfl⟩ := h
  exact ⟨j, rfl⟩
theorem jn_segs (g : Nat → Int) : ∀ k, segs (cutB (jn g k)) = nms g k
  | 0 => rfl
  | k + 1 => by
    rw [jn_cut]
    unfold segs
    rw [List.filter_eq_self]
    intro p hp
    obtain ⟨j, rfl⟩ := nms_mem hp
    have := nmB_ne (g j % 6).toNat
    show (!(nmB (g j % 6).toNat).isEmpty) = true
    cases h : nmB (g j % 6).toNat with
    | nil => exact absurd h this
    | cons a b => rfl
theorem jn_err (g : Nat → Int) (k : Nat) (hk : k ≤ 8) : errN (jn g k) = 0 := by
  have h1 := jn_len g k
  unfold errN
  rw [if_neg (by omega), if_neg (jn_zero g k), if_neg]
  intro h
  rw [List.any_eq_true] at h
  obtain ⟨p, hp, h2⟩ := h
  have h3 := cutB_small _ p hp
  have h4 : 24 < p.length := by simpa using h2
  cases k with
  | zero => simp [jn] at h1; have : (jn g 0).length = 0 := rfl; omega
  | succ k =>
    rw [jn_cut] at hp
    obtain ⟨j, rfl⟩ := nms_mem hp
    have := nm_len g j
    omega
theorem jn_path (g : Nat → Int) (k : Nat) (hk : k ≤ 8) : isPathB (jn g k) = true := by
  have h1 := jn_len g k
  cases k with
  | zero => rfl
  | succ k =>
    unfold isPathB
    rw [jn_cut]
    have h2 : (nms g (k + 1)).all rightNm = true := by
      rw [List.all_eq_true]
      intro p hp
      obtain ⟨j, rfl⟩ := nms_mem hp
      exact nmB_right _
    rw [h2]
    simp
    right
    omega
theorem jn_below (g : Nat → Int) (k : Nat) : belowB (jn g k) (jn g (k + 1)) = true := by
  cases k with
  | zero => exact belowB_root (nmB_ne _)
  | succ k => exact belowB_join (jn_ne g k) _
theorem lastB_none {p : List UInt8} (h : (47 : UInt8) ∉ p) : lastB p = -1 := by
  unfold lastB
  rcases Lib.lastIndexByte_spec ⟨p.toArray⟩ 47 with ⟨e, _⟩ | ⟨i, hi, _, hc, _⟩
  · exact e
  · exfalso
    have hil : i < p.length := by simpa [ByteArray.size] using hi
    have e : (⟨p.toArray⟩ : ByteArray).data[i]! = p[i] := by
      show p.toArray[i]! = _
      rw [List.getElem!_toArray, List.getElem!_eq_getElem?_getD, List.getElem?_eq_getElem hil]
      rfl
    rw [e] at hc
    have e2 : p[i] = 47 := UInt8.toNat_inj.1 (by show _ = 47; omega)
    exact h (e2 ▸ List.getElem_mem hil)
theorem jn_split (g : Nat → Int) (k : Nat) : joinB (dirB (jn g (k + 1))) (baseB (jn g (k + 1))) = jn g (k + 1) := by
  cases k with
  | zero =>
    have h : lastB (jn g 1) = -1 := lastB_none (show (47 : UInt8) ∉ nm g 0 from nmB_slash _)
    unfold dirB baseB
    rw [h]
    rfl
  | succ k =>
    have hz : (47 : UInt8) ∉ nm g (k + 1) := nmB_slash _
    show joinB (dirB (joinB (jn g (k + 1)) (nm g (k + 1)))) (baseB (joinB (jn g (k + 1)) (nm g (k + 1)))) = _
    rw [dirB_join (jn_ne g k) hz, baseB_join (jn_ne g k) hz]
    rfl
theorem below_dir {p : List UInt8} (hp : p ≠ []) : belowB p (dirB p) = false := belowB_not hp (by unfold dirB; simp; omega)
theorem dirB_len (p : List UInt8) : (dirB p).length ≤ p.length := by unfold dirB; simp; omega
theorem baseB_len (p : List UInt8) : (baseB p).length ≤ p.length := by unfold baseB; simp
theorem right_slash {s : List UInt8} (h : rightNm s = true) : (47 : UInt8) ∉ s ∧ s.length ≤ 24 := by
  unfold rightNm at h
  simp only [Bool.and_eq_true, decide_eq_true_eq] at h
  exact ⟨h.2.2.2.1, h.2.1⟩
end Go.Proofs.YtgpidbdgodgefaaDoor
