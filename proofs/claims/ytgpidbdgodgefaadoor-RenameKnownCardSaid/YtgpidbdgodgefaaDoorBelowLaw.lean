/- Plain laws of paths: what is below, what stands ahead, the last name. Conditions: as the theorems name them. -/
import Derived.Test.YtgpidbdgodgefaaDoorName
namespace Go.Proofs.YtgpidbdgodgefaaDoor
open Go.RowKit

theorem nmB_slash (k : Nat) : (47 : UInt8) ∉ nmB k := by
  unfold nmB
  split <;> decide
theorem nmB_ne (k : Nat) : nmB k ≠ [] := by
  have := (nmB_len k).1
  intro h
  rw [h] at this
  simp at this
theorem pathB_ne (n : Int) : pathB n ≠ [] := by
  have := (pathB_len n).1
  intro h
  rw [h] at this
  simp at this
theorem joinB_app {d : List UInt8} (hd : d ≠ []) (s : List UInt8) : joinB d s = d ++ 47 :: s := by
  unfold joinB
  rw [if_neg hd]
  simp
theorem joinB_ne {d : List UInt8} (hd : d ≠ []) (s : List UInt8) : joinB d s ≠ [] := by
  rw [joinB_app hd]
  simp
theorem belowB_iff {p : List UInt8} (hp : p ≠ []) (q : List UInt8) : belowB p q = true ↔ ∃ y, q = p ++ 47 :: y := by
  unfold belowB
  rw [if_neg hp]
  show (p ++ [47]).isPrefixOf q = true ↔ _
  rw [List.isPrefixOf_iff_prefix]
  constructor
  · rintro ⟨y, rfl⟩
    exact ⟨y, by simp⟩
  · rintro ⟨y, rfl⟩
    exact ⟨y, by simp⟩
theorem belowB_len {p q : List UInt8} (hp : p ≠ []) (h : belowB p q = true) : p.length < q.length := by
  obtain ⟨y, rfl⟩ := (belowB_iff hp q).1 h
  simp
theorem belowB_not {p q : List UInt8} (hp : p ≠ []) (h : q.length ≤ p.length) : belowB p q = false := by
  cases hb : belowB p q with
  | false => rfl
  | true => have := belowB_len hp hb; omega
theorem belowB_join {p : List UInt8} (hp : p ≠ []) (s : List UInt8) : belowB p (joinB p s) = true := (belowB_iff hp _).2 ⟨s, joinB_app hp s⟩
theorem belowB_trans {p q r : List UInt8} (hp : p ≠ []) (hq : q ≠ []) (h1 : belowB p q = true) (h2 : belowB q r = true) : belowB p r = true := by
  obtain ⟨y, rfl⟩ := (belowB_iff hp q).1 h1
  obtain ⟨z, rfl⟩ := (belowB_iff hq r).1 h2
  exact (belowB_iff hp _).2 ⟨y ++ 47 :: z, by simp⟩
theorem belowB_root {p : List UInt8} (hp : p ≠ []) : belowB [] p = true := by
  cases p with
  | nil => exact absurd rfl hp
  | cons x xs => rfl
/-- A name more. -/
theorem belowB_more {p x : List UInt8} (hp : p ≠ []) (hx : x ≠ []) {n : List UInt8} (hn : (47 : UInt8) ∉ n) : belowB p (joinB x n) = (belowB p x || p == x) := by
  rw [Bool.eq_iff_iff, Bool.or_eq_true, beq_iff_eq, belowB_iff hp, belowB_iff hp, joinB_app hx]
  constructor
  · rintro ⟨y, h⟩
    rcases List.append_eq_append_iff.1 h with ⟨a, h1, h2⟩ | ⟨a, h1, h2⟩
    · cases a with
      | nil => right; simpa using h1
      | cons c cs =>
        exfalso
        simp only [List.cons_append, List.cons.injEq] at h2
        refine hn ?_
        rw [h2.2]
        simp
    · cases a with
      | nil => right; simpa using h1.symm
      | cons c cs =>
        simp only [List.cons_append, List.cons.injEq] at h2
        left
        exact ⟨cs, by rw [h1, h2.1]⟩
  · rintro (⟨y, rfl⟩ | rfl)
    · exact ⟨y ++ 47 :: n, by simp⟩
    · exact ⟨n, rfl⟩
/-- The last slash. -/
theorem lastB_app (q z : List UInt8) (hz : (47 : UInt8) ∉ z) : lastB (q ++ 47 :: z) = q.length := by
  have hat : ∀ j, j < (q ++ 47 :: z).length → (((⟨(q ++ 47 :: z).toArray⟩ : ByteArray).data[j]!).toNat : Int) = 47 → (q ++ 47 :: z)[j]? = some 47 := fun j hj h => by
    have e : (⟨(q ++ 47 :: z).toArray⟩ : ByteArray).data[j]! = (q ++ 47 :: z)[j] := by
      show (q ++ 47 :: z).toArray[j]! = _
      rw [List.getElem!_toArray, List.getElem!_eq_getElem?_getD, List.getElem?_eq_getElem hj]
      rfl
    rw [e] at h
    rw [List.getElem?_eq_getElem hj]
    congr 1
    refine UInt8.toNat_inj.1 ?_
    show _ = 47
    omega
  have hback : ∀ j, j < (q ++ 47 :: z).length → (q ++ 47 :: z)[j]? = some 47 → (((⟨(q ++ 47 :: z).toArray⟩ : ByteArray).data[j]!).toNat : Int) = 47 := fun j hj h => by
    have e : (⟨(q ++ 47 :: z).toArray⟩ : ByteArray).data[j]! = (q ++ 47 :: z)[j] := by
      show (q ++ 47 :: z).toArray[j]! = _
      rw [List.getElem!_toArray, List.getElem!_eq_getElem?_getD, List.getElem?_eq_getElem hj]
      rfl
    rw [List.getElem?_eq_getElem hj] at h
    rw [e, Option.some.inj h]
    rfl
  have hsz : (⟨(q ++ 47 :: z).toArray⟩ : ByteArray).size = (q ++ 47 :: z).length := by simp [ByteArray.size]
  have hq : (q ++ 47 :: z)[q.length]? = some 47 := by simp
  have hql : q.length < (q ++ 47 :: z).length := by simp
  unfold lastB
  rcases Lib.lastIndexByte_spec ⟨(q ++ 47 :: z).toArray⟩ 47 with ⟨_, hno⟩ | ⟨i, hi, he, hc, hno⟩
  · exact absurd (hback _ hql hq) (hno q.length (by rw [hsz]; exact hql))
  · rw [he]
    rw [hsz] at hi hno
    have h1 := hat i hi hc
    rcases Nat.lt_trichotomy i q.length with h | h | h
    · exact absurd (hback _ hql hq) (hno q.length h hql)
    · rw [h]
    · exfalso
      obtain ⟨k, rfl⟩ : ∃ k, i = q.length + (k + 1) := ⟨i - q.length - 1, by omega⟩
      rw [List.getElem?_append_right (by omega)] at h1
      have e : q.length + (k + 1) - q.length = k + 1 := by omega
      rw [e, List.getElem?_cons_succ] at h1
      exact hz (List.mem_of_getElem? h1)
theorem dirB_join {q : List UInt8} (hq : q ≠ []) {z : List UInt8} (hz : (47 : UInt8) ∉ z) : dirB (joinB q z) = q := by
  unfold dirB
  rw [joinB_app hq, lastB_app q z hz]
  have : (max 0 (q.length : Int)).toNat = q.length := by omega
  rw [this]
  simp
theorem baseB_join {q : List UInt8} (hq : q ≠ []) {z : List UInt8} (hz : (47 : UInt8) ∉ z) : baseB (joinB q z) = z := by
  unfold baseB
  rw [joinB_app hq, lastB_app q z hz]
  have : ((q.length : Int) + 1).toNat = q.length + 1 := by omega
  rw [this]
  simp
end Go.Proofs.YtgpidbdgodgefaaDoor
