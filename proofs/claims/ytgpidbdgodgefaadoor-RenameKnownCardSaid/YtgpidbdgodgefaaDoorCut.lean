/- The plain law of Split: between the slashes. No condition. -/
import Derived.Test.YtgpidbdgodgefaaDoorName
namespace Go.Proofs.YtgpidbdgodgefaaDoor
open Go.RowKit

def consHead (c : UInt8) : List (List UInt8) → List (List UInt8)
  | h :: t => (c :: h) :: t
  | [] => [[c]]
/-- What lies between slashes. -/
def cutB : List UInt8 → List (List UInt8)
  | [] => [[]]
  | c :: l => if c = 47 then [] :: cutB l else consHead c (cutB l)
theorem splitK_cons (c : UInt8) (hc : c ≠ 47) : ∀ (k : Nat) (l : List UInt8), Lib.splitK [47] 0 k (c :: l) = consHead c (Lib.splitK [47] 0 k l)
  | 0, _ => rfl
  | k + 1, l => by
    have hge := Lib.indexByte_ge l 47
    have h1 : Lib.index (c :: l) [47] = if Lib.indexByte l 47 == -1 then -1 else Lib.indexByte l 47 + 1 := by
      rw [Lib.index_one]
      show (if (c == 47) = true then (0 : Int) else _) = _
      rw [if_neg (by simpa using hc)]
    have h2 : Lib.index l [47] = Lib.indexByte l 47 := Lib.index_one l 47
    unfold Lib.splitK
    rw [h1, h2]
    by_cases he : Lib.indexByte l 47 = -1
    · rw [he]
      rfl
    · have e1 : (Lib.indexByte l 47 == -1) = false := by simp [he]
      have e2 : (Lib.indexByte l 47 + 1 == -1) = false := by simp; omega
      rw [e1]
      simp only [Bool.false_eq_true, if_false, e2]
      obtain ⟨i, hi⟩ : ∃ i : Nat, Lib.indexByte l 47 = (i : Int) := ⟨(Lib.indexByte l 47).toNat, by omega⟩
      rw [hi]
      have e3 : ((i : Int) + 1).toNat = i + 1 := by omega
      rw [e3]
      simp [consHead]
theorem splitK_cut : ∀ l : List UInt8, Lib.splitK [47] 0 (l.count 47) l = cutB l
  | [] => rfl
  | c :: l => by
    unfold cutB
    by_cases hc : c = 47
    · subst hc
      rw [if_pos rfl, List.count_cons_self, ← splitK_cut l]
      have h1 : Lib.index (47 :: l) [47] = 0 := by rw [Lib.index_one]; rfl
      rw [Lib.splitK, h1]
      simp
    · rw [if_neg hc, List.count_cons_of_ne hc, splitK_cons c hc, splitK_cut l]
theorem cutB_len : ∀ l : List UInt8, (cutB l).length = l.count 47 + 1
  | [] => rfl
  | c :: l => by
    unfold cutB
    by_cases hc : c = 47
    · subst hc
      rw [if_pos rfl, List.count_cons_self, List.length_cons, cutB_len l]
    · rw [if_neg hc, List.count_cons_of_ne hc, ← cutB_len l]
      cases h : cutB l with
      | nil => have := cutB_len l; rw [h] at this; simp at this
      | cons a t => rfl

theorem consHead_mem {c : UInt8} {l : List (List UInt8)} {p : List UInt8} (h : p ∈ consHead c l) : p.length ≤ 1 ∨ (∃ q ∈ l, p.length ≤ q.length + 1) := by
  cases l with
  | nil => simp only [consHead, List.mem_singleton] at h; subst h; exact .inl (Nat.le_refl _)
  | cons a t =>
    simp only [consHead, List.mem_cons] at h
    rcases h with rfl | h
    · exact .inr ⟨a, List.mem_cons_self, Nat.le_refl _⟩
    · exact .inr ⟨p, List.mem_cons_of_mem _ h, Nat.le_succ _⟩
theorem cutB_small : ∀ (l : List UInt8), ∀ p ∈ cutB l, p.length ≤ l.length
  | [], p, h => by
    simp only [cutB, List.mem_singleton] at h
    subst h
    exact Nat.le_refl _
  | c :: l, p, h => by
    unfold cutB at h
    by_cases hc : c = 47
    · rw [if_pos hc, List.mem_cons] at h
      rcases h with rfl | h
      · exact Nat.zero_le _
      · exact Nat.le_succ_of_le (cutB_small l p h)
    · rw [if_neg hc] at h
      rcases consHead_mem h with h1 | ⟨q, hq, h1⟩
      · simp only [List.length_cons]; omega
      · have := cutB_small l q hq
        simp only [List.length_cons]; omega
def strV (l : List UInt8) : Value := .string ⟨l.toArray⟩
theorem split_cells (s : List UInt8) : (Lib.splitB ⟨#[47]⟩ 0 (Lib.countB ⟨s.toArray⟩ ⟨#[47]⟩) ⟨s.toArray⟩).map Value.string = (cutB s).map strV := by
  have h1 := Lib.splitB_data ⟨#[47]⟩ 0 (Lib.countB ⟨s.toArray⟩ ⟨#[47]⟩) ⟨s.toArray⟩
  have h2 : Lib.countB ⟨s.toArray⟩ ⟨#[47]⟩ = s.count 47 := Lib.count_one 47 s
  rw [h2] at h1 ⊢
  have h3 : (Lib.splitB ⟨#[47]⟩ 0 (s.count 47) ⟨s.toArray⟩).map (·.data.toList) = cutB s := h1.trans (splitK_cut s)
  rw [← h3, List.map_map]
  rfl
theorem split_count (s : List UInt8) : Lib.countB ⟨s.toArray⟩ ⟨#[47]⟩ + 1 = (cutB s).length := by
  rw [cutB_len]
  exact congrArg (· + 1) (Lib.count_one 47 s)

/-- Why a text is no path; 0: it is one. -/
def errN (s : List UInt8) : Int := if 120 < s.length then 12 else if (0 : UInt8) ∈ s then 1 else if (cutB s).any (fun p => decide (24 < p.length)) then 12 else 0
/-- The parts that are not empty. -/
def segs (l : List (List UInt8)) : List (List UInt8) := l.filter fun p => !p.isEmpty
theorem segs_take (l : List (List UInt8)) (k : Nat) (h : k < l.length) : segs (l.take (k + 1)) = if l[k].isEmpty then segs (l.take k) else segs (l.take k) ++ [l[k]] := by
  unfold segs
  rw [List.take_succ_eq_append_getElem h, List.filter_append]
  cases hk : l[k].isEmpty <;> simp [hk]
theorem segs_le (l : List (List UInt8)) : (segs l).length ≤ l.length := List.length_filter_le _ _
end Go.Proofs.YtgpidbdgodgefaaDoor
