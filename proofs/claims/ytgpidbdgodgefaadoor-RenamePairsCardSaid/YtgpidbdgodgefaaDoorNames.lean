/- The contracts of name.Join, Below, Dir, Base and Right. Conditions: as the theorems name them. -/
import Derived.Test.YtgpidbdgodgefaaDoorBase
import Derived.Test.YtgpidbdgodgefaaDoorShelf
import Derived.Shelf.Spec.SlicesGrow
namespace Go.Proofs.YtgpidbdgodgefaaDoor
open Go.RowKit

def joinB (d s : List UInt8) : List UInt8 := if d = [] then s else (d ++ [47]) ++ s
def belowB (p q : List UInt8) : Bool := if p = [] then q != [] else Lib.hasPrefix q (p ++ [47])
/-- Where the last slash is; -1: nowhere. -/
def lastB (p : List UInt8) : Int := Lib.lastIndexByte ⟨p.toArray⟩ 47
def dirB (p : List UInt8) : List UInt8 := p.take (max 0 (lastB p)).toNat
def baseB (p : List UInt8) : List UInt8 := p.drop (lastB p + 1).toNat

set_option maxHeartbeats 400000 in
theorem join_any (d s : List UInt8) (w : World) (h : d.length + 1 + s.length ≤ 9223372036854775807) :
    Calls Tryd.prog 17 #[.string ⟨d.toArray⟩, .string ⟨s.toArray⟩] w fun e w' => e = .returned (.string ⟨(joinB d s).toArray⟩) ∧ w = w' := by
  cases d with
  | nil =>
    have hj : joinB [] s = s := rfl
    rw [hj]
    go_enter Tryd.func17, Tryd.ntmps17
    go_wp2
    go_ret
    exact ⟨rfl, rfl⟩
  | cons x xs =>
    have hj : joinB (x :: xs) s = ((x :: xs) ++ [47]) ++ s := rfl
    rw [hj]
    have hc1 := run_cat (x :: xs) [47] (by simp at h ⊢; omega)
    have hc2 := run_cat ((x :: xs) ++ [47]) s (by simp at h ⊢; omega)
    have hne : (x :: xs).isEmpty = false := rfl
    generalize (x :: xs) = l at *
    go_enter Tryd.func17, Tryd.ntmps17
    go_wp2
    go_ret
    exact ⟨by simp, rfl⟩

theorem hasPrefix_any (q p : List UInt8) (w : World) : Calls Tryd.prog 54 #[.string ⟨q.toArray⟩, .string ⟨p.toArray⟩] w fun e w' => e = .returned (.bool (Lib.hasPrefix q p)) ∧ w = w' :=
  (Tryd.strings_HasPrefix ⟨q.toArray⟩ ⟨p.toArray⟩ w).mono fun _ _ h => ⟨h.1, h.2.symm⟩

set_option maxHeartbeats 400000 in
theorem below_any (p q : List UInt8) (w : World) (h : p.length + 1 ≤ 9223372036854775807) :
    Calls Tryd.prog 20 #[.string ⟨p.toArray⟩, .string ⟨q.toArray⟩] w fun e w' => e = .returned (.bool (belowB p q)) ∧ w = w' := by
  cases p with
  | nil =>
    have hj : belowB [] q = (!q.isEmpty) := by unfold belowB; cases q <;> rfl
    rw [hj]
    go_enter Tryd.func20, Tryd.ntmps20
    go_wp2
    go_ret
    exact ⟨by simp, rfl⟩
  | cons x xs =>
    have hj : belowB (x :: xs) q = Lib.hasPrefix q ((x :: xs) ++ [47]) := rfl
    rw [hj]
    have hc1 := run_cat (x :: xs) [47] (by simp at h ⊢; omega)
    have hne : (x :: xs).isEmpty = false := rfl
    generalize (x :: xs) = l at *
    go_enter Tryd.func20, Tryd.ntmps20
    go_wp2_with fail
    refine (hasPrefix_any q (l ++ [47]) w).mono ?_
    rintro e w' ⟨rfl, rfl⟩
    go_wp2
    go_ret
    exact ⟨by simp, rfl⟩

theorem bytes_take (p : List UInt8) (n : Nat) : (⟨p.toArray⟩ : ByteArray).extract 0 n = ⟨(p.take n).toArray⟩ := by
  refine ByteArray.ext ?_
  simp [ByteArray.data_extract]
theorem bytes_drop (p : List UInt8) (n : Nat) : (⟨p.toArray⟩ : ByteArray).extract n p.length = ⟨(p.drop n).toArray⟩ := by
  refine ByteArray.ext ?_
  simp [ByteArray.data_extract]
  exact List.take_of_length_le (by simp)
theorem lastB_bound (p : List UInt8) : -1 ≤ lastB p ∧ lastB p < p.length := by
  rcases Lib.lastIndexByte_spec ⟨p.toArray⟩ 47 with ⟨h, _⟩ | ⟨i, hi, h, _⟩
  · unfold lastB; rw [h]; omega
  · unfold lastB
    rw [h]
    have : i < p.length := by simpa [ByteArray.size] using hi
    omega

set_option maxHeartbeats 400000 in
theorem dir_any (p : List UInt8) (w : World) (h : p.length < 4611686018427387904) :
    Calls Tryd.prog 21 #[.string ⟨p.toArray⟩] w fun e w' => e = .returned (.string ⟨(dirB p).toArray⟩) ∧ w = w' := by
  obtain ⟨hb1, hb2⟩ := lastB_bound p
  have HL := Lib.hid (Tryd.strings_LastIndexByte ⟨p.toArray⟩ 47 (by simpa [ByteArray.size] using h) w)
  have HD := Lib.hid (show dirB p = p.take (max 0 (lastB p)).toNat from rfl)
  have hlb : Lib.lastIndexByte ⟨p.toArray⟩ 47 = lastB p := rfl
  go_enter Tryd.func21, Tryd.ntmps21
  go_wp2_with fail
  refine HL.out.mono ?_
  rintro e w' ⟨rfl, rfl⟩
  rw [hlb]
  clear hlb HL
  generalize lastB p = i at *
  go_wp2_with fail
  go_ret
  rw [HD.out, ← bytes_take]
  exact ⟨rfl, rfl⟩

set_option maxHeartbeats 400000 in
theorem base_any (p : List UInt8) (w : World) (h : p.length < 4611686018427387904) :
    Calls Tryd.prog 22 #[.string ⟨p.toArray⟩] w fun e w' => e = .returned (.string ⟨(baseB p).toArray⟩) ∧ w = w' := by
  obtain ⟨hb1, hb2⟩ := lastB_bound p
  have HL := Lib.hid (Tryd.strings_LastIndexByte ⟨p.toArray⟩ 47 (by simpa [ByteArray.size] using h) w)
  have HD := Lib.hid (show baseB p = p.drop (lastB p + 1).toNat from rfl)
  have hlb : Lib.lastIndexByte ⟨p.toArray⟩ 47 = lastB p := rfl
  go_enter Tryd.func22, Tryd.ntmps22
  go_wp2_with fail
  refine HL.out.mono ?_
  rintro e w' ⟨rfl, rfl⟩
  rw [hlb]
  clear hlb HL
  generalize lastB p = i at *
  go_wp2_with fail
  go_ret
  rw [HD.out, ← bytes_drop]
  exact ⟨rfl, rfl⟩

/-- Which names may be. -/
def rightNm (s : List UInt8) : Bool := !s.isEmpty && (decide (s.length ≤ 24) && (decide ((0 : UInt8) ∉ s) && (decide ((47 : UInt8) ∉ s) && (s != [46] && s != [46, 46]))))
theorem indexByte_neg (l : List UInt8) (c : UInt8) : Lib.indexByte l c < 0 ↔ c ∉ l := by
  induction l with
  | nil => simp [Lib.indexByte]
  | cons b l ih =>
    have hge := Lib.indexByte_ge l c
    unfold Lib.indexByte
    by_cases hb : b = c
    · subst hb; simp
    · have h1 : (b == c) = false := by simp [hb]
      rw [h1]
      simp only [Bool.false_eq_true, if_false, List.mem_cons, not_or]
      by_cases h2 : Lib.indexByte l c = -1
      · have h3 : (Lib.indexByte l c == -1) = true := by simp [h2]
        rw [h3]
        simp only [if_true]
        have := ih.1 (by omega)
        exact ⟨fun _ => ⟨fun e => hb e.symm, this⟩, fun _ => by decide⟩
      · have h3 : (Lib.indexByte l c == -1) = false := by simp [h2]
        rw [h3]
        simp only [Bool.false_eq_true, if_false]
        constructor
        · intro h; omega
        · rintro ⟨_, h⟩
          have := ih.2 h
          omega
theorem index_any (s : List UInt8) (c : Nat) (_hc : c < 256) (w : World) :
    Calls Tryd.prog 56 #[.string ⟨s.toArray⟩, .int .u8 c] w fun e w' => (∃ i : Int, e = .returned (.int .i64 i) ∧ (i < 0 ↔ UInt8.ofNat c ∉ s)) ∧ w = w' := by
  refine (Tryd.strings_IndexByte ⟨s.toArray⟩ c w).mono ?_
  rintro e w' ⟨rfl, rfl⟩
  exact ⟨⟨_, rfl, indexByte_neg s (UInt8.ofNat c)⟩, rfl⟩

set_option maxHeartbeats 1000000 in
theorem nright_any (s : List UInt8) (w : World) (h : s.length ≤ 9223372036854775807) :
    Calls Tryd.prog 24 #[.string ⟨s.toArray⟩] w fun e w' => e = .returned (.bool (rightNm s)) ∧ w = w' := by
  have HR := Lib.hid (show rightNm s = (!s.isEmpty && (decide (s.length ≤ 24) && (decide ((0 : UInt8) ∉ s) && (decide ((47 : UInt8) ∉ s) && (s != [46] && s != [46, 46]))))) from rfl)
  go_enter Tryd.func24, Tryd.ntmps24
  cases he : s.isEmpty with
  | true =>
    go_wp2
    go_ret
    rw [HR.out, he]
    exact ⟨rfl, rfl⟩
  | false =>
    by_cases hl : s.length ≤ 24
    case neg =>
      have hl1 : decide ((s.length : Int) ≤ 24) = false := by simp; omega
      go_wp2
      go_ret
      rw [HR.out, he]
      exact ⟨by simp; omega, rfl⟩
    have hl1 : decide ((s.length : Int) ≤ 24) = true := by simp; omega
    go_wp2_with fail
    refine (index_any s 0 (by decide) w).mono ?_
    rintro e w' ⟨⟨i, rfl, hi⟩, rfl⟩
    by_cases hi0 : i < 0
    case neg =>
      have hz : ¬ (0 : UInt8) ∉ s := fun hh => hi0 (hi.2 hh)
      have HZ := Lib.hid hz
      clear hi hz
      go_wp2
      go_ret
      rw [HR.out, he]
      have := HZ.out
      exact ⟨by simp_all, rfl⟩
    have HZ := Lib.hid (hi.1 hi0)
    clear hi
    go_wp2_with fail
    refine (index_any s 47 (by decide) w).mono ?_
    rintro e w' ⟨⟨j, rfl, hj⟩, rfl⟩
    by_cases hj0 : j < 0
    case neg =>
      have hz : ¬ (47 : UInt8) ∉ s := fun hh => hj0 (hj.2 hh)
      have HZ2 := Lib.hid hz
      clear hj hz
      go_wp2
      go_ret
      rw [HR.out, he]
      have := HZ2.out
      exact ⟨by simp_all, rfl⟩
    have HZ2 := Lib.hid (hj.1 hj0)
    clear hj
    have hne1 : rightNm s = (s != [46] && s != [46, 46]) := by
      have h0 : (0 : UInt8) ∉ s := HZ.out
      have h47 : (47 : UInt8) ∉ s := HZ2.out
      rw [HR.out, he]
      simp [hl, h0, h47]
    have HN := Lib.hid hne1
    clear hne1 HR HZ HZ2
    cases h1 : (s == [46]) with
    | true =>
      go_wp2
      go_ret
      rw [HN.out]
      exact ⟨by simp [bne, h1], rfl⟩
    | false =>
      cases h2 : (s == [46, 46]) with
      | true =>
        go_wp2
        go_ret
        rw [HN.out]
        exact ⟨by simp [bne, h2], rfl⟩
      | false =>
        go_wp2
        go_ret
        rw [HN.out]
        exact ⟨by simp [bne, h1, h2], rfl⟩
end Go.Proofs.YtgpidbdgodgefaaDoor
/- The plain law of Split: between the slashes. No condition. -/
namespace Go.Proofs.YtgpidbdgodgefaaDoor
open Go.RowKit

def consHead (c : UInt8) : List (List UInt8) → List (List UInt8)
  | h :: t => (c :: h) :: t
  | [] => [[c]]
/-- What lies between slashes. -/
def cutB : List UInt8 → List (List UInt8)
  | [] => [[]]
  | c :: l => if c = 47 then [] :: cutB l else consHead c (cutB l)
theorem splitK_cons (c : UInt8) (hc : c ≠ 47) : ∀ (k : Nat) (l : List UInt8), Lib.splitK [47] 0 k (c :: l) = consHead c (Lib.splitK [47] 0 k l)
  | 0, _ => rfl
  | k + 1, l => by
    have hge := Lib.indexByte_ge l 47
    have h1 : Lib.index (c :: l) [47] = if Lib.indexByte l 47 == -1 then -1 else Lib.indexByte l 47 + 1 := by
      rw [Lib.index_one]
      show (if (c == 47) = true then (0 : Int) else _) = _
      rw [if_neg (by simpa using hc)]
    have h2 : Lib.index l [47] = Lib.indexByte l 47 := Lib.index_one l 47
    unfold Lib.splitK
    rw [h1, h2]
    by_cases he : Lib.indexByte l 47 = -1
    · rw [he]
      rfl
    · have e1 : (Lib.indexByte l 47 == -1) = false := by simp [he]
      have e2 : (Lib.indexByte l 47 + 1 == -1) = false := by simp; omega
      rw [e1]
      simp only [Bool.false_eq_true, if_false, e2]
      obtain ⟨i, hi⟩ : ∃ i : Nat, Lib.indexByte l 47 = (i : Int) := ⟨(Lib.indexByte l 47).toNat, by omega⟩
      rw [hi]
      have e3 : ((i : Int) + 1).toNat = i + 1 := by omega
      rw [e3]
      simp [consHead]
theorem splitK_cut : ∀ l : List UInt8, Lib.splitK [47] 0 (l.count 47) l = cutB l
  | [] => rfl
  | c :: l => by
    unfold cutB
    by_cases hc : c = 47
    · subst hc
      rw [if_pos rfl, List.count_cons_self, ← splitK_cut l]
      have h1 : Lib.index (47 :: l) [47] = 0 := by rw [Lib.index_one]; rfl
      rw [Lib.splitK, h1]
      simp
    · rw [if_neg hc, List.count_cons_of_ne hc, splitK_cons c hc, splitK_cut l]
theorem cutB_len : ∀ l : List UInt8, (cutB l).length = l.count 47 + 1
  | [] => rfl
  | c :: l => by
    unfold cutB
    by_cases hc : c = 47
    · subst hc
      rw [if_pos rfl, List.count_cons_self, List.length_cons, cutB_len l]
    · rw [if_neg hc, List.count_cons_of_ne hc, ← cutB_len l]
      cases h : cutB l with
      | nil => have := cutB_len l; rw [h] at this; simp at this
      | cons a t => rfl

theorem consHead_mem {c : UInt8} {l : List (List UInt8)} {p : List UInt8} (h : p ∈ consHead c l) : p.length ≤ 1 ∨ (∃ q ∈ l, p.length ≤ q.length + 1) := by
  cases l with
  | nil => simp only [consHead, List.mem_singleton] at h; subst h; exact .inl (Nat.le_refl _)
  | cons a t =>
    simp only [consHead, List.mem_cons] at h
    rcases h with rfl | h
    · exact .inr ⟨a, List.mem_cons_self, Nat.le_refl _⟩
    · exact .inr ⟨p, List.mem_cons_of_mem _ h, Nat.le_succ _⟩
theorem cutB_small : ∀ (l : List UInt8), ∀ p ∈ cutB l, p.length ≤ l.length
  | [], p, h => by
    simp only [cutB, List.mem_singleton] at h
    subst h
    exact Nat.le_refl _
  | c :: l, p, h => by
    unfold cutB at h
    by_cases hc : c = 47
    · rw [if_pos hc, List.mem_cons] at h
      rcases h with rfl | h
      · exact Nat.zero_le _
      · exact Nat.le_succ_of_le (cutB_small l p h)
    · rw [if_neg hc] at h
      rcases consHead_mem h with h1 | ⟨q, hq, h1⟩
      · simp only [List.length_cons]; omega
      · have := cutB_small l q hq
        simp only [List.length_cons]; omega
def strV (l : List UInt8) : Value := .string ⟨l.toArray⟩
theorem split_cells (s : List UInt8) : (Lib.splitB ⟨#[47]⟩ 0 (Lib.countB ⟨s.toArray⟩ ⟨#[47]⟩) ⟨s.toArray⟩).map Value.string = (cutB s).map strV := by
  have h1 := Lib.splitB_data ⟨#[47]⟩ 0 (Lib.countB ⟨s.toArray⟩ ⟨#[47]⟩) ⟨s.toArray⟩
  have h2 : Lib.countB ⟨s.toArray⟩ ⟨#[47]⟩ = s.count 47 := Lib.count_one 47 s
  rw [h2] at h1 ⊢
  have h3 : (Lib.splitB ⟨#[47]⟩ 0 (s.count 47) ⟨s.toArray⟩).map (·.data.toList) = cutB s := h1.trans (splitK_cut s)
  rw [← h3, List.map_map]
  rfl
theorem split_count (s : List UInt8) : Lib.countB ⟨s.toArray⟩ ⟨#[47]⟩ + 1 = (cutB s).length := by
  rw [cutB_len]
  exact congrArg (· + 1) (Lib.count_one 47 s)

/-- Why a text is no path; 0: it is one. -/
def errN (s : List UInt8) : Int := if 120 < s.length then 12 else if (0 : UInt8) ∈ s then 1 else if (cutB s).any (fun p => decide (24 < p.length)) then 12 else 0
/-- The parts that are not empty. -/
def segs (l : List (List UInt8)) : List (List UInt8) := l.filter fun p => !p.isEmpty
theorem segs_take (l : List (List UInt8)) (k : Nat) (h : k < l.length) : segs (l.take (k + 1)) = if l[k].isEmpty then segs (l.take k) else segs (l.take k) ++ [l[k]] := by
  unfold segs
  rw [List.take_succ_eq_append_getElem h, List.filter_append]
  cases hk : l[k].isEmpty <;> simp [hk]
theorem segs_le (l : List (List UInt8)) : (segs l).length ≤ l.length := List.length_filter_le _ _
end Go.Proofs.YtgpidbdgodgefaaDoor
/- The contract of name.Split. Conditions: as the theorems name them. -/
namespace Go.Proofs.YtgpidbdgodgefaaDoor
open Go.RowKit

theorem infoStr : (Tryd.prog.info? 9).map (fun i => (i.zero, i.size, i.bytes)) = some (some (.string ByteArray.empty), 1, 16) := by kernel_rfl
theorem owns_from {w : World} {base base' : Nat} {e : TypeId} {size : Nat} {v : Value} {n : Nat} {xs : List Value} (h : w.ownsRow base e size v n xs) (hb : base' ≤ base) : w.ownsRow base' e size v n xs := by
  obtain ⟨h1, h2 | ⟨g, cap, cur, e1, e2, h⟩⟩ := h
  · exact ⟨h1, .inl h2⟩
  · exact ⟨h1, .inr ⟨g, cap, cur, e1, Nat.le_trans hb e2, h⟩⟩
/-- What Split comes to. -/
def SplitEnd (w : World) (s : List UInt8) (e : Ending) (w' : World) : Prop :=
  Kp (fun _ => False) w w' ∧
  ((errN s = 0 ∧ ∃ v, e = .returned (.tuple #[v, .int .i64 0]) ∧ w'.ownsRow w.heap.size 9 1 v (segs (cutB s)).length ((segs (cutB s)).map strV)) ∨
   (errN s ≠ 0 ∧ e = .returned (.tuple #[.slice none 0 0, .int .i64 (errN s)])))

set_option maxHeartbeats 2000000 in
set_option maxRecDepth 100000 in
theorem nsplit_any (s : List UInt8) (m : Int) (w : World) (h : s.length ≤ 9223372036854775807) (hm : w.cell? ⟨0, 0, none⟩ = some (.int .i64 m)) :
    Calls Tryd.prog 23 #[.string ⟨s.toArray⟩] w (SplitEnd w s) := by
  by_cases hl : s.length ≤ 120
  case neg =>
    have hl1 : decide ((s.length : Int) > 120) = true := by simp; omega
    have HE : Hid (errN s = 12) := by
      show _ = _
      unfold errN
      rw [if_pos (by omega)]
    go_enter Tryd.func23, Tryd.ntmps23
    have HEE : Hid (SplitEnd w s (.returned (.tuple #[.slice none 0 0, .int .i64 12])) w) := ⟨Kp.refl _ _, .inr ⟨by rw [HE.out]; decide, by rw [HE.out]⟩⟩
    go_wp2
    go_ret2
    exact HEE.out
  have hl1 : decide ((s.length : Int) > 120) = false := by simp; omega
  obtain ⟨ix, hiz0, hiz1, hiz2, hiz3⟩ := info_parts infoStr
  go_enter Tryd.func23, Tryd.ntmps23
  go_wp2_with fail
  refine (index_any s 0 (by decide) w).mono ?_
  rintro e w' ⟨⟨i, rfl, hi⟩, rfl⟩
  by_cases hi0 : i < 0
  case neg =>
    have hz : (0 : UInt8) ∈ s := Decidable.of_not_not fun hh => hi0 (hi.2 hh)
    have HE : Hid (errN s = 1) := by
      show _ = _
      unfold errN
      rw [if_neg (by omega), if_pos hz]
    have hi1 : decide (i ≥ 0) = true := by simp; omega
    have HEE : Hid (SplitEnd w s (.returned (.tuple #[.slice none 0 0, .int .i64 1])) w) := ⟨Kp.refl _ _, .inr ⟨by rw [HE.out]; decide, by rw [HE.out]⟩⟩
    clear hz hi HE
    go_wp2
    go_ret2
    exact HEE.out
  have hi1 : decide (i ≥ 0) = false := by simp; omega
  have HE : Hid (errN s = if (cutB s).any (fun p => decide (24 < p.length)) then 12 else 0) := by
    show _ = _
    unfold errN
    rw [if_neg (by omega), if_neg (show (0 : UInt8) ∉ s from hi.1 hi0)]
  clear hi
  have hc := Tryd.strings_Split ⟨s.toArray⟩ ⟨#[47]⟩ m w (by show s.toArray.size < _; simp; omega) hm (by decide)
  rw [split_cells, split_count] at hc
  have HC := Lib.hid hc
  have HNL := Lib.hid (show (cutB s).length ≤ 121 by rw [cutB_len]; have := List.count_le_length (a := 47) (l := s); omega)
  clear hc
  generalize hps : cutB s = ps at *
  have HPS := Lib.hid hps
  clear hps
  go_wp2_with fail
  refine HC.out.mono ?_
  rintro e w1 ⟨rfl, hw1⟩
  have kp1 : Kp (fun _ => False) w w1 := by rw [hw1]; exact (Kp.refl _ w).alloc _
  have hpc : ∀ k (hk : k < ps.length), w1.cell? ⟨w.heap.size, k, none⟩ = some (strV ps[k]) := fun k hk => by
    rw [hw1]
    have hh := hp_new w (.cells (ps.map strV).toArray 9)
    simp only [World.cell?, hh]
    simp [hk]
  have HK1 := Lib.hid kp1; have HPC := Lib.hid hpc
  clear kp1 hpc hw1 HC
  go_wp2_with fail
  go_loopw [4, 18] (fun v i wr => ∃ k : Nat, i = .int .i64 k ∧ k ≤ ps.length ∧ Hid (∀ p ∈ ps.take k, p.length ≤ 24) ∧ Hid (wr.ownsRow w1.heap.size 9 1 v (segs (ps.take k)).length ((segs (ps.take k)).map strV)) ∧ Hid (Kp (fun _ => False) w1 wr)) (fun _ i _ => ps.length - (intOf i).toNat)
  case atStart => exact ⟨0, rfl, Nat.zero_le _, Lib.hid (by simp), Lib.hid (World.ownsRow_nil _ _ _ _), Lib.hid (Kp.refl _ _)⟩
  case round =>
    obtain ⟨k, rfl, hk, HL, HO, HKw⟩ := hrel
    have hnl := HNL.out
    by_cases hlt : k < ps.length
    · have hcell := HKw.out.cell (HPC.out k hlt) id
      have hst := segs_take ps k hlt
      have htk : ∀ p ∈ ps.take (k + 1), p ∈ ps.take k ∨ p = ps[k] := fun p hp => by
        rw [List.take_succ_eq_append_getElem hlt, List.mem_append] at hp
        simpa using hp
      have hmem : ps[k] ∈ ps := List.getElem_mem hlt
      have HST := Lib.hid hst; have HTK := Lib.hid htk; have HMEM := Lib.hid hmem
      clear hst htk hmem
      unfold strV at hcell
      generalize ps[k] = p at *
      by_cases h24 : 24 < p.length
      · have h24q : decide ((p.length : Int) > 24) = true := by simp; omega
        have HE2 : Hid (errN s = 12) := by
          show _ = _
          rw [HE.out, if_pos (List.any_eq_true.2 ⟨p, HMEM.out, by simpa using h24⟩)]
        have HEE : Hid (SplitEnd w s (.returned (.tuple #[.slice none 0 0, .int .i64 12])) wr) := ⟨HK1.out.trans HKw.out, .inr ⟨by rw [HE2.out]; decide, by rw [HE2.out]⟩⟩
        clear HE2 HST HTK HMEM
        go_wp2
        go_ret2
        exact HEE.out
      · have h24q : decide ((p.length : Int) > 24) = false := by simp; omega
        have HL2 : Hid (∀ p ∈ ps.take (k + 1), p.length ≤ 24) := fun q hq => by
          rcases HTK.out q hq with h | h
          · exact HL.out q h
          · rw [h]; omega
        cases hemp : p.isEmpty with
        | true =>
          have HST2 : Hid (segs (ps.take (k + 1)) = segs (ps.take k)) := by show _ = _; rw [HST.out, hemp]; rfl
          clear HST HTK HMEM
          go_wp2
          refine ⟨⟨k + 1, by go_num, by omega, HL2, ?_, HKw⟩, by simp [intOf]; omega⟩
          rw [HST2.out]
          exact HO
        | false =>
          have HST2 : Hid (segs (ps.take (k + 1)) = segs (ps.take k) ++ [p]) := by show _ = _; rw [HST.out, hemp]; rfl
          have HSL := Lib.hid (show (segs (ps.take k)).length ≤ 121 by have h1 := segs_le (ps.take k); have h2 := HNL.out; have h3 : (ps.take k).length ≤ ps.length := (by simp; omega); omega)
          have hww : w1.heap.size ≤ wr.heap.size := HKw.out.size
          have HWW := Lib.hid hww
          clear HST HTK HMEM hww
          generalize segs (ps.take k) = qs at *
          have HOX := Lib.hid (HO.out.alloc (.cells #[.string ⟨p.toArray⟩] 9))
          have kx : Kp (fun _ => False) w1 (wr.alloc (.cells #[.string ⟨p.toArray⟩] 9)) := HKw.out.alloc _
          have HKX := Lib.hid kx
          have HNEW := Lib.hid (hp_new wr (.cells #[.string ⟨p.toArray⟩] 9))
          clear kx
          have hbase : w1.heap.size ≤ (wr.alloc (.cells #[.string ⟨p.toArray⟩] 9)).heap.size := by simp; have := HWW.out; omega
          go_wp2_with (at_builtin; refine wpList_append_own _ rfl (.tmp 27) (.tmp 29) 28 rfl w1.heap.size 9 ix (.string ByteArray.empty) 1 16 Tryd.underlying28 hiz0 hiz1 hiz2 hiz3 rfl (by decide) _ qs.length (qs.map strV) rfl HOX.out ⟨wr.heap.size, 0, none⟩ 1 1 [strV p] rfl rfl (fun j u hj => ?_) (fun u hu => ?_) ?_ ?_ hbase ?_)
          · cases j with
            | zero =>
              have hu : strV p = u := by simpa using hj
              subst hu
              exact (cell_one HNEW.out).1
            | succ j => simp at hj
          · have hu : u = strV p := by simpa using hu
            subst hu
            rfl
          · have := HSL.out
            unfold maxLen
            omega
          · have := HSL.out
            omega
          intro v' w6 hown' hgr _
          have k6 := HKX.out.grown hgr (fun b hb => .inr (HOX.out.lt b hb).1)
          have HK6 := Lib.hid k6
          have HO6 : Hid (w6.ownsRow w1.heap.size 9 1 v' (qs ++ [p]).length ((qs ++ [p]).map strV)) := by
            show World.ownsRow _ _ _ _ _ _ _
            simpa using hown'
          clear hown' hgr k6 HOX HKX HNEW HSL HO
          go_wp2
          refine ⟨⟨k + 1, by go_num, by omega, HL2, ?_, HK6⟩, by simp [intOf]; omega⟩
          rw [HST2.out]
          exact HO6
    · have hL : ps.any (fun p => decide (24 < p.length)) = false := by
        rw [List.any_eq_false]
        intro p hp
        have := HL.out p (by rw [List.take_of_length_le (by omega)]; exact hp)
        simp
        omega
      have hE0 : errN s = 0 := by rw [HE.out, hL]; rfl
      have hO := HO.out
      rw [List.take_of_length_le (by omega)] at hO
      have HO2 := Lib.hid (owns_from hO HK1.out.size)
      have HKE := Lib.hid (HK1.out.trans HKw.out)
      have HE0 := Lib.hid hE0
      clear hL hE0 hO HO HL
      go_wp2
      go_ret2
      rw [← HPS.out] at HO2
      exact ⟨HKE.out, .inl ⟨HE0.out, _, rfl, HO2.out⟩⟩
end Go.Proofs.YtgpidbdgodgefaaDoor
/- The contract of slices.Grow at strings, out of the shelf's. Conditions: as the theorem names them. -/
namespace Go.Proofs.YtgpidbdgodgefaaDoor
open Go.Shelf Go.RowKit

def ren117 : Go.Shelf.Ren := ⟨fun | 4 => 117 | n => n, fun | 22 => 28 | 25 => 9 | n => n, fun | n => n⟩
theorem laysGrow : Lays8.n4 Tryd.prog ren117 := {
  mixed := by kernel_rfl
  f4 := ⟨ "slices.Grow[[]string,string]", by decide, Tryd.func117.trans (congrArg some (by kernel_rfl))⟩
  t0 := Tryd.underlying0
  a0 := Tryd.isAgg0
  z0 := Tryd.sizeOf0
  v0 := Tryd.zeroValue0
  t3 := Tryd.underlying3
  a3 := Tryd.isAgg3
  z3 := Tryd.sizeOf3
  v3 := Tryd.zeroValue3
  t4 := Tryd.underlying4
  a4 := Tryd.isAgg4
  z4 := Tryd.sizeOf4
  v4 := Tryd.zeroValue4
  t9 := Tryd.underlying9
  a9 := Tryd.isAgg9
  z9 := Tryd.sizeOf9
  v9 := Tryd.zeroValue9
  t20 := Tryd.underlying20
  a20 := Tryd.isAgg20
  z20 := Tryd.sizeOf20
  v20 := Tryd.zeroValue20
  t22 := Tryd.underlying28
  a22 := Tryd.isAgg28
  z22 := Tryd.sizeOf28
  v22 := Tryd.zeroValue28 }

/-- Room for n strings: none, where n is none; otherwise a new row. -/
theorem grow_any (n : Nat) (w : World) (hn : n ≤ 1000000) :
    Calls Tryd.prog 117 #[.slice none 0 0, .int .i64 n] w fun e w' =>
      ∃ v, e = .returned v ∧ w'.ownsRow w.heap.size 9 1 v 0 [] ∧ Kp (fun _ => False) w w' := by
  by_cases h0 : n = 0
  · subst h0
    refine (Any8.slices_Grow_room laysGrow none 0 0 0 w (Nat.le_refl _) (by decide) (by decide) (by decide)).mono ?_
    rintro e w' ⟨rfl, rfl⟩
    exact ⟨_, rfl, World.ownsRow_nil _ _ _ _, Kp.refl _ _⟩
  · obtain ⟨i, h1, h2, h3, h4⟩ := info_parts infoStr
    refine (Any8.slices_Grow_grow laysGrow i (.string ByteArray.empty) h1 h2 (by rw [h3]; decide) none 0 0 n [] w (Nat.le_refl _) (by omega) (by rw [h4]; omega) (by omega) (by simp) (fun _ => rfl) (fun a h => by cases h)).mono ?_
    rintro e w' ⟨rfl, rfl⟩
    have hr : ren117.t 25 = 9 := rfl
    rw [hr]
    have hg : 0 + n ≤ grownCap w (0 + n) 0 9 := grownCap_ge w _ _ _
    have hm : grownCap w (0 + n) 0 9 ≤ maxLen := grownCap_le_maxLen _ _ _ _ (by unfold maxLen; omega)
    have hz : (Value.string ByteArray.empty).cells.size = 1 := rfl
    generalize grownCap w (0 + n) 0 9 = C at *
    refine ⟨_, rfl, ⟨by simp, .inr ⟨w.heap.size, C, _, rfl, Nat.le_refl _, hp_new' _ _ (by rfl), Nat.zero_le _, hm, ?_, rfl⟩⟩, ((Kp.refl _ _).drew).alloc _⟩
    simp only [Array.size_append, Builtin.zeroCells, Array.size_map, Array.size_range, hz, List.size_toArray, List.length_nil]
    omega
end Go.Proofs.YtgpidbdgodgefaaDoor
/- The contract of name.IsPath. Conditions: as the theorems name them. -/
namespace Go.Proofs.YtgpidbdgodgefaaDoor
open Go.RowKit

/-- Is it a path of a tree? -/
def isPathB (s : List UInt8) : Bool := s.isEmpty || ((cutB s).all rightNm && decide (s.length ≤ 120))

set_option maxHeartbeats 2000000 in
set_option maxRecDepth 100000 in
theorem isPath_any (s : List UInt8) (m : Int) (w : World) (h : s.length < 4294967281) (hm : w.cell? ⟨0, 0, none⟩ = some (.int .i64 m)) :
    Calls Tryd.prog 25 #[.string ⟨s.toArray⟩] w fun e w' => e = .returned (.bool (isPathB s)) ∧ Kp (fun _ => False) w w' := by
  have HR := Lib.hid (show isPathB s = (s.isEmpty || ((cutB s).all rightNm && decide (s.length ≤ 120))) from rfl)
  cases he : s.isEmpty with
  | true =>
    go_enter Tryd.func25, Tryd.ntmps25
    go_wp2
    go_ret
    rw [HR.out, he]
    exact ⟨rfl, Kp.refl _ _⟩
  | false =>
    have hc := Tryd.strings_Split ⟨s.toArray⟩ ⟨#[47]⟩ m w (by show s.toArray.size < _; simpa using h) hm (by decide)
    rw [split_cells, split_count] at hc
    have HC := Lib.hid hc
    have HNL := Lib.hid (show (cutB s).length ≤ 4294967282 by rw [cutB_len]; have := List.count_le_length (a := 47) (l := s); omega)
    have hsm : ∀ p ∈ cutB s, p.length ≤ 4294967281 := fun p hp => by
      have := cutB_small s p hp
      omega
    have HSM := Lib.hid hsm
    clear hc hsm
    generalize cutB s = ps at *
    go_enter Tryd.func25, Tryd.ntmps25
    go_wp2_with fail
    refine HC.out.mono ?_
    rintro e w1 ⟨rfl, hw1⟩
    have kp1 : Kp (fun _ => False) w w1 := by rw [hw1]; exact (Kp.refl _ w).alloc _
    have hpc : ∀ k (hk : k < ps.length), w1.cell? ⟨w.heap.size, k, none⟩ = some (strV ps[k]) := fun k hk => by
      rw [hw1]
      have hh := hp_new w (.cells (ps.map strV).toArray 9)
      simp only [World.cell?, hh]
      simp [hk]
    have HK1 := Lib.hid kp1; have HPC := Lib.hid hpc
    clear kp1 hpc hw1 HC
    go_wp2_with fail
    go_loop [10] (fun i => ∃ k : Nat, i = .int .i64 k ∧ k ≤ ps.length ∧ Hid (∀ p ∈ ps.take k, rightNm p = true)) (fun i => ps.length - (intOf i).toNat)
    case atStart => exact ⟨0, rfl, Nat.zero_le _, Lib.hid (by simp)⟩
    case round =>
      obtain ⟨k, rfl, hk, HL⟩ := hrel
      have hnl := HNL.out
      by_cases hlt : k < ps.length
      · have hcell := HPC.out k hlt
        have hmem : ps[k] ∈ ps := List.getElem_mem hlt
        have htk : ∀ p ∈ ps.take (k + 1), p ∈ ps.take k ∨ p = ps[k] := fun p hp => by
          rw [List.take_succ_eq_append_getElem hlt, List.mem_append] at hp
          simpa using hp
        have HTK := Lib.hid htk; have HMEM := Lib.hid hmem
        have hpl := HSM.out _ hmem
        clear htk hmem
        unfold strV at hcell
        generalize ps[k] = p at *
        go_wp2_with fail
        refine (nright_any p w1 (by omega)).mono ?_
        rintro e w' ⟨rfl, rfl⟩
        cases hp : rightNm p with
        | true =>
          have HL2 : Hid (∀ p ∈ ps.take (k + 1), rightNm p = true) := fun q hq => by
            rcases HTK.out q hq with h | h
            · exact HL.out q h
            · rw [h]; exact hp
          clear hp HTK HMEM HL
          go_wp2
          exact ⟨⟨k + 1, by go_num, by omega, HL2⟩, by simp [intOf]; omega⟩
        | false =>
          have HF : Hid (ps.all rightNm = false) := by
            show _ = _
            rw [List.all_eq_false]
            exact ⟨p, HMEM.out, by rw [hp]; decide⟩
          clear hp HTK HMEM HL
          go_wp2
          go_ret
          rw [HR.out, he, HF.out]
          exact ⟨rfl, HK1.out⟩
      · have HT : Hid (ps.all rightNm = true) := by
          show _ = _
          rw [List.all_eq_true]
          intro p hp
          exact HL.out p (by rw [List.take_of_length_le (by omega)]; exact hp)
        clear HL
        go_wp2
        go_ret
        rw [HR.out, he, HT.out]
        exact ⟨by simp; omega, HK1.out⟩
end Go.Proofs.YtgpidbdgodgefaaDoor
