/- Plain laws of paths: what is below, what stands ahead, the last name. Conditions: as the theorems name them. -/
import Derived.Test.YtgpidbdgodgefaaDoorNames
import Derived.Deep.CutBlock
namespace Go.Proofs.YtgpidbdgodgefaaDoor
open Go.RowKit

theorem nmB_slash (k : Nat) : (47 : UInt8) ∉ nmB k := by
  unfold nmB
  split <;> decide
theorem nmB_ne (k : Nat) : nmB k ≠ [] := by
  have := (nmB_len k).1
  intro h
  rw [h] at this
  simp at this
theorem pathB_ne (n : Int) : pathB n ≠ [] := by
  have := (pathB_len n).1
  intro h
  rw [h] at this
  simp at this
theorem joinB_app {d : List UInt8} (hd : d ≠ []) (s : List UInt8) : joinB d s = d ++ 47 :: s := by
  unfold joinB
  rw [if_neg hd]
  simp
theorem joinB_ne {d : List UInt8} (hd : d ≠ []) (s : List UInt8) : joinB d s ≠ [] := by
  rw [joinB_app hd]
  simp
theorem belowB_iff {p : List UInt8} (hp : p ≠ []) (q : List UInt8) : belowB p q = true ↔ ∃ y, q = p ++ 47 :: y := by
  unfold belowB
  rw [if_neg hp]
  show (p ++ [47]).isPrefixOf q = true ↔ _
  rw [List.isPrefixOf_iff_prefix]
  constructor
  · rintro ⟨y, rfl⟩
    exact ⟨y, by simp⟩
  · rintro ⟨y, rfl⟩
    exact ⟨y, by simp⟩
theorem belowB_len {p q : List UInt8} (hp : p ≠ []) (h : belowB p q = true) : p.length < q.length := by
  obtain ⟨y, rfl⟩ := (belowB_iff hp q).1 h
  simp
theorem belowB_not {p q : List UInt8} (hp : p ≠ []) (h : q.length ≤ p.length) : belowB p q = false := by
  cases hb : belowB p q with
  | false => rfl
  | true => have := belowB_len hp hb; omega
theorem belowB_join {p : List UInt8} (hp : p ≠ []) (s : List UInt8) : belowB p (joinB p s) = true := (belowB_iff hp _).2 ⟨s, joinB_app hp s⟩
theorem belowB_trans {p q r : List UInt8} (hp : p ≠ []) (hq : q ≠ []) (h1 : belowB p q = true) (h2 : belowB q r = true) : belowB p r = true := by
  obtain ⟨y, rfl⟩ := (belowB_iff hp q).1 h1
  obtain ⟨z, rfl⟩ := (belowB_iff hq r).1 h2
  exact (belowB_iff hp _).2 ⟨y ++ 47 :: z, by simp⟩
theorem belowB_root {p : List UInt8} (hp : p ≠ []) : belowB [] p = true := by
  cases p with
  | nil => exact absurd rfl hp
  | cons x xs => rfl
/-- A name more. -/
theorem belowB_more {p x : List UInt8} (hp : p ≠ []) (hx : x ≠ []) {n : List UInt8} (hn : (47 : UInt8) ∉ n) : belowB p (joinB x n) = (belowB p x || p == x) := by
  rw [Bool.eq_iff_iff, Bool.or_eq_true, beq_iff_eq, belowB_iff hp, belowB_iff hp, joinB_app hx]
  constructor
  · rintro ⟨y, h⟩
    rcases List.append_eq_append_iff.1 h with ⟨a, h1, h2⟩ | ⟨a, h1, h2⟩
    · cases a with
      | nil => right; simpa using h1
      | cons c cs =>
        exfalso
        simp only [List.cons_append, List.cons.injEq] at h2
        refine hn ?_
        rw [h2.2]
        simp
    · cases a with
      | nil => right; simpa using h1.symm
      | cons c cs =>
        simp only [List.cons_append, List.cons.injEq] at h2
        left
        exact ⟨cs, by rw [h1, h2.1]⟩
  · rintro (⟨y, rfl⟩ | rfl)
    · exact ⟨y ++ 47 :: n, by simp⟩
    · exact ⟨n, rfl⟩
/-- The last slash. -/
theorem lastB_app (q z : List UInt8) (hz : (47 : UInt8) ∉ z) : lastB (q ++ 47 :: z) = q.length := by
  have hat : ∀ j, j < (q ++ 47 :: z).length → (((⟨(q ++ 47 :: z).toArray⟩ : ByteArray).data[j]!).toNat : Int) = 47 → (q ++ 47 :: z)[j]? = some 47 := fun j hj h => by
    have e : (⟨(q ++ 47 :: z).toArray⟩ : ByteArray).data[j]! = (q ++ 47 :: z)[j] := by
      show (q ++ 47 :: z).toArray[j]! = _
      rw [List.getElem!_toArray, List.getElem!_eq_getElem?_getD, List.getElem?_eq_getElem hj]
      rfl
    rw [e] at h
    rw [List.getElem?_eq_getElem hj]
    congr 1
    refine UInt8.toNat_inj.1 ?_
    show _ = 47
    omega
  have hback : ∀ j, j < (q ++ 47 :: z).length → (q ++ 47 :: z)[j]? = some 47 → (((⟨(q ++ 47 :: z).toArray⟩ : ByteArray).data[j]!).toNat : Int) = 47 := fun j hj h => by
    have e : (⟨(q ++ 47 :: z).toArray⟩ : ByteArray).data[j]! = (q ++ 47 :: z)[j] := by
      show (q ++ 47 :: z).toArray[j]! = _
      rw [List.getElem!_toArray, List.getElem!_eq_getElem?_getD, List.getElem?_eq_getElem hj]
      rfl
    rw [List.getElem?_eq_getElem hj] at h
    rw [e, Option.some.inj h]
    rfl
  have hsz : (⟨(q ++ 47 :: z).toArray⟩ : ByteArray).size = (q ++ 47 :: z).length := by simp [ByteArray.size]
  have hq : (q ++ 47 :: z)[q.length]? = some 47 := by simp
  have hql : q.length < (q ++ 47 :: z).length := by simp
  unfold lastB
  rcases Lib.lastIndexByte_spec ⟨(q ++ 47 :: z).toArray⟩ 47 with ⟨_, hno⟩ | ⟨i, hi, he, hc, hno⟩
  · exact absurd (hback _ hql hq) (hno q.length (by rw [hsz]; exact hql))
  · rw [he]
    rw [hsz] at hi hno
    have h1 := hat i hi hc
    rcases Nat.lt_trichotomy i q.length with h | h | h
    · exact absurd (hback _ hql hq) (hno q.length h hql)
    · rw [h]
    · exfalso
      obtain ⟨k, rfl⟩ : ∃ k, i = q.length + (k + 1) := ⟨i - q.length - 1, by omega⟩
      rw [List.getElem?_append_right (by omega)] at h1
      have e : q.length + (k + 1) - q.length = k + 1 := by omega
      rw [e, List.getElem?_cons_succ] at h1
      exact hz (List.mem_of_getElem? h1)
theorem dirB_join {q : List UInt8} (hq : q ≠ []) {z : List UInt8} (hz : (47 : UInt8) ∉ z) : dirB (joinB q z) = q := by
  unfold dirB
  rw [joinB_app hq, lastB_app q z hz]
  have : (max 0 (q.length : Int)).toNat = q.length := by omega
  rw [this]
  simp
theorem baseB_join {q : List UInt8} (hq : q ≠ []) {z : List UInt8} (hz : (47 : UInt8) ∉ z) : baseB (joinB q z) = z := by
  unfold baseB
  rw [joinB_app hq, lastB_app q z hz]
  have : ((q.length : Int) + 1).toNat = q.length + 1 := by omega
  rw [this]
  simp
end Go.Proofs.YtgpidbdgodgefaaDoor
/- Plain laws of paths that are joined of names. Conditions: as the theorems name them. -/
namespace Go.Proofs.YtgpidbdgodgefaaDoor
open Go.RowKit

theorem cut_app : ∀ (p y : List UInt8), cutB (p ++ 47 :: y) = cutB p ++ cutB y
  | [], y => by
    show cutB (47 :: y) = [[]] ++ cutB y
    rw [cutB, if_pos rfl]
    rfl
  | c :: p, y => by
    show cutB (c :: (p ++ 47 :: y)) = cutB (c :: p) ++ cutB y
    by_cases hc : c = 47
    · rw [cutB, if_pos hc, cutB, if_pos hc, cut_app p y]
      rfl
    · rw [cutB, if_neg hc, cutB, if_neg hc, cut_app p y]
      cases h : cutB p with
      | nil => have := cutB_len p; rw [h] at this; simp at this
      | cons a t => rfl
theorem cut_one : ∀ (n : List UInt8), (47 : UInt8) ∉ n → cutB n = [n]
  | [], _ => rfl
  | c :: n, h => by
    have hc : c ≠ 47 := fun e => h (by rw [e]; exact List.mem_cons_self)
    rw [cutB, if_neg hc, cut_one n (fun e => h (List.mem_cons_of_mem _ e))]
    rfl
theorem nmB_zero (k : Nat) : (0 : UInt8) ∉ nmB k := by
  unfold nmB
  split <;> decide
theorem nmB_right (k : Nat) : rightNm (nmB k) = true := by
  unfold nmB
  split <;> decide +kernel

/-- The name of a raw number. -/
def nm (g : Nat → Int) (k : Nat) : List UInt8 := nmB (g k % 6).toNat
/-- The first k names, joined. -/
def jn (g : Nat → Int) : Nat → List UInt8
  | 0 => []
  | k + 1 => joinB (jn g k) (nm g k)
def nms (g : Nat → Int) (k : Nat) : List (List UInt8) := (List.range k).map (nm g)
theorem jn_ne (g : Nat → Int) : ∀ k, jn g (k + 1) ≠ []
  | 0 => nmB_ne _
  | k + 1 => joinB_ne (jn_ne g k) _
theorem jn_one (g : Nat → Int) : jn g 1 = nm g 0 := rfl
theorem jn_more (g : Nat → Int) (k : Nat) : jn g (k + 2) = jn g (k + 1) ++ 47 :: nm g (k + 1) := joinB_app (jn_ne g k) _
theorem nm_len (g : Nat → Int) (k : Nat) : (nm g k).length ≤ 3 := (nmB_len _).2
theorem jn_len (g : Nat → Int) : ∀ k, (jn g k).length ≤ 4 * k
  | 0 => Nat.le_refl _
  | 1 => by have := nm_len g 0; rw [jn_one]; omega
  | k + 2 => by
    have h1 := jn_len g (k + 1)
    have h2 := nm_len g (k + 1)
    rw [jn_more, List.length_append, List.length_cons]
    omega
theorem jn_zero (g : Nat → Int) : ∀ k, (0 : UInt8) ∉ jn g k
  | 0 => by simp [jn]
  | 1 => nmB_zero _
  | k + 2 => by
    rw [jn_more, List.mem_append, List.mem_cons]
    rintro (h | h | h)
    · exact jn_zero g (k + 1) h
    · cases h
    · exact nmB_zero _ h
theorem nms_succ (g : Nat → Int) (k : Nat) : nms g (k + 1) = nms g k ++ [nm g k] := by
  unfold nms
  rw [List.range_succ, List.map_append]
  rfl
theorem nms_len (g : Nat → Int) (k : Nat) : (nms g k).length = k := by simp [nms]
theorem jn_cut (g : Nat → Int) : ∀ k, cutB (jn g (k + 1)) = nms g (k + 1)
  | 0 => cut_one _ (nmB_slash _)
  | k + 1 => by
    rw [jn_more, cut_app, jn_cut g k, cut_one _ (show (47 : UInt8) ∉ nm g (k + 1) from nmB_slash _), nms_succ g (k + 1)]
theorem nms_mem {g : Nat → Int} {k : Nat} {p : List UInt8} (h : p ∈ nms g k) : ∃ j, p = nm g j := by
  unfold nms at h
  rw [List.mem_map] at h
  obtain ⟨j, _, rfl⟩ := h
  exact ⟨j, rfl⟩
theorem jn_segs (g : Nat → Int) : ∀ k, segs (cutB (jn g k)) = nms g k
  | 0 => rfl
  | k + 1 => by
    rw [jn_cut]
    unfold segs
    rw [List.filter_eq_self]
    intro p hp
    obtain ⟨j, rfl⟩ := nms_mem hp
    have := nmB_ne (g j % 6).toNat
    show (!(nmB (g j % 6).toNat).isEmpty) = true
    cases h : nmB (g j % 6).toNat with
    | nil => exact absurd h this
    | cons a b => rfl
theorem jn_err (g : Nat → Int) (k : Nat) (hk : k ≤ 8) : errN (jn g k) = 0 := by
  have h1 := jn_len g k
  unfold errN
  rw [if_neg (by omega), if_neg (jn_zero g k), if_neg]
  intro h
  rw [List.any_eq_true] at h
  obtain ⟨p, hp, h2⟩ := h
  have h3 := cutB_small _ p hp
  have h4 : 24 < p.length := by simpa using h2
  cases k with
  | zero => simp [jn] at h1; have : (jn g 0).length = 0 := rfl; omega
  | succ k =>
    rw [jn_cut] at hp
    obtain ⟨j, rfl⟩ := nms_mem hp
    have := nm_len g j
    omega
theorem jn_path (g : Nat → Int) (k : Nat) (hk : k ≤ 8) : isPathB (jn g k) = true := by
  have h1 := jn_len g k
  cases k with
  | zero => rfl
  | succ k =>
    unfold isPathB
    rw [jn_cut]
    have h2 : (nms g (k + 1)).all rightNm = true := by
      rw [List.all_eq_true]
      intro p hp
      obtain ⟨j, rfl⟩ := nms_mem hp
      exact nmB_right _
    rw [h2]
    simp
    right
    omega
theorem jn_below (g : Nat → Int) (k : Nat) : belowB (jn g k) (jn g (k + 1)) = true := by
  cases k with
  | zero => exact belowB_root (nmB_ne _)
  | succ k => exact belowB_join (jn_ne g k) _
theorem lastB_none {p : List UInt8} (h : (47 : UInt8) ∉ p) : lastB p = -1 := by
  unfold lastB
  rcases Lib.lastIndexByte_spec ⟨p.toArray⟩ 47 with ⟨e, _⟩ | ⟨i, hi, _, hc, _⟩
  · exact e
  · exfalso
    have hil : i < p.length := by simpa [ByteArray.size] using hi
    have e : (⟨p.toArray⟩ : ByteArray).data[i]! = p[i] := by
      show p.toArray[i]! = _
      rw [List.getElem!_toArray, List.getElem!_eq_getElem?_getD, List.getElem?_eq_getElem hil]
      rfl
    rw [e] at hc
    have e2 : p[i] = 47 := UInt8.toNat_inj.1 (by show _ = 47; omega)
    exact h (e2 ▸ List.getElem_mem hil)
theorem jn_split (g : Nat → Int) (k : Nat) : joinB (dirB (jn g (k + 1))) (baseB (jn g (k + 1))) = jn g (k + 1) := by
  cases k with
  | zero =>
    have h : lastB (jn g 1) = -1 := lastB_none (show (47 : UInt8) ∉ nm g 0 from nmB_slash _)
    unfold dirB baseB
    rw [h]
    rfl
  | succ k =>
    have hz : (47 : UInt8) ∉ nm g (k + 1) := nmB_slash _
    show joinB (dirB (joinB (jn g (k + 1)) (nm g (k + 1)))) (baseB (joinB (jn g (k + 1)) (nm g (k + 1)))) = _
    rw [dirB_join (jn_ne g k) hz, baseB_join (jn_ne g k) hz]
    rfl
theorem below_dir {p : List UInt8} (hp : p ≠ []) : belowB p (dirB p) = false := belowB_not hp (by unfold dirB; simp; omega)
theorem dirB_len (p : List UInt8) : (dirB p).length ≤ p.length := by unfold dirB; simp; omega
theorem baseB_len (p : List UInt8) : (baseB p).length ≤ p.length := by unfold baseB; simp
theorem right_slash {s : List UInt8} (h : rightNm s = true) : (47 : UInt8) ∉ s ∧ s.length ≤ 24 := by
  unfold rightNm at h
  simp only [Bool.and_eq_true, decide_eq_true_eq] at h
  exact ⟨h.2.2.2.1, h.2.1⟩
end Go.Proofs.YtgpidbdgodgefaaDoor
/- The contracts of the law file's text (chapter 9) and of the document's RightName, Join, Below. Conditions: as the theorems name them. -/
namespace Go.Proofs.YtgpidbdgodgefaaDoor
open Go.RowKit

def words : List (List UInt8) := [[97], [98], [47], [47], [46], [46, 46], [97, 47, 98], [0], List.replicate 10 120, List.replicate 24 121, [45], [255]]
theorem words_len (r : Nat) (h : r < 12) : (words.getD r []).length ≤ 24 := by
  have : ∀ k : Fin 12, (words.getD k.val []).length ≤ 24 := by decide
  exact this ⟨r, h⟩
theorem words_at (r : Nat) (hr : r < 12) (w : World) : (Instr.index 81 (.agg #[.string ⟨#[97]⟩, .string ⟨#[98]⟩, .string ⟨#[47]⟩, .string ⟨#[47]⟩, .string ⟨#[46]⟩, .string ⟨#[46, 46]⟩, .string ⟨#[97, 47, 98]⟩, .string ⟨#[0]⟩, .string ⟨#[120, 120, 120, 120, 120, 120, 120, 120, 120, 120]⟩, .string ⟨#[121, 121, 121, 121, 121, 121, 121, 121, 121, 121, 121, 121, 121, 121, 121, 121, 121, 121, 121, 121, 121, 121, 121, 121]⟩, .string ⟨#[45]⟩, .string ⟨#[255]⟩]) (.int .i64 (r : Int))).run Tryd.prog w = .ok (.string ⟨(words.getD r []).toArray⟩) w := by
  rcases (show r = 0 ∨ r = 1 ∨ r = 2 ∨ r = 3 ∨ r = 4 ∨ r = 5 ∨ r = 6 ∨ r = 7 ∨ r = 8 ∨ r = 9 ∨ r = 10 ∨ r = 11 by omega) with rfl | rfl | rfl | rfl | rfl | rfl | rfl | rfl | rfl | rfl | rfl | rfl
  all_goals kernel_rfl
theorem byte_at (s : List UInt8) (k : Nat) (h : k < s.length) : (⟨s.toArray⟩ : ByteArray)[k]'(by simpa [ByteArray.size] using h) = s[k] := rfl

set_option maxHeartbeats 2000000 in
set_option maxRecDepth 100000 in
theorem text_any (ta : Option Addr) (tl tc : Nat) (g : Nat → Int) (w : World) (hg : ∀ i, -9223372036854775808 ≤ g i ∧ g i ≤ 9223372036854775807) (htl : tl ≤ 9223372036854775807)
    (hat : ∀ i, i < tl → ∃ b off, ta = some ⟨b, off, none⟩ ∧ w.cell? ⟨b, off + i, none⟩ = some (.int .i64 (g i))) :
    Calls Tryd.prog 26 #[.slice ta tl tc] w fun e w' => (∃ xs : List UInt8, e = .returned (.string ⟨xs.toArray⟩) ∧ xs.length ≤ 1440) ∧ w = w' := by
  have HAT := Lib.hid hat; have HG := Lib.hid hg
  clear hat hg
  go_enter Tryd.func26, Tryd.ntmps26
  go_wp2_with fail
  go_loop [3, 4] (fun v i => ∃ (k : Nat) (p : List UInt8), i = .int .i64 k ∧ v = .string ⟨p.toArray⟩ ∧ k ≤ min tl 60 ∧ p.length ≤ 24 * k) (fun _ i => 60 - (intOf i).toNat)
  case atStart => exact ⟨0, [], rfl, rfl, Nat.zero_le _, Nat.le_refl _⟩
  case round =>
    obtain ⟨k, p, rfl, rfl, hk, hpl⟩ := hrel
    by_cases h1 : k < tl
    · by_cases h2 : k < 60
      · obtain ⟨tb, off, rfl, htc⟩ := HAT.out k h1
        obtain ⟨hg1, hg2⟩ := HG.out k
        have hr0 := Int.emod_nonneg (g k) (show (12 : Int) ≠ 0 by decide)
        have hr1 := Int.emod_lt_of_pos (g k) (show (0 : Int) < 12 by decide)
        obtain ⟨r, hr⟩ : ∃ r : Nat, g k % 12 = (r : Int) := ⟨(g k % 12).toNat, by omega⟩
        have hrl : r < 12 := by omega
        clear hr0 hr1
        have hpk := pick_any (g k) 12 w (by decide) (by decide) hg1 hg2
        rw [hr] at hpk
        replace hpk := Lib.hid hpk
        clear hr
        go_wp2_with fail
        refine hpk.out.mono ?_
        rintro e w' ⟨rfl, rfl⟩
        have hix := words_at r hrl
        have hwl := words_len r hrl
        generalize words.getD r [] = x at *
        have hcat := run_cat p x (by omega)
        go_wp2
        refine ⟨⟨k + 1, p ++ x, by go_num, rfl, by omega, by simp; omega⟩, by simp [intOf]; omega⟩
      · go_wp2
        go_ret
        exact ⟨⟨p, rfl, by omega⟩, rfl⟩
    · go_wp2
      go_ret
      exact ⟨⟨p, rfl, by omega⟩, rfl⟩

theorem refJoin_any (d s : List UInt8) (w : World) (h : d.length + 1 + s.length ≤ 9223372036854775807) :
    Calls Tryd.prog 30 #[.string ⟨d.toArray⟩, .string ⟨s.toArray⟩] w fun e w' => e = .returned (.string ⟨(joinB d s).toArray⟩) ∧ w = w' := by
  cases d with
  | nil =>
    have hj : joinB [] s = s := rfl
    rw [hj]
    go_enter Tryd.func30, Tryd.ntmps30
    go_wp2
    go_ret
    exact ⟨rfl, rfl⟩
  | cons x xs =>
    have hj : joinB (x :: xs) s = ((x :: xs) ++ [47]) ++ s := rfl
    rw [hj]
    have hc1 := run_cat (x :: xs) [47] (by simp at h ⊢; omega)
    have hc2 := run_cat ((x :: xs) ++ [47]) s (by simp at h ⊢; omega)
    have hne : (x :: xs).isEmpty = false := rfl
    generalize (x :: xs) = l at *
    go_enter Tryd.func30, Tryd.ntmps30
    go_wp2
    go_ret
    exact ⟨by simp, rfl⟩

set_option maxHeartbeats 1000000 in
theorem refName_any (s : List UInt8) (w : World) (h : s.length ≤ 9223372036854775807) :
    Calls Tryd.prog 28 #[.string ⟨s.toArray⟩] w fun e w' => e = .returned (.bool (rightNm s)) ∧ w = w' := by
  have HR := Lib.hid (show rightNm s = (!s.isEmpty && (decide (s.length ≤ 24) && (decide ((0 : UInt8) ∉ s) && (decide ((47 : UInt8) ∉ s) && (s != [46] && s != [46, 46]))))) from rfl)
  go_enter Tryd.func28, Tryd.ntmps28
  go_wp2_with fail
  go_loop [3] (fun i => ∃ k : Nat, i = .int .i64 k ∧ k ≤ s.length ∧ Hid ((0 : UInt8) ∉ s.take k ∧ (47 : UInt8) ∉ s.take k)) (fun i => s.length - (intOf i).toNat)
  case atStart => exact ⟨0, rfl, Nat.zero_le _, Lib.hid (by simp)⟩
  case round =>
    obtain ⟨k, rfl, hk, HN⟩ := hrel
    by_cases hlt : k < s.length
    · have hb := byte_at s k hlt
      have hn1 := HN.out.1
      have hn2 := HN.out.2
      have htk : s.take (k + 1) = s.take k ++ [s[k]] := List.take_succ_eq_append_getElem hlt
      have hmem : s[k] ∈ s := List.getElem_mem hlt
      have HTK := Lib.hid htk; have HMEM := Lib.hid hmem
      clear htk hmem
      generalize s[k] = c at *
      by_cases h0 : c = 0
      · subst h0
        have HF : Hid (rightNm s = false) := by
          show _ = _
          rw [HR.out]
          have := HMEM.out
          simp [this]
        go_wp2
        go_ret
        rw [HF.out]
        exact ⟨rfl, rfl⟩
      by_cases h47 : c = 47
      · subst h47
        have HF : Hid (rightNm s = false) := by
          show _ = _
          rw [HR.out]
          have := HMEM.out
          simp [this]
        go_wp2
        go_ret
        rw [HF.out]
        exact ⟨rfl, rfl⟩
      · have q0 : ((c.toNat : Int) == 0) = false := by simp; exact fun e => h0 (UInt8.toNat_inj.1 e)
        have q1 : ((c.toNat : Int) == 47) = false := by simp; exact fun e => h47 (UInt8.toNat_inj.1 (by show c.toNat = 47; omega))
        have HN2 : Hid ((0 : UInt8) ∉ s.take (k + 1) ∧ (47 : UInt8) ∉ s.take (k + 1)) := by
          show _ ∧ _
          rw [HTK.out]
          simp only [List.mem_append, List.mem_singleton, not_or]
          exact ⟨⟨hn1, fun e => h0 e.symm⟩, hn2, fun e => h47 e.symm⟩
        clear HTK HMEM HN hn1 hn2
        go_wp2
        exact ⟨⟨k + 1, by go_num, by omega, HN2⟩, by simp [intOf]; omega⟩
    · have hn1 := HN.out.1
      have hn2 := HN.out.2
      rw [List.take_of_length_le (by omega)] at hn1 hn2
      have hne1 : rightNm s = (!s.isEmpty && (decide (s.length ≤ 24) && (s != [46] && s != [46, 46]))) := by
        rw [HR.out]
        simp [hn1, hn2]
      have HN1 := Lib.hid hne1
      clear hne1 hn1 hn2 HN HR
      by_cases hl0 : 1 ≤ s.length
      case neg =>
        have hs0 : s = [] := List.eq_nil_of_length_eq_zero (by omega)
        subst hs0
        go_wp2
        go_ret
        rw [HN1.out]
        exact ⟨rfl, rfl⟩
      have he : s.isEmpty = false := by cases s with
        | nil => simp at hl0
        | cons a b => rfl
      by_cases hl24 : s.length ≤ 24
      case neg =>
        go_wp2
        go_ret
        rw [HN1.out, he]
        exact ⟨by simp; omega, rfl⟩
      cases h1 : (s == [46]) with
      | true =>
        go_wp2
        go_ret
        rw [HN1.out]
        exact ⟨by simp [bne, h1], rfl⟩
      | false =>
        cases h2 : (s == [46, 46]) with
        | true =>
          go_wp2
          go_ret
          rw [HN1.out]
          exact ⟨by simp [bne, h2], rfl⟩
        | false =>
          go_wp2
          go_ret
          rw [HN1.out, he]
          exact ⟨by simp [bne, h1, h2]; omega, rfl⟩
end Go.Proofs.YtgpidbdgodgefaaDoor
/- The contracts of the document's Below, DirOf, BaseOf, cut. Conditions: as the theorems name them. -/
namespace Go.Proofs.YtgpidbdgodgefaaDoor
open Go.RowKit

theorem lastB_at {p : List UInt8} {i : Nat} (hi : i < p.length) (hc : p[i] = 47) (hno : (47 : UInt8) ∉ p.drop (i + 1)) : lastB p = i := by
  have h : p = p.take i ++ 47 :: p.drop (i + 1) := by
    rw [← hc, List.getElem_cons_drop hi, List.take_append_drop]
  rw [h, lastB_app _ _ hno]
  simp
  omega

set_option maxHeartbeats 400000 in
theorem refBelow_any (p q : List UInt8) (w : World) (h : p.length + 1 ≤ 4611686018427387904) (hq : q.length ≤ 4611686018427387904) :
    Calls Tryd.prog 33 #[.string ⟨p.toArray⟩, .string ⟨q.toArray⟩] w fun e w' => e = .returned (.bool (belowB p q)) ∧ w = w' := by
  cases p with
  | nil =>
    have hj : belowB [] q = (!q.isEmpty) := by unfold belowB; cases q <;> rfl
    rw [hj]
    go_enter Tryd.func33, Tryd.ntmps33
    go_wp2
    go_ret
    exact ⟨by simp, rfl⟩
  | cons x xs =>
    have hj : belowB (x :: xs) q = Lib.hasPrefix q ((x :: xs) ++ [47]) := rfl
    have HJ := Lib.hid hj
    clear hj
    have hc1 := run_cat (x :: xs) [47] (by simp at h ⊢; omega)
    have hne : (x :: xs).isEmpty = false := rfl
    generalize (x :: xs) = l at *
    by_cases h1 : l.length + 1 < q.length
    · have ht := bytes_take q (l.length + 1)
      have hp : Lib.hasPrefix q (l ++ [47]) = (q.take (l.length + 1) == l ++ [47]) := by
        show (l ++ [47]).isPrefixOf q = _
        rw [Bool.eq_iff_iff, List.isPrefixOf_iff_prefix, List.prefix_iff_eq_take, beq_iff_eq]
        have : (l ++ [(47 : UInt8)]).length = l.length + 1 := by simp
        rw [this]
        exact eq_comm
      rw [hp] at HJ
      cases hb : (q.take (l.length + 1) == l ++ [47]) with
      | true =>
        rw [hb] at HJ
        go_enter Tryd.func33, Tryd.ntmps33
        go_wp2
        go_ret
        rw [HJ.out]
        exact ⟨rfl, rfl⟩
      | false =>
        rw [hb] at HJ
        go_enter Tryd.func33, Tryd.ntmps33
        go_wp2
        go_ret
        rw [HJ.out]
        exact ⟨by simp, rfl⟩
    · by_cases h2 : q.length = l.length + 1
      · have hp : Lib.hasPrefix q (l ++ [47]) = (q == l ++ [47]) := by
          show (l ++ [47]).isPrefixOf q = _
          rw [Bool.eq_iff_iff, List.isPrefixOf_iff_prefix, beq_iff_eq]
          constructor
          · intro hpre
            exact (hpre.eq_of_length (by simp [h2])).symm
          · rintro rfl
            exact List.prefix_refl _
        rw [hp] at HJ
        have h2' : (q.length : Int) = (l.length : Int) + 1 := by omega
        go_enter Tryd.func33, Tryd.ntmps33
        go_wp2
        go_ret
        rw [HJ.out]
        exact ⟨by simp, rfl⟩
      · have hp : Lib.hasPrefix q (l ++ [47]) = false := by
          show (l ++ [47]).isPrefixOf q = _
          rw [← Bool.not_eq_true, List.isPrefixOf_iff_prefix]
          intro hpre
          have := hpre.length_le
          simp at this
          omega
        rw [hp] at HJ
        have h2' : ((q.length : Int) == (l.length : Int) + 1) = false := by simp; omega
        go_enter Tryd.func33, Tryd.ntmps33
        go_wp2
        go_ret
        rw [HJ.out]
        exact ⟨by simp, rfl⟩

set_option maxHeartbeats 400000 in
theorem refDir_any (p : List UInt8) (w : World) (h : p.length < 4611686018427387904) :
    Calls Tryd.prog 31 #[.string ⟨p.toArray⟩] w fun e w' => e = .returned (.string ⟨(dirB p).toArray⟩) ∧ w = w' := by
  go_enter Tryd.func31, Tryd.ntmps31
  go_wp2_with fail
  go_loop [3] (fun i => ∃ k : Nat, i = .int .i64 ((k : Int) - 1) ∧ k ≤ p.length ∧ Hid ((47 : UInt8) ∉ p.drop k)) (fun i => (intOf i + 1).toNat)
  case atStart => exact ⟨p.length, rfl, Nat.le_refl _, Lib.hid (by simp)⟩
  case round =>
    obtain ⟨k, rfl, hk, HN⟩ := hrel
    cases k with
    | zero =>
      have hd : dirB p = [] := by
        unfold dirB
        rw [lastB_none (by simpa using HN.out)]
        rfl
      have HD := Lib.hid hd
      clear hd
      go_wp2
      go_ret
      rw [HD.out]
      exact ⟨rfl, rfl⟩
    | succ k =>
      have e1 : ((k + 1 : Nat) : Int) - 1 = (k : Int) := by omega
      rw [e1]
      have hb := byte_at p k (by omega)
      have hd : p.drop k = p[k] :: p.drop (k + 1) := (List.getElem_cons_drop (by omega)).symm
      have HD := Lib.hid hd
      have HL : Hid (p[k] = 47 → dirB p = p.take k) := fun hc => by
        have hl := lastB_at (by omega) hc HN.out
        unfold dirB
        rw [hl]
        congr 1
      have ht := bytes_take p k
      clear hd e1
      generalize p[k] = c at *
      by_cases h47 : c = 47
      · subst h47
        have HL2 := Lib.hid (HL.out rfl)
        clear HL HD HN
        go_wp2
        go_ret
        rw [HL2.out]
        exact ⟨by simp, rfl⟩
      · have q1 : ((c.toNat : Int) == 47) = false := by simp; exact fun e => h47 (UInt8.toNat_inj.1 (by show c.toNat = 47; omega))
        have HN2 : Hid ((47 : UInt8) ∉ p.drop k) := by
          show _ ∉ _
          rw [HD.out, List.mem_cons]
          rintro (e | e)
          · exact h47 e.symm
          · exact HN.out e
        clear HL HD HN
        go_wp2
        exact ⟨⟨k, by go_num, by omega, HN2⟩, by simp [intOf]⟩

set_option maxHeartbeats 400000 in
theorem refBase_any (p : List UInt8) (w : World) (h : p.length < 4611686018427387904) :
    Calls Tryd.prog 32 #[.string ⟨p.toArray⟩] w fun e w' => e = .returned (.string ⟨(baseB p).toArray⟩) ∧ w = w' := by
  go_enter Tryd.func32, Tryd.ntmps32
  go_wp2_with fail
  go_loop [3] (fun i => ∃ k : Nat, i = .int .i64 ((k : Int) - 1) ∧ k ≤ p.length ∧ Hid ((47 : UInt8) ∉ p.drop k)) (fun i => (intOf i + 1).toNat)
  case atStart => exact ⟨p.length, rfl, Nat.le_refl _, Lib.hid (by simp)⟩
  case round =>
    obtain ⟨k, rfl, hk, HN⟩ := hrel
    cases k with
    | zero =>
      have hd : baseB p = p := by
        unfold baseB
        rw [lastB_none (by simpa using HN.out)]
        rfl
      have HD := Lib.hid hd
      clear hd
      go_wp2
      go_ret
      rw [HD.out]
      exact ⟨rfl, rfl⟩
    | succ k =>
      have e1 : ((k + 1 : Nat) : Int) - 1 = (k : Int) := by omega
      rw [e1]
      have hb := byte_at p k (by omega)
      have hd : p.drop k = p[k] :: p.drop (k + 1) := (List.getElem_cons_drop (by omega)).symm
      have HD := Lib.hid hd
      have HL : Hid (p[k] = 47 → baseB p = p.drop (k + 1)) := fun hc => by
        have hl := lastB_at (by omega) hc HN.out
        unfold baseB
        rw [hl]
        congr 1
      have ht := bytes_drop p (k + 1)
      clear hd e1
      generalize p[k] = c at *
      by_cases h47 : c = 47
      · subst h47
        have HL2 := Lib.hid (HL.out rfl)
        clear HL HD HN
        go_wp2
        go_ret
        rw [HL2.out]
        exact ⟨by simp, rfl⟩
      · have q1 : ((c.toNat : Int) == 47) = false := by simp; exact fun e => h47 (UInt8.toNat_inj.1 (by show c.toNat = 47; omega))
        have HN2 : Hid ((47 : UInt8) ∉ p.drop k) := by
          show _ ∉ _
          rw [HD.out, List.mem_cons]
          rintro (e | e)
          · exact h47 e.symm
          · exact HN.out e
        clear HL HD HN
        go_wp2
        exact ⟨⟨k, by go_num, by omega, HN2⟩, by simp [intOf]⟩
end Go.Proofs.YtgpidbdgodgefaaDoor
/- The contracts of the document's cut, Split, IsPath. Conditions: as the theorems name them. -/
namespace Go.Proofs.YtgpidbdgodgefaaDoor
open Go.RowKit

theorem cutB_some (l : List UInt8) : ∃ d x, cutB l = d ++ [x] := by
  have h := cutB_len l
  rcases List.eq_nil_or_concat (cutB l) with h0 | ⟨d, x, h1⟩
  · rw [h0] at h; simp at h
  · exact ⟨d, x, by rw [h1]; simp⟩
theorem cut_snoc (c : UInt8) (hc : c ≠ 47) : ∀ (l : List UInt8) (d : List (List UInt8)) (x : List UInt8), cutB l = d ++ [x] → cutB (l ++ [c]) = d ++ [x ++ [c]]
  | [], d, x, h => by
    have h1 : d = [] := by
      cases d with
      | nil => rfl
      | cons a t =>
        have := congrArg List.length h
        simp [cutB] at this
    subst h1
    have h2 : x = [] := by
      have := h
      simp only [cutB, List.nil_append, List.cons.injEq, and_true] at this
      exact this.symm
    subst h2
    show cutB [c] = [[c]]
    rw [cutB, if_neg hc]
    rfl
  | b :: l, d, x, h => by
    obtain ⟨d', x', h'⟩ := cutB_some l
    have ih := cut_snoc c hc l d' x' h'
    show cutB (b :: (l ++ [c])) = _
    by_cases hb : b = 47
    · rw [cutB, if_pos hb] at h ⊢
      rw [h'] at h
      rw [ih]
      have e : ([] :: d') ++ [x'] = d ++ [x] := h
      obtain ⟨e1, e2⟩ := List.append_inj' e rfl
      subst e1
      obtain rfl : x' = x := by simpa using e2
      rfl
    · rw [cutB, if_neg hb] at h ⊢
      rw [h'] at h
      rw [ih]
      cases d' with
      | nil =>
        have e : [] ++ [b :: x'] = d ++ [x] := h
        obtain ⟨e1, e2⟩ := List.append_inj' e rfl
        subst e1
        obtain rfl : b :: x' = x := by simpa using e2
        rfl
      | cons a t =>
        have e : ((b :: a) :: t) ++ [x'] = d ++ [x] := h
        obtain ⟨e1, e2⟩ := List.append_inj' e rfl
        subst e1
        obtain rfl : x' = x := by simpa using e2
        rfl
theorem cut_slash (l : List UInt8) : cutB (l ++ [47]) = cutB l ++ [[]] := cut_app l []
theorem bytes_one (s : List UInt8) (k : Nat) (h : k < s.length) : (⟨s.toArray⟩ : ByteArray).extract k (k + 1) = ⟨[s[k]].toArray⟩ := by
  refine ByteArray.ext ?_
  have : (s.drop k).take 1 = [s[k]] := by
    rw [← List.getElem_cons_drop h]
    rfl
  simp [ByteArray.data_extract, this]

/-- What cut comes to. -/
def CutEnd (w : World) (s : List UInt8) (e : Ending) (w' : World) : Prop :=
  ∃ v, e = .returned v ∧ w'.ownsRow w.heap.size 9 1 v (cutB s).length ((cutB s).map strV) ∧ Kp (fun _ => False) w w'

set_option maxHeartbeats 2000000 in
set_option maxRecDepth 100000 in
theorem cut_any (s : List UInt8) (w : World) (h : s.length ≤ 8000000) :
    Calls Tryd.prog 58 #[.string ⟨s.toArray⟩] w (CutEnd w s) := by
  obtain ⟨ix, hiz0, hiz1, hiz2, hiz3⟩ := info_parts infoStr
  go_enter Tryd.func58, Tryd.ntmps58
  go_wp2_with fail
  go_loopw [3, 4, 5] (fun v t i wr => ∃ (k : Nat) (d : List (List UInt8)) (x : List UInt8), i = .int .i64 k ∧ t = .string ⟨x.toArray⟩ ∧ k ≤ s.length ∧ Hid (cutB (s.take k) = d ++ [x]) ∧ d.length ≤ k ∧ x.length ≤ k ∧ Hid (wr.ownsRow w.heap.size 9 1 v d.length (d.map strV)) ∧ Hid (Kp (fun _ => False) w wr)) (fun _ _ i _ => s.length - (intOf i).toNat)
  case atStart => exact ⟨0, [], [], rfl, rfl, Nat.zero_le _, Lib.hid rfl, Nat.le_refl _, Nat.le_refl _, Lib.hid (World.ownsRow_nil _ _ _ _), Lib.hid (Kp.refl _ _)⟩
  case round =>
    obtain ⟨k, d, x, rfl, rfl, hk, HC, hd, hx, HO, HK⟩ := hrel
    have HSZ := Lib.hid HK.out.size
    by_cases hlt : k < s.length
    · have hb := byte_at s k hlt
      have htk : s.take (k + 1) = s.take k ++ [s[k]] := List.take_succ_eq_append_getElem hlt
      have HTK := Lib.hid htk
      have hone := bytes_one s k hlt
      clear htk
      generalize s[k] = c at *
      by_cases h47 : c = 47
      · subst h47
        have HC2 : Hid (cutB (s.take (k + 1)) = (d ++ [x]) ++ [[]]) := by show _ = _; rw [HTK.out, cut_slash, HC.out]
        have HOX := Lib.hid (HO.out.alloc (.cells #[.string ⟨x.toArray⟩] 9))
        have HKX := Lib.hid (HK.out.alloc (.cells #[.string ⟨x.toArray⟩] 9))
        have HNEW := Lib.hid (hp_new wr (.cells #[.string ⟨x.toArray⟩] 9))
        have hbase : w.heap.size ≤ (wr.alloc (.cells #[.string ⟨x.toArray⟩] 9)).heap.size := by simp; have := HSZ.out; omega
        clear HC HTK hone
        go_wp2_with (at_builtin; refine wpList_append_own _ rfl (.tmp 16) (.tmp 18) 28 rfl w.heap.size 9 ix (.string ByteArray.empty) 1 16 Tryd.underlying28 hiz0 hiz1 hiz2 hiz3 rfl (by decide) _ d.length (d.map strV) rfl HOX.out ⟨wr.heap.size, 0, none⟩ 1 1 [strV x] rfl rfl (fun j u hj => ?_) (fun u hu => ?_) ?_ ?_ hbase ?_)
        · cases j with
          | zero =>
            have hu : strV x = u := by simpa using hj
            subst hu
            exact (cell_one HNEW.out).1
          | succ j => simp at hj
        · have hu : u = strV x := by simpa using hu
          subst hu
          rfl
        · unfold maxLen
          omega
        · omega
        intro v' w6 hown' hgr _
        have k6 := HKX.out.grown hgr (fun b hb => .inr (HOX.out.lt b hb).1)
        have HK6 := Lib.hid k6
        have HO6 : Hid (w6.ownsRow w.heap.size 9 1 v' (d ++ [x]).length ((d ++ [x]).map strV)) := by
          show World.ownsRow _ _ _ _ _ _ _
          simpa using hown'
        clear hown' hgr k6 HOX HKX HNEW HO HK
        go_wp2
        exact ⟨⟨k + 1, d ++ [x], [], by go_num, rfl, by omega, HC2, by simp; omega, Nat.zero_le _, HO6, HK6⟩, by simp [intOf]; omega⟩
      · have q1 : ((c.toNat : Int) == 47) = false := by simp; exact fun e => h47 (UInt8.toNat_inj.1 (by show c.toNat = 47; omega))
        have HC2 : Hid (cutB (s.take (k + 1)) = d ++ [x ++ [c]]) := by show _ = _; rw [HTK.out]; exact cut_snoc c h47 _ _ _ HC.out
        have hcat := run_cat x [c] (by simp; omega)
        clear HC HTK
        go_wp2
        exact ⟨⟨k + 1, d, x ++ [c], by go_num, rfl, by omega, HC2, by omega, by simp; omega, HO, HK⟩, by simp [intOf]; omega⟩
    · have HC2 : Hid (cutB s = d ++ [x]) := by show _ = _; have h1 := HC.out; rwa [List.take_of_length_le (by omega)] at h1
      have HOX := Lib.hid (HO.out.alloc (.cells #[.string ⟨x.toArray⟩] 9))
      have HKX := Lib.hid (HK.out.alloc (.cells #[.string ⟨x.toArray⟩] 9))
      have HNEW := Lib.hid (hp_new wr (.cells #[.string ⟨x.toArray⟩] 9))
      have hbase : w.heap.size ≤ (wr.alloc (.cells #[.string ⟨x.toArray⟩] 9)).heap.size := by simp; have := HSZ.out; omega
      clear HC
      go_wp2_with (at_builtin; refine wpList_append_own _ rfl (.tmp 27) (.tmp 29) 28 rfl w.heap.size 9 ix (.string ByteArray.empty) 1 16 Tryd.underlying28 hiz0 hiz1 hiz2 hiz3 rfl (by decide) _ d.length (d.map strV) rfl HOX.out ⟨wr.heap.size, 0, none⟩ 1 1 [strV x] rfl rfl (fun j u hj => ?_) (fun u hu => ?_) ?_ ?_ hbase ?_)
      · cases j with
        | zero =>
          have hu : strV x = u := by simpa using hj
          subst hu
          exact (cell_one HNEW.out).1
        | succ j => simp at hj
      · have hu : u = strV x := by simpa using hu
        subst hu
        rfl
      · unfold maxLen
        omega
      · omega
      intro v' w6 hown' hgr _
      have k6 := HKX.out.grown hgr (fun b hb => .inr (HOX.out.lt b hb).1)
      have HE : Hid (CutEnd w s (.returned v') w6) := by
        refine ⟨v', rfl, ?_, k6⟩
        rw [HC2.out]
        simpa using hown'
      clear hown' hgr k6 HOX HKX HNEW HO HK
      go_wp2
      go_ret
      exact HE.out
end Go.Proofs.YtgpidbdgodgefaaDoor
/- The contract of the law file's function known (chapter 9): it answers true and turns nothing that was there. Condition: the library's variable holds some number. -/
namespace Go.Proofs.YtgpidbdgodgefaaDoor
open Go.RowKit

/-- A row of one's own that has elements is written out. -/
theorem owns_some {w : World} {base : Nat} {e : TypeId} {v : Value} {n : Nat} {xs : List Value} (h : w.ownsRow base e 1 v n xs) (hn : 0 < n) : ∃ g c, v = .slice (some ⟨g, 0, none⟩) n c := by
  obtain ⟨_, h2 | ⟨g, cap, cur, hv, _⟩⟩ := h
  · have := h2.2; omega
  · exact ⟨g, cap, hv⟩

set_option maxHeartbeats 1000000 in
set_option maxRecDepth 100000 in
theorem known9_any (m : Int) (w : World) (hm : w.cell? ⟨0, 0, none⟩ = some (.int .i64 m)) :
    Calls Tryd.prog 19 #[] w fun e w' => e = .returned (.bool true) ∧ Kp (fun _ => False) w w' := by
  have hc := nsplit_any [47, 97, 47, 47, 98, 47, 46, 46, 47, 99, 47] m w (by decide) hm
  have e0 : errN [47, 97, 47, 47, 98, 47, 46, 46, 47, 99, 47] = 0 := by decide +kernel
  have e1 : segs (cutB [47, 97, 47, 47, 98, 47, 46, 46, 47, 99, 47]) = [[97], [98], [46, 46], [99]] := by decide +kernel
  unfold SplitEnd at hc
  rw [e0, e1] at hc
  have HC := Lib.hid hc
  clear hc e0 e1
  go_enter Tryd.func19, Tryd.ntmps19
  go_wp2_with fail
  refine HC.out.mono ?_
  rintro e w1 ⟨hk, ⟨_, v, rfl, hown⟩ | ⟨h, _⟩⟩
  case inr => exact absurd rfl h
  have hown2 : w1.ownsRow w.heap.size 9 1 v 4 [strV [97], strV [98], strV [46, 46], strV [99]] := hown
  obtain ⟨g, c, rfl⟩ := owns_some hown2 (by decide)
  have c0 : w1.cell? ⟨g, 0, none⟩ = some (.string ⟨#[97]⟩) := World.ownsRow.cellAt hown2 0 (by decide)
  have c1 : w1.cell? ⟨g, 1, none⟩ = some (.string ⟨#[98]⟩) := World.ownsRow.cellAt hown2 1 (by decide)
  have c2 : w1.cell? ⟨g, 2, none⟩ = some (.string ⟨#[46, 46]⟩) := World.ownsRow.cellAt hown2 2 (by decide)
  have c3 : w1.cell? ⟨g, 3, none⟩ = some (.string ⟨#[99]⟩) := World.ownsRow.cellAt hown2 3 (by decide)
  have HK := Lib.hid hk
  clear hown hown2 hk HC
  go_wp2_with fail
  refine (nright_any [97] w1 (by decide)).mono ?_
  rintro e w' ⟨rfl, rfl⟩
  rw [show rightNm [97] = true by decide +kernel]
  go_wp2_with fail
  refine (nright_any [46, 46] w1 (by decide)).mono ?_
  rintro e w' ⟨rfl, rfl⟩
  rw [show rightNm [46, 46] = false by decide +kernel]
  go_wp2
  go_ret
  exact ⟨rfl, HK.out⟩
end Go.Proofs.YtgpidbdgodgefaaDoor
/- The contracts of the document's Split and IsPath. Conditions: as the theorems name them. -/
namespace Go.Proofs.YtgpidbdgodgefaaDoor
open Go.RowKit

theorem cutB_pos (s : List UInt8) : 0 < (cutB s).length := by rw [cutB_len]; omega

set_option maxHeartbeats 2000000 in
set_option maxRecDepth 100000 in
theorem refIsPath_any (s : List UInt8) (w : World) (h : s.length ≤ 8000000) :
    Calls Tryd.prog 29 #[.string ⟨s.toArray⟩] w fun e w' => e = .returned (.bool (isPathB s)) ∧ Kp (fun _ => False) w w' := by
  have HR := Lib.hid (show isPathB s = (s.isEmpty || ((cutB s).all rightNm && decide (s.length ≤ 120))) from rfl)
  cases he : s.isEmpty with
  | true =>
    go_enter Tryd.func29, Tryd.ntmps29
    go_wp2
    go_ret
    rw [HR.out, he]
    exact ⟨rfl, Kp.refl _ _⟩
  | false =>
    have HC := Lib.hid (cut_any s w h)
    have HNL := Lib.hid (show (cutB s).length ≤ 8000001 by rw [cutB_len]; have := List.count_le_length (a := 47) (l := s); omega)
    have HPOS := Lib.hid (cutB_pos s)
    have hsm : ∀ p ∈ cutB s, p.length ≤ 8000000 := fun p hp => by
      have := cutB_small s p hp
      omega
    have HSM := Lib.hid hsm
    unfold CutEnd at HC
    clear hsm
    generalize cutB s = ps at *
    go_enter Tryd.func29, Tryd.ntmps29
    go_wp2_with fail
    refine HC.out.mono ?_
    rintro e w1 ⟨v, rfl, hown, kp1⟩
    obtain ⟨g, c, rfl⟩ := owns_some hown HPOS.out
    have hpc : ∀ k (hk : k < ps.length), w1.cell? ⟨g, k, none⟩ = some (strV ps[k]) := fun k hk => by
      rw [World.ownsRow.cellAt hown k (by omega)]
      simp [hk]
    have HK1 := Lib.hid kp1; have HPC := Lib.hid hpc
    clear kp1 hpc hown HC HPOS
    go_wp2_with fail
    go_loop [4] (fun i => ∃ k : Nat, i = .int .i64 k ∧ k ≤ ps.length ∧ Hid (∀ p ∈ ps.take k, rightNm p = true)) (fun i => ps.length - (intOf i).toNat)
    case atStart => exact ⟨0, rfl, Nat.zero_le _, Lib.hid (by simp)⟩
    case round =>
      obtain ⟨k, rfl, hk, HL⟩ := hrel
      have hnl := HNL.out
      by_cases hlt : k < ps.length
      · have hcell := HPC.out k hlt
        have hmem : ps[k] ∈ ps := List.getElem_mem hlt
        have htk : ∀ p ∈ ps.take (k + 1), p ∈ ps.take k ∨ p = ps[k] := fun p hp => by
          rw [List.take_succ_eq_append_getElem hlt, List.mem_append] at hp
          simpa using hp
        have HTK := Lib.hid htk; have HMEM := Lib.hid hmem
        have hpl := HSM.out _ hmem
        clear htk hmem
        unfold strV at hcell
        generalize ps[k] = p at *
        go_wp2_with fail
        refine (refName_any p w1 (by omega)).mono ?_
        rintro e w' ⟨rfl, rfl⟩
        cases hp : rightNm p with
        | true =>
          have HL2 : Hid (∀ p ∈ ps.take (k + 1), rightNm p = true) := fun q hq => by
            rcases HTK.out q hq with h | h
            · exact HL.out q h
            · rw [h]; exact hp
          clear hp HTK HMEM HL
          go_wp2
          exact ⟨⟨k + 1, by go_num, by omega, HL2⟩, by simp [intOf]; omega⟩
        | false =>
          have HF : Hid (ps.all rightNm = false) := by
            show _ = _
            rw [List.all_eq_false]
            exact ⟨p, HMEM.out, by rw [hp]; decide⟩
          clear hp HTK HMEM HL
          go_wp2
          go_ret
          rw [HR.out, he, HF.out]
          exact ⟨rfl, HK1.out⟩
      · have HT : Hid (ps.all rightNm = true) := by
          show _ = _
          rw [List.all_eq_true]
          intro p hp
          exact HL.out p (by rw [List.take_of_length_le (by omega)]; exact hp)
        clear HL
        go_wp2
        go_ret
        rw [HR.out, he, HT.out]
        exact ⟨by simp; omega, HK1.out⟩

set_option maxHeartbeats 4000000 in
set_option maxRecDepth 100000 in
theorem refSplit_any (s : List UInt8) (w : World) (h : s.length ≤ 9223372036854775807) :
    Calls Tryd.prog 27 #[.string ⟨s.toArray⟩] w (SplitEnd w s) := by
  by_cases hl : s.length ≤ 120
  case neg =>
    have hl1 : decide ((s.length : Int) > 120) = true := by simp; omega
    have HE : Hid (errN s = 12) := by
      show _ = _
      unfold errN
      rw [if_pos (by omega)]
    go_enter Tryd.func27, Tryd.ntmps27
    have HEE : Hid (SplitEnd w s (.returned (.tuple #[.slice none 0 0, .int .i64 12])) w) := ⟨Kp.refl _ _, .inr ⟨by rw [HE.out]; decide, by rw [HE.out]⟩⟩
    go_wp2
    go_ret2
    exact HEE.out
  replace h : s.length ≤ 8000000 := by omega
  have hl1 : decide ((s.length : Int) > 120) = false := by simp; omega
  obtain ⟨ix, hiz0, hiz1, hiz2, hiz3⟩ := info_parts infoStr
  go_enter Tryd.func27, Tryd.ntmps27
  go_wp2_with fail
  go_loop [4] (fun i => ∃ k : Nat, i = .int .i64 k ∧ k ≤ s.length ∧ Hid ((0 : UInt8) ∉ s.take k)) (fun i => s.length - (intOf i).toNat)
  case atStart => exact ⟨0, rfl, Nat.zero_le _, Lib.hid (by simp)⟩
  case round =>
    obtain ⟨k, rfl, hk, HN⟩ := hrel
    by_cases hlt : k < s.length
    · have hb := byte_at s k hlt
      have htk : s.take (k + 1) = s.take k ++ [s[k]] := List.take_succ_eq_append_getElem hlt
      have hmem : s[k] ∈ s := List.getElem_mem hlt
      have HTK := Lib.hid htk; have HMEM := Lib.hid hmem
      clear htk hmem
      generalize s[k] = c at *
      by_cases h0 : c = 0
      · subst h0
        have HE : Hid (errN s = 1) := by
          show _ = _
          unfold errN
          rw [if_neg (by omega), if_pos HMEM.out]
        have HEE : Hid (SplitEnd w s (.returned (.tuple #[.slice none 0 0, .int .i64 1])) w) := ⟨Kp.refl _ _, .inr ⟨by rw [HE.out]; decide, by rw [HE.out]⟩⟩
        clear HTK HMEM HN HE
        go_wp2
        go_ret2
        exact HEE.out
      · have q0 : ((c.toNat : Int) == 0) = false := by simp; exact fun e => h0 (UInt8.toNat_inj.1 e)
        have HN2 : Hid ((0 : UInt8) ∉ s.take (k + 1)) := by
          show _ ∉ _
          rw [HTK.out, List.mem_append, List.mem_singleton]
          rintro (e | e)
          · exact HN.out e
          · exact h0 e.symm
        clear HTK HMEM HN
        go_wp2
        exact ⟨⟨k + 1, by go_num, by omega, HN2⟩, by simp [intOf]; omega⟩
    · have hz : (0 : UInt8) ∉ s := by have := HN.out; rwa [List.take_of_length_le (by omega)] at this
      have HE : Hid (errN s = if (cutB s).any (fun p => decide (24 < p.length)) then 12 else 0) := by
        show _ = _
        unfold errN
        rw [if_neg (by omega), if_neg hz]
      clear hz HN
      have HC := Lib.hid (cut_any s w h)
      have HNL := Lib.hid (show (cutB s).length ≤ 121 by rw [cutB_len]; have := List.count_le_length (a := 47) (l := s); omega)
      have HPOS := Lib.hid (cutB_pos s)
      unfold CutEnd at HC
      generalize hps : cutB s = ps at *
      have HPS := Lib.hid hps
      clear hps
      go_wp2_with fail
      refine HC.out.mono ?_
      rintro e w1 ⟨v, rfl, hown, kp1⟩
      obtain ⟨g, c, rfl⟩ := owns_some hown HPOS.out
      have hpc : ∀ k (hk : k < ps.length), w1.cell? ⟨g, k, none⟩ = some (strV ps[k]) := fun k hk => by
        rw [World.ownsRow.cellAt hown k (by omega)]
        simp [hk]
      have HK1 := Lib.hid kp1; have HPC := Lib.hid hpc
      clear kp1 hpc hown HC HPOS
      go_wp2_with fail
      go_loopw [5, 7] (fun v i wr => ∃ k : Nat, i = .int .i64 k ∧ k ≤ ps.length ∧ Hid (∀ p ∈ ps.take k, p.length ≤ 24) ∧ Hid (wr.ownsRow w1.heap.size 9 1 v (segs (ps.take k)).length ((segs (ps.take k)).map strV)) ∧ Hid (Kp (fun _ => False) w1 wr)) (fun _ i _ => ps.length - (intOf i).toNat)
      case atStart => exact ⟨0, rfl, Nat.zero_le _, Lib.hid (by simp), Lib.hid (World.ownsRow_nil _ _ _ _), Lib.hid (Kp.refl _ _)⟩
      case round =>
        obtain ⟨k, rfl, hk, HL, HO, HKw⟩ := hrel
        have hnl := HNL.out
        by_cases hlt : k < ps.length
        · have hcell := HKw.out.cell (HPC.out k hlt) id
          have hst := segs_take ps k hlt
          have htk : ∀ p ∈ ps.take (k + 1), p ∈ ps.take k ∨ p = ps[k] := fun p hp => by
            rw [List.take_succ_eq_append_getElem hlt, List.mem_append] at hp
            simpa using hp
          have hmem : ps[k] ∈ ps := List.getElem_mem hlt
          have HST := Lib.hid hst; have HTK := Lib.hid htk; have HMEM := Lib.hid hmem
          clear hst htk hmem
          unfold strV at hcell
          generalize ps[k] = p at *
          by_cases h24 : 24 < p.length
          · have h24q : decide ((p.length : Int) > 24) = true := by simp; omega
            have HE2 : Hid (errN s = 12) := by
              show _ = _
              rw [HE.out, if_pos (List.any_eq_true.2 ⟨p, HMEM.out, by simpa using h24⟩)]
            have HEE : Hid (SplitEnd w s (.returned (.tuple #[.slice none 0 0, .int .i64 12])) wr) := ⟨HK1.out.trans HKw.out, .inr ⟨by rw [HE2.out]; decide, by rw [HE2.out]⟩⟩
            clear HE2 HST HTK HMEM
            go_wp2
            go_ret2
            exact HEE.out
          · have h24q : decide ((p.length : Int) > 24) = false := by simp; omega
            have HL2 : Hid (∀ p ∈ ps.take (k + 1), p.length ≤ 24) := fun q hq => by
              rcases HTK.out q hq with h | h
              · exact HL.out q h
              · rw [h]; omega
            cases hemp : p.isEmpty with
            | true =>
              have HST2 : Hid (segs (ps.take (k + 1)) = segs (ps.take k)) := by show _ = _; rw [HST.out, hemp]; rfl
              clear HST HTK HMEM
              go_wp2
              refine ⟨⟨k + 1, by go_num, by omega, HL2, ?_, HKw⟩, by simp [intOf]; omega⟩
              rw [HST2.out]
              exact HO
            | false =>
              have HST2 : Hid (segs (ps.take (k + 1)) = segs (ps.take k) ++ [p]) := by show _ = _; rw [HST.out, hemp]; rfl
              have HSL := Lib.hid (show (segs (ps.take k)).length ≤ 121 by have h1 := segs_le (ps.take k); have h2 := HNL.out; have h3 : (ps.take k).length ≤ ps.length := (by simp; omega); omega)
              have hww : w1.heap.size ≤ wr.heap.size := HKw.out.size
              have HWW := Lib.hid hww
              clear HST HTK HMEM hww
              generalize segs (ps.take k) = qs at *
              have HOX := Lib.hid (HO.out.alloc (.cells #[.string ⟨p.toArray⟩] 9))
              have kx : Kp (fun _ => False) w1 (wr.alloc (.cells #[.string ⟨p.toArray⟩] 9)) := HKw.out.alloc _
              have HKX := Lib.hid kx
              have HNEW := Lib.hid (hp_new wr (.cells #[.string ⟨p.toArray⟩] 9))
              clear kx
              have hbase : w1.heap.size ≤ (wr.alloc (.cells #[.string ⟨p.toArray⟩] 9)).heap.size := by simp; have := HWW.out; omega
              go_wp2_with (at_builtin; refine wpList_append_own _ rfl (.tmp 40) (.tmp 45) 28 rfl w1.heap.size 9 ix (.string ByteArray.empty) 1 16 Tryd.underlying28 hiz0 hiz1 hiz2 hiz3 rfl (by decide) _ qs.length (qs.map strV) rfl HOX.out ⟨wr.heap.size, 0, none⟩ 1 1 [strV p] rfl rfl (fun j u hj => ?_) (fun u hu => ?_) ?_ ?_ hbase ?_)
              · cases j with
                | zero =>
                  have hu : strV p = u := by simpa using hj
                  subst hu
                  exact (cell_one HNEW.out).1
                | succ j => simp at hj
              · have hu : u = strV p := by simpa using hu
                subst hu
                rfl
              · have := HSL.out
                unfold maxLen
                omega
              · have := HSL.out
                omega
              intro v' w6 hown' hgr _
              have k6 := HKX.out.grown hgr (fun b hb => .inr (HOX.out.lt b hb).1)
              have HK6 := Lib.hid k6
              have HO6 : Hid (w6.ownsRow w1.heap.size 9 1 v' (qs ++ [p]).length ((qs ++ [p]).map strV)) := by
                show World.ownsRow _ _ _ _ _ _ _
                simpa using hown'
              clear hown' hgr k6 HOX HKX HNEW HSL HO
              go_wp2
              refine ⟨⟨k + 1, by go_num, by omega, HL2, ?_, HK6⟩, by simp [intOf]; omega⟩
              rw [HST2.out]
              exact HO6
        · have hL : ps.any (fun p => decide (24 < p.length)) = false := by
            rw [List.any_eq_false]
            intro p hp
            have := HL.out p (by rw [List.take_of_length_le (by omega)]; exact hp)
            simp
            omega
          have hE0 : errN s = 0 := by rw [HE.out, hL]; rfl
          have hO := HO.out
          rw [List.take_of_length_le (by omega)] at hO
          have HO2 := Lib.hid (owns_from hO HK1.out.size)
          have HKE := Lib.hid (HK1.out.trans HKw.out)
          have HE0 := Lib.hid hE0
          clear hL hE0 hO HO HL
          go_wp2
          go_ret2
          rw [← HPS.out] at HO2
          exact ⟨HKE.out, .inl ⟨HE0.out, _, rfl, HO2.out⟩⟩
end Go.Proofs.YtgpidbdgodgefaaDoor
