/- Walks over trees that may be: a path of the tree leads to itself, with dots in it, too. Plain laws. Conditions: as the theorems name them. -/
import Derived.Test.YtgpidbdgodgefaaDoorWalkL2
namespace Go.Proofs.YtgpidbdgodgefaaDoor
open Go.RowKit

theorem step_dot (l : List ItemV) (fo : Bool) (f : Nat) (a : List UInt8) (r : List (List UInt8)) (h : Nat) (th : Bool) : runT l fo (f + 1) ⟨a, [46] :: r, h⟩ th = runT l fo f ⟨a, r, h⟩ th := rfl
theorem step_up (l : List ItemV) (fo : Bool) (f : Nat) (a : List UInt8) (r : List (List UInt8)) (h : Nat) (th : Bool) : runT l fo (f + 1) ⟨a, [46, 46] :: r, h⟩ th = runT l fo f ⟨dirB a, r, h⟩ th := rfl
theorem right_dots {q : List UInt8} (h : rightNm q = true) : q ≠ [] ∧ q ≠ [46] ∧ q ≠ [46, 46] := by
  unfold rightNm at h
  simp only [Bool.and_eq_true, bne_iff_ne] at h
  obtain ⟨h1, _, _, _, h2, h3⟩ := h
  exact ⟨fun e => (by subst e; cases h1), h2, h3⟩
theorem right_part {q : List UInt8} (h : rightNm q = true) : PartOk q := by
  have h' := h
  unfold rightNm at h'
  simp only [Bool.and_eq_true, decide_eq_true_eq] at h'
  obtain ⟨_, h2, h3, h4, _⟩ := h'
  exact ⟨(right_dots h).1, h2, h3, h4⟩
theorem step_name {l : List ItemV} (hl : Srt l) (fo : Bool) (f : Nat) {a q : List UInt8} (r : List (List UInt8)) (h : Nat) (th : Bool) (ha : dirL l a = true) (hq : rightNm q = true) {x : ItemV} (hx : x ∈ l) (hp : x.path = joinB a q) (hlen : (joinB a q).length ≤ 120)
    (hk : ¬ (x.kind = 3 ∧ (0 < r.length ∨ fo = true))) : runT l fo (f + 1) ⟨a, q :: r, h⟩ th = runT l fo f ⟨joinB a q, r, h⟩ true := by
  obtain ⟨h0, h1, h2⟩ := right_dots hq
  have hj : (joinB a q).isEmpty = false := by
    cases hh : joinB a q with
    | nil => exact absurd hh (joinB_ne2 h0)
    | cons x y => rfl
  have hlk : lookT l (joinB a q) = some x := by rw [← hp]; exact look_mem hl hx
  have hD : downT l fo ⟨a, r, h⟩ q = (⟨joinB a q, r, h⟩, true, 0) := by
    unfold downT
    dsimp only
    rw [isDirT_look hl, getT_look hl, hj, hlk, if_neg (by rw [ha]; decide), if_neg (by omega)]
    simp only [Bool.false_eq_true, if_false, if_neg hk]
  rw [runT]
  dsimp only
  rw [if_neg h1, if_neg h2]
  simp only [hD, ne_eq, not_true_eq_false, if_false]

/-- The names of a path. -/
def names (p : List UInt8) : List (List UInt8) := if p = [] then [] else cutB p
theorem names_join {a z : List UInt8} (hz : rightNm z = true) : names (joinB a z) = names a ++ [z] := by
  have hs := (right_slash hz).1
  have hne := (right_dots hz).1
  unfold names
  by_cases ha : a = []
  · subst ha
    have e : joinB [] z = z := rfl
    rw [e, if_neg hne, if_pos rfl, cut_one z hs]
    rfl
  · rw [if_neg (joinB_ne2 hne), if_neg ha, joinB_app ha, cut_app, cut_one z hs]
theorem path_split {p : List UInt8} (h : isPathB p = true) (hne : p ≠ []) : ∃ z, rightNm z = true ∧ p = joinB (dirB p) z := by
  have hall := (path_all h hne).1
  rcases dirB_cases p with ⟨e, hn⟩ | ⟨z, e, hz⟩
  · rw [cut_one p hn] at hall
    exact ⟨p, by simpa using hall, by rw [e]; rfl⟩
  · by_cases hd : dirB p = []
    · rw [hd] at e
      exfalso
      rw [e] at hall
      have e2 : cutB ([] ++ 47 :: z) = [] :: cutB z := rfl
      rw [e2] at hall
      simp [rightNm] at hall
    · refine ⟨z, ?_, by rw [joinB_app hd]; exact e⟩
      rw [e, cut_app, cut_one z hz, List.all_append] at hall
      simpa using (by simpa using hall : _ ∧ _).2
theorem names_segs {p : List UInt8} (h : isPathB p = true) : segs (cutB p) = names p := by
  unfold names
  by_cases hp : p = []
  · subst hp; rfl
  · rw [if_neg hp]
    have hall := (path_all h hp).1
    unfold segs
    rw [List.filter_eq_self]
    intro q hq
    have := (right_dots (List.all_eq_true.1 hall q hq)).1
    cases q with
    | nil => exact absurd rfl this
    | cons a b => rfl

/-- A name that is not the last, with dots. -/
def blk3 (k : Nat) (z : List UInt8) : List (List UInt8) := if k = 1 then [[46], z] else if k = 3 then [z, [46, 46], z] else [z]
/-- The last name, with dots. -/
def lblk (k : Nat) (z : List UInt8) : List (List UInt8) := if k = 1 then [[46], z] else [z]
def dn (g : Nat → Nat) : Nat → List (List UInt8) → List (List UInt8)
  | _, [] => []
  | i, z :: r => blk3 (g i) z ++ dn g (i + 1) r
theorem dn_snoc (g : Nat → Nat) (z : List UInt8) : ∀ (i : Nat) (l : List (List UInt8)), dn g i (l ++ [z]) = dn g i l ++ blk3 (g (i + l.length)) z
  | i, [] => by simp [dn]
  | i, y :: l => by
    rw [List.cons_append, dn, dn, dn_snoc g z (i + 1) l, List.append_assoc]
    congr 3
    simp
    congr 1
    omega
theorem dn_zero : ∀ (i : Nat) (l : List (List UInt8)), dn (fun _ => 0) i l = l
  | _, [] => rfl
  | i, y :: l => by
    rw [dn, dn_zero (i + 1) l]
    rfl
/-- Down to a directory. -/
theorem down_dir {l : List ItemV} (hl : TreeOk l) (fo : Bool) (g : Nat → Nat) : ∀ (n : Nat) (p : List UInt8), p.length ≤ n → dirL l p = true → ∀ (f : Nat) (more : List (List UInt8)) (h : Nat),
    runT l fo (f + (dn g 0 (names p)).length) ⟨[], dn g 0 (names p) ++ more, h⟩ true = runT l fo f ⟨p, more, h⟩ true := by
  intro n
  induction n with
  | zero =>
    intro p hp hd f more h
    have : p = [] := List.eq_nil_of_length_eq_zero (by omega)
    subst this
    rfl
  | succ n ih =>
    intro p hp hd f more h
    by_cases hne : p = []
    · subst hne; rfl
    obtain ⟨x, hx, hxp, hk⟩ := (dirL_iff hl.srt hne).1 hd
    have hpp := (hl.path x hx).2
    rw [hxp] at hpp
    have hpd := hl.dir x hx
    rw [hxp] at hpd
    obtain ⟨z, hz, he⟩ := path_split hpp hne
    have hlt := dirB_lt hne
    have hlen := isPath_len hpp
    have hzs := (right_slash hz).1
    generalize ha : dirB p = a at *
    subst he
    rw [names_join hz, dn_snoc, List.append_assoc, List.length_append]
    have hnl : ¬ (∀ r : List (List UInt8), (x.kind = 3 ∧ (0 < r.length ∨ fo = true))) := fun hh => by have := (hh []).1; rw [hk] at this; cases this
    have hnl2 : ∀ r : List (List UInt8), ¬ (x.kind = 3 ∧ (0 < r.length ∨ fo = true)) := fun r hh => by have := hh.1; rw [hk] at this; cases this
    have e1 := ih a (by omega) hpd (f + (blk3 (g (0 + (names a).length)) z).length) (blk3 (g (0 + (names a).length)) z ++ more) h
    rw [show f + ((dn g 0 (names a)).length + (blk3 (g (0 + (names a).length)) z).length) = f + (blk3 (g (0 + (names a).length)) z).length + (dn g 0 (names a)).length by omega, e1]
    unfold blk3
    by_cases c1 : g (0 + (names a).length) = 1
    · rw [if_pos c1]
      show runT l fo (f + 1 + 1) ⟨a, [46] :: (z :: more), h⟩ true = _
      rw [step_dot, step_name hl.srt fo f more h true hpd hz hx hxp hlen (hnl2 _)]
    · rw [if_neg c1]
      by_cases c3 : g (0 + (names a).length) = 3
      · rw [if_pos c3]
        show runT l fo (f + 1 + 1 + 1) ⟨a, z :: [46, 46] :: (z :: more), h⟩ true = _
        rw [step_name hl.srt fo _ _ h true hpd hz hx hxp hlen (hnl2 _), step_up, dir_join hzs, step_name hl.srt fo f more h true hpd hz hx hxp hlen (hnl2 _)]
      · rw [if_neg c3]
        show runT l fo (f + 1) ⟨a, z :: more, h⟩ true = _
        rw [step_name hl.srt fo f more h true hpd hz hx hxp hlen (hnl2 _)]
/-- Down to what stands ahead of an item's last name. -/
theorem down_item {l : List ItemV} (hl : TreeOk l) {x : ItemV} (hx : x ∈ l) : ∃ a z, rightNm z = true ∧ x.path = joinB a z ∧ dirL l a = true ∧ names x.path = names a ++ [z] ∧ x.path.length ≤ 120 ∧
    ∀ (fo : Bool) (g : Nat → Nat) (f : Nat) (more : List (List UInt8)) (h : Nat), runT l fo (f + (dn g 0 (names a)).length) ⟨[], dn g 0 (names a) ++ more, h⟩ true = runT l fo f ⟨a, more, h⟩ true := by
  obtain ⟨h1, h2⟩ := hl.path x hx
  obtain ⟨z, hz, he⟩ := path_split h2 h1
  refine ⟨dirB x.path, z, hz, he, hl.dir x hx, ?_, isPath_len h2, fun fo g f more h => down_dir hl fo g _ _ (Nat.le_refl _) (hl.dir x hx) f more h⟩
  conv => lhs; rw [he]
  exact names_join hz
end Go.Proofs.YtgpidbdgodgefaaDoor
