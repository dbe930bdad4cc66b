/- Trees as lists: the order of paths, the search by halves, what a put and a removal do. Plain laws. Conditions: as the theorems name them. -/
import Derived.Test.YtgpidbdgodgefaaDoorTrees
import Derived.Test.YtgpidbdgodgefaaDoorTells
namespace Go.Proofs.YtgpidbdgodgefaaDoor
open Go.RowKit

/-! ### the order -/
theorem cmp_both : ∀ (a b : List UInt8), (Lib.compareBytes a b < 0 ↔ a < b) ∧ (Lib.compareBytes a b = 0 ↔ a = b)
  | [], [] => by simp [Lib.compareBytes]
  | [], b :: bs => by simp [Lib.compareBytes]
  | a :: l, [] => by simp [Lib.compareBytes]
  | a :: l, b :: bs => by
    have ih := cmp_both l bs
    unfold Lib.compareBytes
    rw [List.cons_lt_cons_iff]
    by_cases h1 : a < b
    · have hne : a ≠ b := fun e => by subst e; exact UInt8.lt_irrefl a h1
      rw [if_pos h1]
      simp [h1, hne]
    · rw [if_neg h1]
      by_cases h2 : b < a
      · have hne : a ≠ b := fun e => by subst e; exact UInt8.lt_irrefl a h2
        rw [if_pos h2]
        simp [h1, hne]
      · rw [if_neg h2]
        have e : a = b := UInt8.le_antisymm (UInt8.not_lt.1 h2) (UInt8.not_lt.1 h1)
        subst e
        simp [UInt8.lt_irrefl]
        exact ih
theorem cmp_neg (a b : List UInt8) : Lib.compareBytes a b < 0 ↔ a < b := (cmp_both a b).1
theorem cmp_zero (a b : List UInt8) : Lib.compareBytes a b = 0 ↔ a = b := (cmp_both a b).2
theorem lt_irr (a : List UInt8) : ¬ a < a := List.lt_irrefl a
theorem lt_tr {a b c : List UInt8} (h : a < b) (k : b < c) : a < c := List.lt_trans h k
theorem lt_or {a b : List UInt8} (h : ¬ a < b) : a = b ∨ b < a := by
  rcases Std.lt_trichotomy a b with h1 | h1 | h1
  · exact absurd h1 h
  · exact .inl h1
  · exact .inr h1
theorem lt_ne {a b : List UInt8} (h : a < b) : a ≠ b := fun e => by subst e; exact lt_irr a h

/-! ### the search -/
/-- Rising, each path once. -/
def Srt (l : List ItemV) : Prop := l.Pairwise fun x y => x.path < y.path
/-- What lies at a path. -/
def lookT (l : List ItemV) (p : List UInt8) : Option ItemV := l.find? fun x => x.path == p
/-- Is it the root, or a directory? -/
def dirL (l : List ItemV) (p : List UInt8) : Bool := p.isEmpty || match lookT l p with | some x => x.kind == 2 | none => false

theorem Srt.at_lt {l : List ItemV} (h : Srt l) {i j : Nat} (hi : i < l.length) (hj : j < l.length) (hij : i < j) : l[i].path < l[j].path :=
  List.pairwise_iff_getElem.1 h i j hi hj hij
theorem bsT_law (l : List ItemV) (h : Srt l) (s : List UInt8) : ∀ (f i j : Nat), i ≤ j → j ≤ l.length → j - i < f → (∀ k (hk : k < l.length), k < i → l[k].path < s) → (∀ k (hk : k < l.length), j ≤ k → ¬ l[k].path < s) →
    bsT l s f i j ≤ l.length ∧ (∀ k (hk : k < l.length), k < bsT l s f i j → l[k].path < s) ∧ (∀ k (hk : k < l.length), bsT l s f i j ≤ k → ¬ l[k].path < s)
  | 0, i, j, _, _, hf, _, _ => by omega
  | f + 1, i, j, hij, hj, hf, h1, h2 => by
    by_cases hlt : i < j
    · rw [bsT, if_pos hlt]
      have hm : (i + j) / 2 < l.length := by omega
      have hg : (l.getD ((i + j) / 2) ⟨[], 0, 0, 0, []⟩) = l[(i + j) / 2] := by rw [List.getD, List.getElem?_eq_getElem hm]; rfl
      rw [hg]
      by_cases hc : l[(i + j) / 2].path < s
      · rw [if_pos ((cmp_neg _ _).2 hc)]
        refine bsT_law l h s f _ _ (by omega) hj (by omega) (fun k hk hki => ?_) h2
        by_cases he : k = (i + j) / 2
        · subst he; exact hc
        · exact lt_tr (h.at_lt hk hm (by omega)) hc
      · rw [if_neg (fun hh => hc ((cmp_neg _ _).1 hh))]
        refine bsT_law l h s f _ _ (by omega) (by omega) (by omega) h1 (fun k hk hki hh => ?_)
        by_cases he : k = (i + j) / 2
        · subst he; exact hc hh
        · exact hc (lt_tr (h.at_lt hm hk (by omega)) hh)
    · rw [bsT_done l s _ i j hlt]
      have : i = j := by omega
      subst this
      exact ⟨hj, h1, h2⟩
theorem find_law (l : List ItemV) (h : Srt l) (s : List UInt8) : findI l s ≤ l.length ∧ (∀ k (hk : k < l.length), k < findI l s → l[k].path < s) ∧ (∀ k (hk : k < l.length), findI l s ≤ k → ¬ l[k].path < s) :=
  bsT_law l h s _ 0 l.length (Nat.zero_le _) (Nat.le_refl _) (by omega) (fun _ _ h => absurd h (Nat.not_lt_zero _)) (fun _ hk h => by omega)

theorem look_some {l : List ItemV} {p : List UInt8} {x : ItemV} (h : lookT l p = some x) : x ∈ l ∧ x.path = p :=
  ⟨List.mem_of_find?_eq_some h, by simpa using List.find?_some h⟩
theorem look_none {l : List ItemV} {p : List UInt8} : lookT l p = none ↔ ∀ x ∈ l, x.path ≠ p := by
  unfold lookT
  rw [List.find?_eq_none]
  simp
theorem Srt.one {l : List ItemV} (h : Srt l) {x y : ItemV} (hx : x ∈ l) (hy : y ∈ l) (e : x.path = y.path) : x = y := by
  obtain ⟨i, hi, rfl⟩ := List.getElem_of_mem hx
  obtain ⟨j, hj, rfl⟩ := List.getElem_of_mem hy
  by_cases h1 : i < j
  · exact absurd e (lt_ne (h.at_lt hi hj h1))
  · by_cases h2 : j < i
    · exact absurd e.symm (lt_ne (h.at_lt hj hi h2))
    · have : i = j := by omega
      subst this; rfl
theorem look_mem {l : List ItemV} (h : Srt l) {x : ItemV} (hx : x ∈ l) : lookT l x.path = some x := by
  cases hl : lookT l x.path with
  | none => exact absurd rfl (look_none.1 hl x hx)
  | some y =>
    obtain ⟨h1, h2⟩ := look_some hl
    rw [h.one h1 hx h2]
/-- The search by halves finds what is there. -/
theorem found_look (l : List ItemV) (h : Srt l) (s : List UInt8) : (if foundB l s then l[findI l s]? else none) = lookT l s := by
  obtain ⟨h0, h1, h2⟩ := find_law l h s
  unfold foundB
  cases hx : l[findI l s]? with
  | none =>
    have hlen := List.getElem?_eq_none_iff.1 hx
    refine Eq.trans (by simp) (look_none.2 fun x hm e => ?_).symm
    obtain ⟨k, hk, rfl⟩ := List.getElem_of_mem hm
    exact lt_ne (h1 k hk (by omega)) e
  | some y =>
    obtain ⟨hi, rfl⟩ := List.getElem?_eq_some_iff.1 hx
    by_cases hc : Lib.compareBytes (l[findI l s]).path s = 0
    · have e := (cmp_zero _ _).1 hc
      simp only [hc, beq_self_eq_true, if_true]
      conv => rhs; rw [← e]
      exact (look_mem h (List.getElem_mem hi)).symm
    · have hb : (Lib.compareBytes (l[findI l s]).path s == 0) = false := by simpa using hc
      simp only [hb, Bool.false_eq_true, if_false]
      refine (look_none.2 fun x hm e => ?_).symm
      obtain ⟨k, hk, rfl⟩ := List.getElem_of_mem hm
      by_cases hlt : k < findI l s
      · exact lt_ne (h1 k hk hlt) e
      · by_cases he : k = findI l s
        · subst he
          exact hc ((cmp_zero _ _).2 e)
        · have h3 := h.at_lt hi hk (by omega)
          rw [e] at h3
          exact h2 _ hi (Nat.le_refl _) h3
theorem getT_look {l : List ItemV} (h : Srt l) (s : List UInt8) : getT l s = if s.isEmpty then none else lookT l s := by
  rw [← found_look l h s, getT]
  cases s.isEmpty <;> cases foundB l s <;> simp
theorem isDirT_look {l : List ItemV} (h : Srt l) (s : List UInt8) : isDirT l s = dirL l s := by
  have hf := found_look l h s
  unfold isDirT dirL
  rw [← hf]
  cases hb : foundB l s
  · simp
  · simp only [if_true, Bool.true_and]
    rfl

/-! ### nodes -/
/-- An item of a path and a node. -/
def NodeV.item (n : NodeV) (p : List UInt8) : ItemV := ⟨p, n.kind, n.mode, n.time, n.bs⟩
@[simp] theorem item_path (n : NodeV) (p : List UInt8) : (n.item p).path = p := rfl
@[simp] theorem item_node (n : NodeV) (p : List UInt8) : (n.item p).node = n := rfl
@[simp] theorem item_kind (n : NodeV) (p : List UInt8) : (n.item p).kind = n.kind := rfl

/-! ### what a put and a removal do -/
/-- An item in its place; what was there goes. -/
def setL (x : ItemV) : Bool → List ItemV → List ItemV
  | done, [] => if done then [] else [x]
  | done, y :: l => (if done = false ∧ ¬ y.path < x.path then [x] else []) ++ ((if y.path ≠ x.path then [y] else []) ++ setL x (done || !decide (y.path < x.path)) l)
theorem setL_done (x : ItemV) : ∀ l, setL x true l = l.filter fun y => y.path != x.path
  | [] => rfl
  | y :: l => by
    rw [setL, Bool.true_or, setL_done x l, List.filter_cons]
    by_cases h : y.path = x.path <;> simp [h]
/-- Without all below. -/
def cutL (l : List ItemV) (p : List UInt8) : List ItemV := l.filter fun y => !belowB p y.path
def remL (l : List ItemV) (p : List UInt8) : List ItemV := (cutL l p).filter fun y => y.path != p
theorem setL_mem (x : ItemV) : ∀ (d : Bool) (l : List ItemV) (y : ItemV), y ∈ setL x d l ↔ (d = false ∧ y = x) ∨ (y ∈ l ∧ y.path ≠ x.path)
  | d, [], y => by cases d <;> simp [setL]
  | d, z :: l, y => by
    rw [setL, List.mem_append, List.mem_append, setL_mem x _ l y]
    cases d with
    | true =>
      by_cases h : z.path = x.path
      · simp only [h]
        constructor
        · rintro (h1 | h1 | h1 | h1) <;> simp_all
        · rintro (h1 | ⟨h1, h2⟩)
          · simp_all
          · rcases List.mem_cons.1 h1 with rfl | h1
            · exact absurd h h2
            · simp_all
      · constructor
        · rintro (h1 | h1 | h1 | h1) <;> simp_all
        · rintro (h1 | ⟨h1, h2⟩)
          · simp_all
          · rcases List.mem_cons.1 h1 with rfl | h1 <;> simp_all
    | false =>
      by_cases hl : z.path < x.path
      · have h : z.path ≠ x.path := lt_ne hl
        simp only [hl]
        constructor
        · rintro (h1 | h1 | h1 | h1) <;> simp_all
        · rintro (h1 | ⟨h1, h2⟩)
          · simp_all
          · rcases List.mem_cons.1 h1 with rfl | h1 <;> simp_all
      · by_cases h : z.path = x.path
        · simp only [h]
          constructor
          · rintro (h1 | h1 | h1 | h1) <;> simp_all
          · rintro (h1 | ⟨h1, h2⟩)
            · simp_all
            · rcases List.mem_cons.1 h1 with rfl | h1
              · exact absurd h h2
              · simp_all
        · simp only [hl]
          constructor
          · rintro (h1 | h1 | h1 | h1) <;> simp_all
          · rintro (h1 | ⟨h1, h2⟩)
            · simp_all
            · rcases List.mem_cons.1 h1 with rfl | h1 <;> simp_all
theorem setL_srt (x : ItemV) : ∀ (d : Bool) (l : List ItemV), Srt l → Srt (setL x d l)
  | true, l, h => by rw [setL_done]; exact List.Pairwise.filter _ h
  | false, [], _ => by simp [setL, Srt]
  | false, y :: l, h => by
    obtain ⟨h1, h2⟩ := List.pairwise_cons.1 h
    rw [setL]
    by_cases hl : y.path < x.path
    · have hne := lt_ne hl
      have e : (false || !decide (y.path < x.path)) = false := by simp [hl]
      rw [e, if_neg (by simp [hl]), if_pos hne]
      refine List.pairwise_cons.2 ⟨fun z hz => ?_, setL_srt x false l h2⟩
      rcases (setL_mem x false l z).1 hz with ⟨_, rfl⟩ | ⟨hz, _⟩
      · exact hl
      · exact h1 z hz
    · have e : (false || !decide (y.path < x.path)) = true := by simp [hl]
      rw [e, if_pos ⟨rfl, hl⟩]
      have hy : ∀ z ∈ y :: l, z.path ≠ x.path → x.path < z.path := fun z hz hne => by
        rcases lt_or hl with e2 | e2
        · rcases List.mem_cons.1 hz with rfl | hz
          · exact absurd e2 hne
          · rw [← e2]; exact h1 z hz
        · rcases List.mem_cons.1 hz with rfl | hz
          · exact e2
          · exact lt_tr e2 (h1 z hz)
      have hr : Srt ((if y.path ≠ x.path then [y] else []) ++ setL x true l) := by
        rw [setL_done]
        have hf : Srt ((y :: l).filter fun z => z.path != x.path) := List.Pairwise.filter _ h
        rw [List.filter_cons] at hf
        by_cases hc : y.path = x.path <;> simpa [hc] using hf
      refine List.pairwise_cons.2 ⟨fun z hz => ?_, hr⟩
      have hz2 : z ∈ y :: l ∧ z.path ≠ x.path := by
        replace hz : z ∈ (if y.path ≠ x.path then [y] else []) ++ setL x true l := hz
        rw [setL_done] at hz
        rcases List.mem_append.1 hz with hz | hz
        · by_cases hc : y.path = x.path
          · simp [hc] at hz
          · simp [hc] at hz; subst hz; exact ⟨by simp, hc⟩
        · obtain ⟨a, b⟩ := List.mem_filter.1 hz
          exact ⟨List.mem_cons_of_mem _ a, by simpa using b⟩
      exact hy z hz2.1 hz2.2
theorem setL_len (x : ItemV) : ∀ (d : Bool) (l : List ItemV), (setL x d l).length ≤ l.length + 1
  | d, [] => by cases d <;> simp [setL]
  | true, y :: l => by rw [setL_done]; exact Nat.le_succ_of_le (List.length_filter_le _ _)
  | false, y :: l => by
    rw [setL]
    by_cases hl : y.path < x.path
    · have h := setL_len x false l
      have e : (false || !decide (y.path < x.path)) = false := by simp [hl]
      rw [e, if_neg (by simp [hl]), if_pos (lt_ne hl)]
      simp only [List.nil_append, List.length_append, List.length_cons, List.length_nil]
      omega
    · have e : (false || !decide (y.path < x.path)) = true := by simp [hl]
      rw [e, if_pos ⟨rfl, hl⟩, setL_done]
      have h := List.length_filter_le (fun z : ItemV => z.path != x.path) l
      by_cases hc : y.path = x.path <;> simp [hc] <;> omega

/-! ### what stands ahead -/
theorem slash_split {p : List UInt8} (h : (47 : UInt8) ∈ p) : ∃ q z, p = q ++ 47 :: z ∧ (47 : UInt8) ∉ z := by
  obtain ⟨a, b, e, hn⟩ := List.eq_append_cons_of_mem (List.mem_reverse.2 h)
  refine ⟨b.reverse, a.reverse, ?_, by simpa using hn⟩
  have := congrArg List.reverse e
  simpa using this
theorem dirB_app {q z : List UInt8} (hz : (47 : UInt8) ∉ z) : dirB (q ++ 47 :: z) = q := by
  unfold dirB
  rw [lastB_app q z hz]
  have e : (max 0 (q.length : Int)).toNat = q.length := by omega
  rw [e, List.take_left]
theorem dirB_none {p : List UInt8} (h : (47 : UInt8) ∉ p) : dirB p = [] := by
  unfold dirB
  rw [lastB_none h]
  rfl
theorem dirB_cases (p : List UInt8) : (dirB p = [] ∧ (47 : UInt8) ∉ p) ∨ ∃ z, p = dirB p ++ 47 :: z ∧ (47 : UInt8) ∉ z := by
  by_cases h : (47 : UInt8) ∈ p
  · obtain ⟨q, z, rfl, hz⟩ := slash_split h
    exact .inr ⟨z, by rw [dirB_app hz], hz⟩
  · exact .inl ⟨dirB_none h, h⟩
theorem dirB_lt {p : List UInt8} (hp : p ≠ []) : (dirB p).length < p.length := by
  rcases dirB_cases p with ⟨h, _⟩ | ⟨z, e, _⟩
  · rw [h]; exact List.length_pos_iff.2 hp
  · have := congrArg List.length e
    simp only [List.length_append, List.length_cons] at this
    omega
theorem below_ne {p q : List UInt8} (hp : p ≠ []) (h : belowB p q = true) : q ≠ p ∧ q ≠ [] := by
  have := belowB_len hp h
  exact ⟨fun e => by subst e; omega, fun e => by subst e; simp at this⟩
/-- What stands ahead is a path. -/
theorem isPath_dir {p : List UInt8} (h : isPathB p = true) : isPathB (dirB p) = true := by
  rcases dirB_cases p with ⟨h1, _⟩ | ⟨z, e, _⟩
  · rw [h1]; rfl
  · generalize dirB p = q at *
    subst e
    unfold isPathB at h ⊢
    cases q with
    | nil => rfl
    | cons c q =>
      have h0 : (c :: q ++ 47 :: z).isEmpty = false := rfl
      rw [h0, cut_app, List.all_append] at h
      simp only [Bool.false_or, Bool.and_eq_true, decide_eq_true_eq, List.length_append] at h
      obtain ⟨⟨h1, _⟩, h2⟩ := h
      rw [h1]
      simp only [Bool.true_and, Bool.or_eq_true, decide_eq_true_eq]
      exact .inr (by omega)
theorem isPath_len {p : List UInt8} (h : isPathB p = true) : p.length ≤ 120 := by
  unfold isPathB at h
  cases p with
  | nil => simp
  | cons c p => simpa using (by simpa using h : _ ∧ _).2
end Go.Proofs.YtgpidbdgodgefaaDoor
