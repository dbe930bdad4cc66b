/- Trees that are turned: what a removal, a put, a move keep. Plain laws. Conditions: as the theorems name them. -/
import Derived.Test.YtgpidbdgodgefaaDoorRenL
import Derived.Test.YtgpidbdgodgefaaDoorHTree
import Derived.Test.YtgpidbdgodgefaaDoorWalkLs
namespace Go.Proofs.YtgpidbdgodgefaaDoor
open Go.RowKit

/-- A tree of raw turns: its paths and nodes may be; its files are small. -/
structure Tr (l : List ItemV) : Prop where
  srt : Srt l
  ok : ItemsOk l
  len : l.length ≤ 120
  small : ∀ x ∈ l, x.path.head? ≠ some 113 ∧ x.bs.length ≤ 60
theorem Hd.tr {l : List ItemV} (h : Hd l) : Tr l := ⟨h.ok.srt, fun x hx => ⟨(h.ok.path x hx).1, (h.ok.path x hx).2, h.ok.node x hx⟩, h.ok.len, h.small⟩
theorem Tr.nil : Tr [] := ⟨List.Pairwise.nil, fun x h => (by cases h), by simp, fun x h => (by cases h)⟩
theorem Tr.paths {l : List ItemV} (h : Tr l) : ∀ x ∈ l, x.path.length ≤ 120 := fun x hx => isPath_len (h.ok x hx).2.1
theorem Tr.sub {l k : List ItemV} (h : Tr l) (hk : k.Sublist l) : Tr k :=
  ⟨h.srt.sublist hk, fun x hx => h.ok x (hk.subset hx), Nat.le_trans hk.length_le h.len, fun x hx => h.small x (hk.subset hx)⟩
theorem remL_sub (l : List ItemV) (p : List UInt8) : (remL l p).Sublist l := (List.filter_sublist).trans List.filter_sublist
theorem Tr.rem {l : List ItemV} (h : Tr l) (p : List UInt8) : Tr (remL l p) := h.sub (remL_sub l p)
theorem putL_cases (l : List ItemV) (p : List UInt8) (n : NodeV) : (putL l p n).2 = 0 → p ≠ [] ∧ isPathB p = true ∧ rightN n = true ∧ (putL l p n).1 = setL (n.item p) false (if n.kind = 2 then l else cutL l p) ∧ (putL l p n).1.length ≤ 120 := by
  intro hz
  unfold putL at hz ⊢
  by_cases h1 : p = [] ∨ isPathB p = false ∨ rightN n = false
  · rw [if_pos h1] at hz; cases hz
  rw [if_neg h1] at hz ⊢
  by_cases h2 : dirL l (dirB p) = false
  · rw [if_pos h2] at hz; cases hz
  rw [if_neg h2] at hz ⊢
  by_cases h3 : 120 < (setL (n.item p) false (if n.kind = 2 then l else cutL l p)).length
  · rw [if_pos h3] at hz; cases hz
  rw [if_neg h3] at hz ⊢
  simp only [not_or, Bool.not_eq_false] at h1
  exact ⟨h1.1, h1.2.1, h1.2.2, rfl, Nat.le_of_not_lt h3⟩
theorem Tr.set {l : List ItemV} (h : Tr l) {p : List UInt8} {n : NodeV} (h1 : p ≠ []) (h2 : isPathB p = true) (h3 : rightN n = true) (hq : p.head? ≠ some 113) (hb : n.bs.length ≤ 60) (hl : (setL (n.item p) false l).length ≤ 120) : Tr (setL (n.item p) false l) := by
  refine ⟨setL_srt _ _ _ h.srt, fun x hx => ?_, hl, fun x hx => ?_⟩
  · rcases (setL_mem _ _ _ _).1 hx with ⟨_, rfl⟩ | ⟨hx, _⟩
    · exact ⟨h1, h2, h3⟩
    · exact h.ok x hx
  · rcases (setL_mem _ _ _ _).1 hx with ⟨_, rfl⟩ | ⟨hx, _⟩
    · exact ⟨hq, hb⟩
    · exact h.small x hx
theorem Tr.put {l : List ItemV} (h : Tr l) {p : List UInt8} {n : NodeV} (hz : (putL l p n).2 = 0) (hq : p.head? ≠ some 113) (hb : n.bs.length ≤ 60) : Tr (putL l p n).1 := by
  obtain ⟨h1, h2, h3, h4, h5⟩ := putL_cases l p n hz
  rw [h4] at h5 ⊢
  refine Tr.set ?_ h1 h2 h3 hq hb h5
  split
  · exact h
  · exact h.sub List.filter_sublist

/-! ### a move -/
def movedB (fr p : List UInt8) : Bool := p == fr || belowB fr p
def moveR (fr tp : List UInt8) : List ItemV → List ItemV → List ItemV × Int
  | [], out => (out, 0)
  | x :: r, out => if movedB fr x.path = false then moveR fr tp r out else if 120 < (tp ++ x.path.drop fr.length).length then ([], 12) else moveR fr tp r (setL (x.node.item (tp ++ x.path.drop fr.length)) false out)
def moveL (l : List ItemV) (fr tp : List UInt8) : List ItemV × Int :=
  if fr = [] ∨ tp = [] ∨ isPathB fr = false ∨ isPathB tp = false then ([], 1)
  else if (lookT l fr).isSome = false then ([], 6)
  else if belowB fr tp = true then ([], 18)
  else if (lookT l tp).isSome = true then ([], 7)
  else if dirL l (dirB tp) = false then ([], 9)
  else moveR fr tp l (remL l fr)
theorem moved_path {fr tp p : List UInt8} (h1 : fr ≠ []) (h2 : tp ≠ []) (hf : isPathB fr = true) (ht : isPathB tp = true) (hp : isPathB p = true) (hm : movedB fr p = true) (hl : (tp ++ p.drop fr.length).length ≤ 120) :
    tp ++ p.drop fr.length ≠ [] ∧ isPathB (tp ++ p.drop fr.length) = true ∧ (tp ++ p.drop fr.length).head? = tp.head? := by
  refine ⟨by simp [h2], ?_, ?_⟩
  · unfold movedB at hm
    rw [Bool.or_eq_true, beq_iff_eq] at hm
    rcases hm with rfl | hm
    · rw [List.drop_length, List.append_nil]; exact ht
    · obtain ⟨y, rfl⟩ := (belowB_iff h1 p).1 hm
      rw [List.drop_left] at hl ⊢
      have a1 := (path_all ht h2).1
      have a2 := (path_all hp (by simp)).1
      rw [cut_app, List.all_append, Bool.and_eq_true] at a2
      unfold isPathB
      rw [cut_app, List.all_append, a1, a2.2]
      simp only [Bool.and_true, Bool.true_and, Bool.or_eq_true, decide_eq_true_eq]
      exact .inr hl
  · cases tp with
    | nil => exact absurd rfl h2
    | cons a b => rfl
theorem moveR_tr {fr tp : List UInt8} (h1 : fr ≠ []) (h2 : tp ≠ []) (hf : isPathB fr = true) (ht : isPathB tp = true) (hq : tp.head? ≠ some 113) : ∀ (rest out : List ItemV), (∀ x ∈ rest, isPathB x.path = true ∧ rightN x.node = true ∧ x.bs.length ≤ 60) → Tr out → out.length + (rest.filter fun x => movedB fr x.path).length ≤ 120 → (moveR fr tp rest out).2 = 0 → Tr (moveR fr tp rest out).1
  | [], out, _, h, _, _ => h
  | x :: r, out, hr, h, hl, hz => by
    have hr2 : ∀ y ∈ r, isPathB y.path = true ∧ rightN y.node = true ∧ y.bs.length ≤ 60 := fun y hy => hr y (List.mem_cons_of_mem _ hy)
    obtain ⟨x1, x2, x3⟩ := hr x (by simp)
    rw [moveR] at hz ⊢
    by_cases hm : movedB fr x.path = false
    · rw [if_pos hm] at hz ⊢
      rw [List.filter_cons, hm] at hl
      exact moveR_tr h1 h2 hf ht hq r out hr2 h (by simpa using hl) hz
    rw [if_neg hm] at hz ⊢
    by_cases hb : 120 < (tp ++ x.path.drop fr.length).length
    · rw [if_pos hb] at hz; cases hz
    rw [if_neg hb] at hz ⊢
    have hm' : movedB fr x.path = true := by simpa using hm
    rw [List.filter_cons, hm', if_pos rfl, List.length_cons] at hl
    obtain ⟨q1, q2, q3⟩ := moved_path h1 h2 hf ht x1 hm' (Nat.le_of_not_lt hb)
    have hsl := setL_len (x.node.item (tp ++ x.path.drop fr.length)) false out
    refine moveR_tr h1 h2 hf ht hq r _ hr2 (h.set q1 q2 x2 (by rw [q3]; exact hq) x3 (by omega)) (by omega) hz
theorem filter_split {α : Type} (p : α → Bool) : ∀ l : List α, (l.filter p).length + (l.filter fun x => !p x).length = l.length
  | [] => rfl
  | x :: l => by
    have := filter_split p l
    rw [List.filter_cons, List.filter_cons]
    cases p x <;> simp <;> omega
theorem remL_moved (l : List ItemV) (fr : List UInt8) : remL l fr = l.filter fun x => !movedB fr x.path := by
  unfold remL cutL movedB
  rw [List.filter_filter]
  congr 1
  funext x
  rw [Bool.not_or]
  rfl
theorem Tr.move {l : List ItemV} (h : Tr l) {fr tp : List UInt8} (hq : tp.head? ≠ some 113) (hz : (moveL l fr tp).2 = 0) : Tr (moveL l fr tp).1 := by
  unfold moveL at hz ⊢
  by_cases h1 : fr = [] ∨ tp = [] ∨ isPathB fr = false ∨ isPathB tp = false
  · rw [if_pos h1] at hz; cases hz
  rw [if_neg h1] at hz ⊢
  by_cases h2 : (lookT l fr).isSome = false
  · rw [if_pos h2] at hz; cases hz
  rw [if_neg h2] at hz ⊢
  by_cases h3 : belowB fr tp = true
  · rw [if_pos h3] at hz; cases hz
  rw [if_neg h3] at hz ⊢
  by_cases h4 : (lookT l tp).isSome = true
  · rw [if_pos h4] at hz; cases hz
  rw [if_neg h4] at hz ⊢
  by_cases h5 : dirL l (dirB tp) = false
  · rw [if_pos h5] at hz; cases hz
  rw [if_neg h5] at hz ⊢
  simp only [not_or, Bool.not_eq_false] at h1
  refine moveR_tr h1.1 h1.2.1 h1.2.2.1 h1.2.2.2 hq l _ (fun x hx => ⟨(h.ok x hx).2.1, (h.ok x hx).2.2, (h.small x hx).2⟩) (h.rem fr) ?_ hz
  have := filter_split (fun x : ItemV => movedB fr x.path) l
  rw [remL_moved]
  have := h.len
  omega
end Go.Proofs.YtgpidbdgodgefaaDoor
