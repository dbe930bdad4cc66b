/- Trees as lists: which may be; what a put and a removal keep. Plain laws. Conditions: as the theorems name them. -/
import Derived.Test.YtgpidbdgodgefaaDoorTreeL
import Derived.Test.YtgpidbdgodgefaaDoorNod
namespace Go.Proofs.YtgpidbdgodgefaaDoor
open Go.RowKit

/-- A tree that may be. -/
structure TreeOk (l : List ItemV) : Prop where
  srt : Srt l
  len : l.length ≤ 120
  path : ∀ x ∈ l, x.path ≠ [] ∧ isPathB x.path = true
  node : ∀ x ∈ l, rightN x.node = true
  dir : ∀ x ∈ l, dirL l (dirB x.path) = true
theorem TreeOk.nil : TreeOk [] :=
  ⟨List.Pairwise.nil, by simp, fun x h => (by cases h), fun x h => (by cases h), fun x h => (by cases h)⟩

theorem dirL_iff {l : List ItemV} (h : Srt l) {p : List UInt8} (hp : p ≠ []) : dirL l p = true ↔ ∃ x ∈ l, x.path = p ∧ x.kind = 2 := by
  unfold dirL
  have e : p.isEmpty = false := by cases p with
    | nil => exact absurd rfl hp
    | cons a b => rfl
  rw [e, Bool.false_or]
  constructor
  · intro hh
    cases hl : lookT l p with
    | none => rw [hl] at hh; cases hh
    | some x =>
      rw [hl] at hh
      obtain ⟨h1, h2⟩ := look_some hl
      exact ⟨x, h1, h2, by simpa using hh⟩
  · rintro ⟨x, h1, rfl, h3⟩
    rw [look_mem h h1]
    simpa using h3

/-- A put. -/
def putL (l : List ItemV) (p : List UInt8) (n : NodeV) : List ItemV × Int :=
  if p = [] ∨ isPathB p = false ∨ rightN n = false then ([], 1)
  else if dirL l (dirB p) = false then ([], 9)
  else if 120 < (setL (n.item p) false (if n.kind = 2 then l else cutL l p)).length then ([], 16)
  else (setL (n.item p) false (if n.kind = 2 then l else cutL l p), 0)

theorem cutL_srt {l : List ItemV} (h : Srt l) (p : List UInt8) : Srt (cutL l p) := List.Pairwise.filter _ h
theorem cutL_mem {l : List ItemV} {p : List UInt8} {y : ItemV} : y ∈ cutL l p ↔ y ∈ l ∧ belowB p y.path = false := by
  unfold cutL
  rw [List.mem_filter]
  simp
theorem putL_ok {l : List ItemV} (h : TreeOk l) {p : List UInt8} {n : NodeV} (hz : (putL l p n).2 = 0) : TreeOk (putL l p n).1 := by
  unfold putL at hz ⊢
  by_cases h1 : p = [] ∨ isPathB p = false ∨ rightN n = false
  · rw [if_pos h1] at hz; cases hz
  rw [if_neg h1] at hz ⊢
  by_cases h2 : dirL l (dirB p) = false
  · rw [if_pos h2] at hz; cases hz
  rw [if_neg h2] at hz ⊢
  by_cases h3 : 120 < (setL (n.item p) false (if n.kind = 2 then l else cutL l p)).length
  · rw [if_pos h3] at hz; cases hz
  rw [if_neg h3]
  clear hz
  have hp : p ≠ [] := fun e => h1 (.inl e)
  have hpp : isPathB p = true := by cases hb : isPathB p with
    | true => rfl
    | false => exact absurd (.inr (.inl hb)) h1
  have hn : rightN n = true := by cases hb : rightN n with
    | true => rfl
    | false => exact absurd (.inr (.inr hb)) h1
  have hd : dirL l (dirB p) = true := by cases hb : dirL l (dirB p) with
    | true => rfl
    | false => exact absurd hb h2
  have hsr : Srt (if n.kind = 2 then l else cutL l p) := by
    split
    · exact h.srt
    · exact cutL_srt h.srt p
  have hsub : ∀ y ∈ (if n.kind = 2 then l else cutL l p), y ∈ l := fun y hy => by
    split at hy
    · exact hy
    · exact (cutL_mem.1 hy).1
  have hmem : ∀ y, y ∈ setL (n.item p) false (if n.kind = 2 then l else cutL l p) ↔ y = n.item p ∨ (y ∈ (if n.kind = 2 then l else cutL l p) ∧ y.path ≠ p) := fun y => by
    rw [setL_mem]
    simp
  have hsr2 := setL_srt (n.item p) false _ hsr
  refine ⟨hsr2, Nat.le_of_not_lt h3, fun x hx => ?_, fun x hx => ?_, fun x hx => ?_⟩
  · rcases (hmem x).1 hx with rfl | ⟨hx, _⟩
    · exact ⟨hp, hpp⟩
    · exact h.path x (hsub x hx)
  · rcases (hmem x).1 hx with rfl | ⟨hx, _⟩
    · exact hn
    · exact h.node x (hsub x hx)
  · by_cases hd0 : dirB x.path = []
    · rw [hd0]; rfl
    rw [dirL_iff hsr2 hd0]
    rcases (hmem x).1 hx with rfl | ⟨hx, hxp⟩
    · rw [item_path] at hd0 ⊢
      obtain ⟨y, hy, he, hk⟩ := (dirL_iff h.srt hd0).1 hd
      have hlt := dirB_lt hp
      refine ⟨y, (hmem y).2 (.inr ⟨?_, fun e => ?_⟩), he, hk⟩
      · split
        · exact hy
        · refine cutL_mem.2 ⟨hy, ?_⟩
          rw [he]
          exact belowB_not hp (by omega)
      · rw [he] at e
        rw [e] at hlt
        omega
    · obtain ⟨y, hy, he, hk⟩ := (dirL_iff h.srt hd0).1 (h.dir x (hsub x hx))
      have hbel : belowB (dirB x.path) x.path = true := by
        rcases dirB_cases x.path with ⟨e, _⟩ | ⟨z, e, _⟩
        · exact absurd e hd0
        · exact (belowB_iff hd0 _).2 ⟨z, e⟩
      by_cases hyp : y.path = p
      · by_cases hk2 : n.kind = 2
        · exact ⟨n.item p, (hmem _).2 (.inl rfl), by rw [item_path, ← hyp, he], hk2⟩
        · exfalso
          rw [if_neg hk2] at hx
          have := (cutL_mem.1 hx).2
          rw [← hyp, he, hbel] at this
          cases this
      · refine ⟨y, (hmem y).2 (.inr ⟨?_, hyp⟩), he, hk⟩
        split
        · exact hy
        · rename_i hk2
          rw [if_neg hk2] at hx
          refine cutL_mem.2 ⟨hy, ?_⟩
          cases hb : belowB p y.path with
          | false => rfl
          | true =>
            rw [he] at hb
            have := belowB_trans hp hd0 hb hbel
            rw [(cutL_mem.1 hx).2] at this
            cases this
theorem putL_mem {l : List ItemV} {p : List UInt8} {n : NodeV} (hz : (putL l p n).2 = 0) {y : ItemV} (hy : y ∈ (putL l p n).1) : y = n.item p ∨ y ∈ l := by
  unfold putL at hz hy
  by_cases h1 : p = [] ∨ isPathB p = false ∨ rightN n = false
  · rw [if_pos h1] at hz; cases hz
  rw [if_neg h1] at hz hy
  by_cases h2 : dirL l (dirB p) = false
  · rw [if_pos h2] at hz; cases hz
  rw [if_neg h2] at hz hy
  by_cases h3 : 120 < (setL (n.item p) false (if n.kind = 2 then l else cutL l p)).length
  · rw [if_pos h3] at hz; cases hz
  rw [if_neg h3] at hy
  rcases (setL_mem _ _ _ _).1 hy with ⟨_, rfl⟩ | ⟨hy, _⟩
  · exact .inl rfl
  · right
    split at hy
    · exact hy
    · exact (cutL_mem.1 hy).1
end Go.Proofs.YtgpidbdgodgefaaDoor
