/- Walks over trees that may be: by the document the same; where they lead. Plain laws. Conditions: as the theorems name them. -/
import Derived.Test.YtgpidbdgodgefaaDoorTreeOk
import Derived.Test.YtgpidbdgodgefaaDoorWalk2
namespace Go.Proofs.YtgpidbdgodgefaaDoor
open Go.RowKit

/-- The document's walk, for so many steps at most. -/
def refRunT (l : List ItemV) (follow : Bool) : Nat → WSt → List UInt8 × Bool × Int
  | 0, s => (s.at_, true, 0)
  | f + 1, s => match s.parts with
    | [] => (s.at_, true, 0)
    | q :: r =>
      if q = [46] then refRunT l follow f ⟨s.at_, r, s.hops⟩
      else if q = [46, 46] then refRunT l follow f ⟨dirB s.at_, r, s.hops⟩
      else if dirL l s.at_ = false then ([], false, 9)
      else if 120 < (joinB s.at_ q).length then ([], false, 12)
      else match lookT l (joinB s.at_ q) with
        | none => if 0 < r.length then ([], false, 6) else (joinB s.at_ q, false, 0)
        | some x =>
          if x.kind = 3 ∧ (0 < r.length ∨ follow = true) then (if 8 < s.hops + 1 then ([], false, 11) else if errN x.bs ≠ 0 then ([], false, errN x.bs) else refRunT l follow f ⟨if x.bs.head? = some 47 then [] else s.at_, segs (cutB x.bs) ++ r, s.hops + 1⟩)
          else refRunT l follow f ⟨joinB s.at_ q, r, s.hops⟩
def refWalkT (l : List ItemV) (s : List UInt8) (follow : Bool) : List UInt8 × Bool × Int :=
  if errN s ≠ 0 then ([], false, errN s) else refRunT l follow 2000 ⟨[], segs (cutB s), 0⟩

theorem joinB_ne2 {d q : List UInt8} (hq : q ≠ []) : joinB d q ≠ [] := by
  unfold joinB
  split
  · exact hq
  · simp
theorem segs_ne {s q : List UInt8} (h : q ∈ segs (cutB s)) : q ≠ [] := by
  have := (List.mem_filter.1 h).2
  intro e
  subst e
  cases this

theorem runT_empty (l : List ItemV) (follow : Bool) (f : Nat) (a : List UInt8) (h : Nat) (th : Bool) : runT l follow f ⟨a, [], h⟩ th = (a, th, 0) := by
  cases f <;> rfl
theorem refRunT_empty (l : List ItemV) (follow : Bool) (f : Nat) (a : List UInt8) (h : Nat) : refRunT l follow f ⟨a, [], h⟩ = (a, true, 0) := by
  cases f <;> rfl
theorem run_ref (l : List ItemV) (hl : Srt l) (follow : Bool) : ∀ (f : Nat) (s : WSt), (∀ q ∈ s.parts, q ≠ []) → runT l follow f s true = refRunT l follow f s
  | 0, _, _ => rfl
  | f + 1, ⟨a, [], h⟩, _ => rfl
  | f + 1, ⟨a, q :: r, h⟩, hq => by
    have hr : ∀ x ∈ r, x ≠ [] := fun x hx => hq x (List.mem_cons_of_mem _ hx)
    rw [runT, refRunT]
    dsimp only
    by_cases h1 : q = [46]
    · rw [if_pos h1, if_pos h1]
      exact run_ref l hl follow f _ hr
    rw [if_neg h1, if_neg h1]
    by_cases h2 : q = [46, 46]
    · rw [if_pos h2, if_pos h2]
      exact run_ref l hl follow f _ hr
    rw [if_neg h2, if_neg h2]
    have hj : (joinB a q).isEmpty = false := by
      have := joinB_ne2 (d := a) (hq q (by simp))
      cases hh : joinB a q with
      | nil => exact absurd hh this
      | cons x y => rfl
    unfold downT
    dsimp only
    rw [isDirT_look hl, getT_look hl, hj]
    by_cases h3 : dirL l a = false
    · rw [if_pos h3, if_pos h3]; rfl
    rw [if_neg h3, if_neg h3]
    by_cases h4 : 120 < (joinB a q).length
    · rw [if_pos h4, if_pos h4]; rfl
    rw [if_neg h4, if_neg h4]
    simp only [Bool.false_eq_true, if_false]
    cases hx : lookT l (joinB a q) with
    | none =>
      dsimp only
      cases r with
      | nil => simp [runT_empty]
      | cons y r => simp
    | some x =>
      dsimp only
      by_cases h5 : x.kind = 3 ∧ (0 < r.length ∨ follow = true)
      · simp only [if_pos h5]
        by_cases h6 : 8 < h + 1
        · have e : thrT ⟨a, r, h⟩ x.bs = (⟨a, r, h + 1⟩, 11) := by unfold thrT; rw [if_pos h6]
          simp only [e, if_pos h6]
          rfl
        by_cases h7 : errN x.bs = 0
        · have e : thrT ⟨a, r, h⟩ x.bs = (⟨if x.bs.head? = some 47 then [] else a, segs (cutB x.bs) ++ r, h + 1⟩, 0) := by unfold thrT; rw [if_neg h6, if_neg (fun k => k h7)]
          simp only [e, if_neg h6, h7, ne_eq, not_true_eq_false, if_false]
          exact run_ref l hl follow f _ (fun y (hy : y ∈ segs (cutB x.bs) ++ r) => by
            rcases List.mem_append.1 hy with hy | hy
            · exact segs_ne hy
            · exact hr y hy)
        · have e : thrT ⟨a, r, h⟩ x.bs = (⟨a, r, h + 1⟩, errN x.bs) := by unfold thrT; rw [if_neg h6, if_pos h7]
          simp only [e, if_neg h6, h7, ne_eq, not_false_eq_true, if_true]
      · simp only [if_neg h5, ne_eq, not_true_eq_false, if_false]
        exact run_ref l hl follow f _ hr
/-- By the document the same. -/
theorem walk_ref (l : List ItemV) (hl : Srt l) (s : List UInt8) (follow : Bool) : walkT l s follow = refWalkT l s follow := by
  unfold walkT refWalkT
  split
  · rfl
  · exact run_ref l hl follow 2000 _ fun q hq => segs_ne hq

/-! ### how many steps are allowed does not matter -/
theorem runT_irr (l : List ItemV) (follow : Bool) : ∀ (f g : Nat) (s : WSt) (th : Bool), Good s → mu s < f → mu s < g → runT l follow f s th = runT l follow g s th
  | 0, _, _, _, _, h, _ => absurd h (Nat.not_lt_zero _)
  | _, 0, _, _, _, _, h => absurd h (Nat.not_lt_zero _)
  | f + 1, g + 1, ⟨a, [], h⟩, th, _, _, _ => rfl
  | f + 1, g + 1, ⟨a, q :: r, h⟩, th, hg, h1, h2 => by
    have hm : mu ⟨a, r, h⟩ + 1 = mu ⟨a, q :: r, h⟩ := by unfold mu; simp only [List.length_cons]; omega
    have hm2 : mu ⟨dirB a, r, h⟩ + 1 = mu ⟨a, q :: r, h⟩ := by unfold mu; simp only [List.length_cons]; omega
    have hg2 : Good ⟨a, r, h⟩ := ⟨hg.1, fun x hx => hg.2.1 x (List.mem_cons_of_mem _ hx), hg.2.2⟩
    rw [runT, runT]
    dsimp only
    by_cases e1 : q = [46]
    · rw [if_pos e1, if_pos e1]
      exact runT_irr l follow f g _ th hg2 (by omega) (by omega)
    rw [if_neg e1, if_neg e1]
    by_cases e2 : q = [46, 46]
    · rw [if_pos e2, if_pos e2]
      refine runT_irr l follow f g _ th ⟨?_, hg2.2⟩ (by omega) (by omega)
      have h5 := dirB_len a
      have h6 := hg.1
      dsimp only at h6 ⊢
      omega
    rw [if_neg e2, if_neg e2]
    by_cases e3 : (downT l follow ⟨a, r, h⟩ q).2.2 = 0
    · rw [if_neg (fun x => x e3), if_neg (fun x => x e3)]
      obtain ⟨k1, k2⟩ := down_good hg2 e3
      exact runT_irr l follow f g _ _ k1 (by omega) (by omega)
    · rw [if_pos e3, if_pos e3]
end Go.Proofs.YtgpidbdgodgefaaDoor
/- Walks over trees that may be: what is told is a path, and there, or what stands ahead of it is a directory. Plain laws. Conditions: as the theorems name them. -/
namespace Go.Proofs.YtgpidbdgodgefaaDoor
open Go.RowKit

theorem cutB_sub : ∀ (s : List UInt8), ∀ q ∈ cutB s, (47 : UInt8) ∉ q ∧ ∀ c ∈ q, c ∈ s
  | [], q, hq => by
    have : q = [] := by simpa [cutB] using hq
    subst this
    simp
  | c :: s, q, hq => by
    unfold cutB at hq
    by_cases hc : c = 47
    · rw [if_pos hc] at hq
      rcases List.mem_cons.1 hq with rfl | hq
      · simp
      · obtain ⟨h1, h2⟩ := cutB_sub s q hq
        exact ⟨h1, fun x hx => List.mem_cons_of_mem _ (h2 x hx)⟩
    · rw [if_neg hc] at hq
      have hih := cutB_sub s
      have hlen := cutB_len s
      cases hs : cutB s with
      | nil => rw [hs] at hlen; simp at hlen
      | cons h t =>
        rw [hs] at hq hih
        rcases List.mem_cons.1 hq with rfl | hq
        · obtain ⟨h1, h2⟩ := hih h (by simp)
          refine ⟨fun hm => ?_, fun x hx => ?_⟩
          · rcases List.mem_cons.1 hm with e | hm
            · exact hc e.symm
            · exact h1 hm
          · rcases List.mem_cons.1 hx with rfl | hx
            · simp
            · exact List.mem_cons_of_mem _ (h2 x hx)
        · obtain ⟨h1, h2⟩ := hih q (List.mem_cons_of_mem _ hq)
          exact ⟨h1, fun x hx => List.mem_cons_of_mem _ (h2 x hx)⟩
/-- A part of what is said. -/
def PartOk (q : List UInt8) : Prop := q ≠ [] ∧ q.length ≤ 24 ∧ (0 : UInt8) ∉ q ∧ (47 : UInt8) ∉ q
theorem errN_zero {s : List UInt8} (h : errN s = 0) : s.length ≤ 120 ∧ (0 : UInt8) ∉ s ∧ ∀ q ∈ cutB s, q.length ≤ 24 := by
  unfold errN at h
  by_cases h1 : 120 < s.length
  · rw [if_pos h1] at h; cases h
  rw [if_neg h1] at h
  by_cases h2 : (0 : UInt8) ∈ s
  · rw [if_pos h2] at h; cases h
  rw [if_neg h2] at h
  by_cases h3 : ((cutB s).any fun p => decide (24 < p.length)) = true
  · rw [if_pos h3] at h; cases h
  refine ⟨by omega, h2, fun q hq => ?_⟩
  by_cases h4 : q.length ≤ 24
  · exact h4
  · exact absurd (List.any_eq_true.2 ⟨q, hq, by simpa using by omega⟩) h3
theorem parts_ok {s : List UInt8} (h : errN s = 0) : ∀ q ∈ segs (cutB s), PartOk q := fun q hq => by
  obtain ⟨_, h2, h3⟩ := errN_zero h
  have hm := (List.mem_filter.1 hq).1
  obtain ⟨h4, h5⟩ := cutB_sub s q hm
  exact ⟨segs_ne hq, h3 q hm, fun h0 => h2 (h5 _ h0), h4⟩
theorem part_right {q : List UInt8} (h : PartOk q) (h1 : q ≠ [46]) (h2 : q ≠ [46, 46]) : rightNm q = true := by
  obtain ⟨a, b, c, d⟩ := h
  unfold rightNm
  have e : q.isEmpty = false := by cases q with
    | nil => exact absurd rfl a
    | cons x y => rfl
  simp [e, b, c, d, h1, h2]
theorem path_all {a : List UInt8} (ha : isPathB a = true) (hne : a ≠ []) : (cutB a).all rightNm = true ∧ a.length ≤ 120 := by
  unfold isPathB at ha
  cases a with
  | nil => exact absurd rfl hne
  | cons x y => simpa using ha
theorem join_path {a q : List UInt8} (ha : isPathB a = true) (hq : rightNm q = true) (hl : (joinB a q).length ≤ 120) : isPathB (joinB a q) = true := by
  have hs := (right_slash hq).1
  unfold isPathB
  by_cases hn : a = []
  · subst hn
    have e : joinB [] q = q := rfl
    rw [e] at hl ⊢
    rw [cut_one q hs]
    simp [hq, hl]
  · rw [joinB_app hn] at hl ⊢
    rw [cut_app, cut_one q hs]
    have := (path_all ha hn).1
    rw [List.all_append, this]
    simp only [List.all_cons, hq, List.all_nil, Bool.and_true, Bool.true_and, Bool.or_eq_true, decide_eq_true_eq]
    exact .inr hl
theorem dir_join {a q : List UInt8} (hq : (47 : UInt8) ∉ q) : dirB (joinB a q) = a := by
  by_cases hn : a = []
  · subst hn
    exact dirB_none hq
  · rw [joinB_app hn]; exact dirB_app hq

/-- What holds on the way. -/
structure Way (l : List ItemV) (s : WSt) (th : Bool) : Prop where
  path : isPathB s.at_ = true
  parts : ∀ q ∈ s.parts, PartOk q
  yes : th = true → s.at_ = [] ∨ ∃ x ∈ l, x.path = s.at_
  no : th = false → s.parts = [] ∧ s.at_ ≠ [] ∧ lookT l s.at_ = none ∧ dirL l (dirB s.at_) = true
/-- What holds at the end. -/
def Told (l : List ItemV) (R : List UInt8 × Bool × Int) : Prop :=
  (R.2.2 = 0 → isPathB R.1 = true ∧ R.2.1 = (R.1.isEmpty || (lookT l R.1).isSome) ∧ (R.2.1 = false → dirL l (dirB R.1) = true)) ∧ (R.2.2 ≠ 0 → R.1 = [] ∧ R.2.1 = false)
theorem Told.bad (l : List ItemV) {e : Int} (h : e ≠ 0) : Told l ([], false, e) := ⟨fun k => absurd k h, fun _ => ⟨rfl, rfl⟩⟩
theorem Way.told {l : List ItemV} (hl : Srt l) {s : WSt} {th : Bool} (h : Way l s th) : Told l (s.at_, th, 0) := by
  refine ⟨fun _ => ⟨h.path, ?_, fun e => (h.no e).2.2.2⟩, fun k => absurd rfl k⟩
  dsimp only
  cases th with
  | true =>
    rcases h.yes rfl with e | ⟨x, hx, e⟩
    · rw [e]; rfl
    · rw [← e, look_mem hl hx]; simp
  | false =>
    obtain ⟨_, h2, h3, _⟩ := h.no rfl
    rw [h3]
    cases hh : s.at_ with
    | nil => exact absurd hh h2
    | cons a b => rfl
theorem dirL_yes {l : List ItemV} (hl : Srt l) {p : List UInt8} (h : dirL l p = true) : p = [] ∨ ∃ x ∈ l, x.path = p := by
  by_cases hp : p = []
  · exact .inl hp
  · obtain ⟨x, h1, h2, _⟩ := (dirL_iff hl hp).1 h
    exact .inr ⟨x, h1, h2⟩
theorem run_told {l : List ItemV} (hl : TreeOk l) (follow : Bool) : ∀ (f : Nat) (s : WSt) (th : Bool), Way l s th → Told l (runT l follow f s th)
  | 0, _, _, h => h.told hl.srt
  | f + 1, ⟨a, [], h⟩, th, hw => hw.told hl.srt
  | f + 1, ⟨a, q :: r, h⟩, th, hw => by
    have hth : th = true := by
      cases th with
      | true => rfl
      | false => exact absurd (hw.no rfl).1 (by simp)
    subst hth
    have hr : ∀ x ∈ r, PartOk x := fun x hx => hw.parts x (List.mem_cons_of_mem _ hx)
    have hq := hw.parts q (by simp)
    rw [runT]
    dsimp only
    by_cases h1 : q = [46]
    · rw [if_pos h1]
      exact run_told hl follow f _ _ ⟨hw.path, hr, hw.yes, fun e => (by cases e)⟩
    rw [if_neg h1]
    by_cases h2 : q = [46, 46]
    · rw [if_pos h2]
      refine run_told hl follow f _ _ ⟨isPath_dir hw.path, hr, fun _ => ?_, fun e => (by cases e)⟩
      rcases hw.yes rfl with e | ⟨x, hx, e⟩
      · left
        dsimp only at e ⊢
        rw [e]; rfl
      · dsimp only at e ⊢
        rw [← e]
        exact dirL_yes hl.srt (hl.dir x hx)
    rw [if_neg h2]
    have hrn := part_right hq h1 h2
    unfold downT
    dsimp only
    rw [isDirT_look hl.srt, getT_look hl.srt]
    by_cases h3 : dirL l a = false
    · simp only [if_pos h3]
      exact Told.bad l (e := 9) (by decide)
    rw [if_neg h3]
    have h3' : dirL l a = true := by cases hb : dirL l a with
      | true => rfl
      | false => exact absurd hb h3
    by_cases h4 : 120 < (joinB a q).length
    · simp only [if_pos h4]
      exact Told.bad l (e := 12) (by decide)
    rw [if_neg h4]
    have hjn := joinB_ne2 (d := a) hq.1
    have hj : (joinB a q).isEmpty = false := by
      cases hh : joinB a q with
      | nil => exact absurd hh hjn
      | cons x y => rfl
    have hjp := join_path hw.path hrn (Nat.le_of_not_lt h4)
    rw [hj]
    simp only [Bool.false_eq_true, if_false]
    cases hx : lookT l (joinB a q) with
    | none =>
      dsimp only
      cases r with
      | nil =>
        simp only [List.length_nil, Nat.lt_irrefl, if_false, ne_eq, not_true_eq_false]
        exact run_told hl follow f _ _ ⟨hjp, hr, fun e => (by cases e), fun _ => ⟨rfl, hjn, hx, by rw [dir_join hq.2.2.2]; exact h3'⟩⟩
      | cons y r =>
        simp only [List.length_cons, Nat.zero_lt_succ, if_true]
        exact Told.bad l (by decide)
    | some x =>
      dsimp only
      obtain ⟨hxm, hxp⟩ := look_some hx
      by_cases h5 : x.kind = 3 ∧ (0 < r.length ∨ follow = true)
      · simp only [if_pos h5]
        by_cases h6 : 8 < h + 1
        · have e : thrT ⟨a, r, h⟩ x.bs = (⟨a, r, h + 1⟩, 11) := by unfold thrT; rw [if_pos h6]
          simp only [e]
          exact Told.bad l (by decide)
        by_cases h7 : errN x.bs = 0
        · have e : thrT ⟨a, r, h⟩ x.bs = (⟨if x.bs.head? = some 47 then [] else a, segs (cutB x.bs) ++ r, h + 1⟩, 0) := by unfold thrT; rw [if_neg h6, if_neg (fun k => k h7)]
          simp only [e, ne_eq, not_true_eq_false, if_false]
          refine run_told hl follow f _ _ ⟨?_, fun y (hy : y ∈ segs (cutB x.bs) ++ r) => ?_, fun _ => ?_, fun e => (by cases e)⟩
          · dsimp only
            split
            · rfl
            · exact hw.path
          · rcases List.mem_append.1 hy with hy | hy
            · exact parts_ok h7 y hy
            · exact hr y hy
          · dsimp only
            split
            · exact .inl rfl
            · exact dirL_yes hl.srt h3'
        · have e : thrT ⟨a, r, h⟩ x.bs = (⟨a, r, h + 1⟩, errN x.bs) := by unfold thrT; rw [if_neg h6, if_pos h7]
          simp only [e, ne_eq, h7, not_false_eq_true, if_true]
          exact Told.bad l h7
      · simp only [if_neg h5, ne_eq, not_true_eq_false, if_false]
        exact run_told hl follow f _ _ ⟨hjp, hr, fun _ => .inr ⟨x, hxm, hxp⟩, fun e => (by cases e)⟩
/-- What is told is a path, and there, or what stands ahead of it is a directory. -/
theorem walk_told {l : List ItemV} (hl : TreeOk l) (s : List UInt8) (follow : Bool) : Told l (walkT l s follow) := by
  unfold walkT
  by_cases h : errN s = 0
  · rw [if_neg (fun k => k h)]
    exact run_told hl follow _ _ _ ⟨rfl, parts_ok h, fun _ => .inl rfl, fun e => (by cases e)⟩
  · rw [if_pos h]
    exact Told.bad l h
end Go.Proofs.YtgpidbdgodgefaaDoor
