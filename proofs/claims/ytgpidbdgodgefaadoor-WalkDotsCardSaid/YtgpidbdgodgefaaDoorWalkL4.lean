/- Walks over trees that may be: the plain laws of WalkPlain and WalkDots. Conditions: as the theorems name them. -/
import Derived.Test.YtgpidbdgodgefaaDoorWalkL3
namespace Go.Proofs.YtgpidbdgodgefaaDoor
open Go.RowKit

theorem errN_of {s : List UInt8} (h1 : s.length ≤ 120) (h2 : (0 : UInt8) ∉ s) (h3 : ∀ q ∈ cutB s, q.length ≤ 24) : errN s = 0 := by
  unfold errN
  rw [if_neg (by omega), if_neg h2, if_neg]
  intro h
  obtain ⟨q, hq, hc⟩ := List.any_eq_true.1 h
  have := h3 q hq
  simp only [decide_eq_true_eq] at hc
  omega
theorem mem_cut : ∀ (p : List UInt8) (c : UInt8), c ∈ p → c = 47 ∨ ∃ q ∈ cutB p, c ∈ q
  | d :: p, c, h => by
    unfold cutB
    by_cases hd : d = 47
    · rw [if_pos hd]
      rcases List.mem_cons.1 h with rfl | h
      · exact .inl hd
      · rcases mem_cut p c h with e | ⟨q, hq, hc⟩
        · exact .inl e
        · exact .inr ⟨q, List.mem_cons_of_mem _ hq, hc⟩
    · rw [if_neg hd]
      have hlen := cutB_len p
      have ih := mem_cut p c
      cases hs : cutB p with
      | nil => rw [hs] at hlen; simp at hlen
      | cons x t =>
        rw [hs] at ih
        show c = 47 ∨ ∃ q ∈ (d :: x) :: t, c ∈ q
        rcases List.mem_cons.1 h with rfl | h
        · exact .inr ⟨c :: x, by simp, by simp⟩
        · rcases ih h with e | ⟨q, hq, hc⟩
          · exact .inl e
          · rcases List.mem_cons.1 hq with rfl | hq
            · exact .inr ⟨d :: q, by simp, List.mem_cons_of_mem _ hc⟩
            · exact .inr ⟨q, List.mem_cons_of_mem _ hq, hc⟩
theorem zero_of_cut {s : List UInt8} (h : ∀ q ∈ cutB s, (0 : UInt8) ∉ q) : (0 : UInt8) ∉ s := fun hm => by
  rcases mem_cut s 0 hm with e | ⟨q, hq, hc⟩
  · cases e
  · exact h q hq hc
theorem path_parts {p : List UInt8} (h : isPathB p = true) (hne : p ≠ []) : ∀ q ∈ cutB p, rightNm q = true := List.all_eq_true.1 (path_all h hne).1
theorem names_len (p : List UInt8) : (names p).length ≤ p.length + 1 := by
  unfold names
  split
  · simp
  · rw [cutB_len]
    have := List.count_le_length (a := (47 : UInt8)) (l := p)
    omega

/-- A path leads to itself, not following. -/
theorem walk_self {l : List ItemV} (hl : TreeOk l) {x : ItemV} (hx : x ∈ l) (hlen : x.path.length ≤ 119) : walkT l (47 :: x.path) false = (x.path, true, 0) := by
  obtain ⟨hne, hp⟩ := hl.path x hx
  have hparts := path_parts hp hne
  have hcut : cutB (47 :: x.path) = [] :: cutB x.path := rfl
  have he : errN (47 :: x.path) = 0 := errN_of (by simp; omega) (zero_of_cut fun q hq => by
    rw [hcut] at hq
    rcases List.mem_cons.1 hq with rfl | hq
    · simp
    · exact (right_part (hparts q hq)).2.2.1) (fun q hq => by
    rw [hcut] at hq
    rcases List.mem_cons.1 hq with rfl | hq
    · simp
    · exact (right_part (hparts q hq)).2.1)
  have hs : segs (cutB (47 :: x.path)) = names x.path := by
    rw [hcut, ← names_segs hp]
    rfl
  obtain ⟨a, z, hz, he2, hd, hn, _, hdown⟩ := down_item hl hx
  have hj : (joinB a z).length ≤ 120 := by rw [← he2]; omega
  have hna := names_len x.path
  rw [hn, List.length_append] at hna
  unfold walkT
  rw [if_neg (fun k => k he), hs, hn]
  have hdn := hdown false (fun _ => 0) (1999 - (names a).length + 1) [z] 0
  rw [dn_zero] at hdn
  simp only [List.length_singleton] at hna
  rw [show 2000 = 1999 - (names a).length + 1 + (names a).length by omega, hdn, step_name hl.srt false _ [] 0 true hd hz hx he2 hj (by simp), runT_empty, he2]
/-- A directory's path with a part and a slash behind it leads to it. -/
theorem walk_slash {l : List ItemV} (hl : TreeOk l) {x : ItemV} (hx : x ∈ l) (hk : x.kind = 2) (hlen : x.path.length ≤ 116) (fo : Bool) : walkT l (x.path ++ [47, 46, 47]) fo = (x.path, true, 0) := by
  obtain ⟨hne, hp⟩ := hl.path x hx
  have hparts := path_parts hp hne
  have hcut : cutB (x.path ++ [47, 46, 47]) = cutB x.path ++ [[46], []] := by rw [cut_app]; rfl
  have he : errN (x.path ++ [47, 46, 47]) = 0 := errN_of (by simp; omega) (zero_of_cut fun q hq => by
    rw [hcut] at hq
    rcases List.mem_append.1 hq with hq | hq
    · exact (right_part (hparts q hq)).2.2.1
    · simp only [List.mem_cons, List.not_mem_nil, or_false] at hq
      rcases hq with rfl | rfl <;> decide) (fun q hq => by
    rw [hcut] at hq
    rcases List.mem_append.1 hq with hq | hq
    · exact (right_part (hparts q hq)).2.1
    · simp only [List.mem_cons, List.not_mem_nil, or_false] at hq
      rcases hq with rfl | rfl <;> decide)
  have hs : segs (cutB (x.path ++ [47, 46, 47])) = names x.path ++ [[46]] := by
    rw [hcut, ← names_segs hp]
    unfold segs
    rw [List.filter_append]
    rfl
  have hd : dirL l x.path = true := (dirL_iff hl.srt hne).2 ⟨x, hx, rfl, hk⟩
  have hna := names_len x.path
  unfold walkT
  rw [if_neg (fun k => k he), hs]
  have hdn := down_dir hl fo (fun _ => 0) _ x.path (Nat.le_refl _) hd (1999 - (names x.path).length + 1) [[46]] 0
  rw [dn_zero] at hdn
  rw [show 2000 = 1999 - (names x.path).length + 1 + (names x.path).length by omega, hdn, step_dot, runT_empty]

/-! ### dots -/
/-- A name's text, with dots. -/
def tx (k : Nat) (last : Bool) (z : List UInt8) : List UInt8 := (if k = 1 then [46, 47] else if k = 2 then [47] else if k = 3 ∧ last = false then z ++ [47, 46, 46, 47] else []) ++ z
/-- A path's text, with dots. -/
def dotT (g : Nat → Nat) : Nat → List UInt8 → List UInt8 → List UInt8
  | n, part, [] => tx (g n) true part
  | n, part, c :: p => if c = 47 then tx (g n) false part ++ 47 :: dotT g (n + 1) [] p else dotT g n (part ++ [c]) p
def cb (k : Nat) (last : Bool) (z : List UInt8) : List (List UInt8) := if k = 1 then [[46], z] else if k = 2 then [[], z] else if k = 3 ∧ last = false then [z, [46, 46], z] else [z]
def cbs (g : Nat → Nat) : Nat → List (List UInt8) → List (List UInt8)
  | _, [] => []
  | n, [z] => cb (g n) true z
  | n, z :: y :: r => cb (g n) false z ++ cbs g (n + 1) (y :: r)
def consH (part : List UInt8) : List (List UInt8) → List (List UInt8)
  | [] => []
  | h :: t => (part ++ h) :: t
theorem cut_tx (k : Nat) (last : Bool) {z : List UInt8} (hz : (47 : UInt8) ∉ z) : cutB (tx k last z) = cb k last z := by
  unfold tx cb
  by_cases h1 : k = 1
  · rw [if_pos h1, if_pos h1]
    have e : cutB (([46] : List UInt8) ++ 47 :: z) = cutB [46] ++ cutB z := cut_app _ _
    rw [cut_one z hz] at e
    exact e
  rw [if_neg h1, if_neg h1]
  by_cases h2 : k = 2
  · rw [if_pos h2, if_pos h2]
    have e : cutB (([] : List UInt8) ++ 47 :: z) = cutB [] ++ cutB z := cut_app _ _
    rw [cut_one z hz] at e
    exact e
  rw [if_neg h2, if_neg h2]
  by_cases h3 : k = 3 ∧ last = false
  · rw [if_pos h3, if_pos h3]
    have e : cutB (z ++ 47 :: ([46, 46] ++ 47 :: z)) = cutB z ++ (cutB [46, 46] ++ cutB z) := by rw [cut_app, cut_app]
    rw [cut_one z hz] at e
    rw [show z ++ [47, 46, 46, 47] ++ z = z ++ 47 :: ([46, 46] ++ 47 :: z) by simp, e]
    rfl
  · rw [if_neg h3, if_neg h3]
    exact cut_one z hz
theorem cut_cons (p : List UInt8) : ∃ h t, cutB p = h :: t := by
  have hlen := cutB_len p
  cases hs : cutB p with
  | nil => rw [hs] at hlen; simp at hlen
  | cons x t => exact ⟨x, t, rfl⟩
theorem cut_dot (g : Nat → Nat) : ∀ (p : List UInt8) (n : Nat) (part : List UInt8), (47 : UInt8) ∉ part → cutB (dotT g n part p) = cbs g n (consH part (cutB p))
  | [], n, part, hp => by
    show cutB (tx (g n) true part) = cb (g n) true (part ++ [])
    rw [cut_tx _ _ hp, List.append_nil]
  | c :: p, n, part, hp => by
    obtain ⟨h, t, hc⟩ := cut_cons p
    by_cases e : c = 47
    · subst e
      rw [dotT, if_pos rfl, cut_app, cut_tx _ _ hp, cut_dot g p (n + 1) [] (by simp)]
      have e2 : cutB (47 :: p) = [] :: cutB p := rfl
      rw [e2, hc]
      show _ = cb (g n) false (part ++ []) ++ cbs g (n + 1) (h :: t)
      rw [List.append_nil]
      rfl
    · rw [dotT, if_neg e, cut_dot g p n (part ++ [c]) (by
        intro hm
        rcases List.mem_append.1 hm with hm | hm
        · exact hp hm
        · exact e (by simpa using hm : (47 : UInt8) = c).symm)]
      have e2 : cutB (c :: p) = consHead c (cutB p) := by rw [cutB, if_neg e]
      rw [e2, hc]
      show cbs g n ((part ++ [c] ++ h) :: t) = cbs g n ((part ++ (c :: h)) :: t)
      rw [List.append_assoc]
      rfl
theorem consH_nil (p : List UInt8) : consH [] (cutB p) = cutB p := by
  obtain ⟨h, t, hc⟩ := cut_cons p
  rw [hc]
  rfl
theorem segs_cb (k : Nat) {z : List UInt8} (hz : z ≠ []) : segs (cb k true z) = lblk k z ∧ segs (cb k false z) = blk3 k z := by
  have e : z.isEmpty = false := by cases z with
    | nil => exact absurd rfl hz
    | cons a b => rfl
  unfold cb lblk blk3 segs
  by_cases h1 : k = 1
  · subst h1; simp [e]
  by_cases h2 : k = 2
  · subst h2; simp [e]
  by_cases h3 : k = 3
  · subst h3; simp [e]
  simp [h1, h2, h3, e]
theorem segs_app (a b : List (List UInt8)) : segs (a ++ b) = segs a ++ segs b := List.filter_append ..
theorem segs_cbs (g : Nat → Nat) (z : List UInt8) (hz : z ≠ []) : ∀ (ns : List (List UInt8)) (n : Nat), (∀ q ∈ ns, q ≠ []) → segs (cbs g n (ns ++ [z])) = dn g n ns ++ lblk (g (n + ns.length)) z
  | [], n, _ => (segs_cb (g n) hz).1
  | y :: r, n, hq => by
    have ih := segs_cbs g z hz r (n + 1) fun q hq' => hq q (List.mem_cons_of_mem _ hq')
    obtain ⟨u, v, huv⟩ : ∃ u v, r ++ [z] = u :: v := by
      cases r with
      | nil => exact ⟨z, [], rfl⟩
      | cons u v => exact ⟨u, v ++ [z], rfl⟩
    rw [List.cons_append, huv, cbs, ← huv, segs_app, ih, (segs_cb (g n) (hq y (by simp))).2, dn, List.append_assoc, List.length_cons, show n + 1 + r.length = n + (r.length + 1) by omega]
theorem cbs_mem (g : Nat → Nat) : ∀ (ns : List (List UInt8)) (n : Nat), ∀ q ∈ cbs g n ns, q = [] ∨ q = [46] ∨ q = [46, 46] ∨ q ∈ ns
  | [], _, q, h => by cases h
  | [z], n, q, h => by
    unfold cbs cb at h
    split at h
    · simp only [List.mem_cons, List.not_mem_nil, or_false] at h ⊢; rcases h with rfl | rfl <;> simp
    split at h
    · simp only [List.mem_cons, List.not_mem_nil, or_false] at h ⊢; rcases h with rfl | rfl <;> simp
    split at h
    · rename_i h3; cases h3.2
    · simp only [List.mem_cons, List.not_mem_nil, or_false] at h ⊢; subst h; simp
  | z :: y :: r, n, q, h => by
    unfold cbs at h
    rcases List.mem_append.1 h with h | h
    · unfold cb at h
      split at h
      · simp only [List.mem_cons, List.not_mem_nil, or_false] at h ⊢; rcases h with rfl | rfl <;> simp
      split at h
      · simp only [List.mem_cons, List.not_mem_nil, or_false] at h ⊢; rcases h with rfl | rfl <;> simp
      split at h
      · simp only [List.mem_cons, List.not_mem_nil, or_false] at h ⊢; rcases h with rfl | rfl | rfl <;> simp
      · simp only [List.mem_cons, List.not_mem_nil, or_false] at h ⊢; subst h; simp
    · rcases cbs_mem g (y :: r) (n + 1) q h with e | e | e | e
      · exact .inl e
      · exact .inr (.inl e)
      · exact .inr (.inr (.inl e))
      · exact .inr (.inr (.inr (List.mem_cons_of_mem _ e)))
/-- Dots change nothing. -/
theorem walk_dots {l : List ItemV} (hl : TreeOk l) {x : ItemV} (hx : x ∈ l) (g : Nat → Nat) (hlen : (dotT g 0 [] x.path).length ≤ 120) (fo : Bool) :
    walkT l (dotT g 0 [] x.path) false = (x.path, true, 0) ∧ walkT l (dotT g 0 [] x.path) fo = walkT l x.path fo := by
  obtain ⟨hne, hp⟩ := hl.path x hx
  have hparts := path_parts hp hne
  have hcut : cutB (dotT g 0 [] x.path) = cbs g 0 (cutB x.path) := by rw [cut_dot g _ 0 [] (by simp), consH_nil]
  have hmem : ∀ q ∈ cutB (dotT g 0 [] x.path), (0 : UInt8) ∉ q ∧ q.length ≤ 24 := fun q hq => by
    rw [hcut] at hq
    rcases cbs_mem g _ 0 q hq with rfl | rfl | rfl | hq
    · decide
    · decide
    · decide
    · have := right_part (hparts q hq)
      exact ⟨this.2.2.1, this.2.1⟩
  have he : errN (dotT g 0 [] x.path) = 0 := errN_of hlen (zero_of_cut fun q hq => (hmem q hq).1) fun q hq => (hmem q hq).2
  obtain ⟨a, z, hz, he2, hd, hn, hxl, hdown⟩ := down_item hl hx
  have hj : (joinB a z).length ≤ 120 := by rw [← he2]; exact hxl
  have hzp := right_part hz
  have hcn : cutB x.path = names a ++ [z] := by rw [← hn]; unfold names; rw [if_neg hne]
  have hna : ∀ q ∈ names a, q ≠ [] := fun q hq => (right_part (hparts q (by rw [hcn]; simp [hq]))).1
  have hs : segs (cutB (dotT g 0 [] x.path)) = dn g 0 (names a) ++ lblk (g (0 + (names a).length)) z := by rw [hcut, hcn, segs_cbs g z hzp.1 _ 0 hna]
  have he3 : errN x.path = 0 := errN_of hxl (zero_of_cut fun q hq => (right_part (hparts q hq)).2.2.1) fun q hq => (right_part (hparts q hq)).2.1
  have hlen2 : (dn g 0 (names a)).length + (lblk (g (0 + (names a).length)) z).length ≤ 121 := by
    rw [← List.length_append, ← hs]
    exact (errN_ok he).2.1
  have hlen1 : (names a).length + 1 ≤ 121 := by
    have h5 := (errN_ok he3).2.1
    rw [names_segs hp, hn, List.length_append] at h5
    exact h5
  have hgood : Good ⟨a, [z], 0⟩ := ⟨by have h5 := dirB_len x.path; rw [he2, dir_join hzp.2.2.2, ← he2] at h5; show a.length ≤ 120; omega, fun q hq => by
    have : q = z := by simpa using hq
    subst this
    have := hzp.2.1
    omega, Nat.zero_le _⟩
  have hmu : mu ⟨a, [z], 0⟩ = 1601 := by unfold mu; simp only [List.length_singleton]
  -- the common state
  have key : ∀ fo : Bool, ∃ f, 1601 < f ∧ walkT l (dotT g 0 [] x.path) fo = runT l fo f ⟨a, [z], 0⟩ true := fun fo => by
    unfold walkT
    rw [if_neg (fun k => k he), hs]
    unfold lblk at hlen2 ⊢
    by_cases hc : g (0 + (names a).length) = 1
    · rw [if_pos hc] at hlen2 ⊢
      simp only [List.length_cons, List.length_nil] at hlen2
      refine ⟨1999 - (dn g 0 (names a)).length, by omega, ?_⟩
      have hdn := hdown fo g (1999 - (dn g 0 (names a)).length + 1) [[46], z] 0
      rw [show 2000 = 1999 - (dn g 0 (names a)).length + 1 + (dn g 0 (names a)).length by omega, hdn, step_dot]
    · rw [if_neg hc] at hlen2 ⊢
      simp only [List.length_cons, List.length_nil] at hlen2
      refine ⟨2000 - (dn g 0 (names a)).length, by omega, ?_⟩
      have hdn := hdown fo g (2000 - (dn g 0 (names a)).length) [z] 0
      conv => lhs; rw [show 2000 = 2000 - (dn g 0 (names a)).length + (dn g 0 (names a)).length by omega]
      exact hdn
  refine ⟨?_, ?_⟩
  · obtain ⟨f, hf, e⟩ := key false
    rw [e]
    obtain ⟨f', rfl⟩ : ∃ f', f = f' + 1 := ⟨f - 1, by omega⟩
    rw [step_name hl.srt false _ [] 0 true hd hz hx he2 hj (by simp), runT_empty, he2]
  · obtain ⟨f, hf, e⟩ := key fo
    rw [e]
    unfold walkT
    rw [if_neg (fun k => k he3), names_segs hp, hn]
    have hdn := hdown fo (fun _ => 0) (2000 - (names a).length) [z] 0
    rw [dn_zero] at hdn
    conv => rhs; rw [show 2000 = 2000 - (names a).length + (names a).length by omega]
    rw [hdn]
    exact runT_irr l fo f _ _ true hgood (by omega) (by omega)
end Go.Proofs.YtgpidbdgodgefaaDoor
