/- Changes of trees, and which of them go together: plain laws. Conditions: as the theorems name them. -/
import Derived.Test.YtgpidbdgodgefaaDoorSm
import Derived.Test.YtgpidbdgodgefaaDoorTreeOk
namespace Go.Proofs.YtgpidbdgodgefaaDoor
open Go.RowKit

/-- A change. -/
structure ChangeV where
  path : List UInt8
  kind : Int
  old : NodeV
  new : NodeV
def zeroN : NodeV := ⟨0, 0, 0, []⟩
/-- A path in its place, once. -/
def enterL (s : List UInt8) : List (List UInt8) → List (List UInt8)
  | [] => [s]
  | x :: r => if x < s then x :: enterL s r else if x = s then x :: r else s :: x :: r
abbrev Rise (l : List (List UInt8)) : Prop := l.Pairwise (· < ·)
theorem enterL_mem (s : List UInt8) : ∀ (l : List (List UInt8)) (y : List UInt8), y ∈ enterL s l ↔ y = s ∨ y ∈ l
  | [], y => by simp [enterL]
  | x :: r, y => by
    rw [enterL]
    by_cases h1 : x < s
    · rw [if_pos h1, List.mem_cons, enterL_mem s r y, List.mem_cons]
      constructor
      · rintro (h | h | h) <;> simp [h]
      · rintro (h | h | h) <;> simp [h]
    rw [if_neg h1]
    by_cases h2 : x = s
    · subst h2
      simp
    · rw [if_neg h2, List.mem_cons]
theorem enterL_rise (s : List UInt8) : ∀ (l : List (List UInt8)), Rise l → Rise (enterL s l)
  | [], _ => by simp [enterL, Rise]
  | x :: r, h => by
    obtain ⟨h1, h2⟩ := List.pairwise_cons.1 h
    rw [enterL]
    by_cases e1 : x < s
    · rw [if_pos e1]
      refine List.pairwise_cons.2 ⟨fun y hy => ?_, enterL_rise s r h2⟩
      rcases (enterL_mem s r y).1 hy with rfl | hy
      · exact e1
      · exact h1 y hy
    rw [if_neg e1]
    by_cases e2 : x = s
    · rw [if_pos e2]; exact h
    · rw [if_neg e2]
      have hs : s < x := by
        rcases lt_or e1 with e | e
        · exact absurd e e2
        · exact e
      refine List.pairwise_cons.2 ⟨fun y hy => ?_, h⟩
      rcases List.mem_cons.1 hy with rfl | hy
      · exact hs
      · exact lt_tr hs (h1 y hy)
theorem enterL_len (s : List UInt8) : ∀ (l : List (List UInt8)), (enterL s l).length ≤ l.length + 1
  | [] => by simp [enterL]
  | x :: r => by
    rw [enterL]
    have := enterL_len s r
    split
    · simp only [List.length_cons]; omega
    · split <;> simp only [List.length_cons] <;> omega
/-- The paths of items, rising, each once. -/
def pathsF (o : List (List UInt8)) (a : List ItemV) : List (List UInt8) := a.foldl (fun o x => enterL x.path o) o
def pathsL (a b : List ItemV) : List (List UInt8) := pathsF (pathsF [] a) b
theorem pathsF_rise : ∀ (a : List ItemV) (o : List (List UInt8)), Rise o → Rise (pathsF o a)
  | [], _, h => h
  | x :: a, o, h => pathsF_rise a _ (enterL_rise x.path o h)
theorem pathsF_mem (p : List UInt8) : ∀ (a : List ItemV) (o : List (List UInt8)), p ∈ pathsF o a ↔ p ∈ o ∨ ∃ x ∈ a, x.path = p
  | [], o => by simp [pathsF]
  | x :: a, o => by
    have ih := pathsF_mem p a (enterL x.path o)
    show p ∈ pathsF (enterL x.path o) a ↔ _
    rw [ih, enterL_mem]
    constructor
    · rintro ((h | h) | ⟨y, hy, e⟩)
      · exact .inr ⟨x, by simp, h.symm⟩
      · exact .inl h
      · exact .inr ⟨y, List.mem_cons_of_mem _ hy, e⟩
    · rintro (h | ⟨y, hy, e⟩)
      · exact .inl (.inr h)
      · rcases List.mem_cons.1 hy with rfl | hy
        · exact .inl (.inl e.symm)
        · exact .inr ⟨y, hy, e⟩
theorem pathsF_len : ∀ (a : List ItemV) (o : List (List UInt8)), (pathsF o a).length ≤ o.length + a.length
  | [], o => by simp [pathsF]
  | x :: a, o => by
    have ih := pathsF_len a (enterL x.path o)
    have := enterL_len x.path o
    show (pathsF (enterL x.path o) a).length ≤ _
    simp only [List.length_cons]
    omega
theorem pathsL_rise (a b : List ItemV) : Rise (pathsL a b) := pathsF_rise b _ (pathsF_rise a _ List.Pairwise.nil)
theorem pathsL_mem (a b : List ItemV) (p : List UInt8) : p ∈ pathsL a b ↔ (∃ x ∈ a, x.path = p) ∨ ∃ x ∈ b, x.path = p := by
  unfold pathsL
  rw [pathsF_mem, pathsF_mem]
  simp
theorem pathsL_len (a b : List ItemV) : (pathsL a b).length ≤ a.length + b.length := by
  have h1 := pathsF_len b (pathsF [] a)
  have h2 := pathsF_len a []
  unfold pathsL
  simp only [List.length_nil] at h2
  omega

/-- What is there, or the zero node. -/
def nodeO : Option ItemV → NodeV
  | some x => x.node
  | none => zeroN
/-- A change's kind. -/
def kindR (a b : NodeV) (p q : Bool) : Int := if p = false then 1 else if q = false then 2 else if a.kind ≠ b.kind then 4 else if a.bs ≠ b.bs then 3 else 5
def chg (a b : List ItemV) (p : List UInt8) : Option ChangeV :=
  if (lookT a p).isSome = true ∧ (lookT b p).isSome = true ∧ sameN (nodeO (lookT a p)) (nodeO (lookT b p)) = true then none
  else some ⟨p, kindR (nodeO (lookT a p)) (nodeO (lookT b p)) (lookT a p).isSome (lookT b p).isSome, nodeO (lookT a p), nodeO (lookT b p)⟩
def diffL (a b : List ItemV) : List ChangeV := (pathsL a b).filterMap (chg a b)
/-- Rising paths. -/
def RiseC (l : List ChangeV) : Prop := l.Pairwise fun c d => c.path < d.path
theorem chg_path {a b : List ItemV} {p : List UInt8} {c : ChangeV} (h : chg a b p = some c) : c.path = p := by
  unfold chg at h
  split at h
  · cases h
  · cases h; rfl
theorem diffL_rise (a b : List ItemV) : RiseC (diffL a b) :=
  List.Pairwise.filterMap (R := (· < ·)) (chg a b) (fun p q hpq c hc d hd => by rw [chg_path hc, chg_path hd]; exact hpq) (pathsL_rise a b)
theorem diffL_len (a b : List ItemV) : (diffL a b).length ≤ a.length + b.length := Nat.le_trans (List.length_filterMap_le _ _) (pathsL_len a b)
theorem look_isSome {l : List ItemV} {p : List UInt8} : (lookT l p).isSome = true ↔ ∃ x ∈ l, x.path = p := by
  cases h : lookT l p with
  | none =>
    have := look_none.1 h
    simp only [Option.isSome_none, Bool.false_eq_true, false_iff]
    rintro ⟨x, hx, e⟩
    exact this x hx e
  | some x =>
    obtain ⟨h1, h2⟩ := look_some h
    simp only [Option.isSome_some, true_iff]
    exact ⟨x, h1, h2⟩
theorem kindR_del {x y : NodeV} {p q : Bool} (h : kindR x y p q = 2) : p = true ∧ q = false := by
  unfold kindR at h
  cases p <;> cases q <;> simp at h ⊢
  by_cases h1 : x.kind = y.kind
  · by_cases h2 : x.bs = y.bs <;> simp [h1, h2] at h
  · simp [h1] at h
theorem kindR_add {x y : NodeV} {p q : Bool} (h : kindR x y p q = 1) : p = false := by
  unfold kindR at h
  cases p <;> cases q <;> simp at h ⊢
  by_cases h1 : x.kind = y.kind
  · by_cases h2 : x.bs = y.bs <;> simp [h1, h2] at h
  · simp [h1] at h

/-- A change that may be. -/
structure Ch (c : ChangeV) : Prop where
  ne : c.path ≠ []
  path : isPathB c.path = true
  cas : (c.kind = 1 ∧ c.old = zeroN ∧ rightN c.new = true) ∨ (c.kind = 2 ∧ rightN c.old = true ∧ c.new = zeroN) ∨ (rightN c.old = true ∧ rightN c.new = true ∧ sameN c.old c.new = false ∧ c.kind = kindR c.old c.new true true)
/-- Items that may be. -/
def ItemsOk (l : List ItemV) : Prop := ∀ x ∈ l, x.path ≠ [] ∧ isPathB x.path = true ∧ rightN x.node = true
theorem diffL_ch {a b : List ItemV} (ha : ItemsOk a) (hb : ItemsOk b) : ∀ c ∈ diffL a b, Ch c := by
  intro c hc
  obtain ⟨p, hp, hcp⟩ := List.mem_filterMap.1 hc
  have hin := (pathsL_mem a b p).1 hp
  have hpath : p ≠ [] ∧ isPathB p = true := by
    rcases hin with ⟨x, hx, rfl⟩ | ⟨x, hx, rfl⟩
    · exact ⟨(ha x hx).1, (ha x hx).2.1⟩
    · exact ⟨(hb x hx).1, (hb x hx).2.1⟩
  unfold chg at hcp
  split at hcp
  · cases hcp
  rename_i hns
  cases hcp
  refine ⟨hpath.1, hpath.2, ?_⟩
  dsimp only
  cases hx : lookT a p with
  | none =>
    cases hy : lookT b p with
    | none =>
      exfalso
      rcases hin with ⟨x, hm, e⟩ | ⟨x, hm, e⟩
      · exact look_none.1 hx x hm e
      · exact look_none.1 hy x hm e
    | some y => exact .inl ⟨rfl, rfl, (hb y (look_some hy).1).2.2⟩
  | some x =>
    cases hy : lookT b p with
    | none => exact .inr (.inl ⟨rfl, (ha x (look_some hx).1).2.2, rfl⟩)
    | some y =>
      rw [hx, hy] at hns
      refine .inr (.inr ⟨(ha x (look_some hx).1).2.2, (hb y (look_some hy).1).2.2, ?_, rfl⟩)
      cases hs : sameN (nodeO (some x)) (nodeO (some y)) with
      | true => exact absurd ⟨rfl, rfl, hs⟩ hns
      | false => rfl
theorem diff_del {a b : List ItemV} (ha : Srt a) {x : ItemV} (hx : x ∈ a) (hn : lookT b x.path = none) : ⟨x.path, 2, x.node, zeroN⟩ ∈ diffL a b := by
  refine List.mem_filterMap.2 ⟨x.path, (pathsL_mem a b _).2 (.inl ⟨x, hx, rfl⟩), ?_⟩
  unfold chg
  rw [look_mem ha hx, hn]
  rfl
theorem diff_add {a b : List ItemV} (hb : Srt b) {y : ItemV} (hy : y ∈ b) (hn : lookT a y.path = none) : ⟨y.path, 1, zeroN, y.node⟩ ∈ diffL a b := by
  refine List.mem_filterMap.2 ⟨y.path, (pathsL_mem a b _).2 (.inr ⟨y, hy, rfl⟩), ?_⟩
  unfold chg
  rw [look_mem hb hy, hn]
  rfl
theorem diff_of_del {a b : List ItemV} {c : ChangeV} (hc : c ∈ diffL a b) (hk : c.kind = 2) : ∃ x, lookT a c.path = some x ∧ lookT b c.path = none ∧ c.old = x.node := by
  obtain ⟨p, hp, hcp⟩ := List.mem_filterMap.1 hc
  unfold chg at hcp
  split at hcp
  · cases hcp
  cases hcp
  obtain ⟨h1, h2⟩ := kindR_del hk
  dsimp only at *
  cases hx : lookT a p with
  | none => rw [hx] at h1; cases h1
  | some x =>
    cases hy : lookT b p with
    | some y => rw [hy] at h2; cases h2
    | none => exact ⟨x, rfl, rfl, rfl⟩
theorem diff_of_add {a b : List ItemV} {c : ChangeV} (hc : c ∈ diffL a b) (hk : c.kind = 1) : ∃ y, lookT b c.path = some y ∧ lookT a c.path = none ∧ c.new = y.node := by
  obtain ⟨p, hp, hcp⟩ := List.mem_filterMap.1 hc
  have hin := (pathsL_mem a b p).1 hp
  unfold chg at hcp
  split at hcp
  · cases hcp
  cases hcp
  have h1 := kindR_add hk
  dsimp only at *
  cases hx : lookT a p with
  | some x => rw [hx] at h1; cases h1
  | none =>
    cases hy : lookT b p with
    | some y => exact ⟨y, rfl, rfl, rfl⟩
    | none =>
      exfalso
      rcases hin with ⟨x, hm, e⟩ | ⟨x, hm, e⟩
      · exact look_none.1 hx x hm e
      · exact look_none.1 hy x hm e

/-! ### pairs -/
structure PairV where
  fr : List UInt8
  dst : List UInt8
def takenL (out : List PairV) (p : List UInt8) : Bool := out.any fun x => x.dst == p
def hitL (out : List PairV) (c d : ChangeV) : Bool := d.kind == 1 && (d.new.kind == 1 && (c.old.bs == d.new.bs && !takenL out d.path))
def pairStep (l : List ChangeV) (out : List PairV) (c : ChangeV) : List PairV :=
  if c.kind = 2 ∧ c.old.kind = 1 then (match l.find? (hitL out c) with | some d => out ++ [⟨c.path, d.path⟩] | none => out) else out
def pairsL (l : List ChangeV) : List PairV := l.foldl (pairStep l) []
def toL (l : List PairV) (p : List UInt8) : Option (List UInt8) := (l.find? fun x => x.fr == p).map (·.dst)
theorem taken_iff {out : List PairV} {p : List UInt8} : takenL out p = true ↔ ∃ x ∈ out, x.dst = p := by simp [takenL]
theorem hit_iff {out : List PairV} {c d : ChangeV} : hitL out c d = true ↔ d.kind = 1 ∧ d.new.kind = 1 ∧ c.old.bs = d.new.bs ∧ takenL out d.path = false := by simp [hitL]

theorem fold_inv {α β : Type} (f : β → α → β) (P : List α → β → Prop) : ∀ (post pre : List α) (b : β), P pre b → (∀ p q c b, pre ++ post = p ++ c :: q → P p b → P (p ++ [c]) (f b c)) → P (pre ++ post) (post.foldl f b)
  | [], pre, b, h, _ => by simpa using h
  | c :: post, pre, b, h, hs => by
    have h2 := fold_inv f P post (pre ++ [c]) (f b c) (hs pre post c b rfl h) (fun p q d b e hp => hs p q d b (by simpa using e) hp)
    simpa using h2
/-- What holds of the pairs so far. -/
structure PI (l pre : List ChangeV) (out : List PairV) : Prop where
  of : ∀ x ∈ out, ∃ c ∈ pre, ∃ d ∈ l, c.kind = 2 ∧ c.old.kind = 1 ∧ d.kind = 1 ∧ d.new.kind = 1 ∧ c.old.bs = d.new.bs ∧ x = ⟨c.path, d.path⟩
  rise : out.Pairwise fun x y => x.fr < y.fr
  once : out.Pairwise fun x y => x.dst ≠ y.dst
  most : ∀ c ∈ pre, c.kind = 2 → c.old.kind = 1 → (∃ x ∈ out, x.fr = c.path) ∨ ∀ d ∈ l, d.kind = 1 → d.new.kind = 1 → c.old.bs = d.new.bs → ∃ x ∈ out, x.dst = d.path
theorem pairs_inv (l : List ChangeV) (h : RiseC l) : PI l l (pairsL l) := by
  have key := fold_inv (pairStep l) (PI l) l [] [] ⟨fun x hx => (by cases hx), List.Pairwise.nil, List.Pairwise.nil, fun c hc => (by cases hc)⟩ ?_
  · exact key
  intro p q c out he hp
  rw [List.nil_append] at he
  have hbe : ∀ x ∈ p, x.path < c.path := fun x hx => by
    have h2 : RiseC (p ++ c :: q) := he ▸ h
    exact (List.pairwise_append.1 h2).2.2 x hx c (by simp)
  unfold pairStep
  by_cases hk : c.kind = 2 ∧ c.old.kind = 1
  · rw [if_pos hk]
    cases hf : l.find? (hitL out c) with
    | some d =>
      dsimp only
      have hd := List.mem_of_find?_eq_some hf
      obtain ⟨k1, k2, k3, k4⟩ := hit_iff.1 (List.find?_some hf)
      refine ⟨fun x hx => ?_, ?_, ?_, fun e hm he1 he2 => ?_⟩
      · rcases List.mem_append.1 hx with hx | hx
        · obtain ⟨c', hc', r⟩ := hp.of x hx
          exact ⟨c', by simp [hc'], r⟩
        · rw [List.mem_singleton] at hx
          exact ⟨c, by simp, d, hd, hk.1, hk.2, k1, k2, k3, hx⟩
      · refine List.pairwise_append.2 ⟨hp.rise, List.pairwise_singleton _ _, fun x hx y hy => ?_⟩
        rw [List.mem_singleton] at hy
        subst hy
        obtain ⟨c', hc', d', _, _, _, _, _, _, e⟩ := hp.of x hx
        rw [e]
        exact hbe c' hc'
      · refine List.pairwise_append.2 ⟨hp.once, List.pairwise_singleton _ _, fun x hx y hy => ?_⟩
        rw [List.mem_singleton] at hy
        subst hy
        intro e
        have : takenL out d.path = true := taken_iff.2 ⟨x, hx, e⟩
        rw [this] at k4
        cases k4
      · rcases List.mem_append.1 hm with hm | hm
        · rcases hp.most e hm he1 he2 with ⟨x, hx, r⟩ | r
          · exact .inl ⟨x, by simp [hx], r⟩
          · refine .inr fun d' hd' a1 a2 a3 => ?_
            obtain ⟨x, hx, r'⟩ := r d' hd' a1 a2 a3
            exact ⟨x, by simp [hx], r'⟩
        · rw [List.mem_singleton] at hm
          subst hm
          exact .inl ⟨⟨e.path, d.path⟩, by simp, rfl⟩
    | none =>
      dsimp only
      refine ⟨fun x hx => ?_, hp.rise, hp.once, fun e hm he1 he2 => ?_⟩
      · obtain ⟨c', hc', r⟩ := hp.of x hx
        exact ⟨c', by simp [hc'], r⟩
      · rcases List.mem_append.1 hm with hm | hm
        · exact hp.most e hm he1 he2
        · rw [List.mem_singleton] at hm
          subst hm
          refine .inr fun d' hd' a1 a2 a3 => ?_
          by_cases ht : takenL out d'.path = true
          · exact taken_iff.1 ht
          · exact absurd (hit_iff.2 ⟨a1, a2, a3, by simpa using ht⟩) (List.find?_eq_none.1 hf d' hd')
  · rw [if_neg hk]
    refine ⟨fun x hx => ?_, hp.rise, hp.once, fun e hm he1 he2 => ?_⟩
    · obtain ⟨c', hc', r⟩ := hp.of x hx
      exact ⟨c', by simp [hc'], r⟩
    · rcases List.mem_append.1 hm with hm | hm
      · exact hp.most e hm he1 he2
      · rw [List.mem_singleton] at hm
        subst hm
        exact absurd ⟨he1, he2⟩ hk
/-- Each pair is a file that went, and one that came, with the same bytes. -/
theorem pairs_of {a b : List ItemV} {x : PairV} (hx : x ∈ pairsL (diffL a b)) :
    ∃ y z, lookT a x.fr = some y ∧ lookT b x.dst = some z ∧ lookT b x.fr = none ∧ lookT a x.dst = none ∧ y.kind = 1 ∧ z.kind = 1 ∧ y.bs = z.bs := by
  obtain ⟨c, hc, d, hd, k1, k2, k3, k4, k5, rfl⟩ := (pairs_inv _ (diffL_rise a b)).of x hx
  obtain ⟨y, y1, y2, y3⟩ := diff_of_del hc k1
  obtain ⟨z, z1, z2, z3⟩ := diff_of_add hd k3
  rw [y3] at k2 k5
  rw [z3] at k4 k5
  exact ⟨y, z, y1, z1, y2, z2, k2, k4, k5⟩
/-- Of those left over no two would go together. -/
theorem pairs_most {a b : List ItemV} (ha : Srt a) (hb : Srt b) {y z : ItemV} (hy : y ∈ a) (hz : z ∈ b) (h1 : y.kind = 1) (h2 : z.kind = 1) (h3 : y.bs = z.bs) (h4 : lookT b y.path = none) (h5 : lookT a z.path = none) :
    ∃ x ∈ pairsL (diffL a b), x.fr = y.path ∨ x.dst = z.path := by
  rcases (pairs_inv _ (diffL_rise a b)).most _ (diff_del ha hy h4) rfl h1 with ⟨x, hx, e⟩ | h
  · exact ⟨x, hx, .inl e⟩
  · obtain ⟨x, hx, e⟩ := h _ (diff_add hb hz h5) rfl h2 h3
    exact ⟨x, hx, .inr e⟩
theorem toL_mem {P : List PairV} (h : P.Pairwise fun x y => x.fr < y.fr) {x : PairV} (hx : x ∈ P) : toL P x.fr = some x.dst := by
  unfold toL
  cases hf : P.find? (fun y => y.fr == x.fr) with
  | none => exact absurd (by simp : (x.fr == x.fr) = true) (List.find?_eq_none.1 hf x hx)
  | some y =>
    have hy := List.mem_of_find?_eq_some hf
    have he : y.fr = x.fr := by simpa using List.find?_some hf
    obtain ⟨i, hi, rfl⟩ := List.getElem_of_mem hx
    obtain ⟨j, hj, rfl⟩ := List.getElem_of_mem hy
    have hij : i = j := by
      rcases Nat.lt_trichotomy i j with h1 | h1 | h1
      · exact absurd he.symm (lt_ne (List.pairwise_iff_getElem.1 h i j hi hj h1))
      · exact h1
      · exact absurd he (lt_ne (List.pairwise_iff_getElem.1 h j i hj hi h1))
    subst hij
    rfl
theorem toL_none {P : List PairV} {p : List UInt8} (h : ∀ x ∈ P, x.fr ≠ p) : toL P p = none := by
  unfold toL
  rw [List.find?_eq_none.2 fun x hx => by simpa using h x hx]
  rfl
/-- A file that alone has its bytes, and is moved, is told as a pair. -/
theorem moved_pair {a b : List ItemV} (ha : Srt a) (hb : Srt b) {y z : ItemV} (hy : y ∈ a) (hz : z ∈ b) (h1 : y.kind = 1) (h2 : z.kind = 1) (h3 : y.bs = z.bs) (h4 : lookT b y.path = none) (h5 : lookT a z.path = none)
    (ua : ∀ x ∈ a, x.bs = y.bs → x.path = y.path) (ub : ∀ x ∈ b, x.bs = y.bs → x.path = z.path) : toL (pairsL (diffL a b)) y.path = some z.path := by
  obtain ⟨x, hx, hxe⟩ := pairs_most ha hb hy hz h1 h2 h3 h4 h5
  obtain ⟨p, q, p1, q1, _, _, _, _, pq⟩ := pairs_of hx
  obtain ⟨pm, pp⟩ := look_some p1
  obtain ⟨qm, qp⟩ := look_some q1
  have key : x.fr = y.path ∧ x.dst = z.path := by
    rcases hxe with e | e
    · have hpy : p = y := ha.one pm hy (by rw [pp, e])
      subst hpy
      exact ⟨e, by rw [← qp]; exact ub q qm pq.symm⟩
    · have hqz : q = z := hb.one qm hz (by rw [qp, e])
      subst hqz
      exact ⟨by rw [← pp]; exact ua p pm (by rw [pq, h3]), e⟩
  rw [← key.1, ← key.2]
  exact toL_mem (pairs_inv _ (diffL_rise a b)).rise hx
/-- One whose bytes are turned as it moves is not. -/
theorem turned_none {a b : List ItemV} (ha : Srt a) {y : ItemV} (hy : y ∈ a) (ub : ∀ x ∈ b, x.bs ≠ y.bs) : toL (pairsL (diffL a b)) y.path = none := by
  refine toL_none fun x hx e => ?_
  obtain ⟨p, q, p1, q1, _, _, _, _, pq⟩ := pairs_of hx
  obtain ⟨pm, pp⟩ := look_some p1
  obtain ⟨qm, _⟩ := look_some q1
  have hpy : p = y := ha.one pm hy (by rw [pp, e])
  subst hpy
  exact ub q qm pq.symm
end Go.Proofs.YtgpidbdgodgefaaDoor
