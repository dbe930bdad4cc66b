/- GuardPlays: what the closure within player.run comes to. Conditions: as the theorems name them. -/
import Derived.Test.YtbjndmmelngbdaaPlays0
import Derived.Test.YtbjndmmelngbdaaQTail
namespace Go.Proofs.Ytbjndmmelngbdaa
open Go.RowKit Go.Deep

/-- Its first elements, sliced. -/
theorem owns_slice {P : Program} {t e : TypeId} {i : TypeInfo} {z : Value} {by' : Nat} (I : RowInfo P t e i z by') {w : World} {base : Nat} {a : Option Addr} {n c : Nat} {xs : List Value} (h : w.ownsRow base e 1 (.slice a n c) n xs) (k : Nat) (hk : k ≤ n) (y : Int) (hy : y = k) :
    ∀ w', (Instr.slice t (.slice a n c) none (some (.int .i64 y)) none).run P w' = .ok (.slice a k c) w' := by
  subst hy
  intro w'
  obtain ⟨h1, ⟨h2, h3⟩ | ⟨g, cap, cur, h2, hg, hh, hl, hm, hs, ht⟩⟩ := h
  · cases h2
    have : k = 0 := by omega
    subst this
    simp [Instr.slice, Instr.sliceBounds, Instr.sliceBound, asIntOf, run_underlying I.sl, sizeOf, typeInfo, I.info]
  · cases h2
    have h1 : k ≤ c := by omega
    simp [Instr.slice, Instr.sliceBounds, Instr.sliceBound, asIntOf, run_underlying I.sl, sizeOf, typeInfo, I.info, h1, Addr.add]

/-- The guards within: blocks of their own. -/
def GOk (w : World) (B0 p : Nat) (lr gr : Option Nat) (G : List Nat) : Prop :=
  ∀ g ∈ G, (B0 ≤ g ∧ g ≠ p ∧ lr ≠ some g ∧ gr ≠ some g) ∧ ∃ x, w.heap[g]? = some (.cells #[.int .i64 x] 47 (0, 0))

theorem Fresh.ne {w : World} {r r' : Option Nat} (h : Fresh w r r') {g : Nat} (hg : g < w.heap.size) (hn : r ≠ some g) : r' ≠ some g := by
  rcases h with e | ⟨n, e, hl⟩
  · rw [e]; exact hn
  · rw [e]; intro h; cases h; omega
theorem GOk.keep {w w' : World} {B0 p : Nat} {lr gr lr' gr' : Option Nat} {G : List Nat} {S : Nat → Prop} (h : GOk w B0 p lr gr G) (k : Kp S w w') (hn : ∀ g ∈ G, ¬ S g) (hf : Fresh w lr lr') (hg : Fresh w gr gr') : GOk w' B0 p lr' gr' G := by
  intro g hG
  obtain ⟨⟨h1, h2, h3, h4⟩, x, hx⟩ := h g hG
  exact ⟨⟨h1, h2, hf.ne (hp_lt hx) h3, hg.ne (hp_lt hx) h4⟩, x, k.hp hx (hn g hG)⟩
theorem GOk.keepF {w w' : World} {B0 p : Nat} {lr gr : Option Nat} {G : List Nat} (h : GOk w B0 p lr gr G) (k : Kp (fun _ => False) w w') : GOk w' B0 p lr gr G := h.keep k (fun _ _ => id) (.inl rfl) (.inl rfl)
theorem GOk.not_own {w : World} {B0 p : Nat} {lr gr : Option Nat} {G : List Nat} (h : GOk w B0 p lr gr G) : ∀ g ∈ G, ¬ (g = p ∨ lr = some g ∨ gr = some g) := by
  intro g hg e
  obtain ⟨⟨_, h2, h3, h4⟩, _⟩ := h g hg
  rcases e with e | e | e
  · exact h2 e
  · exact h3 e
  · exact h4 e

/-- How a player stands within some guards. -/
def St (w : World) (B0 p : Nat) (la : Option Addr) (lc : Nat) (s : GSteps) (deep k : Nat) (log : List Int) (G : List Nat) (lr gr : Option Nat) : Prop :=
  ∃ gs, Pl w B0 p la lc s k log gs lr gr ∧ gs.take deep = G ∧ G.length = deep ∧ GOk w B0 p lr gr G

theorem St.keepF {w w' : World} {B0 p : Nat} {la : Option Addr} {lc : Nat} {s : GSteps} {deep k : Nat} {log : List Int} {G : List Nat} {lr gr : Option Nat} (h : St w B0 p la lc s deep k log G lr gr) (kp : Kp (fun _ => False) w w') : St w' B0 p la lc s deep k log G lr gr := by
  obtain ⟨gs, h1, h2, h3, h4⟩ := h
  exact ⟨gs, h1.keepF kp, h2, h3, h4.keepF kp⟩
/-- What stands elsewhere may turn. -/
theorem St.keep {w w' : World} {B0 p : Nat} {la : Option Addr} {lc : Nat} {s : GSteps} {deep k : Nat} {log : List Int} {G : List Nat} {lr gr : Option Nat} {S : Nat → Prop} (h : St w B0 p la lc s deep k log G lr gr) (kp : Kp S w w')
    (h0 : ∀ b, b < B0 → ¬ S b) (h1 : ∀ b, Own p lr gr G b → ¬ S b) : St w' B0 p la lc s deep k log G lr gr := by
  obtain ⟨gs, g1, g2, g3, g4⟩ := h
  exact ⟨gs, g1.keep kp h0 (h1 _ (.inl rfl)) (fun b hb => h1 _ (.inr (.inl hb))) (fun b hb => h1 _ (.inr (.inr (.inl hb)))), g2, g3, g4.keep kp (fun g hg => h1 _ (.inr (.inr (.inr hg)))) (.inl rfl) (.inl rfl)⟩
/-- A guard is told. -/
theorem St.told {w : World} {B0 p : Nat} {la : Option Addr} {lc : Nat} {s : GSteps} {deep k : Nat} {log : List Int} {G : List Nat} {lr gr : Option Nat} (h : St w B0 p la lc s deep k log G lr gr) (g : Nat) (hg : g ∈ G) (v : Int) : St (w.setCell ⟨g, 0, none⟩ (.int .i64 v)) B0 p la lc s deep k log G lr gr := by
  obtain ⟨gs, g1, g2, g3, g4⟩ := h
  have kp : Kp (fun b => b = g) w (w.setCell ⟨g, 0, none⟩ (.int .i64 v)) := (Kp.refl (fun b => b = g) w).setCell ⟨g, 0, none⟩ (.inl rfl) _
  obtain ⟨⟨q1, q2, q3, q4⟩, x, hx⟩ := g4 g hg
  refine ⟨gs, g1.keep kp (fun b hb e => by omega) (fun e => q2 e.symm) (fun b hb e => by subst e; exact q3 hb) (fun b hb e => by subst e; exact q4 hb), g2, g3, fun g' hg' => ?_⟩
  obtain ⟨r1, x', hx'⟩ := g4 g' hg'
  refine ⟨r1, ?_⟩
  by_cases e : g' = g
  · subst e; exact ⟨v, set_one hx'⟩
  · exact ⟨x', hp_set hx' _ _ e⟩
theorem St.row {w : World} {B0 p : Nat} {la : Option Addr} {lc : Nat} {s : GSteps} {deep k : Nat} {log : List Int} {G : List Nat} {lr gr : Option Nat} (h : St w B0 p la lc s deep k log G lr gr) : ∀ b, Own p lr gr G b → B0 ≤ b ∧ b < w.heap.size := by
  obtain ⟨gs, g1, g2, g3, g4⟩ := h
  have hle := g1.le
  obtain ⟨q1, q2, q3⟩ := g1.row
  rintro b (e | e | e | e)
  · omega
  · have := q1 b e; omega
  · have := q2 b e; omega
  · obtain ⟨⟨r1, _⟩, x, hx⟩ := g4 b e
    exact ⟨r1, hp_lt hx⟩

theorem Own.fresh {w : World} {p : Nat} {lr gr lr' gr' : Option Nat} {G : List Nat} {b : Nat} (hf : Fresh w lr lr') (hg : Fresh w gr gr') (hb : b < w.heap.size) (h : Own p lr' gr' G b) : Own p lr gr G b := by
  rcases h with e | e | e | e
  · exact .inl e
  · exact .inr (.inl (by
      rcases hf with q | ⟨n, q, hl⟩
      · rw [← q]; exact e
      · rw [q] at e; cases e; omega))
  · exact .inr (.inr (.inl (by
      rcases hg with q | ⟨n, q, hl⟩
      · rw [← q]; exact e
      · rw [q] at e; cases e; omega)))
  · exact .inr (.inr (.inr e))
theorem own_step2 {p : Nat} {lr gr lr' gr' : Option Nat} {G : List Nat} {w w1 w2 : World} (h : Kp (Own p lr gr G) w w1) (hf : Fresh w lr lr') (hg : Fresh w gr gr') (k : Kp (Own p lr' gr' G) w1 w2) : Kp (Own p lr gr G) w w2 :=
  h.step k fun _ hi hs => hs.fresh hf hg hi

theorem St.step {w : World} {B0 p : Nat} {la : Option Addr} {lc : Nat} {s : GSteps} {deep k : Nat} {log : List Int} {G : List Nat} {lr gr : Option Nat} (h : St w B0 p la lc s deep k log G lr gr) (k' : Int) (hk : k' = (k + 1 : Nat)) :
    St (w.setCell ⟨p, 1, none⟩ (.int .i64 k')) B0 p la lc s deep (k + 1) log G lr gr := by
  obtain ⟨gs, g1, g2, g3, g4⟩ := h
  exact ⟨gs, g1.step k' hk, g2, g3, g4.keep ((Kp.refl (fun b => b = p) w).setCell ⟨p, 1, none⟩ (.inl rfl) (.int .i64 k')) (fun g hg e => (g4 g hg).1.2.1 e) (.inl rfl) (.inl rfl)⟩
theorem St.logged {w w' : World} {B0 p : Nat} {la : Option Addr} {lc : Nat} {s : GSteps} {deep k : Nat} {log : List Int} {G : List Nat} {lr gr : Option Nat} (h : St w B0 p la lc s deep k log G lr gr) {v' : Value} {z : Int}
    (ho : w'.ownsRow (p + 1) 3 1 v' (log.length + 1) (log.map intV ++ [intV z])) (hg : w.grownBy w' lr) (hf : Fresh w lr v'.ownBlock) :
    St (w'.setCell ⟨p, 2, none⟩ v') B0 p la lc s deep k (log ++ [z]) G v'.ownBlock gr := by
  obtain ⟨gs, g1, g2, g3, g4⟩ := h
  have k1 : Kp (fun b => lr = some b) w w' := (Kp.refl _ w).grown hg (fun b hb => .inl hb)
  have h1 := g4.keep k1 (fun g hg e => (g4 g hg).1.2.2.1 e) hf (.inl rfl)
  exact ⟨gs, g1.logged ho hg hf, g2, g3, h1.keep ((Kp.refl (fun b => b = p) w').setCell ⟨p, 2, none⟩ (.inl rfl) v') (fun g hg e => (g4 g hg).1.2.1 e) (.inl rfl) (.inl rfl)⟩
theorem St.guarded {w w' : World} {B0 p : Nat} {la : Option Addr} {lc : Nat} {s : GSteps} {deep k : Nat} {log : List Int} {G G' : List Nat} {lr gr : Option Nat} (h : St w B0 p la lc s deep k log G lr gr) {v' : Value} (h2 : GOk w B0 p lr gr G')
    (ho : w'.ownsRow (p + 1) 27 1 v' G'.length (G'.map ptrV)) (hg : w.grownBy w' gr) (hf : Fresh w gr v'.ownBlock) :
    St (w'.setCell ⟨p, 3, none⟩ v') B0 p la lc s G'.length k log G' lr v'.ownBlock := by
  obtain ⟨gs, g1, g2, g3, g4⟩ := h
  have k1 : Kp (fun b => gr = some b) w w' := (Kp.refl _ w).grown hg (fun b hb => .inl hb)
  have h1 := h2.keep k1 (fun g hg e => (h2 g hg).1.2.2.2 e) (.inl rfl) hf
  exact ⟨G', g1.guarded ho hg hf, List.take_length, rfl, h1.keep ((Kp.refl (fun b => b = p) w').setCell ⟨p, 3, none⟩ (.inl rfl) v') (fun g hg e => (h2 g hg).1.2.1 e) (.inl rfl) (.inl rfl)⟩

/-- Given up: by the guard at that depth. -/
def Gave (w' : World) (G : List Nat) (v : Int) (to : Nat) (e : Ending) : Prop :=
  ∃ older g, G[to]? = some g ∧ e = .panicked (pe (givenV ⟨g, 0, none⟩) false :: older) ∧ (∀ x ∈ older, x.goexit = false) ∧ w'.heap[g]? = some (.cells #[.int .i64 v] 47 (0, 0))

/-- What run comes to. -/
def RunEnd (B0 p : Nat) (la : Option Addr) (lc : Nat) (s : GSteps) (deep k : Nat) (log : List Int) (G : List Nat) (lr gr : Option Nat) (w : World) (e : Ending) (w' : World) : Prop :=
  (∃ lr' gr', St w' B0 p la lc s deep (pl s deep k log).2.1 (pl s deep k log).2.2 G lr' gr' ∧ Fresh w lr lr' ∧ Fresh w gr gr') ∧ Kp (Own p lr gr G) w w' ∧
  (((pl s deep k log).1.2 = deep ∧ e = .returned (.int .i64 (pl s deep k log).1.1)) ∨ ((pl s deep k log).1.2 < deep ∧ Gave w' G (pl s deep k log).1.1 (pl s deep k log).1.2 e))

/-- What the closure within comes to. -/
def ClEnd (B0 p : Nat) (la : Option Addr) (lc : Nat) (s : GSteps) (deep k : Nat) (log : List Int) (G : List Nat) (lr gr : Option Nat) (w : World) (e : Ending) (w' : World) : Prop :=
  (∃ lr' gr', St w' B0 p la lc s (deep + 1) (pl s deep k log).2.1 (pl s deep k log).2.2 G lr' gr' ∧ Fresh w lr lr' ∧ Fresh w gr gr') ∧ Kp (Own p lr gr G) w w' ∧
  (((pl s deep k log).1 = (0, deep) ∧ e = .returned (.tuple #[])) ∨ Gave w' G (pl s deep k log).1.1 (pl s deep k log).1.2 e)

/-- run, for what is behind. -/
def RunAll (B0 p : Nat) (la : Option Addr) (lc : Nat) (s : GSteps) (m : Nat) : Prop :=
  ∀ (deep k : Nat) (log : List Int) (G : List Nat) (lr gr : Option Nat) (w : World), 60 - k < m → k ≤ 60 → deep ≤ 6 → log.length ≤ k → St w B0 p la lc s deep k log G lr gr →
    Calls Try.prog 21 #[.pointer (some ⟨p, 0, none⟩), .int .i64 deep] w (RunEnd B0 p la lc s deep k log G lr gr w)
end Go.Proofs.Ytbjndmmelngbdaa
