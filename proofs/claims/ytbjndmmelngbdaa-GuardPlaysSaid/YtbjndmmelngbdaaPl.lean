/- GuardPlays: a player's block, its steps, its rows. Conditions: as the theorems name them. -/
import Derived.Test.YtbjndmmelngbdaaRow
import Derived.Test.YtbjndmmelngbdaaPlay
import Derived.Test.YtbjndmmelngbdaaRows
namespace Go.Proofs.Ytbjndmmelngbdaa
open Go.RowKit

def intV (z : Int) : Value := .int .i64 z
def ptrV (g : Nat) : Value := .pointer (some ⟨g, 0, none⟩)

/-- The steps lie below B0, and are no one's own. -/
def StepsAt (w : World) (B0 : Nat) (la : Option Addr) (s : GSteps) : Prop :=
  ∀ i, i < s.ll → ∃ b off, la = some ⟨b, off, none⟩ ∧ b < B0 ∧ w.cell? ⟨b, off + i * 3, none⟩ = some (.int .i64 (s.what i)) ∧ w.cell? ⟨b, off + i * 3 + 1, none⟩ = some (.int .i64 (s.n i)) ∧ w.cell? ⟨b, off + i * 3 + 2, none⟩ = some (.bool (s.ok i))

theorem StepsAt.keep {w w' : World} {B0 : Nat} {la : Option Addr} {s : GSteps} {S : Nat → Prop} (h : StepsAt w B0 la s) (k : Kp S w w') (hn : ∀ b, b < B0 → ¬ S b) : StepsAt w' B0 la s := by
  intro i hi
  obtain ⟨b, off, h1, h2, h3, h4, h5⟩ := h i hi
  have hb := World.block_lt_of_cell? _ _ h3
  have e : w'.heap[b]? = w.heap[b]? := k.block b hb (hn b h2)
  exact ⟨b, off, h1, h2, by rw [World.cell?_of_block e]; exact h3, by rw [World.cell?_of_block e]; exact h4, by rw [World.cell?_of_block e]; exact h5⟩

/-- A player: steps, how far they are done, the log, the guards. -/
structure Pl (w : World) (B0 p : Nat) (la : Option Addr) (lc : Nat) (s : GSteps) (k : Nat) (log : List Int) (gs : List Nat) (lr gr : Option Nat) : Prop where
  hp : ∃ lv gv, w.heap[p]? = some (.cells #[.slice la s.ll lc, .int .i64 k, lv, gv, .int .i64 0] 39 (0, 0)) ∧ lv.ownBlock = lr ∧ gv.ownBlock = gr ∧
    w.ownsRow (p + 1) 3 1 lv log.length (log.map intV) ∧ w.ownsRow (p + 1) 27 1 gv gs.length (gs.map ptrV)
  ne : ∀ b, lr = some b → gr ≠ some b
  steps : StepsAt w B0 la s
  le : B0 ≤ p

/-- What is a player's own, and the guards'. -/
def Own (p : Nat) (lr gr : Option Nat) (G : List Nat) (k : Nat) : Prop := k = p ∨ lr = some k ∨ gr = some k ∨ k ∈ G

theorem Pl.row {w : World} {B0 p : Nat} {la : Option Addr} {lc : Nat} {s : GSteps} {k : Nat} {log : List Int} {gs : List Nat} {lr gr : Option Nat} (h : Pl w B0 p la lc s k log gs lr gr) : (∀ b, lr = some b → p < b ∧ b < w.heap.size) ∧ (∀ b, gr = some b → p < b ∧ b < w.heap.size) ∧ p < w.heap.size := by
  obtain ⟨lv, gv, h1, rfl, rfl, h4, h5⟩ := h.hp
  exact ⟨fun b hb => by have := World.ownsRow.lt h4 b hb; omega, fun b hb => by have := World.ownsRow.lt h5 b hb; omega, hp_lt h1⟩

theorem Pl.keep {w w' : World} {B0 p : Nat} {la : Option Addr} {lc : Nat} {s : GSteps} {k : Nat} {log : List Int} {gs : List Nat} {lr gr : Option Nat} {S : Nat → Prop} (h : Pl w B0 p la lc s k log gs lr gr) (kp : Kp S w w')
    (h0 : ∀ b, b < B0 → ¬ S b) (h1 : ¬ S p) (h2 : ∀ b, lr = some b → ¬ S b) (h3 : ∀ b, gr = some b → ¬ S b) : Pl w' B0 p la lc s k log gs lr gr := by
  obtain ⟨lv, gv, q1, rfl, rfl, q4, q5⟩ := h.hp
  exact ⟨⟨lv, gv, kp.hp q1 h1, rfl, rfl, owns_keep q4 kp h2, owns_keep q5 kp h3⟩, h.ne, h.steps.keep kp h0, h.le⟩
theorem Pl.keepF {w w' : World} {B0 p : Nat} {la : Option Addr} {lc : Nat} {s : GSteps} {k : Nat} {log : List Int} {gs : List Nat} {lr gr : Option Nat} (h : Pl w B0 p la lc s k log gs lr gr) (kp : Kp (fun _ => False) w w') : Pl w' B0 p la lc s k log gs lr gr :=
  h.keep kp (fun _ _ => id) id (fun _ _ => id) (fun _ _ => id)

theorem cell_five {w : World} {n : Nat} {a b c d e : Value} {t : TypeId} (h : w.heap[n]? = some (.cells #[a, b, c, d, e] t (0, 0))) :
    (w.cell? ⟨n, 0, none⟩ = some a ∧ w.cell? ⟨n, 1, none⟩ = some b ∧ w.cell? ⟨n, 2, none⟩ = some c ∧ w.cell? ⟨n, 3, none⟩ = some d) ∧
    (w.frozen? ⟨n, 0, none⟩ = false ∧ w.frozen? ⟨n, 1, none⟩ = false ∧ w.frozen? ⟨n, 2, none⟩ = false ∧ w.frozen? ⟨n, 3, none⟩ = false) ∧ n < w.heap.size :=
  ⟨⟨by simp [World.cell?, h], by simp [World.cell?, h], by simp [World.cell?, h], by simp [World.cell?, h]⟩, ⟨by simp [World.frozen?, h], by simp [World.frozen?, h], by simp [World.frozen?, h], by simp [World.frozen?, h]⟩, hp_lt h⟩
theorem set_five1 {w : World} {n : Nat} {a b c d e v : Value} {t : TypeId} (h : w.heap[n]? = some (.cells #[a, b, c, d, e] t (0, 0))) : (w.setCell ⟨n, 1, none⟩ v).heap[n]? = some (.cells #[a, v, c, d, e] t (0, 0)) := by
  simp only [World.setCell, Array.getElem?_modify, h]
  simp
theorem set_five2 {w : World} {n : Nat} {a b c d e v : Value} {t : TypeId} (h : w.heap[n]? = some (.cells #[a, b, c, d, e] t (0, 0))) : (w.setCell ⟨n, 2, none⟩ v).heap[n]? = some (.cells #[a, b, v, d, e] t (0, 0)) := by
  simp only [World.setCell, Array.getElem?_modify, h]
  simp
theorem set_five3 {w : World} {n : Nat} {a b c d e v : Value} {t : TypeId} (h : w.heap[n]? = some (.cells #[a, b, c, d, e] t (0, 0))) : (w.setCell ⟨n, 3, none⟩ v).heap[n]? = some (.cells #[a, b, c, v, e] t (0, 0)) := by
  simp only [World.setCell, Array.getElem?_modify, h]
  simp

/-- A step more. -/
theorem Pl.step {w : World} {B0 p : Nat} {la : Option Addr} {lc : Nat} {s : GSteps} {k : Nat} {log : List Int} {gs : List Nat} {lr gr : Option Nat} (h : Pl w B0 p la lc s k log gs lr gr) (k' : Int) (hk : k' = (k + 1 : Nat)) :
    Pl (w.setCell ⟨p, 1, none⟩ (.int .i64 k')) B0 p la lc s (k + 1) log gs lr gr := by
  subst hk
  have kp : Kp (fun b => b = p) w (w.setCell ⟨p, 1, none⟩ (.int .i64 (k + 1 : Nat))) := (Kp.refl (fun b => b = p) w).setCell ⟨p, 1, none⟩ (.inl rfl) _
  obtain ⟨r1, r2, r3⟩ := h.row
  obtain ⟨lv, gv, q1, rfl, rfl, q4, q5⟩ := h.hp
  have hle := h.le
  exact ⟨⟨lv, gv, set_five1 q1, rfl, rfl, owns_keep q4 kp (fun b hb e => by have := r1 b hb; omega), owns_keep q5 kp (fun b hb e => by have := r2 b hb; omega)⟩, h.ne, h.steps.keep kp (fun b hb e => by omega), hle⟩

/-- A log behind an append. -/
theorem Pl.logged {w w' : World} {B0 p : Nat} {la : Option Addr} {lc : Nat} {s : GSteps} {k : Nat} {log : List Int} {gs : List Nat} {lr gr : Option Nat} (h : Pl w B0 p la lc s k log gs lr gr) {v' : Value} {z : Int}
    (ho : w'.ownsRow (p + 1) 3 1 v' (log.length + 1) (log.map intV ++ [intV z])) (hg : w.grownBy w' lr) (hf : Fresh w lr v'.ownBlock) :
    Pl (w'.setCell ⟨p, 2, none⟩ v') B0 p la lc s k (log ++ [z]) gs v'.ownBlock gr := by
  obtain ⟨r1, r2, r3⟩ := h.row
  have hne := h.ne
  obtain ⟨lv, gv, q1, rfl, rfl, q4, q5⟩ := h.hp
  have hle := h.le
  have kp : Kp (fun b => lv.ownBlock = some b) w w' := (Kp.refl _ w).grown hg (fun b hb => .inl hb)
  have kp2 : Kp (fun b => b = p) w' (w'.setCell ⟨p, 2, none⟩ v') := (Kp.refl (fun b => b = p) w').setCell ⟨p, 2, none⟩ (.inl rfl) _
  have g1 := kp.hp q1 (fun e => by have := r1 p e; omega)
  refine ⟨⟨v', gv, set_five2 g1, rfl, rfl, ?_, owns_keep (owns_keep q5 kp (fun b hb e => hne b e hb)) kp2 (fun b hb e => by have := r2 b hb; omega)⟩, ?_, (h.steps.keep kp (fun b hb e => by have := r1 b e; omega)).keep kp2 (fun b hb e => by omega), hle⟩
  · rw [List.length_append, List.length_singleton, List.map_append]
    exact owns_keep ho kp2 (fun b hb e => by have := World.ownsRow.lt ho b hb; omega)
  · intro b hb hb2
    rcases hf with e | ⟨n, e, hn⟩
    · exact hne b (by rw [← e]; exact hb) hb2
    · rw [e] at hb
      have := r2 b hb2
      cases hb
      omega

/-- The guards behind an append onto the first of them. -/
theorem Pl.guarded {w w' : World} {B0 p : Nat} {la : Option Addr} {lc : Nat} {s : GSteps} {k : Nat} {log : List Int} {gs G : List Nat} {lr gr : Option Nat} (h : Pl w B0 p la lc s k log gs lr gr) {v' : Value}
    (ho : w'.ownsRow (p + 1) 27 1 v' G.length (G.map ptrV)) (hg : w.grownBy w' gr) (hf : Fresh w gr v'.ownBlock) :
    Pl (w'.setCell ⟨p, 3, none⟩ v') B0 p la lc s k log G lr v'.ownBlock := by
  obtain ⟨r1, r2, r3⟩ := h.row
  have hne := h.ne
  obtain ⟨lv, gv, q1, rfl, rfl, q4, q5⟩ := h.hp
  have hle := h.le
  have kp : Kp (fun b => gv.ownBlock = some b) w w' := (Kp.refl _ w).grown hg (fun b hb => .inl hb)
  have kp2 : Kp (fun b => b = p) w' (w'.setCell ⟨p, 3, none⟩ v') := (Kp.refl (fun b => b = p) w').setCell ⟨p, 3, none⟩ (.inl rfl) _
  have g1 := kp.hp q1 (fun e => by have := r2 p e; omega)
  refine ⟨⟨lv, v', set_five3 g1, rfl, rfl, owns_keep (owns_keep q4 kp (fun b hb e => hne b hb e)) kp2 (fun b hb e => by have := r1 b hb; omega), owns_keep ho kp2 (fun b hb e => by have := World.ownsRow.lt ho b hb; omega)⟩, ?_, (h.steps.keep kp (fun b hb e => by have := r2 b e; omega)).keep kp2 (fun b hb e => by omega), hle⟩
  intro b hb hb2
  rcases hf with e | ⟨n, e, hn⟩
  · exact hne b hb (by rw [← e]; exact hb2)
  · rw [e] at hb2
    have := r1 b hb
    cases hb2
    omega
end Go.Proofs.Ytbjndmmelngbdaa
