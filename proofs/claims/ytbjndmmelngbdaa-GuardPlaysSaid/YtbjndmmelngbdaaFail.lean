/- The contract of Fail, and a relation between worlds: but for some blocks all is kept. Conditions: as the theorems name them. -/
import Derived.Test.YtbjndmmelngbdaaDo
namespace Go.Proofs.Ytbjndmmelngbdaa
open Go.RowKit

/-- Kept: but for the blocks of S, what was there is as it was. -/
structure Kp (S : Nat → Prop) (w w' : World) : Prop where
  os : w'.os = w.os
  tape : w'.tape = w.tape
  output : w'.output = w.output
  size : w.heap.size ≤ w'.heap.size
  block : ∀ k, k < w.heap.size → ¬ S k → w'.heap[k]? = w.heap[k]?

theorem Kp.refl (S : Nat → Prop) (w : World) : Kp S w w := ⟨rfl, rfl, rfl, Nat.le_refl _, fun _ _ _ => rfl⟩
theorem Kp.trans {S : Nat → Prop} {a b c : World} (h : Kp S a b) (k : Kp S b c) : Kp S a c :=
  ⟨k.os.trans h.os, k.tape.trans h.tape, k.output.trans h.output, Nat.le_trans h.size k.size, fun i hi hs => (k.block i (Nat.lt_of_lt_of_le hi h.size) hs).trans (h.block i hi hs)⟩
theorem Kp.alloc {S : Nat → Prop} {a w : World} (h : Kp S a w) (o : Obj) : Kp S a (w.alloc o) :=
  ⟨h.os, h.tape, h.output, by have := h.size; simp; omega, fun k hk hs => by rw [Below.heap_alloc _ _ _ (Nat.lt_of_lt_of_le hk h.size)]; exact h.block k hk hs⟩
theorem Kp.setCell {S : Nat → Prop} {a w : World} (h : Kp S a w) (p : Addr) (hp : S p.block ∨ a.heap.size ≤ p.block) (u : Value) : Kp S a (w.setCell p u) :=
  ⟨h.os, h.tape, h.output, by have := h.size; simp [World.setCell]; omega, fun k hk hs => by
    rw [Below.heap_setCell _ _ _ _ (by rintro rfl; rcases hp with hp | hp; exact hs hp; omega)]; exact h.block k hk hs⟩
theorem Kp.mono {S S' : Nat → Prop} {a w : World} (h : Kp S a w) (hs : ∀ k, k < a.heap.size → S k → S' k) : Kp S' a w :=
  ⟨h.os, h.tape, h.output, h.size, fun k hk hn => h.block k hk fun h' => hn (hs k hk h')⟩
/-- What an inner call turns may be new here. -/
theorem Kp.step {S S' : Nat → Prop} {a b c : World} (h : Kp S a b) (k : Kp S' b c) (hs : ∀ i, i < a.heap.size → S' i → S i) : Kp S a c :=
  ⟨k.os.trans h.os, k.tape.trans h.tape, k.output.trans h.output, Nat.le_trans h.size k.size, fun i hi hn => (k.block i (Nat.lt_of_lt_of_le hi h.size) fun h' => hn (hs i hi h')).trans (h.block i hi hn)⟩
theorem Kp.below {a w : World} (h : Kp (fun _ => False) a w) : Below a.heap.size a w := ⟨h.os, h.tape, h.output, h.size, fun k hk => h.block k hk id⟩

theorem hp_lt {w : World} {n : Nat} {o : Obj} (h : w.heap[n]? = some o) : n < w.heap.size := by
  by_cases hl : n < w.heap.size
  · exact hl
  · rw [Array.getElem?_eq_none (by omega)] at h; cases h
theorem hp_new (w : World) (o : Obj) : (w.alloc o).heap[w.heap.size]? = some o := by
  show (w.heap.push o)[w.heap.size]? = _
  simp
theorem hp_new' (w : World) (o : Obj) {n : Nat} (hn : n = w.heap.size) : (w.alloc o).heap[n]? = some o := by subst hn; exact hp_new w o
theorem hp_old {w : World} {n : Nat} {o : Obj} (h : w.heap[n]? = some o) (o' : Obj) : (w.alloc o').heap[n]? = some o := by
  rw [Below.heap_alloc _ _ _ (hp_lt h)]; exact h
theorem hp_set {w : World} {n : Nat} {o : Obj} (h : w.heap[n]? = some o) (p : Addr) (u : Value) (hn : n ≠ p.block) : (w.setCell p u).heap[n]? = some o := by
  rw [Below.heap_setCell _ _ _ _ hn]; exact h
@[simp] theorem setCell_size (w : World) (p : Addr) (u : Value) : (w.setCell p u).heap.size = w.heap.size := by simp [World.setCell]

theorem underlying_25 : Try.prog.underlying 25 = some (.int .i64) := by kernel_rfl

set_option maxHeartbeats 400000 in
theorem fail_ok (g : Addr) (w : World) :
    Calls Try.prog 25 #[.pointer (some g), .int .i64 0] w fun e w' => e = .returned (.tuple #[]) ∧ w = w' := by
  go_enter Try.func25, Try.ntmps25
  go_wp2
  go_end0
  exact ⟨rfl, rfl⟩

set_option maxHeartbeats 400000 in
theorem fail_no (g : Nat) (x n : Int) (hn : ¬ n = 0) (w : World) (hg : w.heap[g]? = some (.cells #[.int .i64 x] 47 (0, 0))) :
    Calls Try.prog 25 #[.pointer (some ⟨g, 0, none⟩), .int .i64 n] w fun e w' => e = .panicked [pe (givenV ⟨g, 0, none⟩) false] ∧ w.setCell ⟨g, 0, none⟩ (.int .i64 n) = w' := by
  obtain ⟨hc, hf, hl⟩ := cell_one hg
  have HG := Lib.hid hg; clear hg
  have hnn : (n == 0) = false := by simp [hn]
  have hnn2 : (n != 0) = true := by simp [hn]
  go_enter Try.func25, Try.ntmps25
  go_wp2
  exact ⟨rfl, rfl, rfl⟩

set_option maxHeartbeats 400000 in
theorem known1 (g d : Nat) (x n : Int) (hgd : g ≠ d) (w : World) (hg : w.heap[g]? = some (.cells #[.int .i64 x] 47 (0, 0))) (hd : w.heap[d]? = some (.cells #[.int .i64 n] 3 (0, 0))) (h0 : 0 ≤ n) (h1 : n < 1000) :
    Calls Try.prog 24 #[.pointer (some ⟨g, 0, none⟩), .pointer (some ⟨d, 0, none⟩)] w fun e w' => e = .panicked [pe (givenV ⟨g, 0, none⟩) false] ∧ (w.setCell ⟨d, 0, none⟩ (.int .i64 (n + 1))).setCell ⟨g, 0, none⟩ (.int .i64 3) = w' := by
  have HF := Lib.hid (fail_no g x 3 (by decide) (w.setCell ⟨d, 0, none⟩ (.int .i64 (n + 1))) (hp_set hg _ _ hgd))
  obtain ⟨hc, hf, hl⟩ := cell_one hd
  clear hg hd
  go_enter Try.func24, Try.ntmps24
  go_wp2_with fail
  refine HF.out.mono ?_
  rintro e w' ⟨rfl, rfl⟩
  exact ⟨rfl, rfl, rfl⟩

set_option maxHeartbeats 400000 in
theorem known2 (g d : Nat) (n : Int) (w : World) (hd : w.heap[d]? = some (.cells #[.int .i64 n] 3 (0, 0))) (h0 : 0 ≤ n) (h1 : n < 1000) :
    Calls Try.prog 26 #[.pointer (some ⟨g, 0, none⟩), .pointer (some ⟨d, 0, none⟩)] w fun e w' => e = .returned (.tuple #[]) ∧ (w.setCell ⟨d, 0, none⟩ (.int .i64 (n + 1))).setCell ⟨d, 0, none⟩ (.int .i64 (n + 2)) = w' := by
  obtain ⟨hc, hf, hl⟩ := cell_one hd
  obtain ⟨hc2, hf2, hl2⟩ := cell_one (set_one (v' := .int .i64 (n + 1)) hd)
  clear hd
  go_enter Try.func26, Try.ntmps26
  go_wp2_with fail
  refine (fail_ok _ _).mono ?_
  rintro e w' ⟨rfl, rfl⟩
  go_wp2
  go_end0
  trace_state
  exact ⟨rfl, by rw [show n + 2 = n + 1 + 1 by omega]⟩
end Go.Proofs.Ytbjndmmelngbdaa
