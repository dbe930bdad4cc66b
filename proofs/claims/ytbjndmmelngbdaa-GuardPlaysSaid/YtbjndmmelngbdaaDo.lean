/- The contract of guard.Do: whatever the called function does, Do answers by it. Conditions: as the theorem names them. -/
import Derived.Test.YtbjndmmelngbdaaBack
namespace Go.Proofs.Ytbjndmmelngbdaa
open Go.RowKit

/-- What Do asks of the call of its function: from the world w in which Do was called. -/
def DoPost (w : World) (R : Ending → World → Prop) : Ending → World → Prop
  | .returned _, w2 => (∃ y, w2.heap[w.heap.size]? = some (.cells #[.int .i64 y] 25 (0, 0))) ∧ R (.returned (.int .i64 0)) (w2.setCell ⟨w.heap.size, 0, none⟩ (.int .i64 0))
  | .panicked chain, w2 => (∃ y, w2.heap[w.heap.size]? = some (.cells #[.int .i64 y] 25 (0, 0))) ∧ ∃ v older, chain = pe v false :: older ∧ (∀ x ∈ older, x.goexit = false) ∧
      ((v = givenV ⟨w.heap.size + 1, 0, none⟩ ∧ ∃ x, w2.heap[w.heap.size + 1]? = some (.cells #[.int .i64 x] 47 (0, 0)) ∧
          R (.returned (.int .i64 x)) ((w2.alloc (.cells #[.pointer (some ⟨w.heap.size + 1, 0, none⟩)] 53)).setCell ⟨w.heap.size, 0, none⟩ (.int .i64 x))) ∨
       (∃ g', v = givenV g' ∧ g' ≠ ⟨w.heap.size + 1, 0, none⟩ ∧ (∃ ca ta, w2.heap[w.heap.size + 1]? = some (.cells ca ta (0, 0))) ∧ (∃ ca ta, w2.heap[g'.block]? = some (.cells ca ta (0, 0))) ∧
          R (.panicked (pe v false :: pe v true :: older)) (w2.alloc (.cells #[.pointer (some g')] 53))) ∨
       (∃ s, v = .iface 9 (.string s) ∧ R (.panicked (pe v false :: pe v true :: older)) w2))
  | .outgrown, _ => False

theorem settle_rec (v : Value) (older : List PanicEntry) (h : ∀ x ∈ older, x.goexit = false) : settle (.panicking (pe v true :: older)) = .returning := by
  have : older.dropWhile (fun e => !e.goexit) = [] := by
    induction older with
    | nil => rfl
    | cons a l ih =>
      have ha := h a (by simp)
      rw [List.dropWhile_cons, if_pos (by simp [ha])]
      exact ih fun x hx => h x (by simp [hx])
  simp [settle, pe, this]

theorem cell_one {w : World} {n : Nat} {v : Value} {t : TypeId} (h : w.heap[n]? = some (.cells #[v] t (0, 0))) : w.cell? ⟨n, 0, none⟩ = some v ∧ w.frozen? ⟨n, 0, none⟩ = false ∧ n < w.heap.size := by
  refine ⟨by simp [World.cell?, h], by simp [World.frozen?, h], ?_⟩
  by_cases hl : n < w.heap.size
  · exact hl
  · rw [Array.getElem?_eq_none (by omega)] at h; cases h

theorem set_one {w : World} {n : Nat} {v v' : Value} {t : TypeId} (h : w.heap[n]? = some (.cells #[v] t (0, 0))) : (w.setCell ⟨n, 0, none⟩ v').heap[n]? = some (.cells #[v'] t (0, 0)) := by
  simp only [World.setCell, Array.getElem?_modify, h]
  simp

set_option maxHeartbeats 400000 in
theorem do_gen (F : FuncId) (first cap : Array Value) (A : Addr → Array Value) (w : World) (R : Ending → World → Prop)
    (hcf : ∀ (g : Addr) (w : World), Sem.run Try.prog (callFunc F (first.push (.pointer (some g)) ++ cap)) w = .ok (.enter F (A g)) w)
    (hcall : Calls Try.prog F (A ⟨w.heap.size + 1, 0, none⟩) ((w.alloc (.cells #[.int .i64 0] 25)).alloc (.cells #[.int .i64 0] 47)) (DoPost w R)) :
    Calls Try.prog 10 #[.func (Fn.func F) first cap] w R := by
  go_enter_defers Try.func10, Try.ntmps10
  have heq : ∀ (w : World), (binOp BinOp.eql 28 (.func (Fn.func F) first cap) .nilFunc).run Try.prog w = .ok (.bool false) w := fun w => by kernel_rfl
  have HC := Lib.hid hcall; clear hcall
  go_wp2
  refine (HC.out).mono ?_
  intro e w2 hp
  cases e with
  | returned v =>
    obtain ⟨⟨y, hy⟩, hR⟩ := hp
    obtain ⟨hc, hf, hl⟩ := cell_one hy
    have HR := Lib.hid hR; clear hR
    have HY := Lib.hid hy; clear hy
    have HL := Lib.hid hl; clear hl
    go_wp2
    refine leaves_cons (f := 27) (args := #[.pointer (some ⟨w.heap.size + 1, 0, none⟩), .pointer (some ⟨w.heap.size, 0, none⟩)]) (by simp) (by simp [go_sem]) ?_
    refine (back_idle _ _ _).mono ?_
    rintro e u' w'' ⟨rfl, rfl, rfl⟩
    have h1 := (cell_one (set_one (v' := .int .i64 0) HY.out)).1
    simp [Leaves, settle, results, Try.results10, go_sem, h1]
    exact HR.out
  | panicked chain =>
    obtain ⟨⟨y, hy⟩, v, older, rfl, hgo, hcase⟩ := hp
    obtain ⟨hc, hf, hl⟩ := cell_one hy
    show Leaves _ _ _ _ _ _ _
    refine leaves_cons (f := 27) (args := #[.pointer (some ⟨w.heap.size + 1, 0, none⟩), .pointer (some ⟨w.heap.size, 0, none⟩)]) (by simp) (by simp [go_sem]) ?_
    rcases hcase with ⟨rfl, x, hx, hR⟩ | ⟨g', rfl, hne, ⟨ca, ta, h1⟩, ⟨cb, tb, h2⟩, hR⟩ | ⟨s, rfl, hR⟩
    · obtain ⟨hgc, hgf, hgl⟩ := cell_one hx
      refine (back_own _ _ x y older w2 hgc hc hf hgl hl).mono ?_
      rintro e u' w'' ⟨rfl, rfl, rfl⟩
      have h1 := (cell_one (set_one (v' := .int .i64 x) (w := w2.alloc (.cells #[.pointer (some ⟨w.heap.size + 1, 0, none⟩)] 53)) (by rw [Below.heap_alloc _ _ _ hl]; exact hy))).1
      show Leaves _ _ _ _ _ _ _
      rw [settle_rec _ _ hgo]
      simp [Leaves, results, Try.results10, go_sem, h1]
      exact hR
    · refine (back_other _ g' _ older w2 hne h1 h2).mono ?_
      rintro e u' w'' ⟨rfl, rfl, rfl⟩
      exact hR
    · refine (back_string _ _ s older w2).mono ?_
      rintro e u' w'' ⟨rfl, rfl, rfl⟩
      exact hR
  | outgrown => exact hp.elim
end Go.Proofs.Ytbjndmmelngbdaa
