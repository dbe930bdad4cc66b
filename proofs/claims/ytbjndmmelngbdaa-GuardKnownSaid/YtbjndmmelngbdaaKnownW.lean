/- The walk of GuardKnown: it answers true and turns nothing that was there. No condition. -/
import Derived.Test.YtbjndmmelngbdaaWant
namespace Go.Proofs.Ytbjndmmelngbdaa
open Go.RowKit

set_option maxHeartbeats 400000 in
theorem f14 (g d : Nat) (x n : Int) (w : World) (hg : w.heap[g]? = some (.cells #[.int .i64 x] 47 (0, 0))) (hd : w.heap[d]? = some (.cells #[.int .i64 n] 3 (0, 0))) (h0 : 0 ≤ n) (h1 : n < 900) :
    Calls Try.prog 14 #[.pointer (some ⟨g, 0, none⟩), .pointer (some ⟨d, 0, none⟩)] w fun e w' => (∃ older, e = .panicked (pe (givenV ⟨g, 0, none⟩) false :: older) ∧ ∀ x ∈ older, x.goexit = false) ∧
      w'.heap[d]? = some (.cells #[.int .i64 (n + 1 + 1)] 3 (0, 0)) ∧ w'.heap[g]? = some (.cells #[.int .i64 5] 47 (0, 0)) ∧ Kp (fun k => k = d ∨ k = g) w w' := by
  have F1 : g ≠ d := by rintro rfl; rw [hg] at hd; cases hd
  have hgl := hp_lt hg
  have hdl := hp_lt hd
  have hmf : ∀ (fn : Fn) (first cap : Array Value) (w : World), (Instr.makeFunc fn first cap).run Try.prog w = .ok (.func fn first cap) w := fun _ _ _ _ => rfl
  have HG := Lib.hid hg; have HD := Lib.hid hd; clear hg hd
  go_enter Try.func14, Try.ntmps14
  go_wp2_with fail
  refine (do15 d _).mono ?_
  rintro e w1 ⟨rfl, hk1⟩
  have hg1 : w1.heap[g]? = some (.cells #[.int .i64 x] 47 (0, 0)) := by rw [hk1.block _ (by simp; omega) id]; exact hp_old HG.out _
  have hd1 : w1.heap[d]? = some (.cells #[.int .i64 n] 3 (0, 0)) := by rw [hk1.block _ (by simp; omega) id]; exact hp_old HD.out _
  have hb1 : w1.heap[w.heap.size]? = some (.cells #[.pointer (some ⟨g, 0, none⟩)] 27 (0, 0)) := by rw [hk1.block _ (by simp) id]; exact hp_new _ _
  have HK1 : Hid (Kp (fun k => k = d ∨ k = g) w w1) := ((Kp.refl (fun k => k = d ∨ k = g) w).alloc _).step hk1 (fun _ _ h => h.elim)
  have HDO := Lib.hid (do17 d w.heap.size g x (n + 1) (w1.setCell ⟨d, 0, none⟩ (.int .i64 (n + 1))) (hp_set hb1 _ _ (by simp; omega)) (hp_set hg1 _ _ F1) (set_one hd1) (by omega) (by omega))
  have hw1l := hp_lt hb1
  obtain ⟨hc, hf, hl⟩ := cell_one hd1
  clear hg1 hd1 hb1 hk1
  go_wp2_with fail
  refine HDO.out.mono ?_
  rintro e w2 ⟨⟨older, rfl, hold⟩, hd2, hg2, hk2⟩
  refine ⟨rfl, ⟨older, rfl, hold⟩, hd2, hg2, ?_⟩
  exact (HK1.out.setCell ⟨d, 0, none⟩ (.inl (.inl rfl)) _).step hk2 (fun _ _ h => h)

theorem do14 (d : Nat) (n : Int) (w : World) (hd : w.heap[d]? = some (.cells #[.int .i64 n] 3 (0, 0))) (h0 : 0 ≤ n) (h1 : n < 900) :
    Calls Try.prog 10 #[.func (Fn.func 14) #[] #[.pointer (some ⟨d, 0, none⟩)]] w fun e w' => e = .returned (.int .i64 5) ∧ w'.heap[d]? = some (.cells #[.int .i64 (n + 1 + 1)] 3 (0, 0)) ∧ Kp (· = d) w w' := by
  have hdl := hp_lt hd
  refine do_gen 14 #[] #[.pointer (some ⟨d, 0, none⟩)] (fun g => #[.pointer (some g), .pointer (some ⟨d, 0, none⟩)]) w _ (fun g w => by kernel_rfl) ?_
  refine (f14 (w.heap.size + 1) d 0 n _ (hp_new' _ _ (by simp)) (hp_old (hp_old hd _) _) h0 h1).mono ?_
  rintro e w' ⟨⟨older, rfl, hold⟩, hd2, hg2, hk2⟩
  refine ⟨⟨0, ?_⟩, _, older, rfl, hold, .inl ⟨rfl, 5, hg2, rfl, ?_, ?_⟩⟩
  · rw [hk2.block _ (by simp; omega) (show ¬ (_ ∨ _) by omega)]; exact hp_old (hp_new _ _) _
  · exact hp_set (hp_old hd2 _) _ _ (by simp; omega)
  · exact ((((Kp.refl (· = d) w).alloc _).alloc _).step hk2 (fun i hi h => by omega)).alloc _ |>.setCell ⟨w.heap.size, 0, none⟩ (.inr (Nat.le_refl _)) _

def mine : ByteArray := ⟨#[109, 105, 110, 101]⟩

set_option maxHeartbeats 400000 in
theorem f20 (g r : Nat) (b : Bool) (w : World) (hr : w.heap[r]? = some (.cells #[.bool b] 4 (0, 0))) :
    Calls Try.prog 20 #[.pointer (some ⟨g, 0, none⟩), .pointer (some ⟨r, 0, none⟩)] w fun e w' => e = .panicked [pe (.iface 9 (.string mine)) false] ∧ w.setCell ⟨r, 0, none⟩ (.bool true) = w' := by
  obtain ⟨hc, hf, hl⟩ := cell_one hr
  clear hr
  go_enter Try.func20, Try.ntmps20
  go_wp2
  exact ⟨rfl, rfl, rfl⟩

theorem do20 (r : Nat) (b : Bool) (w : World) (hr : w.heap[r]? = some (.cells #[.bool b] 4 (0, 0))) :
    Calls Try.prog 10 #[.func (Fn.func 20) #[] #[.pointer (some ⟨r, 0, none⟩)]] w fun e w' => (∃ older, e = .panicked (pe (.iface 9 (.string mine)) false :: older) ∧ ∀ x ∈ older, x.goexit = false) ∧ w'.heap[r]? = some (.cells #[.bool true] 4 (0, 0)) ∧ Kp (· = r) w w' := by
  have hrl := hp_lt hr
  refine do_gen 20 #[] #[.pointer (some ⟨r, 0, none⟩)] (fun g => #[.pointer (some g), .pointer (some ⟨r, 0, none⟩)]) w _ (fun g w => by kernel_rfl) ?_
  refine (f20 (w.heap.size + 1) r b _ (hp_old (hp_old hr _) _)).mono ?_
  rintro e w' ⟨rfl, rfl⟩
  refine ⟨⟨0, hp_set (hp_old (hp_new _ _) _) _ _ (by simp; omega)⟩, _, [], rfl, by simp, .inr (.inr ⟨mine, rfl, ⟨_, rfl, by simp⟩, ?_, ?_⟩)⟩
  · exact set_one (hp_old (hp_old hr _) _)
  · exact ((((Kp.refl (· = r) w).alloc _).alloc _).setCell ⟨r, 0, none⟩ (.inl rfl) _)

set_option maxHeartbeats 400000 in
theorem f19 (r : Nat) (b : Bool) (w : World) (hr : w.heap[r]? = some (.cells #[.bool b] 4 (0, 0))) :
    Calls Try.prog 19 #[.pointer (some ⟨r, 0, none⟩)] w fun e w' => (∃ older, e = .panicked (pe (.iface 9 (.string mine)) false :: older) ∧ ∀ x ∈ older, x.goexit = false) ∧ w'.heap[r]? = some (.cells #[.bool true] 4 (0, 0)) ∧ Kp (· = r) w w' := by
  have hmf : ∀ (fn : Fn) (first cap : Array Value) (w : World), (Instr.makeFunc fn first cap).run Try.prog w = .ok (.func fn first cap) w := fun _ _ _ _ => rfl
  have HD := Lib.hid (do20 r b w hr); clear hr
  go_enter Try.func19, Try.ntmps19
  go_wp2_with fail
  refine HD.out.mono ?_
  rintro e w' ⟨⟨older, rfl, hold⟩, h1, h2⟩
  exact ⟨rfl, ⟨older, rfl, hold⟩, h1, h2⟩

set_option maxHeartbeats 400000 in
theorem other19 (r : Nat) (b : Bool) (w : World) (hr : w.heap[r]? = some (.cells #[.bool b] 4 (0, 0))) :
    Calls Try.prog 12 #[.func (Fn.func 19) #[] #[.pointer (some ⟨r, 0, none⟩)]] w fun e w' => e = .returned (.iface 9 (.string mine)) ∧ w'.heap[r]? = some (.cells #[.bool true] 4 (0, 0)) ∧ Kp (· = r) w w' := by
  have HC := Lib.hid (f19 r b (w.alloc (.cells #[.nilIface] 20)) (hp_old hr _))
  have hrl := hp_lt hr
  clear hr
  have hmf : ∀ (fn : Fn) (first cap : Array Value) (w : World), (Instr.makeFunc fn first cap).run Try.prog w = .ok (.func fn first cap) w := fun _ _ _ _ => rfl
  go_enter_defers Try.func12, Try.ntmps12
  go_wp2_with fail
  refine HC.out.mono ?_
  rintro e w' ⟨⟨older, rfl, hold⟩, hn2, hK2⟩
  have hr : w'.heap[w.heap.size]? = some (.cells #[.nilIface] 20 (0, 0)) := by
    rw [hK2.block _ (by simp) (show ¬ (w.heap.size = r) by omega)]; exact hp_new _ _
  obtain ⟨hc, hf, hl⟩ := cell_one hr
  show Leaves _ _ _ _ _ _ _
  refine leaves_cons (f := 28) (args := #[.pointer (some ⟨w.heap.size, 0, none⟩)]) (by simp) (by simp [go_sem]) ?_
  refine (catch28 _ _ _ _ older w' hc hf).mono ?_
  rintro e u' w'' ⟨rfl, rfl, rfl⟩
  show Leaves _ _ _ _ _ _ _
  rw [settle_rec _ _ hold]
  have h1 := (cell_one (set_one (v' := .iface 9 (.string mine)) hr)).1
  simp [Leaves, results, Try.results12, go_sem, h1]
  exact ⟨hp_set hn2 _ _ (by simp; omega), (((Kp.refl (· = r) w).alloc _).trans hK2).setCell ⟨w.heap.size, 0, none⟩ (.inr (Nat.le_refl _)) _⟩

theorem ta_str' (v : Value) (w : World) : (Instr.typeAssert (.iface 9 v) 20 9 true).run Try.prog w = .ok (.tuple #[v, .bool true]) w := by
  simp [Instr.typeAssert, go_sem, Try.underlying9]

set_option maxHeartbeats 400000 in
theorem guardKnown_any (w : World) : Calls Try.prog 4 #[] w fun e w' => e = .returned (.bool true) ∧ Kp (fun _ => False) w w' := by
  have hmf : ∀ (fn : Fn) (first cap : Array Value) (w : World), (Instr.makeFunc fn first cap).run Try.prog w = .ok (.func fn first cap) w := fun _ _ _ _ => rfl
  have hta := ta_str'
  have hm : (mine.toList == [109, 105, 110, 101]) = true := by decide +kernel
  go_enter Try.func4, Try.ntmps4
  go_wp2_with fail
  refine (known_any _).mono ?_
  rintro e w1 ⟨rfl, hk1⟩
  have HK1 := Lib.hid hk1; clear hk1
  go_wp2_with fail
  refine (do14 w1.heap.size 0 _ (hp_new _ _) (by decide) (by decide)).mono ?_
  rintro e w2 ⟨rfl, hd2, hk2⟩
  have hd2l := hp_lt hd2
  have HD2 := Lib.hid hd2
  have HK2 : Hid (Kp (fun _ => False) w w2) := (HK1.out.alloc _).step hk2 (fun i hi h => by have := HK1.out.size; omega)
  clear hd2 hk2
  go_wp2_with fail
  refine (other19 w2.heap.size false _ (hp_new _ _)).mono ?_
  rintro e w3 ⟨rfl, hr3, hk3⟩
  have hd3 : w3.heap[w1.heap.size]? = some (.cells #[.int .i64 2] 3 (0, 0)) := by
    rw [hk3.block _ (by simp; omega) (show ¬ (_ = _) by omega)]; exact hp_old HD2.out _
  have HK3 : Hid (Kp (fun _ => False) w w3) := (HK2.out.alloc _).step hk3 (fun i hi h => by have := HK2.out.size; omega)
  obtain ⟨hc, hf, hl⟩ := cell_one hd3
  obtain ⟨hc2, hf2, hl2⟩ := cell_one hr3
  clear hk3 hd3 hr3
  go_wp2_with fail
  refine (do_nil _).mono ?_
  rintro e w4 ⟨rfl, hk4⟩
  have HK4 := Lib.hid (HK3.out.trans hk4)
  clear hk4
  go_wp2
  go_ret
  exact ⟨rfl, HK4.out⟩
end Go.Proofs.Ytbjndmmelngbdaa
