/- The contracts of Want and Check of package guard, and of the closures within GuardKnown. Conditions: as the theorems name them. -/
import Derived.Test.YtbjndmmelngbdaaOther
import Derived.Laws.EntriesVeiled
namespace Go.Proofs.Ytbjndmmelngbdaa
open Go.RowKit

set_option maxHeartbeats 400000 in
theorem want_yes (g : Addr) (n : Int) (w : World) :
    Calls Try.prog 16 #[.pointer (some g), .bool true, .int .i64 n] w fun e w' => e = .returned (.tuple #[]) ∧ w = w' := by
  go_enter Try.func16, Try.ntmps16
  go_wp2
  go_end0
  exact ⟨rfl, rfl⟩

set_option maxHeartbeats 400000 in
theorem want_no (g : Nat) (x n : Int) (hn : ¬ n = 0) (w : World) (hg : w.heap[g]? = some (.cells #[.int .i64 x] 47 (0, 0))) :
    Calls Try.prog 16 #[.pointer (some ⟨g, 0, none⟩), .bool false, .int .i64 n] w fun e w' => e = .panicked [pe (givenV ⟨g, 0, none⟩) false] ∧ w.setCell ⟨g, 0, none⟩ (.int .i64 n) = w' := by
  have HF := Lib.hid (fail_no g x n hn w hg); clear hg
  go_enter Try.func16, Try.ntmps16
  go_wp2_with fail
  refine HF.out.mono ?_
  rintro e w' ⟨rfl, rfl⟩
  exact ⟨rfl, rfl, rfl⟩

set_option maxHeartbeats 400000 in
theorem check_ok (g : Addr) (w : World) :
    Calls Try.prog 18 #[.pointer (some g), .int .i64 0] w fun e w' => e = .returned (.tuple #[]) ∧ w = w' := by
  go_enter Try.func18, Try.ntmps18
  go_wp2_with fail
  refine (fail_ok _ _).mono ?_
  rintro e w' ⟨rfl, rfl⟩
  go_wp2
  go_end0
  exact ⟨rfl, rfl⟩

set_option maxHeartbeats 400000 in
theorem check_no (g : Nat) (x n : Int) (hn : ¬ n = 0) (w : World) (hg : w.heap[g]? = some (.cells #[.int .i64 x] 47 (0, 0))) :
    Calls Try.prog 18 #[.pointer (some ⟨g, 0, none⟩), .int .i64 n] w fun e w' => e = .panicked [pe (givenV ⟨g, 0, none⟩) false] ∧ w.setCell ⟨g, 0, none⟩ (.int .i64 n) = w' := by
  have HF := Lib.hid (fail_no g x n hn w hg); clear hg
  go_enter Try.func18, Try.ntmps18
  go_wp2_with fail
  refine HF.out.mono ?_
  rintro e w' ⟨rfl, rfl⟩
  exact ⟨rfl, rfl, rfl⟩

theorem do_nil (w : World) : Calls Try.prog 10 #[.nilFunc] w fun e w' => e = .returned (.int .i64 0) ∧ Kp (fun _ => False) w w' := by
  have heq : ∀ (w : World), (binOp BinOp.eql 28 .nilFunc .nilFunc).run Try.prog w = .ok (.bool true) w := fun w => by kernel_rfl
  go_enter_defers Try.func10, Try.ntmps10
  go_wp2
  simp [bodyPostD, Leaves, results, Try.results10, go_sem]
  exact ((Kp.refl _ w).alloc _)

set_option maxHeartbeats 400000 in
theorem f15 (h d : Nat) (x : Int) (w : World) (hh : w.heap[h]? = some (.cells #[.int .i64 x] 47 (0, 0))) :
    Calls Try.prog 15 #[.pointer (some ⟨h, 0, none⟩), .pointer (some ⟨d, 0, none⟩)] w fun e w' => e = .panicked [pe (givenV ⟨h, 0, none⟩) false] ∧ w.setCell ⟨h, 0, none⟩ (.int .i64 6) = w' := by
  have HF := Lib.hid (want_no h x 6 (by decide) w hh); clear hh
  go_enter Try.func15, Try.ntmps15
  go_wp2_with fail
  refine (want_yes _ _ _).mono ?_
  rintro e w' ⟨rfl, rfl⟩
  go_wp2_with fail
  refine HF.out.mono ?_
  rintro e w' ⟨rfl, rfl⟩
  exact ⟨rfl, rfl, rfl⟩

theorem do15 (d : Nat) (w : World) : Calls Try.prog 10 #[.func (Fn.func 15) #[] #[.pointer (some ⟨d, 0, none⟩)]] w fun e w' => e = .returned (.int .i64 6) ∧ Kp (fun _ => False) w w' := by
  refine do_gen 15 #[] #[.pointer (some ⟨d, 0, none⟩)] (fun g => #[.pointer (some g), .pointer (some ⟨d, 0, none⟩)]) w _ (fun g w => by kernel_rfl) ?_
  refine (f15 (w.heap.size + 1) d 0 _ (hp_new' _ _ (by simp))).mono ?_
  rintro e w' ⟨rfl, rfl⟩
  refine ⟨⟨0, hp_set (hp_old (hp_new _ _) _) _ _ (by simp)⟩, _, [], rfl, by simp, .inl ⟨rfl, 6, set_one (hp_new' _ _ (by simp)), rfl, ?_⟩⟩
  exact (((((Kp.refl (fun _ => False) w).alloc _).alloc _).setCell ⟨w.heap.size + 1, 0, none⟩ (.inr (Nat.le_succ _)) _).alloc _).setCell ⟨w.heap.size, 0, none⟩ (.inr (Nat.le_refl _)) _

set_option maxHeartbeats 400000 in
theorem f17 (h d b g : Nat) (x n : Int) (w : World) (hb : w.heap[b]? = some (.cells #[.pointer (some ⟨g, 0, none⟩)] 27 (0, 0))) (hg : w.heap[g]? = some (.cells #[.int .i64 x] 47 (0, 0))) (hd : w.heap[d]? = some (.cells #[.int .i64 n] 3 (0, 0))) (h0 : 0 ≤ n) (h1 : n < 1000) :
    Calls Try.prog 17 #[.pointer (some ⟨h, 0, none⟩), .pointer (some ⟨d, 0, none⟩), .pointer (some ⟨b, 0, none⟩)] w fun e w' => e = .panicked [pe (givenV ⟨g, 0, none⟩) false] ∧ (w.setCell ⟨d, 0, none⟩ (.int .i64 (n + 1))).setCell ⟨g, 0, none⟩ (.int .i64 5) = w' := by
  have F1 : g ≠ d := by rintro rfl; rw [hg] at hd; cases hd
  have F2 : b ≠ d := by rintro rfl; rw [hb] at hd; cases hd
  have F3 : d ≠ b := Ne.symm F2
  have HF := Lib.hid (check_no g x 5 (by decide) (w.setCell ⟨d, 0, none⟩ (.int .i64 (n + 1))) (hp_set hg _ _ F1))
  obtain ⟨hc, hf, hl⟩ := cell_one hd
  obtain ⟨hc2, hf2, hl2⟩ := cell_one hb
  clear hg hd hb
  go_enter Try.func17, Try.ntmps17
  go_wp2_with fail
  refine HF.out.mono ?_
  rintro e w' ⟨rfl, rfl⟩
  exact ⟨rfl, rfl, rfl⟩

theorem do17 (d b g : Nat) (x n : Int) (w : World) (hb : w.heap[b]? = some (.cells #[.pointer (some ⟨g, 0, none⟩)] 27 (0, 0))) (hg : w.heap[g]? = some (.cells #[.int .i64 x] 47 (0, 0))) (hd : w.heap[d]? = some (.cells #[.int .i64 n] 3 (0, 0))) (h0 : 0 ≤ n) (h1 : n < 1000) :
    Calls Try.prog 10 #[.func (Fn.func 17) #[] #[.pointer (some ⟨d, 0, none⟩), .pointer (some ⟨b, 0, none⟩)]] w fun e w' => (∃ older, e = .panicked (pe (givenV ⟨g, 0, none⟩) false :: older) ∧ ∀ x ∈ older, x.goexit = false) ∧
      w'.heap[d]? = some (.cells #[.int .i64 (n + 1)] 3 (0, 0)) ∧ w'.heap[g]? = some (.cells #[.int .i64 5] 47 (0, 0)) ∧ Kp (fun k => k = d ∨ k = g) w w' := by
  have F1 : g ≠ d := by rintro rfl; rw [hg] at hd; cases hd
  have hgl := hp_lt hg
  have hdl := hp_lt hd
  refine do_gen 17 #[] #[.pointer (some ⟨d, 0, none⟩), .pointer (some ⟨b, 0, none⟩)] (fun g => #[.pointer (some g), .pointer (some ⟨d, 0, none⟩), .pointer (some ⟨b, 0, none⟩)]) w _ (fun g w => by kernel_rfl) ?_
  refine (f17 (w.heap.size + 1) d b g x n _ (hp_old (hp_old hb _) _) (hp_old (hp_old hg _) _) (hp_old (hp_old hd _) _) h0 h1).mono ?_
  rintro e w' ⟨rfl, rfl⟩
  have eg := set_one (v' := .int .i64 5) (hp_set (hp_old (hp_old hg (.cells #[.int .i64 0] 25)) (.cells #[.int .i64 0] 47)) ⟨d, 0, none⟩ (.int .i64 (n + 1)) F1)
  refine ⟨⟨0, hp_set (hp_set (hp_old (hp_new _ _) _) _ _ (by simp; omega)) _ _ (by simp; omega)⟩, _, [], rfl, by simp, .inr (.inl ⟨⟨g, 0, none⟩, rfl, ?_, ⟨_, _, hp_set (hp_set (hp_new' _ _ (by simp)) _ _ (by simp; omega)) _ _ (by simp; omega)⟩, ⟨_, _, eg⟩, ⟨_, rfl, by simp⟩, ?_, ?_, ?_⟩)⟩
  · intro e; injection e with e; omega
  · exact hp_old (hp_set (set_one (hp_old (hp_old hd _) _)) _ _ (by simp; omega)) _
  · exact hp_old eg _
  · exact ((((Kp.refl (fun k => k = d ∨ k = g) w).alloc _).alloc _).setCell ⟨d, 0, none⟩ (.inl (.inl rfl)) _).setCell ⟨g, 0, none⟩ (.inl (.inr rfl)) _ |>.alloc _

end Go.Proofs.Ytbjndmmelngbdaa
