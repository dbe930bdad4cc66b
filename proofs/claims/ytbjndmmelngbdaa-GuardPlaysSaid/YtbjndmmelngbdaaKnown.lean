/- The contract of the law file's function known: it answers true and turns nothing that was there. No condition. -/
import Derived.Test.YtbjndmmelngbdaaFail
namespace Go.Proofs.Ytbjndmmelngbdaa
open Go.RowKit

set_option maxHeartbeats 400000 in
theorem doKnown1 (d : Nat) (n : Int) (w : World) (hd : w.heap[d]? = some (.cells #[.int .i64 n] 3 (0, 0))) (h0 : 0 ≤ n) (h1 : n < 1000) :
    Calls Try.prog 10 #[.func (Fn.func 24) #[] #[.pointer (some ⟨d, 0, none⟩)]] w fun e w' => e = .returned (.int .i64 3) ∧ w'.heap[d]? = some (.cells #[.int .i64 (n + 1)] 3 (0, 0)) ∧ Kp (· = d) w w' := by
  have hdl := hp_lt hd
  refine do_gen 24 #[] #[.pointer (some ⟨d, 0, none⟩)] (fun g => #[.pointer (some g), .pointer (some ⟨d, 0, none⟩)]) w _ (fun g w => by kernel_rfl) ?_
  refine (known1 (w.heap.size + 1) d 0 n (by omega) _ (hp_new' _ _ (by simp)) (hp_old (hp_old hd _) _) h0 h1).mono ?_
  rintro e w' ⟨rfl, rfl⟩
  refine ⟨⟨0, hp_set (hp_set (hp_old (hp_new _ _) _) _ _ (by simp; omega)) _ _ (by simp)⟩, _, [], rfl, by simp, .inl ⟨rfl, 3, set_one (hp_set (hp_new' _ _ (by simp)) _ _ (by simp; omega)), rfl, ?_, ?_⟩⟩
  · exact hp_set (hp_old (hp_set (set_one (hp_old (hp_old hd _) _)) _ _ (by simp; omega)) _) _ _ (by simp; omega)
  · refine ((((((Kp.refl (· = d) w).alloc _).alloc _).setCell ⟨d, 0, none⟩ (.inl rfl) _).setCell ⟨w.heap.size + 1, 0, none⟩ (.inr (Nat.le_succ w.heap.size)) _).alloc _).setCell ⟨w.heap.size, 0, none⟩ (.inr (Nat.le_refl w.heap.size)) _

set_option maxHeartbeats 400000 in
theorem doKnown2 (d : Nat) (n : Int) (w : World) (hd : w.heap[d]? = some (.cells #[.int .i64 n] 3 (0, 0))) (h0 : 0 ≤ n) (h1 : n < 1000) :
    Calls Try.prog 10 #[.func (Fn.func 26) #[] #[.pointer (some ⟨d, 0, none⟩)]] w fun e w' => e = .returned (.int .i64 0) ∧ w'.heap[d]? = some (.cells #[.int .i64 (n + 2)] 3 (0, 0)) ∧ Kp (· = d) w w' := by
  have hdl := hp_lt hd
  refine do_gen 26 #[] #[.pointer (some ⟨d, 0, none⟩)] (fun g => #[.pointer (some g), .pointer (some ⟨d, 0, none⟩)]) w _ (fun g w => by kernel_rfl) ?_
  refine (known2 (w.heap.size + 1) d n _ (hp_old (hp_old hd _) _) h0 h1).mono ?_
  rintro e w' ⟨rfl, rfl⟩
  refine ⟨⟨0, hp_set (hp_set (hp_old (hp_new _ _) _) _ _ (by simp; omega)) _ _ (by simp; omega)⟩, rfl, ?_, ?_⟩
  · exact hp_set (set_one (set_one (hp_old (hp_old hd _) _))) _ _ (by simp; omega)
  · refine (((((Kp.refl (· = d) w).alloc _).alloc _).setCell ⟨d, 0, none⟩ (.inl rfl) _).setCell ⟨d, 0, none⟩ (.inl rfl) _).setCell ⟨w.heap.size, 0, none⟩ (.inr (Nat.le_refl w.heap.size)) _

set_option maxHeartbeats 400000 in
theorem known_any (w : World) :
    Calls Try.prog 8 #[] w fun e w' => e = .returned (.bool true) ∧ Kp (fun _ => False) w w' := by
  have hmf : ∀ (fn : Fn) (first cap : Array Value) (w : World), (Instr.makeFunc fn first cap).run Try.prog w = .ok (.func fn first cap) w := fun _ _ _ _ => rfl
  go_enter Try.func8, Try.ntmps8
  go_wp2_with fail
  refine (doKnown1 w.heap.size 0 _ (hp_new _ _) (by decide) (by decide)).mono ?_
  rintro e w1 ⟨rfl, hd1, hk1⟩
  have HD := Lib.hid hd1; clear hd1
  have HK := Lib.hid hk1; clear hk1
  go_wp2_with fail
  refine (doKnown2 w.heap.size _ _ HD.out (by decide) (by decide)).mono ?_
  rintro e w2 ⟨rfl, hd2, hk2⟩
  have HK2 := Lib.hid hk2; clear hk2
  obtain ⟨hc, hf, hl⟩ := cell_one hd2
  clear hd2
  go_wp2_with fail
  go_ret
  exact ⟨rfl, (((Kp.refl _ _).alloc _).step HK.out (fun i hi h => by omega)).step HK2.out (fun i hi h => by omega)⟩
end Go.Proofs.Ytbjndmmelngbdaa
