/- The walk of GuardOthers: it answers true and turns nothing that was there. Condition: the number is an int. -/
import Derived.Test.YtbjndmmelngbdaaOther
import Derived.Laws.EntriesVeiled
namespace Go.Proofs.Ytbjndmmelngbdaa
open Go.RowKit

theorem ta_str (v : Value) (w : World) : (Instr.typeAssert (.iface 9 v) 20 9 true).run Try.prog w = .ok (.tuple #[v, .bool true]) w := by
  simp [Instr.typeAssert, go_sem, Try.underlying9]

set_option maxHeartbeats 400000 in
theorem others_any (n : Int) (s : ByteArray) (w : World) (hn : -9223372036854775808 ≤ n) (hn2 : n ≤ 9223372036854775807) :
    Calls Try.prog 3 #[.int .i64 n, .string s] w fun e w' => e = .returned (.bool true) ∧ Kp (fun _ => False) w w' := by
  have hmf : ∀ (fn : Fn) (first cap : Array Value) (w : World), (Instr.makeFunc fn first cap).run Try.prog w = .ok (.func fn first cap) w := fun _ _ _ _ => rfl
  have hta := ta_str
  go_enter Try.func3, Try.ntmps3
  go_wp2_with fail
  refine (pick_any n 8 _ (by decide) (by decide) hn hn2).mono ?_
  rintro e w1 ⟨rfl, rfl⟩
  obtain ⟨k, hk⟩ : ∃ k : Nat, n % 8 = (k : Int) := ⟨(n % 8).toNat, by omega⟩
  have hk8 : (k : Int) < 8 := by omega
  rw [hk]
  clear hk hn hn2
  go_wp2_with fail
  refine (known_any _).mono ?_
  rintro e w1 ⟨rfl, hK1⟩
  have hb1 : w1.heap[w.heap.size]? = some (.cells #[.int .i64 k] 3 (0, 0)) := by
    rw [hK1.block _ (by simp; omega) id]; exact hp_old (hp_new _ _) _
  have hb2 : w1.heap[w.heap.size + 1]? = some (.cells #[.string s] 9 (0, 0)) := by
    rw [hK1.block _ (by simp) id]; exact hp_new' _ _ (by simp)
  have HK1 : Kp (fun _ => False) w w1 := (((Kp.refl _ w).alloc _).alloc _).trans hK1
  have HK1 := Lib.hid HK1; clear hK1
  have hz0 := hp_lt hb1
  have hz1 := hp_lt hb2
  have HB1 := Lib.hid hb1; have HB2 := Lib.hid hb2; clear hb1 hb2
  go_wp2_with fail
  refine (other_string s w1.heap.size (w1.heap.size + 1) w.heap.size _ (0 + k + 1) (by simp; omega) (go13 s w1.heap.size (w.heap.size + 1) (w1.heap.size + 1) w.heap.size (by omega) _ 0 k (by omega) (by omega) ?_ ?_ ?_ ?_)).mono ?_
  · exact hp_old (hp_old (hp_new _ _) _) _
  · exact hp_old (hp_old (hp_old HB2.out _) _) _
  · exact hp_old (hp_new' _ _ (by simp)) _
  · exact hp_old (hp_old (hp_old HB1.out _) _) _
  rintro e w2 ⟨rfl, hn2, hK2⟩
  have hb1 : w2.heap[w.heap.size]? = some (.cells #[.int .i64 k] 3 (0, 0)) := by
    rw [hK2.block _ (by simp; omega) (show ¬ (_ = _) by omega)]; exact hp_old (hp_old HB1.out _) _
  have hb2 : w2.heap[w.heap.size + 1]? = some (.cells #[.string s] 9 (0, 0)) := by
    rw [hK2.block _ (by simp; omega) (show ¬ (_ = _) by omega)]; exact hp_old (hp_old HB2.out _) _
  have HK2 : Kp (fun _ => False) w w2 := (((HK1.out).alloc _).alloc _).step hK2 (fun i hi h => by omega)
  have HK2' := Lib.hid HK2; clear HK2 hK2
  obtain ⟨hc, hf, hl⟩ := cell_one hn2
  obtain ⟨hc3, hf3, hl3⟩ := cell_one hb1
  obtain ⟨hc4, hf4, hl4⟩ := cell_one hb2
  clear hn2 hb1 hb2
  have hadd : (0 : Int) + k + 1 = k + 1 := by omega
  rw [hadd] at hc
  clear hadd
  go_wp2_with fail
  go_ret
  exact ⟨rfl, HK2'.out⟩
end Go.Proofs.Ytbjndmmelngbdaa
