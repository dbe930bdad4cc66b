/- The walk of GuardFirst: it answers true and turns nothing that was there. Conditions: as the theorem names them. -/
import Derived.Test.YtbjndmmelngbdaaFirst
namespace Go.Proofs.Ytbjndmmelngbdaa
open Go.RowKit

/-- What Do of the closure comes to. -/
theorem doFirst (d bl bo : Nat) (la oa : Option Addr) (ll lc ol oc : Nat) (z : Nat → Int) (o : Nat → Bool) (w : World)
    (hl : ll ≤ maxLen) (ho : ol ≤ maxLen)
    (hbl : w.heap[bl]? = some (.cells #[.slice la ll lc] 36 (0, 0))) (hbo : w.heap[bo]? = some (.cells #[.slice oa ol oc] 44 (0, 0)))
    (hd : w.heap[d]? = some (.cells #[.int .i64 0] 3 (0, 0)))
    (hzr : ∀ i, -9223372036854775808 ≤ z i ∧ z i ≤ 9223372036854775807)
    (hz : ∀ i, i < ll → ∃ b off, la = some ⟨b, off, none⟩ ∧ b ≠ d ∧ w.cell? ⟨b, off + i, none⟩ = some (.int .i64 (z i)))
    (hob : ∀ i, i < ol → ∃ b off, oa = some ⟨b, off, none⟩ ∧ b ≠ d ∧ w.cell? ⟨b, off + i, none⟩ = some (.bool (o i))) :
    Calls Try.prog 10 #[.func (Fn.func 23) #[] #[.pointer (some ⟨bl, 0, none⟩), .pointer (some ⟨bo, 0, none⟩), .pointer (some ⟨d, 0, none⟩)]] w fun e w' =>
      ((∃ i, i < min ll 30 ∧ (decide (i < ol) && !o i) = true ∧ (∀ j, j < i → (decide (j < ol) && !o j) = false) ∧ e = .returned (.int .i64 (1 + z i % 18)) ∧ w'.heap[d]? = some (.cells #[.int .i64 i] 3 (0, 0))) ∨
       ((∀ j, j < min ll 30 → (decide (j < ol) && !o j) = false) ∧ e = .returned (.int .i64 0) ∧ w'.heap[d]? = some (.cells #[.int .i64 (min ll 30 : Nat)] 3 (0, 0)))) ∧ Kp (· = d) w w' := by
  have hdl := hp_lt hd
  refine do_gen 23 #[] #[.pointer (some ⟨bl, 0, none⟩), .pointer (some ⟨bo, 0, none⟩), .pointer (some ⟨d, 0, none⟩)] (fun g => #[.pointer (some g), .pointer (some ⟨bl, 0, none⟩), .pointer (some ⟨bo, 0, none⟩), .pointer (some ⟨d, 0, none⟩)]) w _ (fun g w => by kernel_rfl) ?_
  refine (f23 (w.heap.size + 1) d bl bo la oa ll lc ol oc z o 0 _ hl ho (hp_old (hp_old hbl _) _) (hp_old (hp_old hbo _) _) (hp_old (hp_old hd _) _) (hp_new' _ _ (by simp)) hzr ?_ ?_).mono ?_
  · intro i hi
    obtain ⟨b, off, h1, h2, h3⟩ := hz i hi
    have hb := World.block_lt_of_cell? _ _ h3
    refine ⟨b, off, h1, h2, by show _ ≠ _; simp at hb; omega, ?_⟩
    rw [World.cell?_of_block (Below.heap_alloc _ _ _ (by simp at hb ⊢; omega)), World.cell?_of_block (Below.heap_alloc _ _ _ hb)]; exact h3
  · intro i hi
    obtain ⟨b, off, h1, h2, h3⟩ := hob i hi
    have hb := World.block_lt_of_cell? _ _ h3
    refine ⟨b, off, h1, h2, by show _ ≠ _; simp at hb; omega, ?_⟩
    rw [World.cell?_of_block (Below.heap_alloc _ _ _ (by simp at hb ⊢; omega)), World.cell?_of_block (Below.heap_alloc _ _ _ hb)]; exact h3
  rintro e w' ⟨hcase, hK⟩
  have hres : w'.heap[w.heap.size]? = some (.cells #[.int .i64 0] 25 (0, 0)) := by
    rw [hK.block _ (by simp; omega) (show ¬ (_ ∨ _) by omega)]; exact hp_old (hp_new _ _) _
  have hK2 : Kp (· = d) w w' := (((Kp.refl (· = d) w).alloc _).alloc _).step hK (fun i hi h => by omega)
  rcases hcase with ⟨i, h1, h2, h3, rfl, h4, h5⟩ | ⟨h1, rfl, h2⟩
  · refine ⟨⟨0, hres⟩, _, [], rfl, by simp, .inl ⟨rfl, _, h5, .inl ⟨i, h1, h2, h3, rfl, hp_set (hp_old h4 _) _ _ (by simp; omega)⟩, ?_⟩⟩
    exact (hK2.alloc _).setCell ⟨w.heap.size, 0, none⟩ (.inr (Nat.le_refl _)) _
  · exact ⟨⟨0, hres⟩, .inr ⟨h1, rfl, hp_set h2 _ _ (by simp; omega)⟩, hK2.setCell ⟨w.heap.size, 0, none⟩ (.inr (Nat.le_refl _)) _⟩

set_option maxHeartbeats 400000 in
theorem guardFirst_any (la oa : Option Addr) (ll lc ol oc : Nat) (z : Nat → Int) (o : Nat → Bool) (w : World)
    (hl : ll ≤ maxLen) (ho : ol ≤ maxLen)
    (hzr : ∀ i, -9223372036854775808 ≤ z i ∧ z i ≤ 9223372036854775807)
    (hz : ∀ i, i < ll → ∃ b off, la = some ⟨b, off, none⟩ ∧ w.cell? ⟨b, off + i, none⟩ = some (.int .i64 (z i)))
    (hob : ∀ i, i < ol → ∃ b off, oa = some ⟨b, off, none⟩ ∧ w.cell? ⟨b, off + i, none⟩ = some (.bool (o i))) :
    Calls Try.prog 6 #[.slice la ll lc, .slice oa ol oc] w fun e w' => e = .returned (.bool true) ∧ Kp (fun _ => False) w w' := by
  have hmf : ∀ (fn : Fn) (first cap : Array Value) (w : World), (Instr.makeFunc fn first cap).run Try.prog w = .ok (.func fn first cap) w := fun _ _ _ _ => rfl
  have HZ := Lib.hid hz; have HO := Lib.hid hob; have HZR := Lib.hid hzr; have HL := Lib.hid hl; have HOL := Lib.hid ho
  clear hz hob hzr hl ho
  go_enter Try.func6, Try.ntmps6
  go_wp2_with fail
  refine (known_any _).mono ?_
  rintro e w1 ⟨rfl, hk1⟩
  have hbl : w1.heap[w.heap.size]? = some (.cells #[.slice la ll lc] 36 (0, 0)) := by rw [hk1.block _ (by simp; omega) id]; exact hp_old (hp_new _ _) _
  have hbo : w1.heap[w.heap.size + 1]? = some (.cells #[.slice oa ol oc] 44 (0, 0)) := by rw [hk1.block _ (by simp) id]; exact hp_new' _ _ (by simp)
  have HK1 : Hid (Kp (fun _ => False) w w1) := (((Kp.refl _ w).alloc _).alloc _).trans hk1
  have HBL := Lib.hid hbl; have HBO := Lib.hid hbo
  clear hk1 hbl hbo
  go_wp2_with fail
  have cellW1 : ∀ (b off : Nat) (v : Value), w.cell? ⟨b, off, none⟩ = some v → b < w.heap.size ∧ w1.cell? ⟨b, off, none⟩ = some v := fun b off v h => by
    have hb := World.block_lt_of_cell? _ _ h
    exact ⟨hb, by rw [World.cell?_of_block (HK1.out.block b hb id)]; exact h⟩
  have hs1 := HK1.out.size
  have HD := Lib.hid (doFirst w1.heap.size w.heap.size (w.heap.size + 1) la oa ll lc ol oc z o (w1.alloc (.cells #[.int .i64 0] 3)) HL.out HOL.out (hp_old HBL.out _) (hp_old HBO.out _) (hp_new _ _) HZR.out
    (fun i hi => by
      obtain ⟨b, off, h1, h2⟩ := HZ.out i hi
      obtain ⟨hb, h3⟩ := cellW1 _ _ _ h2
      exact ⟨b, off, h1, by omega, by rw [World.cell?_of_block (Below.heap_alloc _ _ _ (by show b < _; omega))]; exact h3⟩)
    (fun i hi => by
      obtain ⟨b, off, h1, h2⟩ := HO.out i hi
      obtain ⟨hb, h3⟩ := cellW1 _ _ _ h2
      exact ⟨b, off, h1, by omega, by rw [World.cell?_of_block (Below.heap_alloc _ _ _ (by show b < _; omega))]; exact h3⟩))
  clear cellW1 hs1
  refine HD.out.mono ?_
  rintro e w2 ⟨hcase, hK2⟩
  have hl1 := hp_lt HBL.out
  have hl2 := hp_lt HBO.out
  have hbl2 : w2.heap[w.heap.size]? = some (.cells #[.slice la ll lc] 36 (0, 0)) := by rw [hK2.block _ (by simp; omega) (show ¬ (_ = _) by omega)]; exact hp_old HBL.out _
  have hbo2 : w2.heap[w.heap.size + 1]? = some (.cells #[.slice oa ol oc] 44 (0, 0)) := by rw [hK2.block _ (by simp; omega) (show ¬ (_ = _) by omega)]; exact hp_old HBO.out _
  have HK2 : Hid (Kp (fun _ => False) w w2) := (HK1.out.alloc _).step hK2 (fun i hi h => by have := HK1.out.size; omega)
  have hcl := (cell_one hbl2).1
  have hco := (cell_one hbo2).1
  clear hK2 hbl2 hbo2 HBL HBO HD
  have hcz : ∀ i, i < ll → ∃ b off, la = some ⟨b, off, none⟩ ∧ w2.cell? ⟨b, off + i, none⟩ = some (.int .i64 (z i)) := fun i hi => by
    obtain ⟨b, off, h1, h2⟩ := HZ.out i hi
    exact ⟨b, off, h1, by rw [World.cell?_of_block (HK2.out.block b (World.block_lt_of_cell? _ _ h2) id)]; exact h2⟩
  have hcb : ∀ i, i < ol → ∃ b off, oa = some ⟨b, off, none⟩ ∧ w2.cell? ⟨b, off + i, none⟩ = some (.bool (o i)) := fun i hi => by
    obtain ⟨b, off, h1, h2⟩ := HO.out i hi
    exact ⟨b, off, h1, by rw [World.cell?_of_block (HK2.out.block b (World.block_lt_of_cell? _ _ h2) id)]; exact h2⟩
  have HCZ := Lib.hid hcz; have HCB := Lib.hid hcb
  clear hcz hcb HZ HO
  have hll := HL.out; unfold maxLen at hll
  have hol := HOL.out; unfold maxLen at hol
  rcases hcase with ⟨i, h1, h2, h3, rfl, hd⟩ | ⟨h1, rfl, hd⟩
  · have hcd := (cell_one hd).1
    have H2 := Lib.hid h2; have H3 := Lib.hid h3
    clear hd h2 h3
    have hoi : i < ol ∧ o i = false := by
      have := H2.out
      simpa using this
    have hrI := HZR.out i
    have hm1 := Int.emod_nonneg (z i) (show (18 : Int) ≠ 0 by omega)
    have hm2 := Int.emod_lt_of_pos (z i) (show (0 : Int) < 18 by omega)
    go_wp2_with fail
    go_loop [7] (fun v => ∃ k : Nat, v = .int .i64 k ∧ k ≤ i) (fun v => i - (intOf v).toNat)
    case atStart => exact ⟨0, rfl, Nat.zero_le _⟩
    case round =>
      obtain ⟨k, rfl, hk⟩ := hrel
      by_cases hki : k < i
      · have g1 : k < ll := by omega
        have g2 : k < 30 := by omega
        have g1' : decide ((k : Int) < (ll : Int)) = true := by simpa using g1
        have g2' : decide ((k : Int) < 30) = true := by simp; omega
        by_cases hok : k < ol
        · have hoo : o k = true := by
            have := H3.out k hki
            simpa [hok] using this
          obtain ⟨b2, off2, rfl, hcz2⟩ := HCB.out k hok
          rw [hoo] at hcz2
          have hi3 : (k : Int) < (ol : Int) := by omega
          clear hoo
          go_wp2
          go_round
          case rel => exact ⟨k + 1, by go_num, by omega⟩
          case measure => simp [intOf]; omega
        · have hi3 : (ol : Int) ≤ (k : Int) := by omega
          go_wp2
          go_round
          case rel => exact ⟨k + 1, by go_num, by omega⟩
          case measure => simp [intOf]; omega
      · have hke : k = i := by omega
        subst hke
        have g1 : k < ll := by omega
        have g2 : k < 30 := by omega
        have g1' : decide ((k : Int) < (ll : Int)) = true := by simpa using g1
        have g2' : decide ((k : Int) < 30) = true := by simp; omega
        obtain ⟨hok, hoo⟩ := hoi
        obtain ⟨b2, off2, rfl, hcz2⟩ := HCB.out k hok
        rw [hoo] at hcz2
        obtain ⟨b1, off1, rfl, hcz1⟩ := HCZ.out k g1
        have hi3 : (k : Int) < (ol : Int) := by omega
        have hr1 := hrI.1; have hr2 := hrI.2
        clear hoo hrI
        go_wp2_with (go_at_call 7; refine (pick_any (z k) 18 _ (by decide) (by decide) hr1 hr2).mono ?_; rintro e w' ⟨rfl, rfl⟩)
        go_ret
        exact ⟨rfl, HK2.out⟩
  · have hcd := (cell_one hd).1
    have H1 := Lib.hid h1
    clear hd h1
    go_wp2_with fail
    go_loop [7] (fun v => ∃ k : Nat, v = .int .i64 k ∧ k ≤ min ll 30) (fun v => 30 - (intOf v).toNat)
    case atStart => exact ⟨0, rfl, Nat.zero_le _⟩
    case round =>
      obtain ⟨k, rfl, hk⟩ := hrel
      by_cases hki : k < min ll 30
      · have g1 : k < ll := by omega
        have g2 : k < 30 := by omega
        have g1' : decide ((k : Int) < (ll : Int)) = true := by simpa using g1
        have g2' : decide ((k : Int) < 30) = true := by simp; omega
        by_cases hok : k < ol
        · have hoo : o k = true := by
            have := H1.out k hki
            simpa [hok] using this
          obtain ⟨b2, off2, rfl, hcz2⟩ := HCB.out k hok
          rw [hoo] at hcz2
          have hi3 : (k : Int) < (ol : Int) := by omega
          clear hoo
          go_wp2
          go_round
          case rel => exact ⟨k + 1, by go_num, by omega⟩
          case measure => simp [intOf]; omega
        · have hi3 : (ol : Int) ≤ (k : Int) := by omega
          go_wp2
          go_round
          case rel => exact ⟨k + 1, by go_num, by omega⟩
          case measure => simp [intOf]; omega
      · by_cases h30 : k < ll
        · have g2' : decide ((k : Int) < 30) = false := by simp; omega
          go_wp2
          have e : min ll 30 = 30 := by omega
          go_ret
          refine ⟨?_, HK2.out⟩
          simp [e]
        · go_wp2
          all_goals
            have e : min ll 30 = ll := by omega
            go_ret
            refine ⟨?_, HK2.out⟩
            simp [e] <;> omega
end Go.Proofs.Ytbjndmmelngbdaa
