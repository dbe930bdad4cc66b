/- The contract of the closure within GuardFirst: it gives up at the first wish that is not granted. Conditions: as the theorem names them. -/
import Derived.Test.YtbjndmmelngbdaaWant
import Derived.Laws.EntriesVeiled
import Derived.Deep.QuietTactic
import Derived.BigQuiet
import Derived.Test.YtbjndmmelngbdaaQTail
namespace Go.Proofs.Ytbjndmmelngbdaa
open Go.RowKit

def FirstEnd (nope : Nat → Bool) (z : Nat → Int) (n g d : Nat) (w : World) (e : Ending) (w' : World) : Prop :=
  ((∃ i, i < n ∧ nope i = true ∧ (∀ j, j < i → nope j = false) ∧ e = .panicked [pe (givenV ⟨g, 0, none⟩) false] ∧ w'.heap[d]? = some (.cells #[.int .i64 i] 3 (0, 0)) ∧ w'.heap[g]? = some (.cells #[.int .i64 (1 + z i % 18)] 47 (0, 0))) ∨
   ((∀ j, j < n → nope j = false) ∧ e = .returned (.tuple #[]) ∧ w'.heap[d]? = some (.cells #[.int .i64 n] 3 (0, 0)))) ∧ Kp (fun k => k = d ∨ k = g) w w'

set_option maxHeartbeats 400000 in
theorem f23 (g d bl bo : Nat) (la oa : Option Addr) (ll lc ol oc : Nat) (z : Nat → Int) (o : Nat → Bool) (x : Int) (w : World)
    (hl : ll ≤ maxLen) (ho : ol ≤ maxLen)
    (hbl : w.heap[bl]? = some (.cells #[.slice la ll lc] 36 (0, 0))) (hbo : w.heap[bo]? = some (.cells #[.slice oa ol oc] 44 (0, 0)))
    (hd : w.heap[d]? = some (.cells #[.int .i64 0] 3 (0, 0))) (hg : w.heap[g]? = some (.cells #[.int .i64 x] 47 (0, 0)))
    (hzr : ∀ i, -9223372036854775808 ≤ z i ∧ z i ≤ 9223372036854775807)
    (hz : ∀ i, i < ll → ∃ b off, la = some ⟨b, off, none⟩ ∧ b ≠ d ∧ b ≠ g ∧ w.cell? ⟨b, off + i, none⟩ = some (.int .i64 (z i)))
    (hob : ∀ i, i < ol → ∃ b off, oa = some ⟨b, off, none⟩ ∧ b ≠ d ∧ b ≠ g ∧ w.cell? ⟨b, off + i, none⟩ = some (.bool (o i))) :
    Calls Try.prog 23 #[.pointer (some ⟨g, 0, none⟩), .pointer (some ⟨bl, 0, none⟩), .pointer (some ⟨bo, 0, none⟩), .pointer (some ⟨d, 0, none⟩)] w
      (FirstEnd (fun i => decide (i < ol) && !o i) z (min ll 30) g d w) := by
  unfold maxLen at hl ho
  go_enter Try.func23, Try.ntmps23
  go_wp2
  have B1 : bl ≠ d := by rintro rfl; rw [hbl] at hd; cases hd
  have B2 : bo ≠ d := by rintro rfl; rw [hbo] at hd; cases hd
  have B3 : bl ≠ g := by rintro rfl; rw [hbl] at hg; cases hg
  have B4 : bo ≠ g := by rintro rfl; rw [hbo] at hg; cases hg
  have B5 : g ≠ d := by rintro rfl; rw [hg] at hd; cases hd
  have L1 := hp_lt hbl
  have L2 := hp_lt hbo
  have L3 := hp_lt hg
  have L4 := hp_lt hd
  have HBL := Lib.hid hbl; have HBO := Lib.hid hbo; have HD := Lib.hid hd; have HG := Lib.hid hg; have HZ := Lib.hid hz; have HO := Lib.hid hob; have HZR := Lib.hid hzr
  clear hbl hbo hd hg hz hob hzr
  go_loopw [5] (fun i wr => ∃ k : Nat, i = .int .i64 k ∧ k ≤ min ll 30 ∧ Hid (∀ j, j < k → (decide (j < ol) && !o j) = false) ∧ Hid (wr.heap[d]? = some (.cells #[.int .i64 k] 3 (0, 0))) ∧ Hid (Kp (· = d) w wr)) (fun i _ => 30 - (intOf i).toNat)
  case atStart => exact ⟨0, rfl, Nat.zero_le _, fun j hj => absurd hj (by omega), HD, Kp.refl _ _⟩
  case round =>
    obtain ⟨k, rfl, hk, HN, HDr, HK⟩ := hrel
    have hcl := (cell_one (w := wr) (by rw [HK.out.block _ L1 B1]; exact HBL.out)).1
    have hco := (cell_one (w := wr) (by rw [HK.out.block _ L2 B2]; exact HBO.out)).1
    have hcd := cell_one HDr.out
    by_cases hkn : k < min ll 30
    · have h1 : k < ll := by omega
      have h2 : k < 30 := by omega
      have h1' : decide ((k : Int) < (ll : Int)) = true := by simpa using h1
      have h2' : decide ((k : Int) < 30) = true := by simp; omega
      obtain ⟨b, off, rfl, hbd, hbg, hcz⟩ := HZ.out k h1
      have hczr : wr.cell? ⟨b, off + k, none⟩ = some (.int .i64 (z k)) := by rw [World.cell?_of_block (HK.out.block b (World.block_lt_of_cell? _ _ hcz) hbd)]; exact hcz
      have hr := HZR.out k
      have hr1 := hr.1; have hr2 := hr.2
      have hi1 : 0 ≤ (k : Int) := by omega
      have hi2 : (k : Int) < (ll : Int) := by omega
      have hd' : ∀ n, Hid (((wr.drewN n).setCell ⟨d, 0, none⟩ (.int .i64 (k + 1))).heap[d]? = some (.cells #[.int .i64 ((k + 1 : Nat) : Int)] 3 (0, 0))) := fun n => set_one HDr.out
      have HK' : ∀ n, Hid (Kp (· = d) w ((wr.drewN n).setCell ⟨d, 0, none⟩ (.int .i64 (k + 1)))) := fun n => Kp.setCell (⟨HK.out.os, HK.out.tape, HK.out.output, HK.out.size, HK.out.block⟩ : Kp (· = d) w (wr.drewN n)) ⟨d, 0, none⟩ (.inl rfl) _
      obtain ⟨hcd1, hcd2, hcd3⟩ := hcd
      clear hcz hr
      by_cases hok : k < ol
      · have h4 : decide ((ol : Int) ≤ (k : Int)) = false := by simp; omega
        have h4' : decide (ol ≤ k) = false := by simp; omega
        obtain ⟨b2, off2, rfl, hbd2, hbg2, hcz2⟩ := HO.out k hok
        have hczr2 : wr.cell? ⟨b2, off2 + k, none⟩ = some (.bool (o k)) := by rw [World.cell?_of_block (HK.out.block b2 (World.block_lt_of_cell? _ _ hcz2) hbd2)]; exact hcz2
        have hi3 : (k : Int) < (ol : Int) := by omega
        clear hcz2
        cases hoo : o k with
        | true =>
          have HN' : Hid (∀ j, j < k + 1 → (decide (j < ol) && !o j) = false) := fun j hj => by
            by_cases e : j = k
            · subst e; simp [hoo]
            · exact HN.out j (by omega)
          rw [hoo] at hczr2
          clear hoo
          go_wp2
          go_quiet ((first | (go_at_call 7; exact Calls.quiet_of_same ((pick_any (z k) 18 _ (by decide) (by decide) hr1 hr2).mono fun e w' h => ⟨h.1, h.2.symm⟩)) | (go_at_call 16; exact Calls.quiet_of_same ((want_yes _ _ _).mono fun e w' h => ⟨h.1, h.2.symm⟩))))
          go_wp2_with (go_at_call 18; refine (check_ok _ _).mono ?_; rintro e w' ⟨rfl, rfl⟩)
          go_roundw
          case rel => exact ⟨k + 1, by go_num, by omega, HN', hd' _, HK' _⟩
          case measure => simp [intOf]; omega
        | false =>
          have HON := Lib.hid hoo
          rw [hoo] at hczr2
          clear hoo
          go_wp2
          refine QuietTail.wp_region_drawn_tail 17 (by kernel_rfl) (by kernel_rfl) ?_
          simp only [List.take_succ_cons, List.take_zero, List.drop_succ_cons, List.drop_zero]
          repeat (go_big_quiet_step ((go_at_call 7; exact Calls.quiet_of_same ((pick_any (z k) 18 _ (by decide) (by decide) hr1 hr2).mono fun e w' h => ⟨h.1, h.2.symm⟩))))
          refine wpQuiet_nil ?_
          rintro _ ⟨nq, rfl⟩
          have HWN := Lib.hid (want_no g x (1 + z k % 18) (by omega) (wr.drewN nq) (by show wr.heap[g]? = _; rw [HK.out.block _ L3 B5]; exact HG.out))
          go_wp2_with fail
          refine HWN.out.mono ?_
          rintro e w' ⟨rfl, rfl⟩
          refine ⟨rfl, .inl ⟨k, hkn, by simp [HON.out, hok], HN.out, rfl, hp_set HDr.out _ _ (Ne.symm B5), set_one (w := wr.drewN nq) (by show wr.heap[g]? = _; rw [HK.out.block _ L3 B5]; exact HG.out)⟩, ?_⟩
          exact (Kp.mono (S' := fun k => k = d ∨ k = g) (⟨HK.out.os, HK.out.tape, HK.out.output, HK.out.size, HK.out.block⟩ : Kp (· = d) w (wr.drewN nq)) (fun _ _ h => Or.inl h)).setCell ⟨g, 0, none⟩ (.inl (.inr rfl)) _
      · have h3 : ol ≤ k := by omega
        have h4 : decide ((ol : Int) ≤ (k : Int)) = true := by simp; omega
        have HN' : Hid (∀ j, j < k + 1 → (decide (j < ol) && !o j) = false) := fun j hj => by
          by_cases e : j = k
          · subst e; simp; omega
          · exact HN.out j (by omega)
        go_wp2
        go_quiet ((first | (go_at_call 7; exact Calls.quiet_of_same ((pick_any (z k) 18 _ (by decide) (by decide) hr1 hr2).mono fun e w' h => ⟨h.1, h.2.symm⟩)) | (go_at_call 16; exact Calls.quiet_of_same ((want_yes _ _ _).mono fun e w' h => ⟨h.1, h.2.symm⟩))))
        go_wp2_with (go_at_call 18; refine (check_ok _ _).mono ?_; rintro e w' ⟨rfl, rfl⟩)
        go_roundw
        case rel => exact ⟨k + 1, by go_num, by omega, HN', hd' _, HK' _⟩
        case measure => simp [intOf]; omega
    · have hke : k = min ll 30 := by omega
      by_cases h30 : k < ll
      · have h2' : decide ((k : Int) < 30) = false := by simp; omega
        clear hke
        go_wp2
        have hke : k = min ll 30 := by omega
        go_end0
        subst hke
        exact ⟨.inr ⟨HN.out, rfl, HDr.out⟩, HK.out.mono fun _ _ h => .inl h⟩
      · clear hke
        go_wp2
        have hke : k = min ll 30 := by omega
        go_end0
        subst hke
        exact ⟨.inr ⟨HN.out, rfl, HDr.out⟩, HK.out.mono fun _ _ h => .inl h⟩
end Go.Proofs.Ytbjndmmelngbdaa
