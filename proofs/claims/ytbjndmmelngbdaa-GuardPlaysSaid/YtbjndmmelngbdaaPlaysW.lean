/- The walk of GuardPlays: it answers true and turns nothing that was there. Conditions: as the theorem names them. -/
import Derived.Test.YtbjndmmelngbdaaPlays3
namespace Go.Proofs.Ytbjndmmelngbdaa
open Go.RowKit Go.Deep

set_option maxHeartbeats 6000000 in
set_option maxRecDepth 100000 in
theorem guardPlays_any (la : Option Addr) (lc : Nat) (s : GSteps) (w : World) (hs : Nums s) (hla : StepsAt w w.heap.size la s) :
    Calls Try.prog 5 #[.slice la s.ll lc] w fun e w' => e = .returned (.bool true) ∧ Kp (fun _ => False) w w' := by
  have HS := Lib.hid hs; have HL := Lib.hid hla
  have hll : s.ll ≤ 9223372036854775807 := hs.1
  clear hs hla
  go_enter Try.func5, Try.ntmps5
  go_wp2_with fail
  refine (known_any _).mono ?_
  rintro e w1 ⟨rfl, hk⟩
  have k1 : Kp (fun _ => False) w w1 := (((Kp.refl _ w).alloc (.cells #[.slice la s.ll lc, .int .i64 0, .slice none 0 0, .slice none 0 0, .int .i64 0] 39)).alloc (.cells #[.slice la s.ll lc, .int .i64 0, .slice none 0 0, .slice none 0 0, .int .i64 0] 39)).trans hk
  have hA := hk.hp (hp_old (hp_new w (.cells #[.slice la s.ll lc, .int .i64 0, .slice none 0 0, .slice none 0 0, .int .i64 0] 39)) (.cells #[.slice la s.ll lc, .int .i64 0, .slice none 0 0, .slice none 0 0, .int .i64 0] 39)) id
  have hB := hk.hp (hp_new' (w.alloc (.cells #[.slice la s.ll lc, .int .i64 0, .slice none 0 0, .slice none 0 0, .int .i64 0] 39)) (.cells #[.slice la s.ll lc, .int .i64 0, .slice none 0 0, .slice none 0 0, .int .i64 0] 39) (n := w.heap.size + 1) (by simp)) id
  have hsz1 : w.heap.size + 2 ≤ w1.heap.size := by have := hk.size; simp at this; omega
  have hst1 : St w1 w.heap.size w.heap.size la lc s 0 0 [] [] none none :=
    ⟨[], ⟨⟨.slice none 0 0, .slice none 0 0, hA, rfl, rfl, World.ownsRow_nil _ _ _ _, World.ownsRow_nil _ _ _ _⟩, fun b hb => (by cases hb), HL.out.keep k1 (fun _ _ => id), Nat.le_refl _⟩, rfl, rfl, fun g hg => (by cases hg)⟩
  have hpl1 : Pl w1 w.heap.size (w.heap.size + 1) la lc s 0 [] [] none none :=
    ⟨⟨.slice none 0 0, .slice none 0 0, hB, rfl, rfl, World.ownsRow_nil _ _ _ _, World.ownsRow_nil _ _ _ _⟩, fun b hb => (by cases hb), HL.out.keep k1 (fun _ _ => id), Nat.le_succ _⟩
  have HR := Lib.hid (run_all w.heap.size w.heap.size la lc s HS.out 61 0 0 [] [] none none w1 (by omega) (by omega) (by omega) (by simp) hst1)
  have HP1 := Lib.hid hpl1; have HK1 := Lib.hid k1; have HZ1 := Lib.hid hsz1
  clear hk k1 hA hB hst1 hpl1 hsz1
  go_wp2_with fail
  refine HR.out.mono ?_
  rintro e w2 ⟨⟨lr, gr, hs2, hf2, hg2⟩, hk2, hcase⟩
  have hto : (pl s 0 0 []).1.2 = 0 := by have := pl_to s 60 0 0 [] (by omega); omega
  have HE := Lib.hid (pl_e s 60 0 0 [] (by omega)); have HLL := Lib.hid (pl_log_le s 60 0 0 [] (by omega) (by omega))
  have hp2 : Pl w2 w.heap.size (w.heap.size + 1) la lc s 0 [] [] none none := HP1.out.keep hk2 (fun b hb h => by
      rcases h with h | h | h | h
      · omega
      · cases h
      · cases h
      · cases h) (fun h => by
      rcases h with h | h | h | h
      · omega
      · cases h
      · cases h
      · cases h) (fun b hb => by cases hb) (fun b hb => by cases hb)
  have HW := Lib.hid (want_any w.heap.size (w.heap.size + 1) la lc s HS.out 61 0 0 [] [] none none w2 (by omega) (by omega) (by omega) (by simp) hp2)
  have HK2 := Lib.hid (HK1.out.step hk2 fun i hi h => by
    rcases h with h | h | h | h
    · omega
    · cases h
    · cases h
    · cases h)
  have HS2 := Lib.hid hs2
  have HO2 := Lib.hid (show ∀ b, Own w.heap.size lr gr [] b → ¬ (b = w.heap.size + 1) from fun b h e => by
    have hz := HZ1.out
    rcases h with h | h | h | h
    · omega
    · rcases hf2 with q | ⟨n, q, hn⟩
      · rw [q] at h; cases h
      · rw [q] at h; cases h; omega
    · rcases hg2 with q | ⟨n, q, hn⟩
      · rw [q] at h; cases h
      · rw [q] at h; cases h; omega
    · cases h)
  clear hs2 hf2 hg2 hk2 hp2 HR HP1
  rcases hcase with ⟨_, rfl⟩ | ⟨h1, _⟩
  case' inr => omega
  case' inl =>
    unfold WantEnd at HW
    rw [hto] at HW
    generalize pl s 0 0 [] = r at *
    obtain ⟨⟨e1, to1⟩, at1, log1⟩ := r
    dsimp only at hto
    subst hto
    have hlog1 : log1.length ≤ 60 := by have := HLL.out; simp at this; omega
    have hat1 : at1 ≤ 60 := HLL.out.2
    go_wp2_with fail
    refine HW.out.mono ?_
    rintro e w3 ⟨rfl, lr3, hp3, hf3, hk3⟩
    have hs3 := HS2.out.keep hk3 (fun b hb h => by
      rcases h with h | h
      · omega
      · cases h) (fun b hb h => by
      rcases h with h | h
      · exact HO2.out b hb h
      · cases h)
    have HK3 := Lib.hid (HK2.out.step hk3 fun i hi h => by
      rcases h with h | h
      · omega
      · cases h)
    obtain ⟨gs, g1, _, _, _⟩ := hs3
    obtain ⟨lva, gva, hha, _, _, hola, _⟩ := g1.hp
    obtain ⟨lvb, gvb, hhb, _, _, holb, _⟩ := hp3.hp
    obtain ⟨laa, lca, rfl, hlca⟩ := owns_form hola
    obtain ⟨lab, lcb, rfl, hlcb⟩ := owns_form holb
    obtain ⟨⟨a0, a1, a2, a3⟩, _, _⟩ := cell_five hha
    obtain ⟨⟨b0, b1, b2, b3⟩, _, _⟩ := cell_five hhb
    have HHA := Lib.hid hha; have HHB := Lib.hid hhb; have HOA := Lib.hid hola; have HOB := Lib.hid holb
    clear hp3 hf3 hk3 g1 hha hhb hola holb
    go_wp2_with fail
    go_quiet (fail)
    have HK4 := Lib.hid (HK3.out.drewN nq)
    have HHA4 : Hid ((w3.drewN nq).heap[w.heap.size]? = _) := HHA
    have HHB4 : Hid ((w3.drewN nq).heap[w.heap.size + 1]? = _) := HHB
    have HOA4 := Lib.hid (owns_keep HOA.out ((Kp.refl (fun _ => False) w3).drewN nq) (fun _ _ => id))
    have HOB4 := Lib.hid (owns_keep HOB.out ((Kp.refl (fun _ => False) w3).drewN nq) (fun _ _ => id))
    clear HHA HHB HOA HOB HK3 a0 a1 a2 a3 b0 b1 b2 b3
    generalize w3.drewN nq = w4 at *
    go_wp2_with fail
    go_loopw [8] (fun i wr => ∃ k : Nat, i = .int .i64 k ∧ k ≤ log1.length ∧ Hid (Kp (fun _ => False) w4 wr)) (fun i _ => log1.length - (intOf i).toNat)
    case atStart => exact ⟨0, rfl, Nat.zero_le _, Lib.hid (Kp.refl _ _)⟩
    case round =>
      obtain ⟨k, rfl, hk, HK⟩ := hrel
      obtain ⟨⟨a0, a1, a2, a3⟩, _, _⟩ := cell_five (HK.out.hp HHA4.out id)
      obtain ⟨⟨b0, b1, b2, b3⟩, _, _⟩ := cell_five (HK.out.hp HHB4.out id)
      by_cases hlt : k < log1.length
      · have hoa := owns_keep HOA4.out HK.out (fun _ _ => id)
        have hob := owns_keep HOB4.out HK.out (fun _ _ => id)
        obtain ⟨ba, rfl, ca⟩ := owns_at hoa k hlt
        obtain ⟨bb, rfl, cb⟩ := owns_at hob k hlt
        rw [List.getElem?_map, List.getElem?_eq_getElem hlt, Nat.zero_add] at ca cb
        simp only [Option.map_some, intV] at ca cb
        have hi1 : (k : Int) < (log1.length : Int) := by omega
        clear hoa hob
        generalize log1[k] = zz at *
        go_wp2_with fail
        go_quiet (fail)
        have HK6 := Lib.hid (HK.out.drewN nq)
        go_wp2
        exact ⟨⟨k + 1, by go_num, by omega, HK6⟩, by simp [intOf]; omega⟩
      · have hi1 : ¬ (k : Int) < (log1.length : Int) := by omega
        go_wp2
        go_ret
        exact ⟨rfl, HK4.out.trans HK.out⟩
end Go.Proofs.Ytbjndmmelngbdaa
