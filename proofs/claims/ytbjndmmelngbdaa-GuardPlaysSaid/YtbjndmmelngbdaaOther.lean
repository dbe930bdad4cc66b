/- The contracts of the closures within GuardOthers. Conditions: as the theorems name them. -/
import Derived.Test.YtbjndmmelngbdaaKnown
namespace Go.Proofs.Ytbjndmmelngbdaa
open Go.RowKit

def OtherEnd (s : ByteArray) (bn : Nat) (m : Int) (w : World) (e : Ending) (w' : World) : Prop :=
  (∃ older, e = .panicked (pe (.iface 9 (.string s)) false :: older) ∧ ∀ x ∈ older, x.goexit = false) ∧ w'.heap[bn]? = some (.cells #[.int .i64 m] 3 (0, 0)) ∧ Kp (· = bn) w w'

abbrev goV (bn bw bg : Nat) : Value := .func (Fn.func 9) #[] #[.pointer (some ⟨bn, 0, none⟩), .pointer (some ⟨bw, 0, none⟩), .pointer (some ⟨bg, 0, none⟩)]

set_option maxHeartbeats 400000 in
theorem go9_zero (s : ByteArray) (bn bw bg : Nat) (w : World) (m : Int) (h0 : 0 ≤ m) (h1 : m < 1000)
    (hn : w.heap[bn]? = some (.cells #[.int .i64 m] 3 (0, 0))) (hw : w.heap[bw]? = some (.cells #[.string s] 9 (0, 0))) :
    Calls Try.prog 9 #[.int .i64 0, .pointer (some ⟨bn, 0, none⟩), .pointer (some ⟨bw, 0, none⟩), .pointer (some ⟨bg, 0, none⟩)] w (OtherEnd s bn (m + 1) w) := by
  have F : bn ≠ bw := by rintro rfl; rw [hn] at hw; cases hw
  have hlt := hp_lt hn
  have hlt2 := hp_lt hw
  have F2 : bw ≠ bn := Ne.symm F
  obtain ⟨hc, hf, hl⟩ := cell_one hn
  obtain ⟨hc2, hf2, hl2⟩ := cell_one hw
  have HN := Lib.hid hn; have HW := Lib.hid hw; clear hn hw
  go_enter Try.func9, Try.ntmps9
  go_wp2
  exact ⟨rfl, ⟨[], rfl, by simp⟩, hp_old (set_one HN.out) _, ((Kp.refl (· = bn) w).setCell ⟨bn, 0, none⟩ (.inl rfl) _).alloc _⟩

set_option maxHeartbeats 400000 in
theorem go11 (s : ByteArray) (bn bw bg bk g : Nat) (w : World) (k : Int) (Q : Ending → World → Prop) (h0 : 0 ≤ k) (h1 : k < 1000)
    (hg : w.heap[bg]? = some (.cells #[goV bn bw bg] 24 (0, 0))) (hk : w.heap[bk]? = some (.cells #[.int .i64 (k + 1)] 3 (0, 0)))
    (hcall : Calls Try.prog 9 #[.int .i64 k, .pointer (some ⟨bn, 0, none⟩), .pointer (some ⟨bw, 0, none⟩), .pointer (some ⟨bg, 0, none⟩)] w fun e w' => (∃ chain, e = .panicked chain) ∧ Q e w') :
    Calls Try.prog 11 #[.pointer (some ⟨g, 0, none⟩), .pointer (some ⟨bg, 0, none⟩), .pointer (some ⟨bk, 0, none⟩)] w Q := by
  obtain ⟨hc, hf, hl⟩ := cell_one hg
  obtain ⟨hc2, hf2, hl2⟩ := cell_one hk
  clear hg hk
  have HC := Lib.hid hcall; clear hcall
  go_enter Try.func11, Try.ntmps11
  go_wp2_with fail
  refine HC.out.mono ?_
  rintro e w' ⟨⟨chain, rfl⟩, hq⟩
  exact ⟨rfl, hq⟩

theorem go9_any (s : ByteArray) (bn bw bg : Nat) (hng : bn ≠ bg) (k : Nat) : ∀ (w : World) (m : Int), 0 ≤ m → m + k < 1000 →
    w.heap[bn]? = some (.cells #[.int .i64 m] 3 (0, 0)) → w.heap[bw]? = some (.cells #[.string s] 9 (0, 0)) → w.heap[bg]? = some (.cells #[goV bn bw bg] 24 (0, 0)) →
    Calls Try.prog 9 #[.int .i64 k, .pointer (some ⟨bn, 0, none⟩), .pointer (some ⟨bw, 0, none⟩), .pointer (some ⟨bg, 0, none⟩)] w (OtherEnd s bn (m + k + 1) w) := by
  induction k with
  | zero =>
    intro w m h0 h1 hn hw hg
    have := go9_zero s bn bw bg w m h0 (by omega) hn hw
    rw [show m + ((0 : Nat) : Int) + 1 = m + 1 by omega]
    exact this
  | succ k ih =>
    intro w m h0 h1 hn hw hg
    have F : bn ≠ bw := by rintro rfl; rw [hn] at hw; cases hw
    have hk : k < 1000 := by omega
    -- the call of Do, from the world behind the first statements
    have hDo : Calls Try.prog 10 #[.func (Fn.func 11) #[] #[.pointer (some ⟨bg, 0, none⟩), .pointer (some ⟨w.heap.size, 0, none⟩)]] ((w.setCell ⟨bn, 0, none⟩ (.int .i64 (m + 1))).alloc (.cells #[.int .i64 ((k : Int) + 1)] 3)) (OtherEnd s bn (m + (k + 1 : Nat) + 1) w) := by
      refine do_gen 11 #[] #[.pointer (some ⟨bg, 0, none⟩), .pointer (some ⟨w.heap.size, 0, none⟩)] (fun g => #[.pointer (some g), .pointer (some ⟨bg, 0, none⟩), .pointer (some ⟨w.heap.size, 0, none⟩)]) _ _ (fun g w => by kernel_rfl) ?_
      have hn1 := hp_old (set_one (v' := .int .i64 (m + 1)) hn) (.cells #[.int .i64 ((k : Int) + 1)] 3)
      have hw1 := hp_old (hp_set hw ⟨bn, 0, none⟩ (.int .i64 (m + 1)) (Ne.symm F)) (.cells #[.int .i64 ((k : Int) + 1)] 3)
      have hg1 := hp_old (hp_set hg ⟨bn, 0, none⟩ (.int .i64 (m + 1)) (Ne.symm hng)) (.cells #[.int .i64 ((k : Int) + 1)] 3)
      have hk1 := hp_new' (w.setCell ⟨bn, 0, none⟩ (.int .i64 (m + 1))) (.cells #[.int .i64 ((k : Int) + 1)] 3) (n := w.heap.size) (by simp)
      have hK : Kp (· = bn) w ((w.setCell ⟨bn, 0, none⟩ (.int .i64 (m + 1))).alloc (.cells #[.int .i64 ((k : Int) + 1)] 3)) := ((Kp.refl (· = bn) w).setCell ⟨bn, 0, none⟩ (.inl rfl) _).alloc _
      have hbn := hp_lt hn
      generalize (w.setCell ⟨bn, 0, none⟩ (.int .i64 (m + 1))).alloc (.cells #[.int .i64 ((k : Int) + 1)] 3) = W at *
      have hbnW := hp_lt hn1
      refine go11 s bn bw bg w.heap.size (W.heap.size + 1) _ k _ (by omega) (by omega) (hp_old (hp_old hg1 _) _) (hp_old (hp_old hk1 _) _) ?_
      refine (ih _ (m + 1) (by omega) (by omega) (hp_old (hp_old hn1 _) _) (hp_old (hp_old hw1 _) _) (hp_old (hp_old hg1 _) _)).mono ?_
      rintro e w' ⟨⟨older, rfl, hold⟩, hn2, hK2⟩
      refine ⟨⟨_, rfl⟩, ⟨0, ?_⟩, _, older, rfl, hold, .inr (.inr ⟨s, rfl, ⟨⟨_, rfl, ?_⟩, ?_, ?_⟩⟩)⟩
      · rw [hK2.block _ (by simp; omega) (show ¬ (W.heap.size = bn) by omega)]
        exact hp_old (hp_new _ _) _
      · intro x hx
        rcases List.mem_cons.1 hx with rfl | hx
        · rfl
        · exact hold x hx
      · rw [hn2, show m + 1 + (k : Int) + 1 = m + ((k + 1 : Nat) : Int) + 1 by omega]
      · exact hK.step (((Kp.refl (· = bn) W).alloc _).alloc _ |>.trans hK2) (fun _ _ h => h)
    have HD := Lib.hid hDo; clear hDo
    have hlt := hp_lt hn
    obtain ⟨hc, hf, hl⟩ := cell_one hn
    have hkk : (((k + 1 : Nat) : Int) == 0) = false := by simp; omega
    have hmf : ∀ (fn : Fn) (first cap : Array Value) (w : World), (Instr.makeFunc fn first cap).run Try.prog w = .ok (.func fn first cap) w := fun _ _ _ _ => rfl
    clear hn hw hg ih
    go_enter Try.func9, Try.ntmps9
    go_wp2_with fail
    refine HD.out.mono ?_
    rintro e w' ⟨⟨older, rfl, hold⟩, hn2, hK2⟩
    refine ⟨rfl, ⟨older, rfl, hold⟩, ?_, hK2⟩
    rw [hn2, show m + ((k : Int) + 1) + 1 = m + ((k + 1 : Nat) : Int) + 1 by omega]

set_option maxHeartbeats 400000 in
theorem go13 (s : ByteArray) (bn bw bg bk : Nat) (hng : bn ≠ bg) (w : World) (m : Int) (k : Nat) (h0 : 0 ≤ m) (h1 : m + k < 1000)
    (hn : w.heap[bn]? = some (.cells #[.int .i64 m] 3 (0, 0))) (hw : w.heap[bw]? = some (.cells #[.string s] 9 (0, 0))) (hg : w.heap[bg]? = some (.cells #[goV bn bw bg] 24 (0, 0))) (hk : w.heap[bk]? = some (.cells #[.int .i64 k] 3 (0, 0))) :
    Calls Try.prog 13 #[.pointer (some ⟨bg, 0, none⟩), .pointer (some ⟨bk, 0, none⟩)] w (OtherEnd s bn (m + k + 1) w) := by
  have HC := Lib.hid (go9_any s bn bw bg hng k w m h0 h1 hn hw hg)
  obtain ⟨hc, hf, hl⟩ := cell_one hg
  obtain ⟨hc2, hf2, hl2⟩ := cell_one hk
  clear hn hw hg hk
  go_enter Try.func13, Try.ntmps13
  go_wp2_with fail
  refine HC.out.mono ?_
  rintro e w' ⟨⟨older, rfl, hold⟩, hn2, hK2⟩
  exact ⟨rfl, ⟨older, rfl, hold⟩, hn2, hK2⟩

/-- the deferred closure of other, where a panic goes through it. -/
theorem catch28 (p : Addr) (x : Value) (u : TypeId) (pv : Value) (older : List PanicEntry) (w : World) (hc : w.cell? p = some x) (hz : w.frozen? p = false) :
    CallsD Try.prog 28 #[.pointer (some p)] (.panicking (pe (.iface u pv) false :: older)) w fun e u' w' =>
      e = .returned (.tuple #[]) ∧ u' = .panicking (pe (.iface u pv) true :: older) ∧ w' = w.setCell p (.iface u pv) := by
  refine callsD_of_wpS Try.func28 rfl fun c₀ cs hu => ?_
  apply wpS_region
  simp [wpOpsS, go_sem, recoverD, hu, Try.ntmps28, hc, hz, bodyPostS, results, Try.results28]

set_option maxHeartbeats 400000 in
theorem other_string (s : ByteArray) (bn bg bk : Nat) (w : World) (M : Int) (hbn : bn < w.heap.size)
    (h13 : Calls Try.prog 13 #[.pointer (some ⟨bg, 0, none⟩), .pointer (some ⟨bk, 0, none⟩)] (w.alloc (.cells #[.nilIface] 20)) (OtherEnd s bn M (w.alloc (.cells #[.nilIface] 20)))) :
    Calls Try.prog 12 #[.func (Fn.func 13) #[] #[.pointer (some ⟨bg, 0, none⟩), .pointer (some ⟨bk, 0, none⟩)]] w fun e w' => e = .returned (.iface 9 (.string s)) ∧ w'.heap[bn]? = some (.cells #[.int .i64 M] 3 (0, 0)) ∧ Kp (· = bn) w w' := by
  have HC := Lib.hid h13; clear h13
  have hmf : ∀ (fn : Fn) (first cap : Array Value) (w : World), (Instr.makeFunc fn first cap).run Try.prog w = .ok (.func fn first cap) w := fun _ _ _ _ => rfl
  go_enter_defers Try.func12, Try.ntmps12
  go_wp2_with fail
  refine HC.out.mono ?_
  rintro e w' ⟨⟨older, rfl, hold⟩, hn2, hK2⟩
  have hr : w'.heap[w.heap.size]? = some (.cells #[.nilIface] 20 (0, 0)) := by
    rw [hK2.block _ (by simp) (show ¬ (w.heap.size = bn) by omega)]; exact hp_new _ _
  obtain ⟨hc, hf, hl⟩ := cell_one hr
  show Leaves _ _ _ _ _ _ _
  refine leaves_cons (f := 28) (args := #[.pointer (some ⟨w.heap.size, 0, none⟩)]) (by simp) (by simp [go_sem]) ?_
  refine (catch28 _ _ _ _ older w' hc hf).mono ?_
  rintro e u' w'' ⟨rfl, rfl, rfl⟩
  show Leaves _ _ _ _ _ _ _
  rw [settle_rec _ _ hold]
  have h1 := (cell_one (set_one (v' := .iface 9 (.string s)) hr)).1
  simp [Leaves, results, Try.results12, go_sem, h1]
  exact ⟨hp_set hn2 _ _ (by simp; omega), (((Kp.refl (· = bn) w).alloc _).trans hK2).setCell ⟨w.heap.size, 0, none⟩ (.inr (Nat.le_refl _)) _⟩
end Go.Proofs.Ytbjndmmelngbdaa
