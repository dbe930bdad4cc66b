/- Copies of bytes and of nodes; what Text lays, said for empty texts that lie anywhere. Conditions: as the theorems name them. -/
import Derived.Test.YtgpidbdgodgefaaHandN
import Derived.Test.YtgpidbdgodgefaaRight
import Derived.Lib.LazyBuf
namespace Go.Proofs.Ytgpidbdgodgefaa
open Go.RowKit

theorem Seg.keep1 {w w' : World} {a : Option Addr} {bs : List UInt8} {S : Nat → Prop} (h : Seg w a bs) (k : Kp S w w') (hn : 0 < bs.length → ∀ b, blk a = some b → ¬ S b) : Seg w' a bs := by
  cases bs with
  | nil => intro i hi; cases hi
  | cons x xs => exact h.keep k (hn (by simp))
theorem Sl.keep1 {w w' : World} {v : Value} {a : Option Addr} {c : Nat} {bs : List UInt8} {S : Nat → Prop} (h : Sl w v a c bs) (k : Kp S w w') (hn : 0 < bs.length → ∀ b, blk a = some b → ¬ S b) : Sl w' v a c bs :=
  ⟨h.eq, h.le, h.max, h.nocap, h.seg.keep1 k hn⟩
theorem Sl.blk_lt {w : World} {v : Value} {a : Option Addr} {c : Nat} {bs : List UInt8} (h : Sl w v a c bs) (hp : 0 < bs.length) {b : Nat} (hb : blk a = some b) : b < w.heap.size := by
  obtain ⟨b', off, rfl, hc⟩ := h.seg 0 hp
  have e : b' = b := by simpa [blk] using hb
  subst e
  exact World.block_lt_of_cell? _ _ hc

set_option maxHeartbeats 400000 in
theorem Text_yes1 (p : Nat) (x : Value) (a : Option Addr) (c : Nat) (xs : List UInt8) (row : Option Nat) (bs : List UInt8) (w : World) (hx : Sl w x a c xs) (hw : Wr 81 5 w p row bs) (hb : bs.length + 2 + xs.length ≤ 140737488355328)
    (hn : xs.length ≤ 65535) (ha : 0 < xs.length → ∀ k, blk a = some k → k ≠ p ∧ row ≠ some k) :
    Calls Try.prog 27 #[.pointer (some ⟨p, 0, none⟩), x] w fun e w' => e = .returned (.bool true) ∧ WrEnd 81 w p row (bs ++ texted xs) w' := by
  have HC := Lib.hid (U16_any p xs.length row bs w hw (by omega))
  have HX := Lib.hid hx
  have he := hx.eq
  subst he
  clear hw hx
  go_enter Try.func27, Try.ntmps27
  go_wp2_with fail
  refine HC.out.mono ?_
  rintro e w1 ⟨rfl, row1, hw1, hf1, hk1⟩
  have hx1 : Sl w1 (.slice a xs.length c) a c xs := HX.out.keep1 hk1 (fun hp b hb h => by
    obtain ⟨q1, q2⟩ := ha hp b hb
    rcases h with h | h
    · exact q1 h
    · exact q2 h)
  have HR := Lib.hid (Raw_any p (.slice a xs.length c) a c xs row1 _ w1 hx1 hw1 (by simp [be_length]; omega))
  have HF := Lib.hid hf1; have HK := Lib.hid hk1
  clear hf1 hk1 hx1 hw1
  go_wp2_with fail
  refine HR.out.mono ?_
  rintro e w2 ⟨rfl, row2, hw2, hf2, hk2⟩
  have HW := Lib.hid hw2; have HF2 := Lib.hid hf2; have HK2 := Lib.hid hk2
  clear hw2 hf2 hk2
  go_wp2
  go_ret
  refine ⟨rfl, row2, ?_, HF.out.trans HF2.out HK.out.size, ?_⟩
  · have e : bs ++ texted xs = bs ++ be 2 (u64 xs.length) ++ xs := by
      have : u64 (xs.length : Int) = xs.length := by unfold u64; omega
      rw [this, texted, List.append_assoc]
    rw [e]
    exact HW.out
  · refine HK.out.step HK2.out fun i hi h => ?_
    rcases h with h | h
    · exact .inl h
    · rcases HF.out with e | ⟨n, e, hn⟩
      · rw [e] at h; exact .inr h
      · rw [e] at h; cases h; omega

set_option maxHeartbeats 400000 in
theorem rText_yes1 (p : Nat) (x : Value) (a : Option Addr) (c : Nat) (xs : List UInt8) (row : Option Nat) (bs : List UInt8) (w : World) (hx : Sl w x a c xs) (hw : Wr 29 5 w p row bs) (hb : bs.length + 2 + xs.length ≤ 140737488355328)
    (hn : xs.length ≤ 65535) (ha : 0 < xs.length → ∀ k, blk a = some k → k ≠ p ∧ row ≠ some k) :
    Calls Try.prog 28 #[.pointer (some ⟨p, 0, none⟩), x] w fun e w' => e = .returned (.bool true) ∧ WrEnd 29 w p row (bs ++ texted xs) w' := by
  have HC := Lib.hid (rU16_any p xs.length row bs w hw (by omega))
  have HX := Lib.hid hx
  have he := hx.eq
  subst he
  clear hw hx
  go_enter Try.func28, Try.ntmps28
  go_wp2_with fail
  refine HC.out.mono ?_
  rintro e w1 ⟨rfl, row1, hw1, hf1, hk1⟩
  have hx1 : Sl w1 (.slice a xs.length c) a c xs := HX.out.keep1 hk1 (fun hp b hb h => by
    obtain ⟨q1, q2⟩ := ha hp b hb
    rcases h with h | h
    · exact q1 h
    · exact q2 h)
  have HR := Lib.hid (rRaw_any p (.slice a xs.length c) a c xs row1 _ w1 hx1 hw1 (by simp [be_length]; omega))
  have HF := Lib.hid hf1; have HK := Lib.hid hk1
  clear hf1 hk1 hx1 hw1
  go_wp2_with fail
  refine HR.out.mono ?_
  rintro e w2 ⟨rfl, row2, hw2, hf2, hk2⟩
  have HW := Lib.hid hw2; have HF2 := Lib.hid hf2; have HK2 := Lib.hid hk2
  clear hw2 hf2 hk2
  go_wp2
  go_ret
  refine ⟨rfl, row2, ?_, HF.out.trans HF2.out HK.out.size, ?_⟩
  · have e : bs ++ texted xs = bs ++ be 2 (u64 xs.length) ++ xs := by
      have : u64 (xs.length : Int) = xs.length := by unfold u64; omega
      rw [this, texted, List.append_assoc]
    rw [e]
    exact HW.out
  · refine HK.out.step HK2.out fun i hi h => ?_
    rcases h with h | h
    · exact .inl h
    · rcases HF.out with e | ⟨n, e, hn⟩
      · rw [e] at h; exact .inr h
      · rw [e] at h; cases h; omega

/-- Bytes of one's own. -/
def CloneEnd (w : World) (bs : List UInt8) (e : Ending) (w' : World) : Prop :=
  ∃ a c, e = .returned (.slice a bs.length c) ∧ Sl w' (.slice a bs.length c) a c bs ∧ (∀ b, blk a = some b → w.heap.size ≤ b ∧ b < w'.heap.size) ∧ Kp (fun _ => False) w w'

set_option maxHeartbeats 400000 in
theorem Clone_any (a : Option Addr) (c : Nat) (bs : List UInt8) (w : World) (h : Sl w (.slice a bs.length c) a c bs) (hb : bs.length ≤ 140737488355328) :
    Calls Try.prog 78 #[.slice a bs.length c] w (CloneEnd w bs) := by
  cases a with
  | none =>
    have hc := h.nocap rfl
    have hl := h.le
    have : bs = [] := List.eq_nil_of_length_eq_zero (by omega)
    subst this
    subst hc
    clear h hb hl
    have heq := run_eql_slice_nil (P := Try.prog) w 27 5 none 0 0 Try.underlying27
    go_enter Try.func78, Try.ntmps78
    go_wp2
    go_ret
    exact ⟨none, 0, rfl, Sl.nil _, fun b hb => (by cases hb), Kp.refl _ _⟩
  | some ad =>
    obtain ⟨ti, I⟩ := byteInfo
    have h1 := owns_empty w w.heap.size 5 (Nat.le_refl _)
    have HO := Lib.hid h1; have HX := Lib.hid (h.keep ((Kp.refl (fun _ => False) w).alloc (.cells #[] 5)) (fun _ _ => id))
    clear h1 h
    have heq := run_eql_slice_nil (P := Try.prog) w 27 5 (some ad) bs.length c Try.underlying27
    go_enter Try.func78, Try.ntmps78
    go_wp2_with (at_builtin; refine wpList_append_sl rfl I w.heap.size (.tmp 5) (.tmp 6) rfl (.slice (some ⟨w.heap.size, 0, none⟩) 0 0) [] rfl HO.out (by simp) (.slice (some ad) bs.length c) (some ad) c bs rfl HX.out (by simpa using hb) ?_)
    intro v' w' hown' hgr hfr'
    obtain ⟨a', c', hs', _, hb'⟩ := sl_of_owns hown'
    have he := hs'.eq
    subst he
    have HE : Hid (CloneEnd w bs (.returned (.slice a' bs.length c')) w') := ⟨a', c', rfl, hs', hb', ((Kp.refl (fun _ => False) w).alloc _).grown hgr (fun k hk => by cases hk; exact .inr (Nat.le_refl _))⟩
    clear hown' hgr hfr' hs' hb' HO HX
    go_wp2
    go_ret
    exact HE.out

/-- A node's cells are laid. -/
theorem node_laid {w : World} {p : Nat} {a b c d : Value} {t : TypeId} (h : w.heap[p]? = some (.cells #[a, b, c, d] t (0, 0))) (n : NodeV) (ad : Option Addr) (cp : Nat) (S : Nat → Prop) (w0 : World) (hS : S p ∨ w0.heap.size ≤ p) (k : Kp S w0 w) :
    ((((w.setCell ⟨p, 0, none⟩ (.int .i64 n.kind)).setCell ⟨p, 1, none⟩ (.int .i64 n.mode)).setCell ⟨p, 2, none⟩ (.float .f64 n.time)).setCell ⟨p, 3, none⟩ (.slice ad n.bs.length cp)).heap[p]? = some (.cells #[.int .i64 n.kind, .int .i64 n.mode, .float .f64 n.time, .slice ad n.bs.length cp] t (0, 0)) ∧
    Kp S w0 ((((w.setCell ⟨p, 0, none⟩ (.int .i64 n.kind)).setCell ⟨p, 1, none⟩ (.int .i64 n.mode)).setCell ⟨p, 2, none⟩ (.float .f64 n.time)).setCell ⟨p, 3, none⟩ (.slice ad n.bs.length cp)) :=
  ⟨set_f3 (set_f2 (set_f1 (set_f0 h))), (((k.setCell ⟨p, 0, none⟩ hS _).setCell ⟨p, 1, none⟩ hS _).setCell ⟨p, 2, none⟩ hS _).setCell ⟨p, 3, none⟩ hS _⟩

set_option maxHeartbeats 1000000 in
theorem Copy_any (n : NodeV) (a : Option Addr) (c : Nat) (w : World) (h : NAt w n a c) :
    Calls Try.prog 61 #[nodeVal n a c] w (HandEnd w n) := by
  obtain ⟨k, m, t, bs⟩ := n
  have ht : t < 18446744073709551616 := h.time
  have hl : bs.length ≤ 140737488355328 := h.len
  have hsf : ∀ (a : Addr) (b : Nat) (m : Mode) (w : World), (store a (.float .f64 b) m).run Try.prog w = stored Try.prog w a (.float .f64 b) m := fun a b m w => run_store _ w a _ m rfl
  have k0 : Kp (fun _ => False) w ((w.alloc (.cells #[.int .i64 k, .int .i64 m, .float .f64 t, .slice a bs.length c] 57)).alloc (.cells #[.int .i64 0, .int .i64 0, .float .f64 0, .slice none 0 0] 57)) := ((Kp.refl _ w).alloc _).alloc _
  have HK := Lib.hid k0
  have HSZ := Lib.hid (show ((w.alloc (.cells #[.int .i64 k, .int .i64 m, .float .f64 t, .slice a bs.length c] 57)).alloc (.cells #[.int .i64 0, .int .i64 0, .float .f64 0, .slice none 0 0] 57)).heap.size = w.heap.size + 2 by simp)
  have HS := Lib.hid (h.keepF k0).sl
  have HA := Lib.hid (hp_old (hp_new w (.cells #[.int .i64 k, .int .i64 m, .float .f64 t, .slice a bs.length c] 57)) (.cells #[.int .i64 0, .int .i64 0, .float .f64 0, .slice none 0 0] 57))
  have HB := Lib.hid (hp_new' (w.alloc (.cells #[.int .i64 k, .int .i64 m, .float .f64 t, .slice a bs.length c] 57)) (.cells #[.int .i64 0, .int .i64 0, .float .f64 0, .slice none 0 0] 57) (n := w.heap.size + 1) (by simp))
  clear h k0
  unfold nodeVal
  dsimp only
  go_enter Try.func61, Try.ntmps61
  go_wp2_with fail
  generalize (w.alloc (.cells #[.int .i64 k, .int .i64 m, .float .f64 t, .slice a bs.length c] 57)).alloc (.cells #[.int .i64 0, .int .i64 0, .float .f64 0, .slice none 0 0] 57) = w1 at *
  obtain ⟨a0, a1, a2, a3⟩ := cell_four HA.out
  go_wp2_with fail
  refine (Clone_any a c bs _ HS.out hl).mono ?_
  rintro e w2 ⟨a', c', rfl, hs2, hb2, hk2⟩
  have hA2 := hk2.hp HA.out id
  obtain ⟨⟨p0, p1, p2, p3⟩, ⟨l0, l1, l2, l3⟩, lt3⟩ := cell_fr hA2
  have HA3 := Lib.hid (set_f3 (v := .slice a' bs.length c') hA2)
  have HB3 := Lib.hid (hp_set (hk2.hp HB.out id) ⟨w.heap.size, 3, none⟩ (.slice a' bs.length c') (by show w.heap.size + 1 ≠ w.heap.size; omega))
  have HS3 := Lib.hid (hs2.keep ((Kp.refl (fun b => b = w.heap.size) w2).setCell ⟨w.heap.size, 3, none⟩ (.inl rfl) (.slice a' bs.length c')) (fun b hb h => by have := (hb2 b hb).1; have := HSZ.out; omega))
  have HK3 := Lib.hid ((HK.out.trans hk2).setCell ⟨w.heap.size, 3, none⟩ (.inr (Nat.le_refl _)) (.slice a' bs.length c'))
  have HN := Lib.hid (show ∀ b, blk a' = some b → w.heap.size + 2 ≤ b from fun b hb => by have := (hb2 b hb).1; have := HSZ.out; omega)
  clear hA2 hs2 hb2 hk2 HA HB HS HK a0 a1 a2 a3
  obtain ⟨q0, q1, q2, q3⟩ := cell_four HA3.out
  obtain ⟨⟨s0, s1, s2, s3⟩, ⟨t0, t1, t2, t3⟩, lt4⟩ := cell_fr HB3.out
  go_wp2
  obtain ⟨hl4, hk4⟩ := node_laid HB3.out ⟨k, m, t, bs⟩ a' c' (fun _ => False) w (.inr (Nat.le_succ _)) HK3.out
  obtain ⟨_, hk5⟩ := node_laid HB3.out ⟨k, m, t, bs⟩ a' c' (fun b => b = w.heap.size + 1) _ (.inl rfl) (Kp.refl _ _)
  obtain ⟨y0, y1, y2, y3⟩ := cell_four hl4
  dsimp only at y0 y1 y2 y3
  refine bodyPost_ret (v := .agg #[.int .i64 k, .int .i64 m, .float .f64 t, .slice a' bs.length c']) (by simp [results, Try.results61, go_sem, y0, y1, y2, y3]) rfl ?_
  exact ⟨a', c', rfl, ⟨HS3.out.keep hk5 (fun b hb h => by have := HN.out b hb; omega), ht, hl⟩, fun b hb => by have := HN.out b hb; omega, hk4⟩
end Go.Proofs.Ytgpidbdgodgefaa
