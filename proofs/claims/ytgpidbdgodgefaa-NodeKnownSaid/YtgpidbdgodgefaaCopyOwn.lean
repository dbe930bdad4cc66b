/- Copies of bytes and of nodes, with what they own. Conditions: as the theorems name them. -/
import Derived.Test.YtgpidbdgodgefaaCopy
import Derived.Test.YtgpidbdgodgefaaGet
import Derived.Lib.LazyBuf
namespace Go.Proofs.Ytgpidbdgodgefaa
open Go.RowKit

/-- Bytes of one's own, owned. -/
def CloneOwn (w : World) (bs : List UInt8) (e : Ending) (w' : World) : Prop :=
  ∃ a c, e = .returned (.slice a bs.length c) ∧ w'.ownsRow w.heap.size 5 1 (.slice a bs.length c) bs.length (bs.map byteV) ∧ Kp (fun _ => False) w w'
/-- A node's copy, its bytes owned. -/
def CopyOwn (w : World) (n : NodeV) (e : Ending) (w' : World) : Prop :=
  ∃ a c, e = .returned (nodeVal n a c) ∧ w'.ownsRow w.heap.size 5 1 (.slice a n.bs.length c) n.bs.length (n.bs.map byteV) ∧ Kp (fun _ => False) w w'

set_option maxHeartbeats 400000 in
theorem CloneOwn_any (a : Option Addr) (c : Nat) (bs : List UInt8) (w : World) (h : Sl w (.slice a bs.length c) a c bs) (hb : bs.length ≤ 140737488355328) :
    Calls Try.prog 78 #[.slice a bs.length c] w (CloneOwn w bs) := by
  cases a with
  | none =>
    have hc := h.nocap rfl
    have hl := h.le
    have : bs = [] := List.eq_nil_of_length_eq_zero (by omega)
    subst this
    subst hc
    clear h hb hl
    have heq := run_eql_slice_nil (P := Try.prog) w 27 5 none 0 0 Try.underlying27
    go_enter Try.func78, Try.ntmps78
    go_wp2
    go_ret
    exact ⟨none, 0, rfl, World.ownsRow_nil _ _ _ _, Kp.refl _ _⟩
  | some ad =>
    obtain ⟨ti, I⟩ := byteInfo
    have h1 := owns_empty w w.heap.size 5 (Nat.le_refl _)
    have HO := Lib.hid h1; have HX := Lib.hid (h.keep ((Kp.refl (fun _ => False) w).alloc (.cells #[] 5)) (fun _ _ => id))
    clear h1 h
    have heq := run_eql_slice_nil (P := Try.prog) w 27 5 (some ad) bs.length c Try.underlying27
    go_enter Try.func78, Try.ntmps78
    go_wp2_with (at_builtin; refine wpList_append_sl rfl I w.heap.size (.tmp 5) (.tmp 6) rfl (.slice (some ⟨w.heap.size, 0, none⟩) 0 0) [] rfl HO.out (by simp) (.slice (some ad) bs.length c) (some ad) c bs rfl HX.out (by simpa using hb) ?_)
    intro v' w' hown' hgr hfr'
    obtain ⟨a', c', hs', _, hb'⟩ := sl_of_owns hown'
    have he := hs'.eq
    subst he
    have HE : Hid (CloneOwn w bs (.returned (.slice a' bs.length c')) w') := ⟨a', c', rfl, hown', ((Kp.refl (fun _ => False) w).alloc _).grown hgr (fun k hk => by cases hk; exact .inr (Nat.le_refl _))⟩
    clear hown' hgr hfr' hs' hb' HO HX
    go_wp2
    go_ret
    exact HE.out

set_option maxHeartbeats 1000000 in
theorem CopyOwn_any (n : NodeV) (a : Option Addr) (c : Nat) (w : World) (h : NAt w n a c) :
    Calls Try.prog 61 #[nodeVal n a c] w (CopyOwn w n) := by
  obtain ⟨k, m, t, bs⟩ := n
  have ht : t < 18446744073709551616 := h.time
  have hl : bs.length ≤ 140737488355328 := h.len
  have hsf : ∀ (a : Addr) (b : Nat) (m : Mode) (w : World), (store a (.float .f64 b) m).run Try.prog w = stored Try.prog w a (.float .f64 b) m := fun a b m w => run_store _ w a _ m rfl
  have k0 : Kp (fun _ => False) w ((w.alloc (.cells #[.int .i64 k, .int .i64 m, .float .f64 t, .slice a bs.length c] 57)).alloc (.cells #[.int .i64 0, .int .i64 0, .float .f64 0, .slice none 0 0] 57)) := ((Kp.refl _ w).alloc _).alloc _
  have HK := Lib.hid k0
  have HSZ := Lib.hid (show ((w.alloc (.cells #[.int .i64 k, .int .i64 m, .float .f64 t, .slice a bs.length c] 57)).alloc (.cells #[.int .i64 0, .int .i64 0, .float .f64 0, .slice none 0 0] 57)).heap.size = w.heap.size + 2 by simp)
  have HS := Lib.hid (h.keepF k0).sl
  have HA := Lib.hid (hp_old (hp_new w (.cells #[.int .i64 k, .int .i64 m, .float .f64 t, .slice a bs.length c] 57)) (.cells #[.int .i64 0, .int .i64 0, .float .f64 0, .slice none 0 0] 57))
  have HB := Lib.hid (hp_new' (w.alloc (.cells #[.int .i64 k, .int .i64 m, .float .f64 t, .slice a bs.length c] 57)) (.cells #[.int .i64 0, .int .i64 0, .float .f64 0, .slice none 0 0] 57) (n := w.heap.size + 1) (by simp))
  clear h k0
  unfold nodeVal
  dsimp only
  go_enter Try.func61, Try.ntmps61
  go_wp2_with fail
  generalize (w.alloc (.cells #[.int .i64 k, .int .i64 m, .float .f64 t, .slice a bs.length c] 57)).alloc (.cells #[.int .i64 0, .int .i64 0, .float .f64 0, .slice none 0 0] 57) = w1 at *
  obtain ⟨a0, a1, a2, a3⟩ := cell_four HA.out
  go_wp2_with fail
  refine (CloneOwn_any a c bs _ HS.out hl).mono ?_
  rintro e w2 ⟨a', c', rfl, hs2, hk2⟩
  have hb2 := owns_block hs2
  have hA2 := hk2.hp HA.out id
  obtain ⟨⟨p0, p1, p2, p3⟩, ⟨l0, l1, l2, l3⟩, lt3⟩ := cell_fr hA2
  have HA3 := Lib.hid (set_f3 (v := .slice a' bs.length c') hA2)
  have HB3 := Lib.hid (hp_set (hk2.hp HB.out id) ⟨w.heap.size, 3, none⟩ (.slice a' bs.length c') (by show w.heap.size + 1 ≠ w.heap.size; omega))
  have HS3 := Lib.hid (owns_keep hs2 ((Kp.refl (fun b => b = w.heap.size) w2).setCell ⟨w.heap.size, 3, none⟩ (.inl rfl) (.slice a' bs.length c')) (fun b hb h => by have := (hb2 b hb).1; have := HSZ.out; omega))
  have HK3 := Lib.hid ((HK.out.trans hk2).setCell ⟨w.heap.size, 3, none⟩ (.inr (Nat.le_refl _)) (.slice a' bs.length c'))
  have HN := Lib.hid (show ∀ b, Value.ownBlock (.slice a' bs.length c') = some b → w.heap.size + 2 ≤ b from fun b hb => by have := (hb2 b hb).1; have := HSZ.out; omega)
  clear hA2 hs2 hb2 hk2 HA HB HS HK a0 a1 a2 a3
  obtain ⟨q0, q1, q2, q3⟩ := cell_four HA3.out
  obtain ⟨⟨s0, s1, s2, s3⟩, ⟨t0, t1, t2, t3⟩, lt4⟩ := cell_fr HB3.out
  go_wp2
  obtain ⟨hl4, hk4⟩ := node_laid HB3.out ⟨k, m, t, bs⟩ a' c' (fun _ => False) w (.inr (Nat.le_succ _)) HK3.out
  obtain ⟨_, hk5⟩ := node_laid HB3.out ⟨k, m, t, bs⟩ a' c' (fun b => b = w.heap.size + 1) _ (.inl rfl) (Kp.refl _ _)
  obtain ⟨y0, y1, y2, y3⟩ := cell_four hl4
  dsimp only at y0 y1 y2 y3
  refine bodyPost_ret (v := .agg #[.int .i64 k, .int .i64 m, .float .f64 t, .slice a' bs.length c']) (by simp [results, Try.results61, go_sem, y0, y1, y2, y3]) rfl ?_
  exact ⟨a', c', rfl, owns_from (owns_keep HS3.out hk5 (fun b hb h => by have := HN.out b hb; omega)) (by have := HSZ.out; omega), hk4⟩
end Go.Proofs.Ytgpidbdgodgefaa
