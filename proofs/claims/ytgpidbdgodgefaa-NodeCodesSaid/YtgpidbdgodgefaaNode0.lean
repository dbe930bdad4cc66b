/- Nodes as values; which are the same, by the program and by the document. Conditions: as the theorems name them. -/
import Derived.Test.YtgpidbdgodgefaaNumC
import Derived.Test.YtgpidbdgodgefaaConv
namespace Go.Proofs.Ytgpidbdgodgefaa
open Go.RowKit

/-- A node. -/
structure NodeV where
  kind : Int
  mode : Int
  time : Nat
  bs : List UInt8

/-- Which nodes are the same. -/
def sameN (a b : NodeV) : Bool := a.kind == b.kind && (a.mode == b.mode && (sameT a.time b.time && a.bs == b.bs))
theorem sameT_comm (a b : Nat) : sameT a b = sameT b a := by unfold sameT; rw [Bool.eq_iff_iff, beq_iff_eq, beq_iff_eq]; exact eq_comm
theorem sameT_refl (a : Nat) : sameT a a = true := by unfold sameT; simp
theorem sameN_refl (a : NodeV) : sameN a a = true := by unfold sameN; simp [sameT_refl]
theorem sameN_comm (a b : NodeV) : sameN a b = sameN b a := by
  unfold sameN
  rw [sameT_comm, Bool.beq_comm (a := a.kind), Bool.beq_comm (a := a.mode), Bool.beq_comm (a := a.bs)]

/-- The value of a node, its data at a with capacity c. -/
def nodeVal (n : NodeV) (a : Option Addr) (c : Nat) : Value := .agg #[.int .i64 n.kind, .int .i64 n.mode, .float .f64 n.time, .slice a n.bs.length c]
/-- Its data lies there. -/
structure NAt (w : World) (n : NodeV) (a : Option Addr) (c : Nat) : Prop where
  sl : Sl w (.slice a n.bs.length c) a c n.bs
  time : n.time < 18446744073709551616
  len : n.bs.length ≤ 140737488355328
theorem NAt.keep {w w' : World} {n : NodeV} {a : Option Addr} {c : Nat} {S : Nat → Prop} (h : NAt w n a c) (k : Kp S w w') (hn : ∀ b, blk a = some b → ¬ S b) : NAt w' n a c := ⟨h.sl.keep k hn, h.time, h.len⟩
theorem NAt.keepF {w w' : World} {n : NodeV} {a : Option Addr} {c : Nat} (h : NAt w n a c) (k : Kp (fun _ => False) w w') : NAt w' n a c := h.keep k (fun _ _ => id)

set_option maxHeartbeats 400000 in
theorem equal_any (a b : Option Addr) (c d : Nat) (xs ys : List UInt8) (w : World) (h1 : Sl w (.slice a xs.length c) a c xs) (h2 : Sl w (.slice b ys.length d) b d ys) :
    Calls Try.prog 73 #[.slice a xs.length c, .slice b ys.length d] w fun e w' => e = .returned (.bool (xs == ys)) ∧ w = w' := by
  have c1 := run_conv h1
  have c2 := run_conv h2
  clear h1 h2
  go_enter Try.func73, Try.ntmps73
  go_wp2
  go_ret
  exact ⟨rfl, rfl⟩

theorem cell_four {w : World} {n : Nat} {a b c d : Value} {t : TypeId} (h : w.heap[n]? = some (.cells #[a, b, c, d] t (0, 0))) :
    w.cell? ⟨n, 0, none⟩ = some a ∧ w.cell? ⟨n, 1, none⟩ = some b ∧ w.cell? ⟨n, 2, none⟩ = some c ∧ w.cell? ⟨n, 3, none⟩ = some d :=
  ⟨by simp [World.cell?, h], by simp [World.cell?, h], by simp [World.cell?, h], by simp [World.cell?, h]⟩

set_option maxHeartbeats 1000000 in
theorem nodeSame_any (A B : NodeV) (a b : Option Addr) (c d : Nat) (w : World) (h1 : NAt w A a c) (h2 : NAt w B b d) :
    Calls Try.prog 49 #[nodeVal A a c, nodeVal B b d] w fun e w' => e = .returned (.bool (sameN A B)) ∧ Kp (fun _ => False) w w' := by
  obtain ⟨ka, ma, ta, xs⟩ := A
  obtain ⟨kb, mb, tb, ys⟩ := B
  have k0 : Kp (fun _ => False) w ((w.alloc (.cells #[.int .i64 ka, .int .i64 ma, .float .f64 ta, .slice a xs.length c] 57)).alloc (.cells #[.int .i64 kb, .int .i64 mb, .float .f64 tb, .slice b ys.length d] 57)) := ((Kp.refl _ w).alloc _).alloc _
  have HK0 := Lib.hid k0
  have HA := Lib.hid (h1.keepF k0).sl; have HB := Lib.hid (h2.keepF k0).sl
  have hta : ta < 18446744073709551616 := h1.time
  have htb : tb < 18446744073709551616 := h2.time
  have hA2 := Lib.hid (hp_old (hp_new w (.cells #[.int .i64 ka, .int .i64 ma, .float .f64 ta, .slice a xs.length c] 57)) (.cells #[.int .i64 kb, .int .i64 mb, .float .f64 tb, .slice b ys.length d] 57))
  have hB2 := Lib.hid (hp_new' (w.alloc (.cells #[.int .i64 ka, .int .i64 ma, .float .f64 ta, .slice a xs.length c] 57)) (.cells #[.int .i64 kb, .int .i64 mb, .float .f64 tb, .slice b ys.length d] 57) (n := w.heap.size + 1) (by simp))
  have hres : sameN ⟨ka, ma, ta, xs⟩ ⟨kb, mb, tb, ys⟩ = (ka == kb && (ma == mb && (sameT ta tb && xs == ys))) := rfl
  rw [hres]
  clear h1 h2 k0 hres
  unfold nodeVal
  dsimp only
  by_cases hk : ka = kb
  · subst hk
    by_cases hm : ma = mb
    · subst hm
      simp only [BEq.rfl, Bool.true_and]
      go_enter Try.func49, Try.ntmps49
      go_wp2_with fail
      refine (numSame_any ta tb hta htb _).mono ?_
      rintro e w3 ⟨rfl, hk3⟩
      have HK3 := Lib.hid (HK0.out.trans hk3)
      have HA3 := Lib.hid (HA.out.keep hk3 (fun _ _ => id)); have HB3 := Lib.hid (HB.out.keep hk3 (fun _ _ => id))
      obtain ⟨_, _, _, a3⟩ := cell_four (hk3.hp hA2.out id)
      obtain ⟨_, _, _, b3⟩ := cell_four (hk3.hp hB2.out id)
      clear hk3
      cases hst : sameT ta tb with
      | true =>
        go_wp2_with fail
        refine (equal_any a b c d xs ys w3 HA3.out HB3.out).mono ?_
        rintro e w' ⟨rfl, rfl⟩
        go_wp2
        go_ret
        exact ⟨by simp [hst], HK3.out⟩
      | false =>
        go_wp2
        go_ret
        exact ⟨by simp [hst], HK3.out⟩
    · have hm1 : (ma == mb) = false := by simp [hm]
      simp only [BEq.rfl, Bool.true_and, hm1, Bool.false_and]
      go_enter Try.func49, Try.ntmps49
      go_wp2
      go_ret
      exact ⟨by simp, HK0.out⟩
  · have hk1 : (ka == kb) = false := by simp [hk]
    simp only [hk1, Bool.false_and]
    go_enter Try.func49, Try.ntmps49
    go_wp2
    go_ret
    exact ⟨by simp, HK0.out⟩

set_option maxHeartbeats 1000000 in
theorem refSameNode_any (A B : NodeV) (a b : Option Addr) (c d : Nat) (w : World) (h1 : NAt w A a c) (h2 : NAt w B b d) :
    Calls Try.prog 50 #[nodeVal A a c, nodeVal B b d] w fun e w' => e = .returned (.bool (sameN A B)) ∧ Kp (fun _ => False) w w' := by
  obtain ⟨ka, ma, ta, xs⟩ := A
  obtain ⟨kb, mb, tb, ys⟩ := B
  have k0 : Kp (fun _ => False) w ((w.alloc (.cells #[.int .i64 ka, .int .i64 ma, .float .f64 ta, .slice a xs.length c] 57)).alloc (.cells #[.int .i64 kb, .int .i64 mb, .float .f64 tb, .slice b ys.length d] 57)) := ((Kp.refl _ w).alloc _).alloc _
  have HK0 := Lib.hid k0
  have HA := Lib.hid (h1.keepF k0).sl; have HB := Lib.hid (h2.keepF k0).sl
  have hta : ta < 18446744073709551616 := h1.time
  have htb : tb < 18446744073709551616 := h2.time
  have hA2 := Lib.hid (hp_old (hp_new w (.cells #[.int .i64 ka, .int .i64 ma, .float .f64 ta, .slice a xs.length c] 57)) (.cells #[.int .i64 kb, .int .i64 mb, .float .f64 tb, .slice b ys.length d] 57))
  have hB2 := Lib.hid (hp_new' (w.alloc (.cells #[.int .i64 ka, .int .i64 ma, .float .f64 ta, .slice a xs.length c] 57)) (.cells #[.int .i64 kb, .int .i64 mb, .float .f64 tb, .slice b ys.length d] 57) (n := w.heap.size + 1) (by simp))
  have hres : sameN ⟨ka, ma, ta, xs⟩ ⟨kb, mb, tb, ys⟩ = (ka == kb && (ma == mb && (sameT ta tb && xs == ys))) := rfl
  rw [hres]
  clear h1 h2 k0 hres
  unfold nodeVal
  dsimp only
  by_cases hk : ka = kb
  · subst hk
    by_cases hm : ma = mb
    · subst hm
      simp only [BEq.rfl, Bool.true_and]
      go_enter Try.func50, Try.ntmps50
      have hcA := run_conv HA.out
      have hcB := run_conv HB.out
      cases hxy : (xs == ys) with
      | true =>
        go_wp2_with fail
        refine (refSame_any ta tb hta htb _).mono ?_
        rintro e w' ⟨rfl, rfl⟩
        go_wp2
        go_ret
        exact ⟨by simp [], HK0.out⟩
      | false =>
        go_wp2
        go_ret
        exact ⟨by simp [], HK0.out⟩
    · have hm1 : (ma == mb) = false := by simp [hm]
      simp only [BEq.rfl, Bool.true_and, hm1, Bool.false_and]
      go_enter Try.func50, Try.ntmps50
      go_wp2
      go_ret
      exact ⟨by simp, HK0.out⟩
  · have hk1 : (ka == kb) = false := by simp [hk]
    simp only [hk1, Bool.false_and]
    go_enter Try.func50, Try.ntmps50
    go_wp2
    go_ret
    exact ⟨by simp, HK0.out⟩

end Go.Proofs.Ytgpidbdgodgefaa
