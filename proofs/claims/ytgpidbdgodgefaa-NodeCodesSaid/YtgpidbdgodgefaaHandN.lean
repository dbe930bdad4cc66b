/- The contract of Node of package pentimentohand: a node that may be. Conditions: as the theorems name them. -/
import Derived.Test.YtgpidbdgodgefaaHand
import Derived.Test.YtgpidbdgodgefaaNode0
import Derived.Test.YtgpidbdgodgefaaRd
import Derived.Laws.IdiomStrings
import Derived.Lib.SlBytesConst
import Derived.Deep.RegionHeld3
namespace Go.Proofs.Ytgpidbdgodgefaa
open Go.RowKit Go.Deep

/-- A link's text. -/
def linkB (m : Int) : List UInt8 := (if m % 5 = 0 then [47] else []) ++ ((if m % 4 = 0 then [46, 46, 47] else []) ++ pathB m)
theorem linkB_len (m : Int) : 1 ≤ (linkB m).length ∧ (linkB m).length ≤ 15 := by
  have := pathB_len m
  unfold linkB
  simp only [List.length_append]
  split <;> split <;> simp <;> omega
/-- The node of a raw one. -/
def handNode (k m t : Int) (x : Nat) (d : List UInt8) : NodeV :=
  ⟨1 + k % 3, m % 4096, plainB (timeB t x), if k % 3 = 0 then d.take 60 else if k % 3 = 2 then linkB m else []⟩

theorem conv_bytes (bs : List UInt8) (hl : bs.length ≤ 1000000) (w : World) : ∃ c w', (convert 9 27 (.string ⟨bs.toArray⟩)).run Try.prog w = .ok (.slice (some ⟨w.heap.size, 0, none⟩) bs.length c) w' ∧
    Sl w' (.slice (some ⟨w.heap.size, 0, none⟩) bs.length c) (some ⟨w.heap.size, 0, none⟩) c bs ∧ Kp (fun _ => False) w w' ∧ w'.heap.size = w.heap.size + 1 := by
  have h := run_bytes_of_string w 9 27 5 ⟨bs.toArray⟩ Try.underlying9 Try.underlying27 Try.underlying5
  have hs : (⟨bs.toArray⟩ : ByteArray).size = bs.length := by simp [ByteArray.size]
  rw [hs] at h
  refine ⟨_, _, h, ⟨rfl, grownCap_ge _ _ _ _, grownCap_le_maxLen _ _ _ _ (by unfold maxLen; omega), fun h => (by cases h), fun i hi => ⟨_, 0, rfl, ?_⟩⟩, ?_, ?_⟩
  · have h1 := bytesRow_at ⟨bs.toArray⟩ (grownCap w bs.length 0 5) i (by simpa using hi)
    have hh : ∀ (C : Array Value) (f : Nat × Nat), (w.drew.alloc (.cells C 5 f)).heap[w.heap.size]? = some (.cells C 5 f) := fun C f => by
      show (w.heap.push _)[w.heap.size]? = _
      simp
    simp only [World.cell?, hh, Nat.zero_add, h1]
    simp [byteV]
  · exact ((Kp.refl (fun _ => False) w).drew).alloc _
  · simp

/-- append onto a slice that has no room. -/
theorem run_append_sl2 {P : Program} {w : World} {t e : TypeId} {i : TypeInfo} (I : ByteInfo P t e i) (ty : TypeId) (v : Value) (ad : Addr) (c : Nat) (bs : List UInt8) (hv : Sl w v (some ad) c bs)
    (x : Value) (a : Option Addr) (c' : Nat) (news : List UInt8) (hx : Sl w x a c' news) (hg : c < bs.length + news.length) (hbytes : bs.length + news.length ≤ 140737488355328) :
    ∃ v' w', (Builtin.append_ #[t, t] ty #[v, x]).run P w = .ok v' w' ∧ w'.ownsRow w.heap.size e 1 v' (bs ++ news).length ((bs ++ news).map byteV) ∧ w.grownBy w' none := by
  have hmax : bs.length + news.length ≤ maxLen := by unfold maxLen; omega
  cases a with
  | none =>
    exfalso
    have h1 := hx.nocap rfl
    have h2 := hx.le
    have h3 := hv.le
    omega
  | some a2 =>
    rw [hx.eq, hv.eq]
    obtain ⟨v', w', r1, r2, r3⟩ := run_append_arg_grows (P := P) w t ty e i (.int .u8 0) 1 1 I.sl I.info I.zero I.size I.bytes rfl (by decide) ad bs.length c (bs.map byteV) (by simp) (Seg.cells hv.seg) a2 news.length c' (news.map byteV) (by simp) (Seg.cells hx.seg) hg hmax (by simpa using hbytes)
    refine ⟨v', w', r1, ?_, r3⟩
    rw [List.length_append, List.map_append]
    exact r2
theorem wpList_append_sl2 {P : Program} {w : World} {ops : Array Oper} {rest : List Oper} {o : Oper} {a : Act} {Q : Exit → Act → World → Prop} {t e : TypeId} {i : TypeInfo} (hgd : o.guard = none) (I : ByteInfo P t e i) (s x : Operand)
    (ho : o.op = .call { callee := .builtin .append, args := #[s, x], argTypes := #[t, t] })
    (v : Value) (ad : Addr) (c : Nat) (bs : List UInt8) (hs : a.eval s = v) (hv : Sl w v (some ad) c bs)
    (xv : Value) (ao : Option Addr) (c' : Nat) (news : List UInt8) (hxv : a.eval x = xv) (hx : Sl w xv ao c' news) (hg : c < bs.length + news.length) (hbytes : bs.length + news.length ≤ 140737488355328)
    (h : ∀ v' w', w'.ownsRow w.heap.size e 1 v' (bs ++ news).length ((bs ++ news).map byteV) → w.grownBy w' none → wpList P ops Q rest (a.put o.dst v') w') : wpList P ops Q (o :: rest) a w :=
  wpList_plain hgd fun K hK => by
    obtain ⟨v', w', hr, h2, h3⟩ := run_append_sl2 (P := P) I o.type v ad c bs hv xv ao c' news hx hg hbytes
    unfold Oper.wp execOp
    simp only [ho, resolve, invoke, builtin, Sem.run_bind, Sem.run_pure, Result.andThen_ok, List.map_toArray, List.map_cons, List.map_nil, hs, hxv, hr]
    exact hK _ _ (h v' w' h2 h3)

/-- A literal, marked as a string's, is a slice of its bytes. -/
theorem sl_mark (w : World) (cs : Array Value) (e : TypeId) (n : Nat) (f : Nat × Nat) (xs : List UInt8) (hn : n = xs.length) (hm : n ≤ maxLen) (hx : cs.toList = xs.map byteV) :
    Sl (w.alloc (.cells cs e f)) (.slice (some ⟨w.heap.size, 0, none⟩) n n) (some ⟨w.heap.size, 0, none⟩) n xs := by
  subst hn
  refine ⟨rfl, Nat.le_refl _, hm, fun h => (by cases h), fun i hi => ⟨_, 0, rfl, ?_⟩⟩
  have ec : cs[i]? = some (byteV xs[i]) := by
    rw [← Array.getElem?_toList, hx]
    simp [hi]
  have hh := hp_new w (.cells cs e f)
  simp only [World.cell?, hh, Nat.zero_add, ec]
  simp

/-- A literal is a row of its own. -/
theorem owns_lit (w : World) (cs : Array Value) (e : TypeId) (n base : Nat) (xs : List Value) (hb : base ≤ w.heap.size) (hn : cs.size = n) (hm : n ≤ maxLen) (hx : cs.toList = xs) :
    (w.alloc (.cells cs e)).ownsRow base e 1 (.slice (some ⟨w.heap.size, 0, none⟩) n n) n xs := by
  subst hx
  subst hn
  exact ⟨by simp, .inr ⟨w.heap.size, cs.size, cs, rfl, hb, hp_new _ _, Nat.le_refl _, hm, by simp, by rw [Nat.mul_one, List.take_of_length_le (by simp)]⟩⟩

theorem cell_fiv {w : World} {n : Nat} {a b c d e : Value} {t : TypeId} (h : w.heap[n]? = some (.cells #[a, b, c, d, e] t (0, 0))) :
    w.cell? ⟨n, 0, none⟩ = some a ∧ w.cell? ⟨n, 1, none⟩ = some b ∧ w.cell? ⟨n, 2, none⟩ = some c ∧ w.cell? ⟨n, 3, none⟩ = some d ∧ w.cell? ⟨n, 4, none⟩ = some e :=
  ⟨by simp [World.cell?, h], by simp [World.cell?, h], by simp [World.cell?, h], by simp [World.cell?, h], by simp [World.cell?, h]⟩

theorem cell_fr {w : World} {n : Nat} {a b c d : Value} {t : TypeId} (h : w.heap[n]? = some (.cells #[a, b, c, d] t (0, 0))) :
    (w.cell? ⟨n, 0, none⟩ = some a ∧ w.cell? ⟨n, 1, none⟩ = some b ∧ w.cell? ⟨n, 2, none⟩ = some c ∧ w.cell? ⟨n, 3, none⟩ = some d) ∧
    (w.frozen? ⟨n, 0, none⟩ = false ∧ w.frozen? ⟨n, 1, none⟩ = false ∧ w.frozen? ⟨n, 2, none⟩ = false ∧ w.frozen? ⟨n, 3, none⟩ = false) ∧ n < w.heap.size :=
  ⟨cell_four h, ⟨by simp [World.frozen?, h], by simp [World.frozen?, h], by simp [World.frozen?, h], by simp [World.frozen?, h]⟩, hp_lt h⟩
theorem set_f0 {w : World} {n : Nat} {a b c d v : Value} {t : TypeId} (h : w.heap[n]? = some (.cells #[a, b, c, d] t (0, 0))) : (w.setCell ⟨n, 0, none⟩ v).heap[n]? = some (.cells #[v, b, c, d] t (0, 0)) := by
  simp only [World.setCell, Array.getElem?_modify, h]
  simp
theorem set_f1 {w : World} {n : Nat} {a b c d v : Value} {t : TypeId} (h : w.heap[n]? = some (.cells #[a, b, c, d] t (0, 0))) : (w.setCell ⟨n, 1, none⟩ v).heap[n]? = some (.cells #[a, v, c, d] t (0, 0)) := by
  simp only [World.setCell, Array.getElem?_modify, h]
  simp
theorem set_f2 {w : World} {n : Nat} {a b c d v : Value} {t : TypeId} (h : w.heap[n]? = some (.cells #[a, b, c, d] t (0, 0))) : (w.setCell ⟨n, 2, none⟩ v).heap[n]? = some (.cells #[a, b, v, d] t (0, 0)) := by
  simp only [World.setCell, Array.getElem?_modify, h]
  simp
theorem set_f3 {w : World} {n : Nat} {a b c d v : Value} {t : TypeId} (h : w.heap[n]? = some (.cells #[a, b, c, d] t (0, 0))) : (w.setCell ⟨n, 3, none⟩ v).heap[n]? = some (.cells #[a, b, c, v] t (0, 0)) := by
  simp only [World.setCell, Array.getElem?_modify, h]
  simp

/-- What Node comes to. -/
def HandEnd (w : World) (n : NodeV) (e : Ending) (w' : World) : Prop :=
  ∃ a c, e = .returned (nodeVal n a c) ∧ NAt w' n a c ∧ (∀ b, blk a = some b → w.heap.size ≤ b) ∧ Kp (fun _ => False) w w'

set_option maxHeartbeats 6000000 in
set_option maxRecDepth 100000 in
theorem Node_any (k m t : Int) (x : Nat) (a : Option Addr) (c : Nat) (d : List UInt8) (w : World) (hs : Sl w (.slice a d.length c) a c d) (hl : d.length ≤ 140737488355328) (hx : x < 18446744073709551616)
    (hk : -9223372036854775808 ≤ k ∧ k ≤ 9223372036854775807) (hm : -9223372036854775808 ≤ m ∧ m ≤ 9223372036854775807) (ht : -9223372036854775808 ≤ t ∧ t ≤ 9223372036854775807) :
    Calls Try.prog 47 #[.agg #[.int .i64 k, .int .i64 m, .int .i64 t, .float .f64 x, .slice a d.length c]] w (HandEnd w (handNode k m t x d)) := by
  have HS := Lib.hid hs; have HLd := Lib.hid hl
  have HXl := Lib.hid (timeB_lt t x hx)
  obtain ⟨hk1, hk2⟩ := hk
  obtain ⟨hm1, hm2⟩ := hm
  obtain ⟨ht1, ht2⟩ := ht
  clear hs hl hx
  have hsf : ∀ (a : Addr) (b : Nat) (m : Mode) (w : World), (store a (.float .f64 b) m).run Try.prog w = stored Try.prog w a (.float .f64 b) m := fun a b m w => run_store _ w a _ m rfl
  go_enter Try.func47, Try.ntmps47
  have hk0 := Int.emod_nonneg k (show (3 : Int) ≠ 0 by decide)
  have hk3 := Int.emod_lt_of_pos k (show (0 : Int) < 3 by decide)
  have hwr : IntKind.i64.wrap (1 + k % 3) = 1 + k % 3 := IntWalk.i64_in _ (by omega)
  have HB1 := Lib.hid (hp_old (hp_new w (.cells #[.int .i64 k, .int .i64 m, .int .i64 t, .float .f64 x, .slice a d.length c] 55)) (.cells #[.int .i64 0, .int .i64 0, .float .f64 0, .slice none 0 0] 57))
  have HR1 := Lib.hid (hp_new' (w.alloc (.cells #[.int .i64 k, .int .i64 m, .int .i64 t, .float .f64 x, .slice a d.length c] 55)) (.cells #[.int .i64 0, .int .i64 0, .float .f64 0, .slice none 0 0] 57) (n := w.heap.size + 1) (by simp))
  have HK1 := Lib.hid (((Kp.refl (fun _ => False) w).alloc (.cells #[.int .i64 k, .int .i64 m, .int .i64 t, .float .f64 x, .slice a d.length c] 55)).alloc (.cells #[.int .i64 0, .int .i64 0, .float .f64 0, .slice none 0 0] 57))
  go_wp2_with fail
  generalize hw1 : (w.alloc (.cells #[.int .i64 k, .int .i64 m, .int .i64 t, .float .f64 x, .slice a d.length c] 55)).alloc (.cells #[.int .i64 0, .int .i64 0, .float .f64 0, .slice none 0 0] 57) = w1 at *
  have hsz1 : w1.heap.size = w.heap.size + 2 := by rw [← hw1]; simp
  have HSZ1 := Lib.hid hsz1
  have hne : w1.heap.size ≠ w.heap.size := by omega
  clear hw1 hsz1
  obtain ⟨b0, b1, b2, b3, b4⟩ := cell_fiv HB1.out
  have HBX : Hid (∀ w', Kp (fun _ => False) w1 w' → w'.cell? ⟨w.heap.size, 0, none⟩ = some (.int .i64 k) ∧ w'.cell? ⟨w.heap.size, 1, none⟩ = some (.int .i64 m) ∧ w'.cell? ⟨w.heap.size, 2, none⟩ = some (.int .i64 t) ∧ w'.cell? ⟨w.heap.size, 3, none⟩ = some (.float .f64 x)) := fun w' kp => by
    obtain ⟨q0, q1, q2, q3, _⟩ := cell_fiv (kp.hp HB1.out id)
    exact ⟨q0, q1, q2, q3⟩
  refine Code.wp_mono (Q := fun e a' w' => match e with
    | .normal => ∃ n3, a' = ⟨#[.agg #[.int .i64 k, .int .i64 m, .int .i64 t, .float .f64 x, .slice a d.length c], .pointer (some ⟨w.heap.size, 0, none⟩), .pointer (some ⟨w.heap.size + 1, 0, none⟩), .pointer (some ⟨n3, 0, none⟩), .pointer (some ⟨w.heap.size, 0, none⟩), .int .i64 k, .int .i64 (k % 3), .int .i64 (1 + k % 3), .pointer (some ⟨w.heap.size, 1, none⟩), .int .i64 m, .int .i64 (m % 4096), .pointer (some ⟨w.heap.size, 2, none⟩), .int .i64 t, .pointer (some ⟨w.heap.size, 3, none⟩), .float .f64 x, .float .f64 (timeB t x), .float .f64 (plainB (timeB t x)), .agg #[.int .i64 (1 + k % 3), .int .i64 (m % 4096), .float .f64 (plainB (timeB t x)), .slice none 0 0], undef, undef, undef, undef, undef, undef, undef, undef, undef, undef, undef, undef, undef, undef, undef, undef, undef, undef, undef, undef, undef, undef, undef, undef, undef, undef, undef, undef, undef, undef, undef, undef, undef, undef, undef, undef], []⟩ ∧ w'.heap[n3]? = some (.cells #[.int .i64 (1 + k % 3), .int .i64 (m % 4096), .float .f64 (plainB (timeB t x)), .slice none 0 0] 57 (0, 0)) ∧ w1.heap.size ≤ n3 ∧ Kp (fun _ => False) w1 w'
    | _ => False) (fun e a' w' h => ?_) ?_
  case refine_2 =>
    go_region_held3 (fun w' => w'.cell? ⟨w.heap.size, 0, none⟩ = some (.int .i64 k) ∧ w'.cell? ⟨w.heap.size, 1, none⟩ = some (.int .i64 m) ∧ w'.cell? ⟨w.heap.size, 2, none⟩ = some (.int .i64 t) ∧ w'.cell? ⟨w.heap.size, 3, none⟩ = some (.float .f64 x)) (go_keep) (first
      | (go_at_call_of 15 (Value.int .i64 3); refine (pick_any k 3 _ (by decide) (by decide) hk1 hk2).mono ?_; rintro e w' ⟨rfl, rfl⟩)
      | (go_at_call_of 15 (Value.int .i64 4096); refine (pick_any m 4096 _ (by decide) (by decide) hm1 hm2).mono ?_; rintro e w' ⟨rfl, rfl⟩)
      | (go_at_call 23; refine (Time_any t x _ ht1 ht2).mono ?_; rintro e w5 ⟨rfl, hk5⟩; obtain ⟨z0, z1, z2, z3⟩ := HBX.out w5 (by first | exact ((Kp.refl _ w1).drew).trans hk5 | exact (((Kp.refl _ w1).alloc _).drew).trans hk5); (first | (have hN : w5.heap[w1.heap.size]? = some (.cells #[.int .i64 0, .int .i64 0, .float .f64 0, .slice none 0 0] 57 (0, 0)) := hk5.hp (show ((w1.alloc (.cells #[.int .i64 0, .int .i64 0, .float .f64 0, .slice none 0 0] 57)).drew).heap[w1.heap.size]? = some (.cells #[.int .i64 0, .int .i64 0, .float .f64 0, .slice none 0 0] 57 (0, 0)) from hp_new _ _) id; obtain ⟨⟨p0, p1, p2, p3⟩, ⟨l0, l1, l2, l3⟩, l4⟩ := cell_fr hN; have HN := Lib.hid hN; clear hN) | skip); have HK5 := Lib.hid hk5; clear hk5)
      | (go_at_call 71; refine (plainTime_any _ HXl.out _).mono ?_; rintro e w' ⟨rfl, rfl⟩))
    all_goals
      have kw : Kp (fun _ => False) w1 w5 := by first | exact ((Kp.refl _ w1).drew).trans HK5.out | exact (((Kp.refl _ w1).alloc _).drew).trans HK5.out
      first
        | (have hN := HN.out; exact ⟨w1.heap.size, rfl, set_f3 (set_f2 (set_f1 (set_f0 hN))), Nat.le_refl _, (((kw.setCell ⟨w1.heap.size, 0, none⟩ (.inr (Nat.le_refl _)) _).setCell ⟨w1.heap.size, 1, none⟩ (.inr (Nat.le_refl _)) _).setCell ⟨w1.heap.size, 2, none⟩ (.inr (Nat.le_refl _)) _).setCell ⟨w1.heap.size, 3, none⟩ (.inr (Nat.le_refl _)) _⟩)
        | exact ⟨w5.heap.size, rfl, hp_new w5 _, kw.size, kw.alloc _⟩
  case refine_1 =>
    cases e with
    | normal =>
      obtain ⟨n3, rfl, hn3, hn3l, hk3w⟩ := h
      have HN3 := Lib.hid hn3; have HL3 := Lib.hid hn3l; have HK3 := Lib.hid hk3w
      obtain ⟨q0, q1, q2, q3, q4⟩ := cell_fiv (hk3w.hp HB1.out id)
      obtain ⟨⟨p0, p1, p2, p3⟩, ⟨l0, l1, l2, l3⟩, lt3⟩ := cell_fr hn3
      have HR3 := Lib.hid (hk3w.hp HR1.out id)
      clear hn3 hn3l hk3w b0 b1 b2 b3 b4
      dsimp only
      have hkc : k % 3 = 0 ∨ k % 3 = 1 ∨ k % 3 = 2 := by omega
      clear hwr hk0 hk3
      rcases hkc with hk | hk | hk
      · have HN : Hid ((handNode k m t x d).bs = d.take 60) := by
          show _ = _
          unfold handNode
          simp [hk]
        rw [hk] at p0
        rw [hk]
        clear hk
        have HWW := Lib.hid (HK1.out.trans HK3.out)
        go_wp2_with fail
        refine (Few_any _ a c d 60 w' (HS.out.keep HWW.out (fun _ _ => id)) HLd.out (by decide)).mono ?_
        rintro e w7 ⟨v, rfl, hown, hk7⟩
        have hl60 : (d.take 60).length ≤ 60 := by simp; omega
        generalize d.take 60 = zs at *
        obtain ⟨ya, yc, hy, _, hyb⟩ := sl_of_owns hown
        have he := hy.eq
        subst he
        have HY := Lib.hid hy; have HYB := Lib.hid (show ∀ b, blk ya = some b → w'.heap.size ≤ b ∧ b < w7.heap.size from hyb)
        have hN7 := hk7.hp HN3.out id
        have hR7 := hk7.hp HR3.out id
        obtain ⟨⟨p0, p1, p2, p3⟩, ⟨l0, l1, l2, l3⟩, lt3⟩ := cell_fr hN7
        have HN8 := Lib.hid (set_f3 (v := .slice ya zs.length yc) hN7)
        have hn3r : w.heap.size + 1 ≠ n3 := by have := HL3.out; have := HSZ1.out; omega
        have HR8 := Lib.hid (hp_set hR7 ⟨n3, 3, none⟩ (.slice ya zs.length yc) hn3r)
        have HK8 := Lib.hid ((HWW.out.trans hk7).setCell ⟨n3, 3, none⟩ (.inr (by have := HL3.out; have := HSZ1.out; show w.heap.size ≤ n3; omega)) (.slice ya zs.length yc))
        obtain ⟨⟨s0, s1, s2, s3⟩, ⟨t0, t1, t2, t3⟩, lt4⟩ := cell_fr HR8.out
        obtain ⟨u0', u1', u2', u3'⟩ := cell_four HN8.out
        clear hown hy hyb hk7 hN7 hR7 q0 q1 q2 q3 q4
        go_wp2
        have HR9 := set_f3 (v := .slice ya zs.length yc) (set_f2 (v := .float .f64 (plainB (timeB t x))) (set_f1 (v := .int .i64 (m % 4096)) (set_f0 (v := .int .i64 (1 + k % 3)) HR8.out)))
        have hY9 := HY.out
        have kf : Kp (fun b => b = n3 ∨ b = w.heap.size + 1) w7 (((((w7.setCell ⟨n3, 3, none⟩ (.slice ya zs.length yc)).setCell ⟨w.heap.size + 1, 0, none⟩ (.int .i64 (1 + k % 3))).setCell ⟨w.heap.size + 1, 1, none⟩ (.int .i64 (m % 4096))).setCell ⟨w.heap.size + 1, 2, none⟩ (.float .f64 (plainB (timeB t x)))).setCell ⟨w.heap.size + 1, 3, none⟩ (.slice ya zs.length yc)) :=
          (((((Kp.refl _ w7).setCell ⟨n3, 3, none⟩ (.inl (.inl rfl)) _).setCell ⟨w.heap.size + 1, 0, none⟩ (.inl (.inr rfl)) _).setCell ⟨w.heap.size + 1, 1, none⟩ (.inl (.inr rfl)) _).setCell ⟨w.heap.size + 1, 2, none⟩ (.inl (.inr rfl)) _).setCell ⟨w.heap.size + 1, 3, none⟩ (.inl (.inr rfl)) _
        have kg := (((HK8.out.setCell ⟨w.heap.size + 1, 0, none⟩ (.inr (Nat.le_succ _)) (.int .i64 (1 + k % 3))).setCell ⟨w.heap.size + 1, 1, none⟩ (.inr (Nat.le_succ _)) (.int .i64 (m % 4096))).setCell ⟨w.heap.size + 1, 2, none⟩ (.inr (Nat.le_succ _)) (.float .f64 (plainB (timeB t x)))).setCell ⟨w.heap.size + 1, 3, none⟩ (.inr (Nat.le_succ _)) (.slice ya zs.length yc)
        generalize ((((w7.setCell ⟨n3, 3, none⟩ (.slice ya zs.length yc)).setCell ⟨w.heap.size + 1, 0, none⟩ (.int .i64 (1 + k % 3))).setCell ⟨w.heap.size + 1, 1, none⟩ (.int .i64 (m % 4096))).setCell ⟨w.heap.size + 1, 2, none⟩ (.float .f64 (plainB (timeB t x)))).setCell ⟨w.heap.size + 1, 3, none⟩ (.slice ya zs.length yc) = w9 at *
        obtain ⟨y0, y1, y2, y3⟩ := cell_four HR9
        refine bodyPost_ret (v := .agg #[.int .i64 (1 + k % 3), .int .i64 (m % 4096), .float .f64 (plainB (timeB t x)), .slice ya zs.length yc]) (by simp [results, Try.results47, go_sem, y0, y1, y2, y3]) rfl ?_
        refine ⟨ya, yc, by unfold nodeVal; rw [HN.out]; rfl, ⟨?_, plainB_lt HXl.out, ?_⟩, fun b hb => ?_, kg⟩
        · rw [HN.out]
          exact hY9.keep kf (fun b hb h => by
            have h1 := HYB.out b hb
            have h2 := HWW.out.size
            have h3 := hp_lt HN3.out
            have h4 := hp_lt HR3.out
            omega)
        · rw [HN.out]; omega
        · have h1 := HYB.out b hb
          have h2 := HWW.out.size
          omega
      · have HN : Hid ((handNode k m t x d).bs = []) := by
          show _ = _
          unfold handNode
          simp [hk]
        have HKD : Hid ((handNode k m t x d).kind = 2) := by
          show 1 + k % 3 = 2
          omega
        rw [hk] at p0
        rw [hk]
        clear hk
        have HKA := Lib.hid (HK1.out.trans HK3.out)
        have HRA := HR3
        have HSA := Lib.hid (Sl.nil w')
        have HYA : Hid (∀ b, blk none = some b → w.heap.size + 1 < b) := fun b hb => by cases hb
        have HNR := Lib.hid (show n3 ≠ w.heap.size + 1 by have := HL3.out; have := HSZ1.out; omega)
        have zs0 : ([] : List UInt8).length ≤ 20 := by decide
        obtain ⟨⟨s0, s1, s2, s3⟩, ⟨t0, t1, t2, t3⟩, lt4⟩ := cell_fr HR3.out
        go_wp2
        have HR9 := set_f3 (v := .slice none ([] : List UInt8).length 0) (set_f2 (v := .float .f64 (plainB (timeB t x))) (set_f1 (v := .int .i64 (m % 4096)) (set_f0 (v := .int .i64 2) HRA.out)))
        have hY9 := HSA.out
        have kf : Kp (fun b => b = w.heap.size + 1) w' ((((w'.setCell ⟨w.heap.size + 1, 0, none⟩ (.int .i64 2)).setCell ⟨w.heap.size + 1, 1, none⟩ (.int .i64 (m % 4096))).setCell ⟨w.heap.size + 1, 2, none⟩ (.float .f64 (plainB (timeB t x)))).setCell ⟨w.heap.size + 1, 3, none⟩ (.slice none ([] : List UInt8).length 0)) :=
          ((((Kp.refl (fun b => b = w.heap.size + 1) w').setCell ⟨w.heap.size + 1, 0, none⟩ (.inl rfl) _).setCell ⟨w.heap.size + 1, 1, none⟩ (.inl rfl) _).setCell ⟨w.heap.size + 1, 2, none⟩ (.inl rfl) _).setCell ⟨w.heap.size + 1, 3, none⟩ (.inl rfl) _
        have kg := (((HKA.out.setCell ⟨w.heap.size + 1, 0, none⟩ (.inr (Nat.le_succ _)) (.int .i64 2)).setCell ⟨w.heap.size + 1, 1, none⟩ (.inr (Nat.le_succ _)) (.int .i64 (m % 4096))).setCell ⟨w.heap.size + 1, 2, none⟩ (.inr (Nat.le_succ _)) (.float .f64 (plainB (timeB t x)))).setCell ⟨w.heap.size + 1, 3, none⟩ (.inr (Nat.le_succ _)) (.slice none ([] : List UInt8).length 0)
        generalize (((w'.setCell ⟨w.heap.size + 1, 0, none⟩ (.int .i64 2)).setCell ⟨w.heap.size + 1, 1, none⟩ (.int .i64 (m % 4096))).setCell ⟨w.heap.size + 1, 2, none⟩ (.float .f64 (plainB (timeB t x)))).setCell ⟨w.heap.size + 1, 3, none⟩ (.slice none ([] : List UInt8).length 0) = w9 at *
        obtain ⟨y0, y1, y2, y3⟩ := cell_four HR9
        refine bodyPost_ret (v := .agg #[.int .i64 2, .int .i64 (m % 4096), .float .f64 (plainB (timeB t x)), .slice none ([] : List UInt8).length 0]) (by simp [results, Try.results47, go_sem, y0, y1, y2, y3]) rfl ?_
        refine ⟨none, 0, by unfold nodeVal; rw [HN.out, HKD.out]; rfl, ⟨?_, plainB_lt HXl.out, ?_⟩, fun b hb => ?_, kg⟩
        · rw [HN.out]
          exact hY9.keep kf (fun b hb h => by
            have h1 := HYA.out b hb
            omega)
        · rw [HN.out]; omega
        · have h1 := HYA.out b hb
          omega
      · have HN0 : Hid ((handNode k m t x d).bs = linkB m) := by
          show _ = _
          unfold handNode
          simp [hk]
        rw [hk] at p0
        rw [hk]
        clear hk
        have HNR := Lib.hid (show n3 ≠ w.heap.size + 1 by have := HL3.out; have := HSZ1.out; omega)
        go_wp2_with fail
        refine (Path_any m w' hm1 hm2).mono ?_
        rintro e w'' ⟨rfl, rfl⟩
        have hpl := (pathB_len m).2
        have hpl1 := (pathB_len m).1
        unfold linkB at HN0
        generalize pathB m = bs at *
        obtain ⟨yc, w7, hcv, hsl7, hk7, hsz7⟩ := conv_bytes bs (by omega) w'
        have hN7 := hk7.hp HN3.out id
        obtain ⟨⟨p0, p1, p2, p3⟩, ⟨l0, l1, l2, l3⟩, lt3⟩ := cell_fr hN7
        have HNA := Lib.hid (set_f3 (v := .slice (some ⟨w'.heap.size, 0, none⟩) bs.length yc) hN7)
        have HRA := Lib.hid (hp_set (hk7.hp HR3.out id) ⟨n3, 3, none⟩ (.slice (some ⟨w'.heap.size, 0, none⟩) bs.length yc) (Ne.symm HNR.out))
        have HBA := Lib.hid (hp_set (hk7.hp (HK3.out.hp HB1.out id) id) ⟨n3, 3, none⟩ (.slice (some ⟨w'.heap.size, 0, none⟩) bs.length yc) (by have := HL3.out; have := HSZ1.out; show w.heap.size ≠ n3; omega))
        have HKA := Lib.hid (((HK1.out.trans HK3.out).trans hk7).setCell ⟨n3, 3, none⟩ (.inr (by have := HL3.out; have := HSZ1.out; show w.heap.size ≤ n3; omega)) (.slice (some ⟨w'.heap.size, 0, none⟩) bs.length yc))
        have HSA := Lib.hid (hsl7.keep ((Kp.refl (fun b => b = n3) w7).setCell ⟨n3, 3, none⟩ (.inl rfl) (.slice (some ⟨w'.heap.size, 0, none⟩) bs.length yc)) (fun b hb h => by have hb2 : w'.heap.size = b := (by simpa [blk] using hb); have h2 := hp_lt HN3.out; omega))
        have HYA := Lib.hid (show ∀ b, blk (some (⟨w'.heap.size, 0, none⟩ : Addr)) = some b → w.heap.size + 1 < b from fun b hb => by have hb2 : w'.heap.size = b := (by simpa [blk] using hb); have h2 := hp_lt HN3.out; have := HL3.out; have := HSZ1.out; omega)
        have hlen : bs.length ≤ 11 := hpl
        clear hsl7 hk7 hsz7 hN7 hpl q0 q1 q2 q3 q4
        obtain ⟨q0, q1, q2, q3, q4⟩ := cell_fiv HBA.out
        generalize hya : (some (⟨w'.heap.size, 0, none⟩ : Addr)) = ya at *
        clear hya
        generalize hwA : w7.setCell ⟨n3, 3, none⟩ (.slice ya bs.length yc) = wA at *
        have hszA : w7.heap.size = wA.heap.size := by rw [← hwA]; simp
        clear HK3 HN3 HR3 HB1 HR1 HK1
        by_cases h4 : m % 4 = 0
        case' pos =>
          have e4' : m.tmod 4 = 0 := Int.tmod_eq_zero_of_dvd (Int.dvd_of_emod_eq_zero h4)
          have e4 : (m.tmod 4 == 0) = true := by simp [e4']
          obtain ⟨ti, I⟩ := byteInfo
          have HO := Lib.hid (sl_mark wA #[.int .u8 46, .int .u8 46, .int .u8 47] 5 3 (3, 4) ([46, 46, 47] : List UInt8) rfl (by decide) rfl)
          have HSB := Lib.hid (HSA.out.keep ((Kp.refl (fun _ => False) wA).alloc (.cells #[.int .u8 46, .int .u8 46, .int .u8 47] 5 (3, 4))) (fun _ _ => id))
          have HNB := Lib.hid (hp_old HNA.out (.cells #[.int .u8 46, .int .u8 46, .int .u8 47] 5 (3, 4)))
          obtain ⟨⟨p0, p1, p2, p3⟩, ⟨l0, l1, l2, l3⟩, lt3⟩ := cell_fr HNB.out
          have hidc : (convert 27 27 (.slice (some ⟨wA.heap.size, 0, none⟩) 3 3)).run Try.prog (wA.alloc (.cells #[.int .u8 46, .int .u8 46, .int .u8 47] 5)) = .ok (.slice (some ⟨wA.heap.size, 0, none⟩) 3 3) (wA.alloc (.cells #[.int .u8 46, .int .u8 46, .int .u8 47] 5 (3, 4))) := Lib.run_convert_bytes_const wA 27 5 #[.int .u8 46, .int .u8 46, .int .u8 47] 3 3 Try.underlying27 Try.underlying5
          go_wp2_with (at_builtin; refine wpList_append_sl2 rfl I (.tmp 38) (.tmp 40) rfl (.slice (some ⟨wA.heap.size, 0, none⟩) 3 3) _ 3 ([46, 46, 47] : List UInt8) rfl HO.out (.slice ya bs.length yc) ya yc bs rfl HSB.out (by simp; omega) (by simp; omega) ?_)
          intro v' wC4 hown hgr
          obtain ⟨za, zc, hz, _, hzb⟩ := sl_of_owns (bs := [46, 46, 47] ++ bs) hown
          have he := hz.eq
          subst he
          have kC : Kp (fun _ => False) wA wC4 := ((Kp.refl (fun _ => False) wA).alloc _).grown hgr (fun b hb => by cases hb)
          have hNC := kC.hp HNA.out id
          have HNA' := Lib.hid (set_f3 (v := (.slice za ([46, 46, 47] ++ bs).length zc)) hNC)
          have HRA' := Lib.hid (hp_set (kC.hp HRA.out id) ⟨n3, 3, none⟩ (.slice za ([46, 46, 47] ++ bs).length zc) (Ne.symm HNR.out))
          have HBA' := Lib.hid (hp_set (kC.hp HBA.out id) ⟨n3, 3, none⟩ (.slice za ([46, 46, 47] ++ bs).length zc) (by have := HL3.out; have := HSZ1.out; show w.heap.size ≠ n3; omega))
          have HKA' := Lib.hid ((HKA.out.trans kC).setCell ⟨n3, 3, none⟩ (.inr (by have := HL3.out; have := HSZ1.out; show w.heap.size ≤ n3; omega)) (.slice za ([46, 46, 47] ++ bs).length zc))
          have HSA' := Lib.hid (hz.keep ((Kp.refl (fun b => b = n3) wC4).setCell ⟨n3, 3, none⟩ (.inl rfl) (.slice za ([46, 46, 47] ++ bs).length zc)) (fun b hb h => by have h1 := (hzb b hb).1; have h0 : wA.heap.size ≤ b := (by have h5 : wA.heap.size ≤ (wA.alloc (.cells #[.int .u8 46, .int .u8 46, .int .u8 47] 5 (3, 4))).heap.size := (by simp); omega); have h2 := hp_lt HNA.out; omega))
          have HYA' := Lib.hid (show ∀ b, blk za = some b → w.heap.size + 1 < b from fun b hb => by have h1 := (hzb b hb).1; have h0 : wA.heap.size ≤ b := (by have h5 : wA.heap.size ≤ (wA.alloc (.cells #[.int .u8 46, .int .u8 46, .int .u8 47] 5 (3, 4))).heap.size := (by simp); omega); have h2 := hp_lt HNA.out; have := HL3.out; have := HSZ1.out; omega)
          have hlen' : ([46, 46, 47] ++ bs).length ≤ 14 := by simp; omega
          have hone' : 1 ≤ ([46, 46, 47] ++ bs).length := by simp
          have HN4 : Hid ((handNode k m t x d).bs = (if m % 5 = 0 then [47] else []) ++ ([46, 46, 47] ++ bs)) := by
            show _ = _
            rw [HN0.out, if_pos h4]
          have hsz' : wC4.heap.size = (wC4.setCell ⟨n3, 3, none⟩ (.slice za ([46, 46, 47] ++ bs).length zc)).heap.size := by simp
          obtain ⟨⟨p0, p1, p2, p3⟩, ⟨l0, l1, l2, l3⟩, lt3⟩ := cell_fr hNC
          clear hown hgr hz hzb hNC kC HO HSB HNB HNA HRA HBA HKA HSA HYA hlen hidc HN0 hpl1
          generalize [46, 46, 47] ++ bs = bs2 at *
          generalize hwwD : wC4.setCell ⟨n3, 3, none⟩ (.slice za bs2.length zc) = wD at *
        case' neg =>
          have e4' : ¬ m.tmod 4 = 0 := fun e => h4 (Int.emod_eq_zero_of_dvd (Int.dvd_of_tmod_eq_zero e))
          have e4 : (m.tmod 4 == 0) = false := by simp [e4']
          have hlen' : bs.length ≤ 14 := by omega
          have hone' : 1 ≤ bs.length := hpl1
          have HN4 : Hid ((handNode k m t x d).bs = (if m % 5 = 0 then [47] else []) ++ bs) := by
            show _ = _
            rw [HN0.out, if_neg h4]
            rfl
          have HNA' := HNA; have HRA' := HRA; have HBA' := HBA; have HKA' := HKA; have HSA' := HSA; have HYA' := HYA
          clear HNA HRA HBA HKA HSA HYA hlen HN0 hpl1
          generalize ya = za at *
          generalize yc = zc at *
          generalize bs = bs2 at *
          generalize wA = wD at *
        all_goals
          have HNA := HNA'; have HRA := HRA'; have HBA := HBA'; have HKA := HKA'; have HSA := HSA'; have HYA := HYA'; have hlen := hlen'; have hpl1 := hone'
          clear hone' HNA' HRA' HBA' HKA' HSA' HYA' hlen'
          obtain ⟨q0, q1, q2, q3, q4⟩ := cell_fiv HBA.out
          by_cases h5 : m % 5 = 0
          case' pos =>
            have e5' : m.tmod 5 = 0 := Int.tmod_eq_zero_of_dvd (Int.dvd_of_emod_eq_zero h5)
            have e5 : (m.tmod 5 == 0) = true := by simp [e5']
            obtain ⟨ti, I⟩ := byteInfo
            have HO := Lib.hid (sl_mark wD #[.int .u8 47] 5 1 (1, 2) ([47] : List UInt8) rfl (by decide) rfl)
            have HSB := Lib.hid (HSA.out.keep ((Kp.refl (fun _ => False) wD).alloc (.cells #[.int .u8 47] 5 (1, 2))) (fun _ _ => id))
            have HNB := Lib.hid (hp_old HNA.out (.cells #[.int .u8 47] 5 (1, 2)))
            obtain ⟨⟨p0, p1, p2, p3⟩, ⟨l0, l1, l2, l3⟩, lt3⟩ := cell_fr HNB.out
            have hidc : (convert 27 27 (.slice (some ⟨wD.heap.size, 0, none⟩) 1 1)).run Try.prog (wD.alloc (.cells #[.int .u8 47] 5)) = .ok (.slice (some ⟨wD.heap.size, 0, none⟩) 1 1) (wD.alloc (.cells #[.int .u8 47] 5 (1, 2))) := Lib.run_convert_bytes_const wD 27 5 #[.int .u8 47] 1 1 Try.underlying27 Try.underlying5
            go_wp2_with (at_builtin; refine wpList_append_sl2 rfl I (.tmp 48) (.tmp 50) rfl (.slice (some ⟨wD.heap.size, 0, none⟩) 1 1) _ 1 ([47] : List UInt8) rfl HO.out (.slice za bs2.length zc) za zc bs2 rfl HSB.out (by simp; omega) (by simp; omega) ?_)
            intro v' wC5 hown hgr
            obtain ⟨xa, xc, hz, _, hzb⟩ := sl_of_owns (bs := [47] ++ bs2) hown
            have he := hz.eq
            subst he
            have kC : Kp (fun _ => False) wD wC5 := ((Kp.refl (fun _ => False) wD).alloc _).grown hgr (fun b hb => by cases hb)
            have hNC := kC.hp HNA.out id
            have HNA' := Lib.hid (set_f3 (v := (.slice xa ([47] ++ bs2).length xc)) hNC)
            have HRA' := Lib.hid (hp_set (kC.hp HRA.out id) ⟨n3, 3, none⟩ (.slice xa ([47] ++ bs2).length xc) (Ne.symm HNR.out))
            have HBA' := Lib.hid (hp_set (kC.hp HBA.out id) ⟨n3, 3, none⟩ (.slice xa ([47] ++ bs2).length xc) (by have := HL3.out; have := HSZ1.out; show w.heap.size ≠ n3; omega))
            have HKA' := Lib.hid ((HKA.out.trans kC).setCell ⟨n3, 3, none⟩ (.inr (by have := HL3.out; have := HSZ1.out; show w.heap.size ≤ n3; omega)) (.slice xa ([47] ++ bs2).length xc))
            have HSA' := Lib.hid (hz.keep ((Kp.refl (fun b => b = n3) wC5).setCell ⟨n3, 3, none⟩ (.inl rfl) (.slice xa ([47] ++ bs2).length xc)) (fun b hb h => by have h1 := (hzb b hb).1; have h0 : wD.heap.size ≤ b := (by have h5 : wD.heap.size ≤ (wD.alloc (.cells #[.int .u8 47] 5 (1, 2))).heap.size := (by simp); omega); have h2 := hp_lt HNA.out; omega))
            have HYA' := Lib.hid (show ∀ b, blk xa = some b → w.heap.size + 1 < b from fun b hb => by have h1 := (hzb b hb).1; have h0 : wD.heap.size ≤ b := (by have h5 : wD.heap.size ≤ (wD.alloc (.cells #[.int .u8 47] 5 (1, 2))).heap.size := (by simp); omega); have h2 := hp_lt HNA.out; have := HL3.out; have := HSZ1.out; omega)
            have hlen' : ([47] ++ bs2).length ≤ 15 := by simp; omega
            have hone' : 1 ≤ ([47] ++ bs2).length := by simp
            have HN : Hid ((handNode k m t x d).bs = ([47] ++ bs2)) := by
              show _ = _
              rw [HN4.out, if_pos h5]
            have hsz' : wC5.heap.size = (wC5.setCell ⟨n3, 3, none⟩ (.slice xa ([47] ++ bs2).length xc)).heap.size := by simp
            obtain ⟨⟨p0, p1, p2, p3⟩, ⟨l0, l1, l2, l3⟩, lt3⟩ := cell_fr hNC
            clear hown hgr hz hzb hNC kC HO HSB HNB HNA HRA HBA HKA HSA HYA hlen hidc HN4 hpl1
            generalize [47] ++ bs2 = bs3 at *
            generalize hwwE : wC5.setCell ⟨n3, 3, none⟩ (.slice xa bs3.length xc) = wE at *
          case' neg =>
            have e5' : ¬ m.tmod 5 = 0 := fun e => h5 (Int.emod_eq_zero_of_dvd (Int.dvd_of_tmod_eq_zero e))
            have e5 : (m.tmod 5 == 0) = false := by simp [e5']
            have hlen' : bs2.length ≤ 15 := by omega
            have hone' : 1 ≤ bs2.length := hpl1
            have HN : Hid ((handNode k m t x d).bs = bs2) := by
              show _ = _
              rw [HN4.out, if_neg h5]
              rfl
            have HNA' := HNA; have HRA' := HRA; have HBA' := HBA; have HKA' := HKA; have HSA' := HSA; have HYA' := HYA
            clear HNA HRA HBA HKA HSA HYA hlen HN4 hpl1
            generalize za = xa at *
            generalize zc = xc at *
            generalize bs2 = bs3 at *
            generalize wD = wE at *
          all_goals
            have HNA := HNA'; have HRA := HRA'; have HBA := HBA'; have HKA := HKA'; have HSA := HSA'; have HYA := HYA'; have hlen := hlen'; have hpl1 := hone'
            clear hone' HNA' HRA' HBA' HKA' HSA' HYA' hlen'
            obtain ⟨q0, q1, q2, q3, q4⟩ := cell_fiv HBA.out
            obtain ⟨⟨s0, s1, s2, s3⟩, ⟨t0, t1, t2, t3⟩, lt4⟩ := cell_fr HRA.out
            obtain ⟨u0', u1', u2', u3'⟩ := cell_four HNA.out
            go_wp2
            have HR9 := set_f3 (v := .slice xa bs3.length xc) (set_f2 (v := .float .f64 (plainB (timeB t x))) (set_f1 (v := .int .i64 (m % 4096)) (set_f0 (v := .int .i64 (1 + k % 3)) HRA.out)))
            have hY9 := HSA.out
            have kf : Kp (fun b => b = w.heap.size + 1) wE ((((wE.setCell ⟨w.heap.size + 1, 0, none⟩ (.int .i64 (1 + k % 3))).setCell ⟨w.heap.size + 1, 1, none⟩ (.int .i64 (m % 4096))).setCell ⟨w.heap.size + 1, 2, none⟩ (.float .f64 (plainB (timeB t x)))).setCell ⟨w.heap.size + 1, 3, none⟩ (.slice xa bs3.length xc)) :=
              ((((Kp.refl (fun b => b = w.heap.size + 1) wE).setCell ⟨w.heap.size + 1, 0, none⟩ (.inl rfl) _).setCell ⟨w.heap.size + 1, 1, none⟩ (.inl rfl) _).setCell ⟨w.heap.size + 1, 2, none⟩ (.inl rfl) _).setCell ⟨w.heap.size + 1, 3, none⟩ (.inl rfl) _
            have kg := (((HKA.out.setCell ⟨w.heap.size + 1, 0, none⟩ (.inr (Nat.le_succ _)) (.int .i64 (1 + k % 3))).setCell ⟨w.heap.size + 1, 1, none⟩ (.inr (Nat.le_succ _)) (.int .i64 (m % 4096))).setCell ⟨w.heap.size + 1, 2, none⟩ (.inr (Nat.le_succ _)) (.float .f64 (plainB (timeB t x)))).setCell ⟨w.heap.size + 1, 3, none⟩ (.inr (Nat.le_succ _)) (.slice xa bs3.length xc)
            generalize (((wE.setCell ⟨w.heap.size + 1, 0, none⟩ (.int .i64 (1 + k % 3))).setCell ⟨w.heap.size + 1, 1, none⟩ (.int .i64 (m % 4096))).setCell ⟨w.heap.size + 1, 2, none⟩ (.float .f64 (plainB (timeB t x)))).setCell ⟨w.heap.size + 1, 3, none⟩ (.slice xa bs3.length xc) = w9 at *
            obtain ⟨y0, y1, y2, y3⟩ := cell_four HR9
            refine bodyPost_ret (v := .agg #[.int .i64 (1 + k % 3), .int .i64 (m % 4096), .float .f64 (plainB (timeB t x)), .slice xa bs3.length xc]) (by simp [results, Try.results47, go_sem, y0, y1, y2, y3]) rfl ?_
            refine ⟨xa, xc, by unfold nodeVal; rw [HN.out]; rfl, ⟨?_, plainB_lt HXl.out, ?_⟩, fun b hb => ?_, kg⟩
            · rw [HN.out]
              exact hY9.keep kf (fun b hb h => by
                have h1 := HYA.out b hb
                omega)
            · rw [HN.out]; omega
            · have h1 := HYA.out b hb
              omega
    | _ => exact h.elim
end Go.Proofs.Ytgpidbdgodgefaa
