/- Copies of nodes out of trees; the contracts of IsDir and Get. Conditions: as the theorems name them. -/
import Derived.Test.YtgpidbdgodgefaaDoorTree0
import Derived.Test.YtgpidbdgodgefaaDoorApp
import Derived.Laws.BytesArg
import Derived.Lib.LazyBuf
namespace Go.Proofs.YtgpidbdgodgefaaDoor
open Go.RowKit

theorem infoByte : (Tryd.prog.info? 5).map (fun i => (i.zero, i.size, i.bytes)) = some (some (.int .u8 0), 1, 1) := by kernel_rfl
theorem byteInfo : ∃ i, ByteInfo Tryd.prog 40 5 i := by
  obtain ⟨i, h1, h2, h3, h4⟩ := info_parts infoByte
  exact ⟨i, Tryd.underlying40, h1, h2, h3, h4⟩
theorem cell_four {w : World} {n : Nat} {a b c d : Value} {t : TypeId} (h : w.heap[n]? = some (.cells #[a, b, c, d] t (0, 0))) :
    w.cell? ⟨n, 0, none⟩ = some a ∧ w.cell? ⟨n, 1, none⟩ = some b ∧ w.cell? ⟨n, 2, none⟩ = some c ∧ w.cell? ⟨n, 3, none⟩ = some d :=
  ⟨by simp [World.cell?, h], by simp [World.cell?, h], by simp [World.cell?, h], by simp [World.cell?, h]⟩
theorem cell_fr {w : World} {n : Nat} {a b c d : Value} {t : TypeId} (h : w.heap[n]? = some (.cells #[a, b, c, d] t (0, 0))) :
    (w.cell? ⟨n, 0, none⟩ = some a ∧ w.cell? ⟨n, 1, none⟩ = some b ∧ w.cell? ⟨n, 2, none⟩ = some c ∧ w.cell? ⟨n, 3, none⟩ = some d) ∧
    (w.frozen? ⟨n, 0, none⟩ = false ∧ w.frozen? ⟨n, 1, none⟩ = false ∧ w.frozen? ⟨n, 2, none⟩ = false ∧ w.frozen? ⟨n, 3, none⟩ = false) ∧ n < w.heap.size :=
  ⟨cell_four h, ⟨by simp [World.frozen?, h], by simp [World.frozen?, h], by simp [World.frozen?, h], by simp [World.frozen?, h]⟩, hp_lt h⟩
theorem set_f0 {w : World} {n : Nat} {a b c d v : Value} {t : TypeId} (h : w.heap[n]? = some (.cells #[a, b, c, d] t (0, 0))) : (w.setCell ⟨n, 0, none⟩ v).heap[n]? = some (.cells #[v, b, c, d] t (0, 0)) := by
  simp only [World.setCell, Array.getElem?_modify, h]
  simp
theorem set_f1 {w : World} {n : Nat} {a b c d v : Value} {t : TypeId} (h : w.heap[n]? = some (.cells #[a, b, c, d] t (0, 0))) : (w.setCell ⟨n, 1, none⟩ v).heap[n]? = some (.cells #[a, v, c, d] t (0, 0)) := by
  simp only [World.setCell, Array.getElem?_modify, h]
  simp
theorem set_f2 {w : World} {n : Nat} {a b c d v : Value} {t : TypeId} (h : w.heap[n]? = some (.cells #[a, b, c, d] t (0, 0))) : (w.setCell ⟨n, 2, none⟩ v).heap[n]? = some (.cells #[a, b, v, d] t (0, 0)) := by
  simp only [World.setCell, Array.getElem?_modify, h]
  simp
theorem set_f3 {w : World} {n : Nat} {a b c d v : Value} {t : TypeId} (h : w.heap[n]? = some (.cells #[a, b, c, d] t (0, 0))) : (w.setCell ⟨n, 3, none⟩ v).heap[n]? = some (.cells #[a, b, c, v] t (0, 0)) := by
  simp only [World.setCell, Array.getElem?_modify, h]
  simp

/-- A node. -/
structure NodeV where
  kind : Int
  mode : Int
  time : Nat
  bs : List UInt8
def ItemV.node (x : ItemV) : NodeV := ⟨x.kind, x.mode, x.time, x.bs⟩
/-- The value of a node, its data at a with capacity c. -/
def nodeVal (n : NodeV) (a : Option Addr) (c : Nat) : Value := .agg #[.int .i64 n.kind, .int .i64 n.mode, .float .f64 n.time, .slice a n.bs.length c]
/-- Its data lies there. -/
structure NAt (w : World) (n : NodeV) (a : Option Addr) (c : Nat) : Prop where
  sl : Sl w (.slice a n.bs.length c) a c n.bs
  time : n.time < 18446744073709551616
  len : n.bs.length ≤ 140737488355328
theorem NAt.keep {w w' : World} {n : NodeV} {a : Option Addr} {c : Nat} {S : Nat → Prop} (h : NAt w n a c) (k : Kp S w w') (hn : ∀ b, blk a = some b → ¬ S b) : NAt w' n a c := ⟨h.sl.keep k hn, h.time, h.len⟩
theorem NAt.keepF {w w' : World} {n : NodeV} {a : Option Addr} {c : Nat} (h : NAt w n a c) (k : Kp (fun _ => False) w w') : NAt w' n a c := h.keep k (fun _ _ => id)
/-- A copy: a node of one's own. -/
def HandEnd (w : World) (n : NodeV) (e : Ending) (w' : World) : Prop :=
  ∃ a c, e = .returned (nodeVal n a c) ∧ NAt w' n a c ∧ (∀ b, blk a = some b → w.heap.size ≤ b) ∧ Kp (fun _ => False) w w'

/-- Bytes of one's own. -/
def CloneEnd (w : World) (bs : List UInt8) (e : Ending) (w' : World) : Prop :=
  ∃ a c, e = .returned (.slice a bs.length c) ∧ Sl w' (.slice a bs.length c) a c bs ∧ (∀ b, blk a = some b → w.heap.size ≤ b ∧ b < w'.heap.size) ∧ Kp (fun _ => False) w w'

set_option maxHeartbeats 400000 in
theorem Clone_any (a : Option Addr) (c : Nat) (bs : List UInt8) (w : World) (h : Sl w (.slice a bs.length c) a c bs) (hb : bs.length ≤ 140737488355328) :
    Calls Tryd.prog 116 #[.slice a bs.length c] w (CloneEnd w bs) := by
  cases a with
  | none =>
    have hc := h.nocap rfl
    have hl := h.le
    have : bs = [] := List.eq_nil_of_length_eq_zero (by omega)
    subst this
    subst hc
    clear h hb hl
    have heq := run_eql_slice_nil (P := Tryd.prog) w 40 5 none 0 0 Tryd.underlying40
    go_enter Tryd.func116, Tryd.ntmps116
    go_wp2
    go_ret
    exact ⟨none, 0, rfl, Sl.nil _, fun b hb => (by cases hb), Kp.refl _ _⟩
  | some ad =>
    obtain ⟨ti, I⟩ := byteInfo
    have h1 := owns_empty w w.heap.size 5 (Nat.le_refl _)
    have HO := Lib.hid h1; have HX := Lib.hid (h.keep ((Kp.refl (fun _ => False) w).alloc (.cells #[] 5)) (fun _ _ => id))
    clear h1 h
    have heq := run_eql_slice_nil (P := Tryd.prog) w 40 5 (some ad) bs.length c Tryd.underlying40
    go_enter Tryd.func116, Tryd.ntmps116
    go_wp2_with (at_builtin; refine wpList_append_sl rfl I w.heap.size (.tmp 5) (.tmp 6) rfl (.slice (some ⟨w.heap.size, 0, none⟩) 0 0) [] rfl HO.out (by simp) (.slice (some ad) bs.length c) (some ad) c bs rfl HX.out (by simpa using hb) ?_)
    intro v' w' hown' hgr hfr'
    obtain ⟨a', c', hs', _, hb'⟩ := sl_of_owns hown'
    have he := hs'.eq
    subst he
    have HE : Hid (CloneEnd w bs (.returned (.slice a' bs.length c')) w') := ⟨a', c', rfl, hs', hb', ((Kp.refl (fun _ => False) w).alloc _).grown hgr (fun k hk => by cases hk; exact .inr (Nat.le_refl _))⟩
    clear hown' hgr hfr' hs' hb' HO HX
    go_wp2
    go_ret
    exact HE.out

/-- A node's cells are laid. -/
theorem node_laid {w : World} {p : Nat} {a b c d : Value} {t : TypeId} (h : w.heap[p]? = some (.cells #[a, b, c, d] t (0, 0))) (n : NodeV) (ad : Option Addr) (cp : Nat) (S : Nat → Prop) (w0 : World) (hS : S p ∨ w0.heap.size ≤ p) (k : Kp S w0 w) :
    ((((w.setCell ⟨p, 0, none⟩ (.int .i64 n.kind)).setCell ⟨p, 1, none⟩ (.int .i64 n.mode)).setCell ⟨p, 2, none⟩ (.float .f64 n.time)).setCell ⟨p, 3, none⟩ (.slice ad n.bs.length cp)).heap[p]? = some (.cells #[.int .i64 n.kind, .int .i64 n.mode, .float .f64 n.time, .slice ad n.bs.length cp] t (0, 0)) ∧
    Kp S w0 ((((w.setCell ⟨p, 0, none⟩ (.int .i64 n.kind)).setCell ⟨p, 1, none⟩ (.int .i64 n.mode)).setCell ⟨p, 2, none⟩ (.float .f64 n.time)).setCell ⟨p, 3, none⟩ (.slice ad n.bs.length cp)) :=
  ⟨set_f3 (set_f2 (set_f1 (set_f0 h))), (((k.setCell ⟨p, 0, none⟩ hS _).setCell ⟨p, 1, none⟩ hS _).setCell ⟨p, 2, none⟩ hS _).setCell ⟨p, 3, none⟩ hS _⟩

set_option maxHeartbeats 1000000 in
theorem Copy_any (n : NodeV) (a : Option Addr) (c : Nat) (w : World) (h : NAt w n a c) :
    Calls Tryd.prog 101 #[nodeVal n a c] w (HandEnd w n) := by
  obtain ⟨k, m, t, bs⟩ := n
  have hl : bs.length ≤ 140737488355328 := h.len
  have htm : t < 18446744073709551616 := h.time
  have hsf : ∀ (a : Addr) (b : Nat) (m : Mode) (w : World), (store a (.float .f64 b) m).run Tryd.prog w = stored Tryd.prog w a (.float .f64 b) m := fun a b m w => run_store _ w a _ m rfl
  have k0 : Kp (fun _ => False) w ((w.alloc (.cells #[.int .i64 k, .int .i64 m, .float .f64 t, .slice a bs.length c] 42)).alloc (.cells #[.int .i64 0, .int .i64 0, .float .f64 0, .slice none 0 0] 42)) := ((Kp.refl _ w).alloc _).alloc _
  have HK := Lib.hid k0
  have HSZ := Lib.hid (show ((w.alloc (.cells #[.int .i64 k, .int .i64 m, .float .f64 t, .slice a bs.length c] 42)).alloc (.cells #[.int .i64 0, .int .i64 0, .float .f64 0, .slice none 0 0] 42)).heap.size = w.heap.size + 2 by simp)
  have HS := Lib.hid (h.keepF k0).sl
  have HA := Lib.hid (hp_old (hp_new w (.cells #[.int .i64 k, .int .i64 m, .float .f64 t, .slice a bs.length c] 42)) (.cells #[.int .i64 0, .int .i64 0, .float .f64 0, .slice none 0 0] 42))
  have HB := Lib.hid (hp_new' (w.alloc (.cells #[.int .i64 k, .int .i64 m, .float .f64 t, .slice a bs.length c] 42)) (.cells #[.int .i64 0, .int .i64 0, .float .f64 0, .slice none 0 0] 42) (n := w.heap.size + 1) (by simp))
  clear h k0
  unfold nodeVal
  dsimp only
  go_enter Tryd.func101, Tryd.ntmps101
  go_wp2_with fail
  generalize (w.alloc (.cells #[.int .i64 k, .int .i64 m, .float .f64 t, .slice a bs.length c] 42)).alloc (.cells #[.int .i64 0, .int .i64 0, .float .f64 0, .slice none 0 0] 42) = w1 at *
  obtain ⟨a0, a1, a2, a3⟩ := cell_four HA.out
  go_wp2_with fail
  refine (Clone_any a c bs _ HS.out hl).mono ?_
  rintro e w2 ⟨a', c', rfl, hs2, hb2, hk2⟩
  have hA2 := hk2.hp HA.out id
  obtain ⟨⟨p0, p1, p2, p3⟩, ⟨l0, l1, l2, l3⟩, lt3⟩ := cell_fr hA2
  have HA3 := Lib.hid (set_f3 (v := .slice a' bs.length c') hA2)
  have HB3 := Lib.hid (hp_set (hk2.hp HB.out id) ⟨w.heap.size, 3, none⟩ (.slice a' bs.length c') (by show w.heap.size + 1 ≠ w.heap.size; omega))
  have HS3 := Lib.hid (hs2.keep ((Kp.refl (fun b => b = w.heap.size) w2).setCell ⟨w.heap.size, 3, none⟩ (.inl rfl) (.slice a' bs.length c')) (fun b hb h => by have := (hb2 b hb).1; have := HSZ.out; omega))
  have HK3 := Lib.hid ((HK.out.trans hk2).setCell ⟨w.heap.size, 3, none⟩ (.inr (Nat.le_refl _)) (.slice a' bs.length c'))
  have HN := Lib.hid (show ∀ b, blk a' = some b → w.heap.size + 2 ≤ b from fun b hb => by have := (hb2 b hb).1; have := HSZ.out; omega)
  clear hA2 hs2 hb2 hk2 HA HB HS HK a0 a1 a2 a3
  obtain ⟨q0, q1, q2, q3⟩ := cell_four HA3.out
  obtain ⟨⟨s0, s1, s2, s3⟩, ⟨t0, t1, t2, t3⟩, lt4⟩ := cell_fr HB3.out
  go_wp2
  obtain ⟨hl4, hk4⟩ := node_laid HB3.out ⟨k, m, t, bs⟩ a' c' (fun _ => False) w (.inr (Nat.le_succ _)) HK3.out
  obtain ⟨_, hk5⟩ := node_laid HB3.out ⟨k, m, t, bs⟩ a' c' (fun b => b = w.heap.size + 1) _ (.inl rfl) (Kp.refl _ _)
  obtain ⟨y0, y1, y2, y3⟩ := cell_four hl4
  dsimp only at y0 y1 y2 y3
  refine bodyPost_ret (v := .agg #[.int .i64 k, .int .i64 m, .float .f64 t, .slice a' bs.length c']) (by simp [results, Tryd.results101, go_sem, y0, y1, y2, y3]) rfl ?_
  exact ⟨a', c', rfl, ⟨HS3.out.keep hk5 (fun b hb h => by have := HN.out b hb; omega), htm, hl⟩, fun b hb => by have := HN.out b hb; omega, hk4⟩

theorem nums_bytes (bs : List UInt8) : strOfNums (bs.map fun b => (b.toNat : Int)) = ⟨bs.toArray⟩ := by
  unfold strOfNums
  congr 2
  rw [List.map_map]
  refine (List.map_congr_left (g := id) fun b _ => ?_).trans (List.map_id bs)
  simp

theorem run_conv {w : World} {a : Option Addr} {c : Nat} {bs : List UInt8} (h : Sl w (.slice a bs.length c) a c bs) :
    (convert 40 9 (.slice a bs.length c)).run Tryd.prog w = .ok (.string ⟨bs.toArray⟩) w := by
  cases a with
  | none =>
    have h1 := h.nocap rfl
    have h2 := h.le
    have h3 : bs = [] := List.eq_nil_of_length_eq_zero (by omega)
    subst h3
    exact run_convert_bytes_nil w _ _ Tryd.underlying40 Tryd.underlying5 _ _ _ Tryd.underlying9
  | some ad =>
    by_cases hz : bs.length = 0
    · have h3 : bs = [] := List.eq_nil_of_length_eq_zero hz
      subst h3
      rw [run_convert_bytes_string w _ _ _ _ _ c Tryd.underlying40 Tryd.underlying5 Tryd.underlying9]
      show Sem.run _ (Conv.bytesToString (.slice (some ad) 0 c)) w = _
      rw [run_bytesToString w ad 0 c [] rfl]
      rfl
    · obtain ⟨b, off, e, _⟩ := h.seg 0 (by omega)
      cases e
      rw [← nums_bytes]
      refine run_convert_bytes_arg w _ _ Tryd.underlying40 Tryd.underlying5 b off _ c _ (by simp) (fun i hi => ?_) _ Tryd.underlying9
      obtain ⟨b', off', e', hc⟩ := h.seg i hi
      cases e'
      rw [hc]
      simp [byteV, List.getD, List.getElem?_eq_getElem hi]


set_option maxHeartbeats 1000000 in
theorem find_tree (a : Option Addr) (c : Nat) (l : List ItemV) (s : List UInt8) (w : World) (h : TreeAt w a l) (hl : l.length ≤ 4611686018427387903) :
    Calls Tryd.prog 100 #[.slice a l.length c, .string ⟨s.toArray⟩] w fun e w' => e = .returned (.tuple #[.int .i64 (findI l s), .bool (foundB l s)]) ∧ Kp (fun _ => False) w w' := by
  have HC := Lib.hid (find_any a c l s w h hl)
  clear h
  go_enter Tryd.func100, Tryd.ntmps100
  go_wp2_with fail
  refine HC.out.mono ?_
  rintro e w1 ⟨rfl, hk⟩
  have HK := Lib.hid hk
  clear hk HC
  go_wp2
  go_ret2
  exact ⟨rfl, HK.out⟩

theorem found_lt {l : List ItemV} {s : List UInt8} (h : foundB l s = true) : findI l s < l.length := by
  unfold foundB at h
  cases hx : l[findI l s]? with
  | none => rw [hx] at h; cases h
  | some x => exact (List.getElem?_eq_some_iff.1 hx).1
/-- Is it the root, or a directory? -/
def isDirT (l : List ItemV) (s : List UInt8) : Bool := s.isEmpty || (foundB l s && match l[findI l s]? with | some x => x.kind == 2 | none => false)
/-- The item of a path. -/
def getT (l : List ItemV) (s : List UInt8) : Option ItemV := if foundB l s && !s.isEmpty then l[findI l s]? else none

set_option maxHeartbeats 1000000 in
theorem isDir_any (a : Option Addr) (c : Nat) (l : List ItemV) (s : List UInt8) (w : World) (h : TreeAt w a l) (hl : l.length ≤ 4611686018427387903) :
    Calls Tryd.prog 82 #[.slice a l.length c, .string ⟨s.toArray⟩] w fun e w' => e = .returned (.bool (isDirT l s)) ∧ Kp (fun _ => False) w w' := by
  have HC := Lib.hid (find_tree a c l s w h hl)
  have HR := Lib.hid (show isDirT l s = (s.isEmpty || (foundB l s && match l[findI l s]? with | some x => x.kind == 2 | none => false)) from rfl)
  have HT := Lib.hid h
  clear h
  go_enter Tryd.func82, Tryd.ntmps82
  go_wp2_with fail
  refine HC.out.mono ?_
  rintro e w1 ⟨rfl, hk⟩
  have HK := Lib.hid hk
  clear hk HC
  cases he : s.isEmpty with
  | true =>
    go_wp2
    go_ret
    rw [HR.out, he]
    exact ⟨rfl, HK.out⟩
  | false =>
    cases hf : foundB l s with
    | false =>
      go_wp2
      go_ret
      rw [HR.out, he, hf]
      exact ⟨rfl, HK.out⟩
    | true =>
      have hlt := found_lt hf
      obtain ⟨b, off, ad, cp, rfl, hx⟩ := HT.out _ hlt
      have hx2 := hx.keep HK.out
      have c1 := hx2.c1
      have HR2 := Lib.hid (show isDirT l s = (l[findI l s].kind == 2) from by rw [HR.out, he, hf, List.getElem?_eq_getElem hlt]; rfl)
      clear hx hx2 HR
      generalize findI l s = i at *
      go_wp2
      all_goals
        go_ret
        rw [HR2.out]
        exact ⟨by simp_all, HK.out⟩

/-- What Get comes to. -/
def GetEnd (w : World) (o : Option ItemV) (e : Ending) (w' : World) : Prop :=
  ∃ (n : NodeV) (a : Option Addr) (c : Nat), e = .returned (.tuple #[nodeVal n a c, .bool o.isSome]) ∧ (∀ x, o = some x → n = x.node) ∧ NAt w' n a c ∧ (∀ b, blk a = some b → w.heap.size ≤ b) ∧ Kp (fun _ => False) w w'

set_option maxRecDepth 100000 in
set_option maxHeartbeats 2000000 in
theorem get_any (a : Option Addr) (c : Nat) (l : List ItemV) (s : List UInt8) (w : World) (h : TreeAt w a l) (hl : l.length ≤ 4611686018427387903) :
    Calls Tryd.prog 83 #[.slice a l.length c, .string ⟨s.toArray⟩] w (GetEnd w (getT l s)) := by
  have k0 : Kp (fun _ => False) w (w.alloc (.cells #[.int .i64 0, .int .i64 0, .float .f64 0, .slice none 0 0] 42)) := (Kp.refl _ w).alloc _
  have HC := Lib.hid (find_tree a c l s _ (h.keep k0) hl)
  have HR := Lib.hid (show getT l s = (if foundB l s && !s.isEmpty then l[findI l s]? else none) from rfl)
  have HT := Lib.hid (h.keep k0)
  have HN := Lib.hid (hp_new w (.cells #[.int .i64 0, .int .i64 0, .float .f64 0, .slice none 0 0] 42))
  have HK0 := Lib.hid k0
  clear h k0
  have hsf : ∀ (a : Addr) (b : Nat) (m : Mode) (w : World), (store a (.float .f64 b) m).run Tryd.prog w = stored Tryd.prog w a (.float .f64 b) m := fun a b m w => run_store _ w a _ m rfl
  go_enter Tryd.func83, Tryd.ntmps83
  go_wp2_with fail
  generalize w.alloc (.cells #[.int .i64 0, .int .i64 0, .float .f64 0, .slice none 0 0] 42) = w0 at *
  refine HC.out.mono ?_
  rintro e w1 ⟨rfl, hk⟩
  have HK := Lib.hid (HK0.out.trans hk)
  have hn1 := hk.hp HN.out id
  obtain ⟨⟨p0, p1, p2, p3⟩, ⟨l0, l1, l2, l3⟩, lt3⟩ := cell_fr hn1
  have HN1 := Lib.hid hn1
  have HT1 := Lib.hid (HT.out.keep hk)
  clear hk HC hn1 HT HK0 HN
  cases hf : foundB l s with
  | false =>
    have HG := Lib.hid (show getT l s = none from by rw [HR.out, hf]; rfl)
    clear HR
    go_wp2
    obtain ⟨hl4, hk4⟩ := node_laid HN1.out ⟨0, 0, 0, []⟩ none 0 (fun _ => False) w (.inr (Nat.le_refl _)) HK.out
    obtain ⟨y0, y1, y2, y3⟩ := cell_four hl4
    dsimp only [List.length_nil] at y0 y1 y2 y3 hk4
    refine bodyPost_ret (v := .tuple #[.agg #[.int .i64 0, .int .i64 0, .float .f64 0, .slice none 0 0], .bool false]) (by simp [results, Tryd.results83, go_sem, y0, y1, y2, y3]) rfl ?_
    rw [HG.out]
    exact ⟨⟨0, 0, 0, []⟩, none, 0, rfl, fun x h => (by cases h), ⟨Sl.nil _, by decide, by decide⟩, fun b h => (by cases h), hk4⟩
  | true =>
    cases he : s.isEmpty with
    | true =>
      have HG := Lib.hid (show getT l s = none from by rw [HR.out, hf, he]; rfl)
      clear HR
      go_wp2
      obtain ⟨hl4, hk4⟩ := node_laid HN1.out ⟨0, 0, 0, []⟩ none 0 (fun _ => False) w (.inr (Nat.le_refl _)) HK.out
      obtain ⟨y0, y1, y2, y3⟩ := cell_four hl4
      dsimp only [List.length_nil] at y0 y1 y2 y3 hk4
      refine bodyPost_ret (v := .tuple #[.agg #[.int .i64 0, .int .i64 0, .float .f64 0, .slice none 0 0], .bool false]) (by simp [results, Tryd.results83, go_sem, y0, y1, y2, y3]) rfl ?_
      rw [HG.out]
      exact ⟨⟨0, 0, 0, []⟩, none, 0, rfl, fun x h => (by cases h), ⟨Sl.nil _, by decide, by decide⟩, fun b h => (by cases h), hk4⟩
    | false =>
      have hlt := found_lt hf
      have HG := Lib.hid (show getT l s = some l[findI l s] from by rw [HR.out, hf, he, List.getElem?_eq_getElem hlt]; rfl)
      obtain ⟨b, off, ad, cp, rfl, hx⟩ := HT1.out _ hlt
      have HX := Lib.hid (show NAt w1 l[findI l s].node ad cp from ⟨hx.sl, hx.time, hx.len⟩)
      have c1 := hx.c1
      have c2 := hx.c2
      have c3 := hx.c3
      have c4 := hx.c4
      clear HR hx
      generalize findI l s = i at *
      have HCP := Lib.hid (Copy_any l[i].node ad cp w1 HX.out)
      rw [nodeVal] at HCP
      dsimp only [ItemV.node] at HCP
      go_wp2_with fail
      refine HCP.out.mono ?_
      rintro e w2 ⟨a', c', rfl, hn2, hb2, hk2⟩
      have HN2 := Lib.hid (hk2.hp HN1.out id)
      obtain ⟨⟨q0, q1, q2, q3⟩, ⟨s0, s1, s2, s3⟩, lt4⟩ := cell_fr HN2.out
      have HNN := Lib.hid hn2
      have HB2 := Lib.hid hb2
      have HK2 := Lib.hid (HK.out.trans hk2)
      clear HCP HX hn2 hb2 hk2 c1 c2 c3 c4 p0 p1 p2 p3 l0 l1 l2 l3
      rw [nodeVal]
      dsimp only
      go_wp2
      obtain ⟨hl4, hk4⟩ := node_laid HN2.out ⟨l[i].kind, l[i].mode, l[i].time, l[i].bs⟩ a' c' (fun _ => False) w (.inr (Nat.le_refl _)) HK2.out
      obtain ⟨_, hk5⟩ := node_laid HN2.out ⟨l[i].kind, l[i].mode, l[i].time, l[i].bs⟩ a' c' (fun b => b = w.heap.size) _ (.inl rfl) (Kp.refl _ _)
      obtain ⟨y0, y1, y2, y3⟩ := cell_four hl4
      dsimp only at y0 y1 y2 y3
      refine bodyPost_ret (v := .tuple #[.agg #[.int .i64 l[i].kind, .int .i64 l[i].mode, .float .f64 l[i].time, .slice a' l[i].bs.length c'], .bool true]) (by simp [results, Tryd.results83, go_sem, y0, y1, y2, y3]) rfl ?_
      rw [HG.out]
      exact ⟨l[i].node, a', c', rfl, fun x h => (by cases h; rfl), HNN.out.keep hk5 (fun b hb h => by have := HB2.out b hb; omega), fun b hb => by have := HB2.out b hb; omega, hk4⟩
end Go.Proofs.YtgpidbdgodgefaaDoor
