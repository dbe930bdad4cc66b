/- Trees in memory; the contract of the search by path. Conditions: as the theorems name them. -/
import Derived.Test.YtgpidbdgodgefaaDoorNames
import Derived.Test.YtgpidbdgodgefaaDoorShelf
import Derived.Test.YtgpidbdgodgefaaDoorBase
import Derived.Laws.BytesArg
import Derived.Lib.LazyBuf
namespace Go.Proofs.YtgpidbdgodgefaaDoor
open Go.RowKit

/-- An item: a path and a node. -/
structure ItemV where
  path : List UInt8
  kind : Int
  mode : Int
  time : Nat
  bs : List UInt8
/-- An item's cells. -/
structure ItemAt (w : World) (b off : Nat) (x : ItemV) (ad : Option Addr) (cp : Nat) : Prop where
  c0 : w.cell? ⟨b, off, none⟩ = some (.string ⟨x.path.toArray⟩)
  c1 : w.cell? ⟨b, off + 1, none⟩ = some (.int .i64 x.kind)
  c2 : w.cell? ⟨b, off + 2, none⟩ = some (.int .i64 x.mode)
  c3 : w.cell? ⟨b, off + 3, none⟩ = some (.float .f64 x.time)
  c4 : w.cell? ⟨b, off + 4, none⟩ = some (.slice ad x.bs.length cp)
  sl : Sl w (.slice ad x.bs.length cp) ad cp x.bs
  time : x.time < 18446744073709551616
  len : x.bs.length ≤ 140737488355328
theorem ItemAt.keep {w w' : World} {b off : Nat} {x : ItemV} {ad : Option Addr} {cp : Nat} (h : ItemAt w b off x ad cp) (k : Kp (fun _ => False) w w') : ItemAt w' b off x ad cp :=
  ⟨k.cell h.c0 id, k.cell h.c1 id, k.cell h.c2 id, k.cell h.c3 id, k.cell h.c4 id, h.sl.keep k (fun _ _ => id), h.time, h.len⟩
/-- A tree's items lie one behind the other. -/
def TreeAt (w : World) (a : Option Addr) (l : List ItemV) : Prop := ∀ i (h : i < l.length), ∃ b off ad cp, a = some ⟨b, off, none⟩ ∧ ItemAt w b (off + i * 5) l[i] ad cp
theorem TreeAt.keep {w w' : World} {a : Option Addr} {l : List ItemV} (h : TreeAt w a l) (k : Kp (fun _ => False) w w') : TreeAt w' a l := fun i hi => by
  obtain ⟨b, off, ad, cp, e, hx⟩ := h i hi
  exact ⟨b, off, ad, cp, e, hx.keep k⟩

/-- By halves. -/
def bsT (l : List ItemV) (s : List UInt8) : Nat → Nat → Nat → Nat
  | 0, i, _ => i
  | f + 1, i, j => if i < j then (if Lib.compareBytes (l.getD ((i + j) / 2) ⟨[], 0, 0, 0, []⟩).path s < 0 then bsT l s f ((i + j) / 2 + 1) j else bsT l s f i ((i + j) / 2)) else i
theorem bsT_done (l : List ItemV) (s : List UInt8) (f i j : Nat) (h : ¬ i < j) : bsT l s f i j = i := by
  cases f with
  | zero => rfl
  | succ f => rw [bsT, if_neg h]
def findI (l : List ItemV) (s : List UInt8) : Nat := bsT l s (l.length + 1) 0 l.length
def foundB (l : List ItemV) (s : List UInt8) : Bool := match l[findI l s]? with
  | some x => Lib.compareBytes x.path s == 0
  | none => false

set_option maxHeartbeats 1000000 in
theorem find1_any (x : ItemV) (ad : Option Addr) (cp : Nat) (s : List UInt8) (w : World) :
    Calls Tryd.prog 115 #[.agg #[.string ⟨x.path.toArray⟩, .int .i64 x.kind, .int .i64 x.mode, .float .f64 x.time, .slice ad x.bs.length cp], .string ⟨s.toArray⟩] w fun e w' => e = .returned (.int .i64 (Lib.compareBytes x.path s)) ∧ Kp (fun _ => False) w w' := by
  go_enter Tryd.func115, Tryd.ntmps115
  go_wp2_with fail
  refine ((Tryd.strings_Compare ⟨x.path.toArray⟩ ⟨s.toArray⟩ _).mono (fun _ _ h => (⟨h.1, h.2.symm⟩ : _ = Ending.returned (.int .i64 (Lib.compareBytes x.path s)) ∧ _))).mono ?_
  rintro e w' ⟨rfl, rfl⟩
  go_wp2
  go_ret
  exact ⟨rfl, (Kp.refl _ w).alloc _⟩

set_option maxHeartbeats 2000000 in
set_option maxRecDepth 100000 in
theorem find_any (a : Option Addr) (c : Nat) (l : List ItemV) (s : List UInt8) (w : World) (h : TreeAt w a l) (hl : l.length ≤ 4611686018427387903) :
    Calls Tryd.prog 114 #[.slice a l.length c, .string ⟨s.toArray⟩, .func (.func 115) #[] #[]] w fun e w' => e = .returned (.tuple #[.int .i64 (findI l s), .bool (foundB l s)]) ∧ Kp (fun _ => False) w w' := by
  go_enter Tryd.func114, Tryd.ntmps114
  have HT := Lib.hid h
  clear h
  go_wp2_with fail
  go_loopw [9, 10] (fun u v wr => ∃ i j f : Nat, u = .int .i64 i ∧ v = .int .i64 j ∧ i ≤ j ∧ j ≤ l.length ∧ j - i ≤ f ∧ Hid (bsT l s (f + 1) i j = findI l s) ∧ Hid (Kp (fun _ => False) w wr)) (fun u v _ => (intOf v).toNat - (intOf u).toNat)
  case atStart => exact ⟨0, l.length, l.length, rfl, rfl, Nat.zero_le _, Nat.le_refl _, Nat.le_refl _, Lib.hid rfl, Lib.hid (Kp.refl _ _)⟩
  case round =>
    obtain ⟨i, j, f, rfl, rfl, hij, hjl, hf, HB, HK⟩ := hrel
    by_cases hlt : i < j
    · have hm : (i + j) / 2 < l.length := by omega
      obtain ⟨b, off, ad, cp, rfl, hx⟩ := HT.out ((i + j) / 2) hm
      have hx2 := hx.keep HK.out
      have HF := Lib.hid (show (if Lib.compareBytes l[(i + j) / 2].path s < 0 then bsT l s f ((i + j) / 2 + 1) j else bsT l s f i ((i + j) / 2)) = findI l s from by
        rw [← HB.out, bsT, if_pos hlt]; simp only [List.getD_eq_getElem?_getD, List.getElem?_eq_getElem hm, Option.getD_some])
      obtain ⟨f', rfl⟩ : ∃ f', f = f' + 1 := ⟨f - 1, by omega⟩
      obtain ⟨d0, d1, d2, d3, d4, _, _, _⟩ := hx2
      clear hx
      go_wp2_with fail
      refine ((find1_any l[(i+j)/2] ad cp s _)).mono ?_
      rintro e w2 ⟨rfl, HK2⟩
      have HK3 := Lib.hid (HK.out.trans HK2)
      by_cases hc : Lib.compareBytes l[(i+j)/2].path s < 0
      · go_wp2_with fail
        refine ⟨⟨(i + j) / 2 + 1, j, f', by congr 1, rfl, by omega, hjl, by omega, Lib.hid ?_, HK3⟩, by simp only [intOf]; omega⟩
        have h5 := HF.out
        rw [if_pos hc] at h5
        exact h5
      · go_wp2_with fail
        refine ⟨⟨i, (i + j) / 2, f', rfl, by congr 1, by omega, by omega, by omega, Lib.hid ?_, HK3⟩, by simp only [intOf]; omega⟩
        have h5 := HF.out
        rw [if_neg (by omega)] at h5
        exact h5
    · have HF := Lib.hid (show i = findI l s from by rw [← HB.out, bsT_done l s _ i j hlt])
      have HZ := Lib.hid (show foundB l s = match l[i]? with | some x => Lib.compareBytes x.path s == 0 | none => false from by rw [foundB, ← HF.out])
      by_cases hlt2 : i < l.length
      · obtain ⟨b, off, ad, cp, rfl, hx⟩ := HT.out i hlt2
        have hx2 := hx.keep HK.out
        obtain ⟨d0, d1, d2, d3, d4, _, _, _⟩ := hx2
        clear hx
        go_wp2_with fail
        refine ((find1_any l[i] ad cp s _)).mono ?_
        rintro e w2 ⟨rfl, HK2⟩
        have HK3 := Lib.hid (HK.out.trans HK2)
        have hG := Lib.hid (show foundB l s = (Lib.compareBytes l[i].path s == 0) from by rw [HZ.out, List.getElem?_eq_getElem hlt2])
        by_cases hc : Lib.compareBytes l[i].path s = 0
        · go_wp2_with fail
          go_ret2
          refine ⟨?_, HK3.out⟩
          rw [← HF.out, hG.out, hc]; rfl
        · go_wp2_with fail
          go_ret2
          refine ⟨?_, HK3.out⟩
          rw [← HF.out, hG.out, beq_eq_false_iff_ne.2 hc]; rfl
      · have hG := Lib.hid (show foundB l s = false from by rw [HZ.out, List.getElem?_eq_none (by omega)])
        have hil : i = l.length := by omega
        go_wp2_with fail
        go_ret2
        refine ⟨?_, HK.out⟩
        rw [← HF.out, hG.out, hil]; rfl
end Go.Proofs.YtgpidbdgodgefaaDoor
/- Copies of nodes out of trees; the contracts of IsDir and Get. Conditions: as the theorems name them. -/
namespace Go.Proofs.YtgpidbdgodgefaaDoor
open Go.RowKit

theorem infoByte : (Tryd.prog.info? 5).map (fun i => (i.zero, i.size, i.bytes)) = some (some (.int .u8 0), 1, 1) := by kernel_rfl
theorem byteInfo : ∃ i, ByteInfo Tryd.prog 40 5 i := by
  obtain ⟨i, h1, h2, h3, h4⟩ := info_parts infoByte
  exact ⟨i, Tryd.underlying40, h1, h2, h3, h4⟩
theorem cell_four {w : World} {n : Nat} {a b c d : Value} {t : TypeId} (h : w.heap[n]? = some (.cells #[a, b, c, d] t (0, 0))) :
    w.cell? ⟨n, 0, none⟩ = some a ∧ w.cell? ⟨n, 1, none⟩ = some b ∧ w.cell? ⟨n, 2, none⟩ = some c ∧ w.cell? ⟨n, 3, none⟩ = some d :=
  ⟨by simp [World.cell?, h], by simp [World.cell?, h], by simp [World.cell?, h], by simp [World.cell?, h]⟩
theorem cell_fr {w : World} {n : Nat} {a b c d : Value} {t : TypeId} (h : w.heap[n]? = some (.cells #[a, b, c, d] t (0, 0))) :
    (w.cell? ⟨n, 0, none⟩ = some a ∧ w.cell? ⟨n, 1, none⟩ = some b ∧ w.cell? ⟨n, 2, none⟩ = some c ∧ w.cell? ⟨n, 3, none⟩ = some d) ∧
    (w.frozen? ⟨n, 0, none⟩ = false ∧ w.frozen? ⟨n, 1, none⟩ = false ∧ w.frozen? ⟨n, 2, none⟩ = false ∧ w.frozen? ⟨n, 3, none⟩ = false) ∧ n < w.heap.size :=
  ⟨cell_four h, ⟨by simp [World.frozen?, h], by simp [World.frozen?, h], by simp [World.frozen?, h], by simp [World.frozen?, h]⟩, hp_lt h⟩
theorem set_f0 {w : World} {n : Nat} {a b c d v : Value} {t : TypeId} (h : w.heap[n]? = some (.cells #[a, b, c, d] t (0, 0))) : (w.setCell ⟨n, 0, none⟩ v).heap[n]? = some (.cells #[v, b, c, d] t (0, 0)) := by
  simp only [World.setCell, Array.getElem?_modify, h]
  simp
theorem set_f1 {w : World} {n : Nat} {a b c d v : Value} {t : TypeId} (h : w.heap[n]? = some (.cells #[a, b, c, d] t (0, 0))) : (w.setCell ⟨n, 1, none⟩ v).heap[n]? = some (.cells #[a, v, c, d] t (0, 0)) := by
  simp only [World.setCell, Array.getElem?_modify, h]
  simp
theorem set_f2 {w : World} {n : Nat} {a b c d v : Value} {t : TypeId} (h : w.heap[n]? = some (.cells #[a, b, c, d] t (0, 0))) : (w.setCell ⟨n, 2, none⟩ v).heap[n]? = some (.cells #[a, b, v, d] t (0, 0)) := by
  simp only [World.setCell, Array.getElem?_modify, h]
  simp
theorem set_f3 {w : World} {n : Nat} {a b c d v : Value} {t : TypeId} (h : w.heap[n]? = some (.cells #[a, b, c, d] t (0, 0))) : (w.setCell ⟨n, 3, none⟩ v).heap[n]? = some (.cells #[a, b, c, v] t (0, 0)) := by
  simp only [World.setCell, Array.getElem?_modify, h]
  simp

/-- A node. -/
structure NodeV where
  kind : Int
  mode : Int
  time : Nat
  bs : List UInt8
def ItemV.node (x : ItemV) : NodeV := ⟨x.kind, x.mode, x.time, x.bs⟩
/-- The value of a node, its data at a with capacity c. -/
def nodeVal (n : NodeV) (a : Option Addr) (c : Nat) : Value := .agg #[.int .i64 n.kind, .int .i64 n.mode, .float .f64 n.time, .slice a n.bs.length c]
/-- Its data lies there. -/
structure NAt (w : World) (n : NodeV) (a : Option Addr) (c : Nat) : Prop where
  sl : Sl w (.slice a n.bs.length c) a c n.bs
  time : n.time < 18446744073709551616
  len : n.bs.length ≤ 140737488355328
theorem NAt.keep {w w' : World} {n : NodeV} {a : Option Addr} {c : Nat} {S : Nat → Prop} (h : NAt w n a c) (k : Kp S w w') (hn : ∀ b, blk a = some b → ¬ S b) : NAt w' n a c := ⟨h.sl.keep k hn, h.time, h.len⟩
theorem NAt.keepF {w w' : World} {n : NodeV} {a : Option Addr} {c : Nat} (h : NAt w n a c) (k : Kp (fun _ => False) w w') : NAt w' n a c := h.keep k (fun _ _ => id)
/-- A copy: a node of one's own. -/
def HandEnd (w : World) (n : NodeV) (e : Ending) (w' : World) : Prop :=
  ∃ a c, e = .returned (nodeVal n a c) ∧ NAt w' n a c ∧ (∀ b, blk a = some b → w.heap.size ≤ b) ∧ Kp (fun _ => False) w w'

/-- Bytes of one's own. -/
def CloneEnd (w : World) (bs : List UInt8) (e : Ending) (w' : World) : Prop :=
  ∃ a c, e = .returned (.slice a bs.length c) ∧ Sl w' (.slice a bs.length c) a c bs ∧ (∀ b, blk a = some b → w.heap.size ≤ b ∧ b < w'.heap.size) ∧ Kp (fun _ => False) w w'

set_option maxHeartbeats 400000 in
theorem Clone_any (a : Option Addr) (c : Nat) (bs : List UInt8) (w : World) (h : Sl w (.slice a bs.length c) a c bs) (hb : bs.length ≤ 140737488355328) :
    Calls Tryd.prog 116 #[.slice a bs.length c] w (CloneEnd w bs) := by
  cases a with
  | none =>
    have hc := h.nocap rfl
    have hl := h.le
    have : bs = [] := List.eq_nil_of_length_eq_zero (by omega)
    subst this
    subst hc
    clear h hb hl
    have heq := run_eql_slice_nil (P := Tryd.prog) w 40 5 none 0 0 Tryd.underlying40
    go_enter Tryd.func116, Tryd.ntmps116
    go_wp2
    go_ret
    exact ⟨none, 0, rfl, Sl.nil _, fun b hb => (by cases hb), Kp.refl _ _⟩
  | some ad =>
    obtain ⟨ti, I⟩ := byteInfo
    have h1 := owns_empty w w.heap.size 5 (Nat.le_refl _)
    have HO := Lib.hid h1; have HX := Lib.hid (h.keep ((Kp.refl (fun _ => False) w).alloc (.cells #[] 5)) (fun _ _ => id))
    clear h1 h
    have heq := run_eql_slice_nil (P := Tryd.prog) w 40 5 (some ad) bs.length c Tryd.underlying40
    go_enter Tryd.func116, Tryd.ntmps116
    go_wp2_with (at_builtin; refine wpList_append_sl rfl I w.heap.size (.tmp 5) (.tmp 6) rfl (.slice (some ⟨w.heap.size, 0, none⟩) 0 0) [] rfl HO.out (by simp) (.slice (some ad) bs.length c) (some ad) c bs rfl HX.out (by simpa using hb) ?_)
    intro v' w' hown' hgr hfr'
    obtain ⟨a', c', hs', _, hb'⟩ := sl_of_owns hown'
    have he := hs'.eq
    subst he
    have HE : Hid (CloneEnd w bs (.returned (.slice a' bs.length c')) w') := ⟨a', c', rfl, hs', hb', ((Kp.refl (fun _ => False) w).alloc _).grown hgr (fun k hk => by cases hk; exact .inr (Nat.le_refl _))⟩
    clear hown' hgr hfr' hs' hb' HO HX
    go_wp2
    go_ret
    exact HE.out

/-- A node's cells are laid. -/
theorem node_laid {w : World} {p : Nat} {a b c d : Value} {t : TypeId} (h : w.heap[p]? = some (.cells #[a, b, c, d] t (0, 0))) (n : NodeV) (ad : Option Addr) (cp : Nat) (S : Nat → Prop) (w0 : World) (hS : S p ∨ w0.heap.size ≤ p) (k : Kp S w0 w) :
    ((((w.setCell ⟨p, 0, none⟩ (.int .i64 n.kind)).setCell ⟨p, 1, none⟩ (.int .i64 n.mode)).setCell ⟨p, 2, none⟩ (.float .f64 n.time)).setCell ⟨p, 3, none⟩ (.slice ad n.bs.length cp)).heap[p]? = some (.cells #[.int .i64 n.kind, .int .i64 n.mode, .float .f64 n.time, .slice ad n.bs.length cp] t (0, 0)) ∧
    Kp S w0 ((((w.setCell ⟨p, 0, none⟩ (.int .i64 n.kind)).setCell ⟨p, 1, none⟩ (.int .i64 n.mode)).setCell ⟨p, 2, none⟩ (.float .f64 n.time)).setCell ⟨p, 3, none⟩ (.slice ad n.bs.length cp)) :=
  ⟨set_f3 (set_f2 (set_f1 (set_f0 h))), (((k.setCell ⟨p, 0, none⟩ hS _).setCell ⟨p, 1, none⟩ hS _).setCell ⟨p, 2, none⟩ hS _).setCell ⟨p, 3, none⟩ hS _⟩

set_option maxHeartbeats 1000000 in
theorem Copy_any (n : NodeV) (a : Option Addr) (c : Nat) (w : World) (h : NAt w n a c) :
    Calls Tryd.prog 101 #[nodeVal n a c] w (HandEnd w n) := by
  obtain ⟨k, m, t, bs⟩ := n
  have hl : bs.length ≤ 140737488355328 := h.len
  have htm : t < 18446744073709551616 := h.time
  have hsf : ∀ (a : Addr) (b : Nat) (m : Mode) (w : World), (store a (.float .f64 b) m).run Tryd.prog w = stored Tryd.prog w a (.float .f64 b) m := fun a b m w => run_store _ w a _ m rfl
  have k0 : Kp (fun _ => False) w ((w.alloc (.cells #[.int .i64 k, .int .i64 m, .float .f64 t, .slice a bs.length c] 42)).alloc (.cells #[.int .i64 0, .int .i64 0, .float .f64 0, .slice none 0 0] 42)) := ((Kp.refl _ w).alloc _).alloc _
  have HK := Lib.hid k0
  have HSZ := Lib.hid (show ((w.alloc (.cells #[.int .i64 k, .int .i64 m, .float .f64 t, .slice a bs.length c] 42)).alloc (.cells #[.int .i64 0, .int .i64 0, .float .f64 0, .slice none 0 0] 42)).heap.size = w.heap.size + 2 by simp)
  have HS := Lib.hid (h.keepF k0).sl
  have HA := Lib.hid (hp_old (hp_new w (.cells #[.int .i64 k, .int .i64 m, .float .f64 t, .slice a bs.length c] 42)) (.cells #[.int .i64 0, .int .i64 0, .float .f64 0, .slice none 0 0] 42))
  have HB := Lib.hid (hp_new' (w.alloc (.cells #[.int .i64 k, .int .i64 m, .float .f64 t, .slice a bs.length c] 42)) (.cells #[.int .i64 0, .int .i64 0, .float .f64 0, .slice none 0 0] 42) (n := w.heap.size + 1) (by simp))
  clear h k0
  unfold nodeVal
  dsimp only
  go_enter Tryd.func101, Tryd.ntmps101
  go_wp2_with fail
  generalize (w.alloc (.cells #[.int .i64 k, .int .i64 m, .float .f64 t, .slice a bs.length c] 42)).alloc (.cells #[.int .i64 0, .int .i64 0, .float .f64 0, .slice none 0 0] 42) = w1 at *
  obtain ⟨a0, a1, a2, a3⟩ := cell_four HA.out
  go_wp2_with fail
  refine (Clone_any a c bs _ HS.out hl).mono ?_
  rintro e w2 ⟨a', c', rfl, hs2, hb2, hk2⟩
  have hA2 := hk2.hp HA.out id
  obtain ⟨⟨p0, p1, p2, p3⟩, ⟨l0, l1, l2, l3⟩, lt3⟩ := cell_fr hA2
  have HA3 := Lib.hid (set_f3 (v := .slice a' bs.length c') hA2)
  have HB3 := Lib.hid (hp_set (hk2.hp HB.out id) ⟨w.heap.size, 3, none⟩ (.slice a' bs.length c') (by show w.heap.size + 1 ≠ w.heap.size; omega))
  have HS3 := Lib.hid (hs2.keep ((Kp.refl (fun b => b = w.heap.size) w2).setCell ⟨w.heap.size, 3, none⟩ (.inl rfl) (.slice a' bs.length c')) (fun b hb h => by have := (hb2 b hb).1; have := HSZ.out; omega))
  have HK3 := Lib.hid ((HK.out.trans hk2).setCell ⟨w.heap.size, 3, none⟩ (.inr (Nat.le_refl _)) (.slice a' bs.length c'))
  have HN := Lib.hid (show ∀ b, blk a' = some b → w.heap.size + 2 ≤ b from fun b hb => by have := (hb2 b hb).1; have := HSZ.out; omega)
  clear hA2 hs2 hb2 hk2 HA HB HS HK a0 a1 a2 a3
  obtain ⟨q0, q1, q2, q3⟩ := cell_four HA3.out
  obtain ⟨⟨s0, s1, s2, s3⟩, ⟨t0, t1, t2, t3⟩, lt4⟩ := cell_fr HB3.out
  go_wp2
  obtain ⟨hl4, hk4⟩ := node_laid HB3.out ⟨k, m, t, bs⟩ a' c' (fun _ => False) w (.inr (Nat.le_succ _)) HK3.out
  obtain ⟨_, hk5⟩ := node_laid HB3.out ⟨k, m, t, bs⟩ a' c' (fun b => b = w.heap.size + 1) _ (.inl rfl) (Kp.refl _ _)
  obtain ⟨y0, y1, y2, y3⟩ := cell_four hl4
  dsimp only at y0 y1 y2 y3
  refine bodyPost_ret (v := .agg #[.int .i64 k, .int .i64 m, .float .f64 t, .slice a' bs.length c']) (by simp [results, Tryd.results101, go_sem, y0, y1, y2, y3]) rfl ?_
  exact ⟨a', c', rfl, ⟨HS3.out.keep hk5 (fun b hb h => by have := HN.out b hb; omega), htm, hl⟩, fun b hb => by have := HN.out b hb; omega, hk4⟩

theorem nums_bytes (bs : List UInt8) : strOfNums (bs.map fun b => (b.toNat : Int)) = ⟨bs.toArray⟩ := by
  unfold strOfNums
  congr 2
  rw [List.map_map]
  refine (List.map_congr_left (g := id) fun b _ => ?_).trans (List.map_id bs)
  simp

theorem run_conv {w : World} {a : Option Addr} {c : Nat} {bs : List UInt8} (h : Sl w (.slice a bs.length c) a c bs) :
    (convert 40 9 (.slice a bs.length c)).run Tryd.prog w = .ok (.string ⟨bs.toArray⟩) w := by
  cases a with
  | none =>
    have h1 := h.nocap rfl
    have h2 := h.le
    have h3 : bs = [] := List.eq_nil_of_length_eq_zero (by omega)
    subst h3
    exact run_convert_bytes_nil w _ _ Tryd.underlying40 Tryd.underlying5 _ _ _ Tryd.underlying9
  | some ad =>
    by_cases hz : bs.length = 0
    · have h3 : bs = [] := List.eq_nil_of_length_eq_zero hz
      subst h3
      rw [run_convert_bytes_string w _ _ _ _ _ c Tryd.underlying40 Tryd.underlying5 Tryd.underlying9]
      show Sem.run _ (Conv.bytesToString (.slice (some ad) 0 c)) w = _
      rw [run_bytesToString w ad 0 c [] rfl]
      rfl
    · obtain ⟨b, off, e, _⟩ := h.seg 0 (by omega)
      cases e
      rw [← nums_bytes]
      refine run_convert_bytes_arg w _ _ Tryd.underlying40 Tryd.underlying5 b off _ c _ (by simp) (fun i hi => ?_) _ Tryd.underlying9
      obtain ⟨b', off', e', hc⟩ := h.seg i hi
      cases e'
      rw [hc]
      simp [byteV, List.getD, List.getElem?_eq_getElem hi]


set_option maxHeartbeats 1000000 in
theorem find_tree (a : Option Addr) (c : Nat) (l : List ItemV) (s : List UInt8) (w : World) (h : TreeAt w a l) (hl : l.length ≤ 4611686018427387903) :
    Calls Tryd.prog 100 #[.slice a l.length c, .string ⟨s.toArray⟩] w fun e w' => e = .returned (.tuple #[.int .i64 (findI l s), .bool (foundB l s)]) ∧ Kp (fun _ => False) w w' := by
  have HC := Lib.hid (find_any a c l s w h hl)
  clear h
  go_enter Tryd.func100, Tryd.ntmps100
  go_wp2_with fail
  refine HC.out.mono ?_
  rintro e w1 ⟨rfl, hk⟩
  have HK := Lib.hid hk
  clear hk HC
  go_wp2
  go_ret2
  exact ⟨rfl, HK.out⟩

theorem found_lt {l : List ItemV} {s : List UInt8} (h : foundB l s = true) : findI l s < l.length := by
  unfold foundB at h
  cases hx : l[findI l s]? with
  | none => rw [hx] at h; cases h
  | some x => exact (List.getElem?_eq_some_iff.1 hx).1
/-- Is it the root, or a directory? -/
def isDirT (l : List ItemV) (s : List UInt8) : Bool := s.isEmpty || (foundB l s && match l[findI l s]? with | some x => x.kind == 2 | none => false)
/-- The item of a path. -/
def getT (l : List ItemV) (s : List UInt8) : Option ItemV := if foundB l s && !s.isEmpty then l[findI l s]? else none

set_option maxHeartbeats 1000000 in
theorem isDir_any (a : Option Addr) (c : Nat) (l : List ItemV) (s : List UInt8) (w : World) (h : TreeAt w a l) (hl : l.length ≤ 4611686018427387903) :
    Calls Tryd.prog 82 #[.slice a l.length c, .string ⟨s.toArray⟩] w fun e w' => e = .returned (.bool (isDirT l s)) ∧ Kp (fun _ => False) w w' := by
  have HC := Lib.hid (find_tree a c l s w h hl)
  have HR := Lib.hid (show isDirT l s = (s.isEmpty || (foundB l s && match l[findI l s]? with | some x => x.kind == 2 | none => false)) from rfl)
  have HT := Lib.hid h
  clear h
  go_enter Tryd.func82, Tryd.ntmps82
  go_wp2_with fail
  refine HC.out.mono ?_
  rintro e w1 ⟨rfl, hk⟩
  have HK := Lib.hid hk
  clear hk HC
  cases he : s.isEmpty with
  | true =>
    go_wp2
    go_ret
    rw [HR.out, he]
    exact ⟨rfl, HK.out⟩
  | false =>
    cases hf : foundB l s with
    | false =>
      go_wp2
      go_ret
      rw [HR.out, he, hf]
      exact ⟨rfl, HK.out⟩
    | true =>
      have hlt := found_lt hf
      obtain ⟨b, off, ad, cp, rfl, hx⟩ := HT.out _ hlt
      have hx2 := hx.keep HK.out
      have c1 := hx2.c1
      have HR2 := Lib.hid (show isDirT l s = (l[findI l s].kind == 2) from by rw [HR.out, he, hf, List.getElem?_eq_getElem hlt]; rfl)
      clear hx hx2 HR
      generalize findI l s = i at *
      go_wp2
      all_goals
        go_ret
        rw [HR2.out]
        exact ⟨by simp_all, HK.out⟩

/-- What Get comes to. -/
def GetEnd (w : World) (o : Option ItemV) (e : Ending) (w' : World) : Prop :=
  ∃ (n : NodeV) (a : Option Addr) (c : Nat), e = .returned (.tuple #[nodeVal n a c, .bool o.isSome]) ∧ (∀ x, o = some x → n = x.node) ∧ NAt w' n a c ∧ (∀ b, blk a = some b → w.heap.size ≤ b) ∧ Kp (fun _ => False) w w'

set_option maxRecDepth 100000 in
set_option maxHeartbeats 2000000 in
theorem get_any (a : Option Addr) (c : Nat) (l : List ItemV) (s : List UInt8) (w : World) (h : TreeAt w a l) (hl : l.length ≤ 4611686018427387903) :
    Calls Tryd.prog 83 #[.slice a l.length c, .string ⟨s.toArray⟩] w (GetEnd w (getT l s)) := by
  have k0 : Kp (fun _ => False) w (w.alloc (.cells #[.int .i64 0, .int .i64 0, .float .f64 0, .slice none 0 0] 42)) := (Kp.refl _ w).alloc _
  have HC := Lib.hid (find_tree a c l s _ (h.keep k0) hl)
  have HR := Lib.hid (show getT l s = (if foundB l s && !s.isEmpty then l[findI l s]? else none) from rfl)
  have HT := Lib.hid (h.keep k0)
  have HN := Lib.hid (hp_new w (.cells #[.int .i64 0, .int .i64 0, .float .f64 0, .slice none 0 0] 42))
  have HK0 := Lib.hid k0
  clear h k0
  have hsf : ∀ (a : Addr) (b : Nat) (m : Mode) (w : World), (store a (.float .f64 b) m).run Tryd.prog w = stored Tryd.prog w a (.float .f64 b) m := fun a b m w => run_store _ w a _ m rfl
  go_enter Tryd.func83, Tryd.ntmps83
  go_wp2_with fail
  generalize w.alloc (.cells #[.int .i64 0, .int .i64 0, .float .f64 0, .slice none 0 0] 42) = w0 at *
  refine HC.out.mono ?_
  rintro e w1 ⟨rfl, hk⟩
  have HK := Lib.hid (HK0.out.trans hk)
  have hn1 := hk.hp HN.out id
  obtain ⟨⟨p0, p1, p2, p3⟩, ⟨l0, l1, l2, l3⟩, lt3⟩ := cell_fr hn1
  have HN1 := Lib.hid hn1
  have HT1 := Lib.hid (HT.out.keep hk)
  clear hk HC hn1 HT HK0 HN
  cases hf : foundB l s with
  | false =>
    have HG := Lib.hid (show getT l s = none from by rw [HR.out, hf]; rfl)
    clear HR
    go_wp2
    obtain ⟨hl4, hk4⟩ := node_laid HN1.out ⟨0, 0, 0, []⟩ none 0 (fun _ => False) w (.inr (Nat.le_refl _)) HK.out
    obtain ⟨y0, y1, y2, y3⟩ := cell_four hl4
    dsimp only [List.length_nil] at y0 y1 y2 y3 hk4
    refine bodyPost_ret (v := .tuple #[.agg #[.int .i64 0, .int .i64 0, .float .f64 0, .slice none 0 0], .bool false]) (by simp [results, Tryd.results83, go_sem, y0, y1, y2, y3]) rfl ?_
    rw [HG.out]
    exact ⟨⟨0, 0, 0, []⟩, none, 0, rfl, fun x h => (by cases h), ⟨Sl.nil _, by decide, by decide⟩, fun b h => (by cases h), hk4⟩
  | true =>
    cases he : s.isEmpty with
    | true =>
      have HG := Lib.hid (show getT l s = none from by rw [HR.out, hf, he]; rfl)
      clear HR
      go_wp2
      obtain ⟨hl4, hk4⟩ := node_laid HN1.out ⟨0, 0, 0, []⟩ none 0 (fun _ => False) w (.inr (Nat.le_refl _)) HK.out
      obtain ⟨y0, y1, y2, y3⟩ := cell_four hl4
      dsimp only [List.length_nil] at y0 y1 y2 y3 hk4
      refine bodyPost_ret (v := .tuple #[.agg #[.int .i64 0, .int .i64 0, .float .f64 0, .slice none 0 0], .bool false]) (by simp [results, Tryd.results83, go_sem, y0, y1, y2, y3]) rfl ?_
      rw [HG.out]
      exact ⟨⟨0, 0, 0, []⟩, none, 0, rfl, fun x h => (by cases h), ⟨Sl.nil _, by decide, by decide⟩, fun b h => (by cases h), hk4⟩
    | false =>
      have hlt := found_lt hf
      have HG := Lib.hid (show getT l s = some l[findI l s] from by rw [HR.out, hf, he, List.getElem?_eq_getElem hlt]; rfl)
      obtain ⟨b, off, ad, cp, rfl, hx⟩ := HT1.out _ hlt
      have HX := Lib.hid (show NAt w1 l[findI l s].node ad cp from ⟨hx.sl, hx.time, hx.len⟩)
      have c1 := hx.c1
      have c2 := hx.c2
      have c3 := hx.c3
      have c4 := hx.c4
      clear HR hx
      generalize findI l s = i at *
      have HCP := Lib.hid (Copy_any l[i].node ad cp w1 HX.out)
      rw [nodeVal] at HCP
      dsimp only [ItemV.node] at HCP
      go_wp2_with fail
      refine HCP.out.mono ?_
      rintro e w2 ⟨a', c', rfl, hn2, hb2, hk2⟩
      have HN2 := Lib.hid (hk2.hp HN1.out id)
      obtain ⟨⟨q0, q1, q2, q3⟩, ⟨s0, s1, s2, s3⟩, lt4⟩ := cell_fr HN2.out
      have HNN := Lib.hid hn2
      have HB2 := Lib.hid hb2
      have HK2 := Lib.hid (HK.out.trans hk2)
      clear HCP HX hn2 hb2 hk2 c1 c2 c3 c4 p0 p1 p2 p3 l0 l1 l2 l3
      rw [nodeVal]
      dsimp only
      go_wp2
      obtain ⟨hl4, hk4⟩ := node_laid HN2.out ⟨l[i].kind, l[i].mode, l[i].time, l[i].bs⟩ a' c' (fun _ => False) w (.inr (Nat.le_refl _)) HK2.out
      obtain ⟨_, hk5⟩ := node_laid HN2.out ⟨l[i].kind, l[i].mode, l[i].time, l[i].bs⟩ a' c' (fun b => b = w.heap.size) _ (.inl rfl) (Kp.refl _ _)
      obtain ⟨y0, y1, y2, y3⟩ := cell_four hl4
      dsimp only at y0 y1 y2 y3
      refine bodyPost_ret (v := .tuple #[.agg #[.int .i64 l[i].kind, .int .i64 l[i].mode, .float .f64 l[i].time, .slice a' l[i].bs.length c'], .bool true]) (by simp [results, Tryd.results83, go_sem, y0, y1, y2, y3]) rfl ?_
      rw [HG.out]
      exact ⟨l[i].node, a', c', rfl, fun x h => (by cases h; rfl), HNN.out.keep hk5 (fun b hb h => by have := HB2.out b hb; omega), fun b hb => by have := HB2.out b hb; omega, hk4⟩
end Go.Proofs.YtgpidbdgodgefaaDoor
/- Rows of strings; the contract of slices.Concat. Conditions: as the theorems name them. -/
namespace Go.Proofs.YtgpidbdgodgefaaDoor
open Go.RowKit

theorem strV_one : ∀ (bs : List (List UInt8)), ∀ u ∈ bs.map strV, u.oneCell' = true := by
  intro bs u hu
  obtain ⟨_, _, rfl⟩ := List.mem_map.1 hu
  rfl
/-- The strings bs lie from the address a on. -/
def SegS (w : World) (a : Option Addr) (bs : List (List UInt8)) : Prop :=
  ∀ i (h : i < bs.length), ∃ b off, a = some ⟨b, off, none⟩ ∧ w.cell? ⟨b, off + i, none⟩ = some (strV bs[i])
/-- A slice of strings. -/
structure Ss (w : World) (v : Value) (a : Option Addr) (c : Nat) (bs : List (List UInt8)) : Prop where
  eq : v = .slice a bs.length c
  le : bs.length ≤ c
  max : c ≤ maxLen
  nocap : a = none → c = 0
  seg : SegS w a bs

theorem SegS.keep {w w' : World} {a : Option Addr} {bs : List (List UInt8)} {S : Nat → Prop} (h : SegS w a bs) (k : Kp S w w') (hn : ∀ b, blk a = some b → ¬ S b) : SegS w' a bs := by
  intro i hi
  obtain ⟨b, off, rfl, hc⟩ := h i hi
  exact ⟨b, off, rfl, k.cell hc (hn b rfl)⟩
theorem Ss.keep {w w' : World} {v : Value} {a : Option Addr} {c : Nat} {bs : List (List UInt8)} {S : Nat → Prop} (h : Ss w v a c bs) (k : Kp S w w') (hn : ∀ b, blk a = some b → ¬ S b) : Ss w' v a c bs :=
  ⟨h.eq, h.le, h.max, h.nocap, h.seg.keep k hn⟩
theorem Ss.nil (w : World) : Ss w (.slice none 0 0) none 0 [] := ⟨rfl, Nat.le_refl _, Nat.zero_le _, fun _ => rfl, fun i h => absurd h (Nat.not_lt_zero i)⟩

/-- What a call owns reads as a slice. -/
theorem ss_of_owns {w : World} {base : Nat} {e : TypeId} {v : Value} {bs : List (List UInt8)} (h : w.ownsRow base e 1 v bs.length (bs.map strV)) : ∃ a c, Ss w v a c bs ∧ v.ownBlock = blk a ∧ ∀ k, blk a = some k → base ≤ k ∧ k < w.heap.size := by
  obtain ⟨h1, h2 | ⟨g, cap, cur, rfl, hg, hh, hl, hm, hs, ht⟩⟩ := h
  · obtain ⟨rfl, h0⟩ := h2
    have : bs = [] := List.eq_nil_of_length_eq_zero h0
    subst this
    exact ⟨none, 0, Ss.nil w, rfl, fun k hk => by cases hk⟩
  · refine ⟨some ⟨g, 0, none⟩, cap, ⟨rfl, hl, hm, fun h => (by cases h), fun i hi => ⟨g, 0, rfl, ?_⟩⟩, rfl, fun k hk => ?_⟩
    · have e : (bs.map strV)[i]? = some (strV bs[i]) := by simp [hi]
      rw [← ht, List.getElem?_take] at e
      simp only [Nat.mul_one, hi, if_true] at e
      simpa [World.cell?, hh] using e
    · cases hk
      exact ⟨hg, hp_lt hh⟩

/-- The row of the type of strings. -/
structure StrInfo (P : Program) (t e : TypeId) (i : TypeInfo) : Prop where
  sl : P.underlying t = some (.slice e)
  info : P.info? e = some i
  zero : i.zero = some (.string ByteArray.empty)
  size : i.size = 1
  bytes : i.bytes = 16

theorem SegS.cells {w : World} {a : Addr} {bs : List (List UInt8)} (h : SegS w (some a) bs) : ∀ j u, (bs.map strV)[j]? = some u → w.cell? (a.add j) = some u := by
  intro j u hj
  have hlt : j < bs.length := by
    have := (List.getElem?_eq_some_iff.1 hj).1
    simpa using this
  obtain ⟨b, off, e, hc⟩ := h j hlt
  cases e
  rw [Addr.add_lit, hc]
  simpa [hlt] using hj

theorem run_append_ss {P : Program} {w : World} {t e : TypeId} {i : TypeInfo} (I : StrInfo P t e i) (base : Nat) (ty : TypeId) (v : Value) (bs : List (List UInt8)) (hown : w.ownsRow base e 1 v bs.length (bs.map strV)) (hbase : base ≤ w.heap.size)
    (x : Value) (a : Option Addr) (c : Nat) (news : List (List UInt8)) (hx : Ss w x a c news) (hbytes : bs.length + news.length ≤ 1000000) :
    ∃ v' w', (Builtin.append_ #[t, t] ty #[v, x]).run P w = .ok v' w' ∧ w'.ownsRow base e 1 v' (bs ++ news).length ((bs ++ news).map strV) ∧ w.grownBy w' v.ownBlock ∧ Fresh w v.ownBlock v'.ownBlock := by
  have hmax : bs.length + news.length ≤ maxLen := by unfold maxLen; omega
  have hl : (news.map strV).length = news.length * 1 := by simp
  cases a with
  | none =>
    have hc := hx.nocap rfl
    have hle := hx.le
    have hn : news = [] := List.eq_nil_of_length_eq_zero (by omega)
    subst hn
    have := hx.eq
    subst hc
    subst this
    refine ⟨v, w, run_append_owned_none (P := P) w base t ty e i 1 I.sl I.info v bs.length _ hown, by simpa using hown, World.grownBy.refl _ _, .inl rfl⟩
  | some ad =>
    rw [hx.eq]
    have hnews := SegS.cells hx.seg
    have hlen : (bs ++ news).length = bs.length + news.length := List.length_append
    have hmap : (bs ++ news).map strV = bs.map strV ++ news.map strV := List.map_append
    rw [hlen, hmap]
    have hown' := hown
    obtain ⟨h1, ⟨rfl, h0⟩ | ⟨g, cap, cur, rfl, hg, hh, hle, hm, hs, ht⟩⟩ := hown
    · have hb0 : bs = [] := List.eq_nil_of_length_eq_zero h0
      subst hb0
      obtain ⟨v', w', r1, r2, r3, r4⟩ := run_append_own (P := P) w w.heap.size t ty e i (.string ByteArray.empty) 1 16 I.sl I.info I.zero I.size I.bytes rfl (by decide) (.slice none 0 0) 0 [] (World.ownsRow_nil w _ e 1) ad news.length c (news.map strV) hl hnews (strV_one news) (by simpa using hmax) (by omega) (Nat.le_refl _)
      have hw2 : w'.ownsRow base e 1 v' (0 + news.length) ([] ++ news.map strV) := by
        obtain ⟨q1, q2 | ⟨g, cap, cur, hv, hg, hr⟩⟩ := r2
        · exact ⟨q1, .inl q2⟩
        · exact ⟨q1, .inr ⟨g, cap, cur, hv, Nat.le_trans hbase hg, hr⟩⟩
      refine ⟨v', w', r1, hw2, r3, ?_⟩
      cases hb : v'.ownBlock with
      | none => exact .inl rfl
      | some k => exact .inr ⟨k, rfl, (World.ownsRow.lt r2 k hb).1⟩
    · by_cases hroom : bs.length + news.length ≤ cap
      · obtain ⟨w', r1, r2, r3⟩ := run_append_fits (P := P) w base t ty e i 1 I.sl I.info I.size g bs.length cap _ hown' ad news.length c (news.map strV) hl hnews (strV_one news) hroom
        exact ⟨_, w', r1, r2, r3, .inl rfl⟩
      · have holds : ∀ j u, (bs.map strV)[j]? = some u → w.cell? ((⟨g, 0, none⟩ : Addr).add j) = some u := by
          intro j u hj
          have hlt : j < bs.length := by
            have := (List.getElem?_eq_some_iff.1 hj).1
            simpa using this
          rw [Addr.add_lit, Nat.zero_add]
          rw [← ht, List.getElem?_take, if_pos (by omega)] at hj
          simpa [World.cell?, hh] using hj
        obtain ⟨v', w', r1, r2, r3⟩ := run_append_arg_grows (P := P) w t ty e i (.string ByteArray.empty) 1 16 I.sl I.info I.zero I.size I.bytes rfl (by decide) ⟨g, 0, none⟩ bs.length cap (bs.map strV) (by simp) holds ad news.length c (news.map strV) hl hnews (by omega) hmax (by omega)
        have hw2 : w'.ownsRow base e 1 v' (bs.length + news.length) (bs.map strV ++ news.map strV) := by
          obtain ⟨q1, q2 | ⟨g, cap, cur, hv, hg, hr⟩⟩ := r2
          · exact ⟨q1, .inl q2⟩
          · exact ⟨q1, .inr ⟨g, cap, cur, hv, Nat.le_trans hbase hg, hr⟩⟩
        refine ⟨v', w', r1, hw2, ⟨r3.os, r3.tape, r3.output, r3.size, fun k hk _ => r3.block k hk (by intro e; cases e)⟩, ?_⟩
        cases hb : v'.ownBlock with
        | none =>
          exfalso
          obtain ⟨q1, ⟨rfl, q2⟩ | ⟨g, cap, cur, rfl, _⟩⟩ := r2
          · omega
          · cases hb
        | some k => exact .inr ⟨k, rfl, (World.ownsRow.lt r2 k hb).1⟩

/-- As an operation. -/
theorem wp_append_ss {P : Program} {o : Oper} {a : Act} {w : World} {K : Act → World → Prop} {Q : Exit → Act → World → Prop} {t e : TypeId} {i : TypeInfo} (I : StrInfo P t e i) (base : Nat) (s x : Operand)
    (ho : o.op = .call { callee := .builtin .append, args := #[s, x], argTypes := #[t, t] })
    (v : Value) (bs : List (List UInt8)) (hs : a.eval s = v) (hown : w.ownsRow base e 1 v bs.length (bs.map strV)) (hbase : base ≤ w.heap.size)
    (xv : Value) (ao : Option Addr) (c : Nat) (news : List (List UInt8)) (hxv : a.eval x = xv) (hx : Ss w xv ao c news) (hbytes : bs.length + news.length ≤ 1000000)
    (h : ∀ v' w', w'.ownsRow base e 1 v' (bs ++ news).length ((bs ++ news).map strV) → w.grownBy w' v.ownBlock → Fresh w v.ownBlock v'.ownBlock → K (a.put o.dst v') w') : o.wp P a w K Q := by
  obtain ⟨v', w', hr, h2, h3, h4⟩ := run_append_ss (P := P) I base o.type v bs hown hbase xv ao c news hx hbytes
  unfold Oper.wp execOp
  simp only [ho, resolve, invoke, builtin, Sem.run_bind, Sem.run_pure, Result.andThen_ok, List.map_toArray, List.map_cons, List.map_nil, hs, hxv, hr]
  exact h v' w' h2 h3 h4

theorem wpList_append_ss {P : Program} {ops : Array Oper} {rest : List Oper} {o : Oper} {a : Act} {w : World} {Q : Exit → Act → World → Prop} {t e : TypeId} {i : TypeInfo} (hgd : o.guard = none) (I : StrInfo P t e i) (base : Nat) (s x : Operand)
    (ho : o.op = .call { callee := .builtin .append, args := #[s, x], argTypes := #[t, t] })
    (v : Value) (bs : List (List UInt8)) (hs : a.eval s = v) (hown : w.ownsRow base e 1 v bs.length (bs.map strV)) (hbase : base ≤ w.heap.size)
    (xv : Value) (ao : Option Addr) (c : Nat) (news : List (List UInt8)) (hxv : a.eval x = xv) (hx : Ss w xv ao c news) (hbytes : bs.length + news.length ≤ 1000000)
    (h : ∀ v' w', w'.ownsRow base e 1 v' (bs ++ news).length ((bs ++ news).map strV) → w.grownBy w' v.ownBlock → Fresh w v.ownBlock v'.ownBlock → wpList P ops Q rest (a.put o.dst v') w') : wpList P ops Q (o :: rest) a w :=
  wpList_plain hgd fun _ hK => wp_append_ss I base s x ho v bs hs hown hbase xv ao c news hxv hx hbytes fun v' w' a b c => hK _ _ (h v' w' a b c)

theorem strInfo : ∃ i, StrInfo Tryd.prog 28 9 i := by
  obtain ⟨i, h1, h2, h3, h4⟩ := info_parts infoStr
  exact ⟨i, Tryd.underlying28, h1, h2, h3, h4⟩

/-- What Concat comes to. -/
def ConcEnd (w : World) (l : List (List UInt8)) (e : Ending) (w' : World) : Prop :=
  ∃ v a c, e = .returned v ∧ Ss w' v a c l ∧ (∀ b, blk a = some b → w.heap.size ≤ b) ∧ Kp (fun _ => False) w w'

set_option maxHeartbeats 2000000 in
set_option maxRecDepth 100000 in
theorem concat_any (b : Nat) (a1 a2 : Option Addr) (c1 c2 : Nat) (l1 l2 : List (List UInt8)) (w : World) (hl : l1.length + l2.length ≤ 1000000)
    (h1 : w.cell? ⟨b, 0, none⟩ = some (.slice a1 l1.length c1)) (h2 : w.cell? ⟨b, 1, none⟩ = some (.slice a2 l2.length c2)) (s1 : Ss w (.slice a1 l1.length c1) a1 c1 l1) (s2 : Ss w (.slice a2 l2.length c2) a2 c2 l2) :
    Calls Tryd.prog 102 #[.slice (some ⟨b, 0, none⟩) 2 2] w (ConcEnd w (l1 ++ l2)) := by
  have H1 := Lib.hid s1
  have H2 := Lib.hid s2
  clear s1 s2
  have hg := grow_any (l1.length + l2.length) w hl
  have HG := Lib.hid hg
  clear hg
  obtain ⟨ti, I⟩ := strInfo
  go_enter Tryd.func102, Tryd.ntmps102
  go_wp2_with fail
  go_loopw [11, 3] (fun i z wr => ∃ k : Nat, i = .int .i64 k ∧ k ≤ 2 ∧ z = .int .i64 ((if k = 0 then 0 else if k = 1 then l1.length else l1.length + l2.length : Nat) : Int) ∧ w = wr) (fun i _ _ => 2 - (intOf i).toNat)
  case atStart => exact ⟨0, rfl, by omega, rfl, rfl⟩
  case round =>
    obtain ⟨k, rfl, hk, rfl, rfl⟩ := hrel
    have hk3 : k = 0 ∨ k = 1 ∨ k = 2 := by omega
    rcases hk3 with rfl | rfl | rfl
    · go_wp2_with fail
      exact ⟨⟨1, rfl, by omega, by simp, trivial⟩, by simp [intOf]⟩
    · go_wp2_with fail
      exact ⟨⟨2, rfl, by omega, by simp, trivial⟩, by simp [intOf]⟩
    · go_wp2_with fail
      rw [show ((l1.length : Int) + (l2.length : Int)) = ((l1.length + l2.length : Nat) : Int) from by omega]
      refine HG.out.mono ?_
      rintro e w1 ⟨v, rfl, ho, hk⟩
      have G1 := Lib.hid h1
      have G2 := Lib.hid h2
      have HO := Lib.hid ho
      have HK := Lib.hid hk
      clear ho hk h1 h2 HG
      go_wp2_with fail
      go_loopw [27, 6] (fun i z w2 => ∃ k : Nat, i = .int .i64 k ∧ k ≤ 2 ∧ Hid (w2.ownsRow w.heap.size 9 1 z (if k = 0 then [] else if k = 1 then l1 else l1 ++ l2).length ((if k = 0 then [] else if k = 1 then l1 else l1 ++ l2).map strV)) ∧ Hid (Kp (fun _ => False) w w2)) (fun i _ _ => 2 - (intOf i).toNat)
      case atStart => exact ⟨0, rfl, by omega, HO, HK⟩
      case round =>
        obtain ⟨k, rfl, hk, HO2, HK2⟩ := hrel
        have hk3 : k = 0 ∨ k = 1 ∨ k = 2 := by omega
        have hsz := HK2.out.size
        rcases hk3 with rfl | rfl | rfl
        · have hc := HK2.out.cell G1.out id
          have HS := Lib.hid (H1.out.keep HK2.out (fun _ _ => id))
          go_wp2_with (at_builtin; refine wpList_append_ss rfl I w.heap.size (.tmp 31) (.tmp 32) rfl _ [] rfl HO2.out hsz _ a1 c1 l1 rfl HS.out (by simp; omega) ?_)
          intro v' w' ho hg hf
          have HO3 := Lib.hid ho
          have HK3 := Lib.hid (HK2.out.grown hg (fun b hb => .inr (World.ownsRow.lt HO2.out b hb).1))
          clear ho hg hf hc
          go_wp2_with fail
          exact ⟨⟨1, rfl, by omega, HO3, HK3⟩, by simp [intOf]⟩
        · have hc := HK2.out.cell G2.out id
          have HS := Lib.hid (H2.out.keep HK2.out (fun _ _ => id))
          go_wp2_with (at_builtin; refine wpList_append_ss rfl I w.heap.size (.tmp 31) (.tmp 32) rfl _ l1 rfl HO2.out hsz _ a2 c2 l2 rfl HS.out (by omega) ?_)
          intro v' w' ho hg hf
          have HO3 := Lib.hid ho
          have HK3 := Lib.hid (HK2.out.grown hg (fun b hb => .inr (World.ownsRow.lt HO2.out b hb).1))
          clear ho hg hf hc
          go_wp2_with fail
          exact ⟨⟨2, rfl, by omega, Lib.hid (by have := HO3.out; simpa using this), HK3⟩, by simp [intOf]⟩
        · obtain ⟨a, c, hs, _, hfr⟩ := ss_of_owns HO2.out
          have HE := Lib.hid (show ConcEnd w (l1 ++ l2) _ _ from ⟨_, a, c, rfl, hs, fun b hb => (hfr b hb).1, HK2.out⟩)
          clear hs hfr
          go_wp2
          go_ret
          exact HE.out
end Go.Proofs.YtgpidbdgodgefaaDoor
