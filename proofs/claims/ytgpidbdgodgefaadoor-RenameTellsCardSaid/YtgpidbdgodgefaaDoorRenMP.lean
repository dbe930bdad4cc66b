/- Changes and pairs in memory. Conditions: as the theorems name them. -/
import Derived.Test.YtgpidbdgodgefaaDoorRenL
import Derived.Test.YtgpidbdgodgefaaDoorTreeMG
namespace Go.Proofs.YtgpidbdgodgefaaDoor
open Go.RowKit

/-! ### rows of structs, whatever they hold -/
theorem cells_atN {α : Type} (f : α → List Value) (n : Nat) (hf : ∀ x, (f x).length = n) : ∀ (l : List α) (i j : Nat) (hi : i < l.length), j < n → (l.flatMap f)[i * n + j]? = (f l[i])[j]?
  | y :: l, 0, j, _, hj => by
    rw [List.flatMap_cons, List.getElem?_append_left (by rw [hf]; omega)]
    simp
  | y :: l, i + 1, j, hi, hj => by
    rw [List.flatMap_cons, List.getElem?_append_right (by rw [hf, Nat.add_mul]; omega)]
    have e : (i + 1) * n + j - (f y).length = i * n + j := by rw [hf, Nat.add_mul]; omega
    rw [e]
    exact cells_atN f n hf l i j (by simpa using hi) hj
theorem row_cell {α : Type} (f : α → List Value) (n : Nat) (hf : ∀ x, (f x).length = n) {w : World} {b : Nat} {T : TypeId} {fz : Nat × Nat} {cs : Array Value} (l : List α) (h : w.heap[b]? = some (.cells cs T fz)) (hc : ∀ (i : Nat) (v : Value), (l.flatMap f)[i]? = some v → cs[i]? = some v)
    (i : Nat) (hi : i < l.length) (j : Nat) (hj : j < n) {v : Value} (hv : (f l[i])[j]? = some v) : w.cell? ⟨b, 0 + i * n + j, none⟩ = some v := by
  have := hc (i * n + j) v (by rw [cells_atN f n hf l i j hi hj]; exact hv)
  simpa [World.cell?, h] using this
theorem own_row {α : Type} (f : α → List Value) (n : Nat) {w : World} {base : Nat} {e : TypeId} {v : Value} {l : List α} (h : w.ownsRow base e n v l.length (l.flatMap f)) :
    ∃ a c, v = .slice a l.length c ∧ v.ownBlock = blk a ∧ (0 < l.length → ∃ g cs, a = some ⟨g, 0, none⟩ ∧ base ≤ g ∧ w.heap[g]? = some (.cells cs e (0, 0)) ∧ ∀ (i : Nat) (v : Value), (l.flatMap f)[i]? = some v → cs[i]? = some v) := by
  obtain ⟨h1, ⟨rfl, h0⟩ | ⟨g, cap, cur, rfl, hg, hh, hl, hm, hs, ht⟩⟩ := h
  · exact ⟨none, 0, by rw [h0], rfl, fun hp => by omega⟩
  · refine ⟨_, _, rfl, rfl, fun _ => ⟨g, _, rfl, hg, hh, fun i v hi => ?_⟩⟩
    rw [← ht, List.getElem?_take] at hi
    split at hi
    · simpa using hi
    · cases hi

/-! ### changes -/
/-- A change's cells. -/
structure ChgAt (w : World) (b off : Nat) (x : ChangeV) (oa : Option Addr) (oc : Nat) (na : Option Addr) (nc : Nat) : Prop where
  c0 : w.cell? ⟨b, off, none⟩ = some (.string ⟨x.path.toArray⟩)
  c1 : w.cell? ⟨b, off + 1, none⟩ = some (.int .i64 x.kind)
  c2 : w.cell? ⟨b, off + 2, none⟩ = some (.int .i64 x.old.kind)
  c3 : w.cell? ⟨b, off + 3, none⟩ = some (.int .i64 x.old.mode)
  c4 : w.cell? ⟨b, off + 4, none⟩ = some (.float .f64 x.old.time)
  c5 : w.cell? ⟨b, off + 5, none⟩ = some (.slice oa x.old.bs.length oc)
  c6 : w.cell? ⟨b, off + 6, none⟩ = some (.int .i64 x.new.kind)
  c7 : w.cell? ⟨b, off + 7, none⟩ = some (.int .i64 x.new.mode)
  c8 : w.cell? ⟨b, off + 8, none⟩ = some (.float .f64 x.new.time)
  c9 : w.cell? ⟨b, off + 9, none⟩ = some (.slice na x.new.bs.length nc)
  old : NAt w x.old oa oc
  new : NAt w x.new na nc
theorem ChgAt.keep {w w' : World} {b off : Nat} {x : ChangeV} {oa na : Option Addr} {oc nc : Nat} (h : ChgAt w b off x oa oc na nc) (k : Kp (fun _ => False) w w') : ChgAt w' b off x oa oc na nc :=
  ⟨k.cell h.c0 id, k.cell h.c1 id, k.cell h.c2 id, k.cell h.c3 id, k.cell h.c4 id, k.cell h.c5 id, k.cell h.c6 id, k.cell h.c7 id, k.cell h.c8 id, k.cell h.c9 id, h.old.keepF k, h.new.keepF k⟩
/-- Changes lie one behind the other. -/
def ChgsAt (w : World) (a : Option Addr) (l : List ChangeV) : Prop := ∀ i (h : i < l.length), ∃ b off oa oc na nc, a = some ⟨b, off, none⟩ ∧ ChgAt w b (off + i * 10) l[i] oa oc na nc
theorem ChgsAt.keep {w w' : World} {a : Option Addr} {l : List ChangeV} (h : ChgsAt w a l) (k : Kp (fun _ => False) w w') : ChgsAt w' a l := fun i hi => by
  obtain ⟨b, off, oa, oc, na, nc, e, hx⟩ := h i hi
  exact ⟨b, off, oa, oc, na, nc, e, hx.keep k⟩
/-- A change and where its data lies. -/
structure ChgP where
  x : ChangeV
  oa : Option Addr
  oc : Nat
  na : Option Addr
  nc : Nat
def ChgP.cells (y : ChgP) : List Value := [.string ⟨y.x.path.toArray⟩, .int .i64 y.x.kind, .int .i64 y.x.old.kind, .int .i64 y.x.old.mode, .float .f64 y.x.old.time, .slice y.oa y.x.old.bs.length y.oc, .int .i64 y.x.new.kind, .int .i64 y.x.new.mode, .float .f64 y.x.new.time, .slice y.na y.x.new.bs.length y.nc]
def ChgP.Ok (w : World) (y : ChgP) : Prop := NAt w y.x.old y.oa y.oc ∧ NAt w y.x.new y.na y.nc
theorem ChgP.Ok.keep {w w' : World} {y : ChgP} (h : y.Ok w) (k : Kp (fun _ => False) w w') : y.Ok w' := ⟨h.1.keepF k, h.2.keepF k⟩
/-- A block that holds changes. -/
theorem chgs_row {w : World} {b : Nat} {T : TypeId} {fz : Nat × Nat} {cs : Array Value} (l : List ChgP) (h : w.heap[b]? = some (.cells cs T fz)) (hc : ∀ (i : Nat) (v : Value), (l.flatMap ChgP.cells)[i]? = some v → cs[i]? = some v) (hs : ∀ y ∈ l, y.Ok w) :
    ChgsAt w (some ⟨b, 0, none⟩) (l.map (·.x)) := by
  intro i hi
  have hi2 : i < l.length := by simpa using hi
  have hok := hs l[i] (List.getElem_mem hi2)
  have hcell : ∀ j, j < 10 → ∀ v, (l[i].cells)[j]? = some v → w.cell? ⟨b, 0 + i * 10 + j, none⟩ = some v := fun j hj v hv => row_cell ChgP.cells 10 (fun _ => rfl) l h hc i hi2 j hj hv
  refine ⟨b, 0, l[i].oa, l[i].oc, l[i].na, l[i].nc, rfl, ?_⟩
  rw [List.getElem_map]
  exact ⟨hcell 0 (by decide) _ rfl, hcell 1 (by decide) _ rfl, hcell 2 (by decide) _ rfl, hcell 3 (by decide) _ rfl, hcell 4 (by decide) _ rfl, hcell 5 (by decide) _ rfl, hcell 6 (by decide) _ rfl, hcell 7 (by decide) _ rfl, hcell 8 (by decide) _ rfl, hcell 9 (by decide) _ rfl, hok.1, hok.2⟩

/-! ### pairs -/
def PairV.cells (x : PairV) : List Value := [.string ⟨x.fr.toArray⟩, .string ⟨x.dst.toArray⟩]
def PairsAt (w : World) (a : Option Addr) (l : List PairV) : Prop := ∀ i (h : i < l.length), ∃ b off, a = some ⟨b, off, none⟩ ∧ w.cell? ⟨b, off + i * 2, none⟩ = some (.string ⟨l[i].fr.toArray⟩) ∧ w.cell? ⟨b, off + i * 2 + 1, none⟩ = some (.string ⟨l[i].dst.toArray⟩)
theorem PairsAt.keep {w w' : World} {a : Option Addr} {l : List PairV} (h : PairsAt w a l) (k : Kp (fun _ => False) w w') : PairsAt w' a l := fun i hi => by
  obtain ⟨b, off, e, h1, h2⟩ := h i hi
  exact ⟨b, off, e, k.cell h1 id, k.cell h2 id⟩
/-- Pairs that a call has made. -/
def OwnP (w : World) (base : Nat) (v : Value) (l : List PairV) : Prop := w.ownsRow base 58 2 v l.length (l.flatMap PairV.cells)
theorem OwnP.nil (w : World) (base : Nat) : OwnP w base (.slice none 0 0) [] := World.ownsRow_nil w _ _ _
theorem OwnP.keep {w w' : World} {base : Nat} {v : Value} {l : List PairV} (h : OwnP w base v l) (k : Kp (fun _ => False) w w') : OwnP w' base v l := ownsN_keep h k (fun _ _ => id)
theorem OwnP.lt {w : World} {base : Nat} {v : Value} {l : List PairV} (h : OwnP w base v l) : ∀ k, v.ownBlock = some k → base ≤ k ∧ k < w.heap.size := World.ownsRow.lt h
theorem OwnP.pairs {w : World} {base : Nat} {v : Value} {l : List PairV} (h : OwnP w base v l) : ∃ a c, v = .slice a l.length c ∧ PairsAt w a l := by
  obtain ⟨a, c, e, _, hp⟩ := own_row PairV.cells 2 h
  refine ⟨a, c, e, fun i hi => ?_⟩
  obtain ⟨g, cs, rfl, _, hh, hc⟩ := hp (by omega)
  exact ⟨g, 0, rfl, row_cell PairV.cells 2 (fun _ => rfl) l hh hc i hi 0 (by decide) rfl, row_cell PairV.cells 2 (fun _ => rfl) l hh hc i hi 1 (by decide) rfl⟩
theorem infoPair : (Tryd.prog.info? 58).map (fun i => (i.zero, i.size, i.bytes)) = some (some (.agg #[.string ByteArray.empty, .string ByteArray.empty]), 2, 32) := by kernel_rfl
theorem pairInfo : ∃ i, RowInfo Tryd.prog 49 58 i (.agg #[.string ByteArray.empty, .string ByteArray.empty]) 2 32 := by
  obtain ⟨i, h1, h2, h3, h4⟩ := info_parts infoPair
  exact ⟨i, Tryd.underlying49, h1, h2, h3, h4, rfl, by decide⟩
/-- append of a pair onto pairs that the call makes. -/
theorem wpList_append_pair {ops : Array Oper} {rest : List Oper} {o : Oper} {a : Act} {w : World} {Q : Exit → Act → World → Prop} (hgd : o.guard = none) (base : Nat) (s x : Operand)
    (ho : o.op = .call { callee := .builtin .append, args := #[s, x], argTypes := #[49, 49] })
    (v : Value) (l : List PairV) (hs : a.eval s = v) (hown : OwnP w base v l) (hbase : base ≤ w.heap.size) (y : PairV)
    (g : Nat) (hx : a.eval x = .slice (some ⟨g, 0, none⟩) 1 1) (T : TypeId) (fz : Nat × Nat) (hg : w.heap[g]? = some (.cells y.cells.toArray T fz)) (hmax : l.length ≤ 1000000)
    (h : ∀ v' w', OwnP w' base v' (l ++ [y]) → Kp (fun b => v.ownBlock = some b) w w' → wpList Tryd.prog ops Q rest (a.put o.dst v') w') : wpList Tryd.prog ops Q (o :: rest) a w := by
  obtain ⟨i, I⟩ := pairInfo
  refine wpList_append_row (bytes := 32) hgd I base s x ho v l.length _ hs hown hbase g hx y.cells T fz hg rfl (fun u hu => ?_) hmax (by decide) fun v' w' h1 h2 h3 => ?_
  · simp only [PairV.cells, List.mem_cons, List.not_mem_nil, or_false] at hu
    rcases hu with rfl | rfl <;> rfl
  · refine h v' w' ?_ ((Kp.refl (fun b => v.ownBlock = some b) w).grown h2 fun k hk => .inl hk)
    unfold OwnP
    rw [List.length_append, List.flatMap_append, List.length_singleton, List.flatMap_singleton]
    exact h1

/-! ### what rises -/
theorem rise_adj {l : List ChangeV} : RiseC l ↔ ∀ j (h : j + 1 < l.length), l[j].path < l[j + 1].path := by
  constructor
  · exact fun h j hj => List.pairwise_iff_getElem.1 h j (j + 1) (by omega) hj (by omega)
  · intro h
    have key : ∀ d i (h1 : i + d + 1 < l.length), l[i].path < l[i + d + 1].path := by
      intro d
      induction d with
      | zero => exact fun i h1 => h i h1
      | succ d ih => exact fun i h1 => lt_tr (ih i (by omega)) (h (i + d + 1) h1)
    refine List.pairwise_iff_getElem.2 fun i j hi hj hij => ?_
    have := key (j - i - 1) i (by omega)
    simpa [show i + (j - i - 1) + 1 = j by omega] using this
def zeroB (n : NodeV) : Bool := n.kind == 0 && (n.mode == 0 && (n.time == 0 && n.bs.length == 0))
theorem zero_zeroN : zeroB zeroN = true := rfl
def kindD (a b : NodeV) (p q : Bool) : Int := if (p = false ∧ q = false) ∨ (p = true ∧ q = true ∧ sameN a b = true) then 0 else kindR a b p q
theorem kindR_both {a b : NodeV} : kindR a b true true = 3 ∨ kindR a b true true = 4 ∨ kindR a b true true = 5 := by
  unfold kindR
  by_cases h1 : a.kind = b.kind
  · by_cases h2 : a.bs = b.bs <;> simp [h1, h2]
  · simp [h1]
end Go.Proofs.YtgpidbdgodgefaaDoor
/- The contracts of taken and To of package rename. Conditions: as the theorems name them. -/
namespace Go.Proofs.YtgpidbdgodgefaaDoor
open Go.RowKit

theorem taken_take (l : List PairV) (p : List UInt8) (i : Nat) (hi : i < l.length) (h : takenL (l.take i) p = false) : takenL (l.take (i + 1)) p = (l[i].dst == p) := by
  unfold takenL at h ⊢
  rw [List.take_succ_eq_append_getElem hi, List.any_append, h]
  simp
theorem taken_more (l : List PairV) (p : List UInt8) (i : Nat) (hi : i < l.length) (h : l[i].dst = p) : takenL l p = true := taken_iff.2 ⟨l[i], List.getElem_mem hi, h⟩
theorem to_take (l : List PairV) (p : List UInt8) (i : Nat) (hi : i < l.length) (h : toL (l.take i) p = none) (hp : l[i].fr ≠ p) : toL (l.take (i + 1)) p = none := by
  unfold toL at h ⊢
  rw [List.take_succ_eq_append_getElem hi, List.find?_append]
  have h2 : (l.take i).find? (fun x => x.fr == p) = none := by simpa using h
  rw [h2]
  simp [hp]
theorem to_hit (l : List PairV) (p : List UInt8) (i : Nat) (hi : i < l.length) (h : toL (l.take i) p = none) (hp : l[i].fr = p) : toL l p = some l[i].dst := by
  unfold toL at h ⊢
  have h2 : (l.take i).find? (fun x => x.fr == p) = none := by simpa using h
  have e : l = l.take i ++ l[i] :: l.drop (i + 1) := by rw [← List.drop_eq_getElem_cons hi, List.take_append_drop]
  conv => lhs; arg 2; rw [e]
  rw [List.find?_append, h2, List.find?_cons]
  simp [hp]

set_option maxHeartbeats 1000000 in
theorem taken_any (a : Option Addr) (c : Nat) (l : List PairV) (p : List UInt8) (w : World) (h : PairsAt w a l) (hl : l.length ≤ 4611686018427387903) :
    Calls Tryd.prog 63 #[.slice a l.length c, .string ⟨p.toArray⟩] w fun e w' => e = .returned (.bool (takenL l p)) ∧ Kp (fun _ => False) w w' := by
  have HT := Lib.hid h
  clear h
  go_enter Tryd.func63, Tryd.ntmps63
  go_wp2_with fail
  go_loopw [9] (fun v wr => ∃ i : Nat, v = .int .i64 i ∧ i ≤ l.length ∧ Hid (takenL (l.take i) p = false) ∧ Hid (Kp (fun _ => False) w wr)) (fun v _ => l.length - (intOf v).toNat)
  case atStart => exact ⟨0, rfl, Nat.zero_le _, Lib.hid rfl, Lib.hid (Kp.refl _ _)⟩
  case round =>
    obtain ⟨i, rfl, hil, HL, HK⟩ := hrel
    by_cases hlt : i < l.length
    · obtain ⟨b, off, rfl, d0, d1⟩ := HT.out i hlt
      replace d0 := HK.out.cell d0 id
      replace d1 := HK.out.cell d1 id
      have HK1 := Lib.hid (HK.out.alloc (.cells #[.string ⟨l[i].fr.toArray⟩, .string ⟨l[i].dst.toArray⟩] 58))
      by_cases hp : l[i].dst = p
      · have HR := Lib.hid (taken_more l p i hlt hp)
        have hb : (l[i].dst == p) = true := by simpa using hp
        clear hp
        go_wp2
        go_ret
        rw [HR.out]
        exact ⟨rfl, HK1.out⟩
      · have hb : (l[i].dst == p) = false := by simpa using hp
        have HR := Lib.hid (show takenL (l.take (i + 1)) p = false from by rw [taken_take l p i hlt HL.out, hb])
        clear hp
        go_wp2
        exact ⟨⟨i + 1, by go_num, by omega, HR, HK1⟩, by simp only [intOf]; omega⟩
    · have HR := Lib.hid (show takenL l p = false from by have h5 := HL.out; rwa [List.take_of_length_le (by omega)] at h5)
      go_wp2
      go_ret
      rw [HR.out]
      exact ⟨rfl, HK.out⟩

set_option maxHeartbeats 1000000 in
theorem to_any (a : Option Addr) (c : Nat) (l : List PairV) (p : List UInt8) (w : World) (h : PairsAt w a l) (hl : l.length ≤ 4611686018427387903) :
    Calls Tryd.prog 42 #[.slice a l.length c, .string ⟨p.toArray⟩] w fun e w' => e = .returned (.tuple #[.string ⟨((toL l p).getD []).toArray⟩, .bool (toL l p).isSome]) ∧ Kp (fun _ => False) w w' := by
  have HT := Lib.hid h
  clear h
  go_enter Tryd.func42, Tryd.ntmps42
  go_wp2_with fail
  go_loopw [10] (fun v wr => ∃ i : Nat, v = .int .i64 i ∧ i ≤ l.length ∧ Hid (toL (l.take i) p = none) ∧ Hid (Kp (fun _ => False) w wr)) (fun v _ => l.length - (intOf v).toNat)
  case atStart => exact ⟨0, rfl, Nat.zero_le _, Lib.hid rfl, Lib.hid (Kp.refl _ _)⟩
  case round =>
    obtain ⟨i, rfl, hil, HL, HK⟩ := hrel
    by_cases hlt : i < l.length
    · obtain ⟨b, off, rfl, d0, d1⟩ := HT.out i hlt
      replace d0 := HK.out.cell d0 id
      replace d1 := HK.out.cell d1 id
      have HK1 := Lib.hid (HK.out.alloc (.cells #[.string ⟨l[i].fr.toArray⟩, .string ⟨l[i].dst.toArray⟩] 58))
      by_cases hp : l[i].fr = p
      · have HR := Lib.hid (to_hit l p i hlt HL.out hp)
        have hb : (l[i].fr == p) = true := by simpa using hp
        clear hp
        go_wp2
        refine bodyPost_ret (v := .tuple #[.string ⟨l[i].dst.toArray⟩, .bool true]) (by simp [results, Tryd.results42]) rfl ?_
        rw [HR.out]
        exact ⟨rfl, HK1.out⟩
      · have hb : (l[i].fr == p) = false := by simpa using hp
        have HR := Lib.hid (to_take l p i hlt HL.out hp)
        clear hp
        go_wp2
        exact ⟨⟨i + 1, by go_num, by omega, HR, HK1⟩, by simp only [intOf]; omega⟩
    · have HR := Lib.hid (show toL l p = none from by have h5 := HL.out; rwa [List.take_of_length_le (by omega)] at h5)
      go_wp2
      refine bodyPost_ret (v := .tuple #[.string ⟨#[]⟩, .bool false]) (by simp [results, Tryd.results42]) rfl ?_
      rw [HR.out]
      exact ⟨rfl, HK.out⟩
end Go.Proofs.YtgpidbdgodgefaaDoor
/- The contracts of diff's small functions. Conditions: as the theorems name them. -/
namespace Go.Proofs.YtgpidbdgodgefaaDoor
open Go.RowKit

set_option maxHeartbeats 1000000 in
theorem zero_any (n : NodeV) (a : Option Addr) (c : Nat) (w : World) :
    Calls Tryd.prog 103 #[nodeVal n a c] w fun e w' => e = .returned (.bool (zeroB n)) ∧ Kp (fun _ => False) w w' := by
  have hbits : ∀ (b : Nat) (w : World), (callFunc 109 #[.float .f64 b]).run Tryd.prog w = .ok (.value (.int .u64 b)) w := run_bits
  obtain ⟨k, m, t, bs⟩ := n
  have k0 : Kp (fun _ => False) w (w.alloc (.cells #[.int .i64 k, .int .i64 m, .float .f64 t, .slice a bs.length c] 42)) := (Kp.refl _ w).alloc _
  have HK := Lib.hid k0
  have HR := Lib.hid (show zeroB ⟨k, m, t, bs⟩ = (k == 0 && (m == 0 && (t == 0 && bs.length == 0))) from rfl)
  have htt : ((t : Int) == 0) = (t == 0) := by rw [Bool.eq_iff_iff]; simp
  have hbb : ((bs.length : Int) == 0) = (bs.length == 0) := by rw [Bool.eq_iff_iff]; simp
  clear k0
  unfold nodeVal
  dsimp only
  go_enter Tryd.func103, Tryd.ntmps103
  cases hk : (k == 0) with
  | false =>
    go_wp2
    go_ret
    rw [HR.out, hk]
    exact ⟨rfl, HK.out⟩
  | true =>
    cases hm : (m == 0) with
    | false =>
      go_wp2
      go_ret
      rw [HR.out, hk, hm]
      exact ⟨rfl, HK.out⟩
    | true =>
      cases ht : (t == 0) with
      | false =>
        rw [ht] at htt
        go_wp2
        go_ret
        rw [HR.out, hk, hm, ht]
        exact ⟨rfl, HK.out⟩
      | true =>
        rw [ht] at htt
        go_wp2
        go_ret
        rw [HR.out, hk, hm, ht]
        exact ⟨by simp, HK.out⟩

set_option maxHeartbeats 2000000 in
theorem kind_any (A B : NodeV) (a b : Option Addr) (c d : Nat) (p q : Bool) (w : World) (h1 : NAt w A a c) (h2 : NAt w B b d) :
    Calls Tryd.prog 105 #[nodeVal A a c, nodeVal B b d, .bool p, .bool q] w fun e w' => e = .returned (.int .i64 (kindD A B p q)) ∧ Kp (fun _ => False) w w' := by
  have HR := Lib.hid (show kindD A B p q = kindD A B p q from rfl)
  have hsm := fun w h1 h2 => nodeSame_any A B a b c d w h1 h2
  obtain ⟨ka, ma, ta, xs⟩ := A
  obtain ⟨kb, mb, tb, ys⟩ := B
  have k0 : Kp (fun _ => False) w ((w.alloc (.cells #[.int .i64 ka, .int .i64 ma, .float .f64 ta, .slice a xs.length c] 42)).alloc (.cells #[.int .i64 kb, .int .i64 mb, .float .f64 tb, .slice b ys.length d] 42)) := ((Kp.refl _ w).alloc _).alloc _
  have HK0 := Lib.hid k0
  have HA := Lib.hid (h1.keepF k0); have HB := Lib.hid (h2.keepF k0)
  have hA2 := Lib.hid (hp_old (hp_new w (.cells #[.int .i64 ka, .int .i64 ma, .float .f64 ta, .slice a xs.length c] 42)) (.cells #[.int .i64 kb, .int .i64 mb, .float .f64 tb, .slice b ys.length d] 42))
  have hB2 := Lib.hid (hp_new' (w.alloc (.cells #[.int .i64 ka, .int .i64 ma, .float .f64 ta, .slice a xs.length c] 42)) (.cells #[.int .i64 kb, .int .i64 mb, .float .f64 tb, .slice b ys.length d] 42) (n := w.heap.size + 1) (by simp))
  have HSM := Lib.hid hsm
  clear h1 h2 k0 hsm HR
  unfold nodeVal at *
  dsimp only at *
  go_enter Tryd.func105, Tryd.ntmps105
  cases p with
  | false =>
    cases q with
    | false =>
      go_wp2
      go_ret
      exact ⟨rfl, HK0.out⟩
    | true =>
      go_wp2
      go_ret
      exact ⟨rfl, HK0.out⟩
  | true =>
    cases q with
    | false =>
      go_wp2
      go_ret
      exact ⟨rfl, HK0.out⟩
    | true =>
      go_wp2_with fail
      refine (HSM.out _ HA.out HB.out).mono ?_
      rintro e w3 ⟨rfl, hk3⟩
      have HK3 := Lib.hid (HK0.out.trans hk3)
      have HA3 := Lib.hid (HA.out.keepF hk3).sl; have HB3 := Lib.hid (HB.out.keepF hk3).sl
      obtain ⟨a0, a1, a2, a3⟩ := cell_four (hk3.hp hA2.out id)
      obtain ⟨b0, b1, b2, b3⟩ := cell_four (hk3.hp hB2.out id)
      clear hk3 HK0 hA2 hB2 HA HB
      cases hs : sameN ⟨ka, ma, ta, xs⟩ ⟨kb, mb, tb, ys⟩ with
      | true =>
        have HE := Lib.hid (show kindD ⟨ka, ma, ta, xs⟩ ⟨kb, mb, tb, ys⟩ true true = 0 from if_pos (.inr ⟨rfl, rfl, hs⟩))
        go_wp2
        go_ret
        rw [HE.out]
        exact ⟨rfl, HK3.out⟩
      | false =>
        have HE := Lib.hid (show kindD ⟨ka, ma, ta, xs⟩ ⟨kb, mb, tb, ys⟩ true true = (if ka ≠ kb then 4 else if xs ≠ ys then 3 else 5) from by
          unfold kindD
          rw [if_neg (by simp [hs])]
          rfl)
        by_cases hk : ka = kb
        · have hkb : (ka != kb) = false := by simp [hk]
          go_wp2_with fail
          refine (equal_any a b c d xs ys w3 HA3.out HB3.out).mono ?_
          rintro e w' ⟨rfl, rfl⟩
          by_cases hx : xs = ys
          · have hxb : (xs == ys) = true := by simp [hx]
            go_wp2
            go_ret
            rw [HE.out, if_neg (fun h => h hk), if_neg (fun h => h hx)]
            exact ⟨rfl, HK3.out⟩
          · have hxb : (xs == ys) = false := by simp [hx]
            go_wp2
            go_ret
            rw [HE.out, if_neg (fun h => h hk), if_pos hx]
            exact ⟨rfl, HK3.out⟩
        · have hkb : (ka != kb) = true := by simp [hk]
          go_wp2
          go_ret
          rw [HE.out, if_pos hk]
          exact ⟨rfl, HK3.out⟩
end Go.Proofs.YtgpidbdgodgefaaDoor
