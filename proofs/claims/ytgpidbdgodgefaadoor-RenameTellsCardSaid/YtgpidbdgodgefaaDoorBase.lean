/- Plain facts on worlds: frames, blocks of one cell, rows of bytes; a law that answers true meets its row. Whatever the program. Conditions: as the theorems name them. -/
import Derived.Test.YtgpidbdgodgefaaDoorChecked
import Derived.WalkKit
import Derived.WalkSpells
import Derived.WalkLawsBesides
import Derived.Laws.EntriesVeiled
import Derived.Lib.Hide
import Derived.LaidEql
import Derived.LaidEqlPtr
import Derived.ProofKit
import Derived.Deep.Grids
import Derived.Deep.RegionLaw
import Derived.BigQuiet
import Derived.SizedLaws
import Derived.Laws.Strings
namespace Go.Proofs.YtgpidbdgodgefaaDoor
open Go.RowKit Go.ChangeShapes Go.WideShapes Go.ChangeAt Go.Deep

/-- Kept: but for the blocks of S, what was there is as it was. -/
structure Kp (S : Nat → Prop) (w w' : World) : Prop where
  os : w'.os = w.os
  tape : w'.tape = w.tape
  output : w'.output = w.output
  size : w.heap.size ≤ w'.heap.size
  block : ∀ k, k < w.heap.size → ¬ S k → w'.heap[k]? = w.heap[k]?

theorem Kp.refl (S : Nat → Prop) (w : World) : Kp S w w := ⟨rfl, rfl, rfl, Nat.le_refl _, fun _ _ _ => rfl⟩
theorem Kp.trans {S : Nat → Prop} {a b c : World} (h : Kp S a b) (k : Kp S b c) : Kp S a c :=
  ⟨k.os.trans h.os, k.tape.trans h.tape, k.output.trans h.output, Nat.le_trans h.size k.size, fun i hi hs => (k.block i (Nat.lt_of_lt_of_le hi h.size) hs).trans (h.block i hi hs)⟩
theorem Kp.alloc {S : Nat → Prop} {a w : World} (h : Kp S a w) (o : Obj) : Kp S a (w.alloc o) :=
  ⟨h.os, h.tape, h.output, by have := h.size; simp; omega, fun k hk hs => by rw [Below.heap_alloc _ _ _ (Nat.lt_of_lt_of_le hk h.size)]; exact h.block k hk hs⟩
theorem Kp.setCell {S : Nat → Prop} {a w : World} (h : Kp S a w) (p : Addr) (hp : S p.block ∨ a.heap.size ≤ p.block) (u : Value) : Kp S a (w.setCell p u) :=
  ⟨h.os, h.tape, h.output, by have := h.size; simp [World.setCell]; omega, fun k hk hs => by
    rw [Below.heap_setCell _ _ _ _ (by rintro rfl; rcases hp with hp | hp; exact hs hp; omega)]; exact h.block k hk hs⟩
theorem Kp.mono {S S' : Nat → Prop} {a w : World} (h : Kp S a w) (hs : ∀ k, k < a.heap.size → S k → S' k) : Kp S' a w :=
  ⟨h.os, h.tape, h.output, h.size, fun k hk hn => h.block k hk fun h' => hn (hs k hk h')⟩
/-- What an inner call turns may be new here. -/
theorem Kp.step {S S' : Nat → Prop} {a b c : World} (h : Kp S a b) (k : Kp S' b c) (hs : ∀ i, i < a.heap.size → S' i → S i) : Kp S a c :=
  ⟨k.os.trans h.os, k.tape.trans h.tape, k.output.trans h.output, Nat.le_trans h.size k.size, fun i hi hn => (k.block i (Nat.lt_of_lt_of_le hi h.size) fun h' => hn (hs i hi h')).trans (h.block i hi hn)⟩
theorem Kp.below {a w : World} (h : Kp (fun _ => False) a w) : Below a.heap.size a w := ⟨h.os, h.tape, h.output, h.size, fun k hk => h.block k hk id⟩
theorem Kp.drewN {S : Nat → Prop} {a w : World} (h : Kp S a w) (n : Nat) : Kp S a (w.drewN n) := ⟨h.os, h.tape, h.output, h.size, h.block⟩
theorem Kp.drew {S : Nat → Prop} {a w : World} (h : Kp S a w) : Kp S a w.drew := ⟨h.os, h.tape, h.output, h.size, h.block⟩
theorem Kp.grown {S : Nat → Prop} {a w w' : World} {row : Option Nat} (h : Kp S a w) (g : w.grownBy w' row) (hr : ∀ k, row = some k → S k ∨ a.heap.size ≤ k) : Kp S a w' :=
  ⟨g.os.trans h.os, g.tape.trans h.tape, g.output.trans h.output, Nat.le_trans h.size g.size, fun k hk hn =>
    (g.block k (Nat.lt_of_lt_of_le hk h.size) (fun e => by rcases hr k e.symm with h' | h'; exact hn h'; omega)).trans (h.block k hk hn)⟩
/-- A cell of a block that is kept. -/
theorem Kp.cell {S : Nat → Prop} {a w : World} (h : Kp S a w) {p : Addr} {v : Value} (hc : a.cell? p = some v) (hn : ¬ S p.block) : w.cell? p = some v := by
  rw [World.cell?_of_block (h.block _ (World.block_lt_of_cell? _ _ hc) hn)]; exact hc

theorem hp_lt {w : World} {n : Nat} {o : Obj} (h : w.heap[n]? = some o) : n < w.heap.size := by
  by_cases hl : n < w.heap.size
  · exact hl
  · rw [Array.getElem?_eq_none (by omega)] at h; cases h
theorem hp_new (w : World) (o : Obj) : (w.alloc o).heap[w.heap.size]? = some o := by
  show (w.heap.push o)[w.heap.size]? = _
  simp
theorem hp_new' (w : World) (o : Obj) {n : Nat} (hn : n = w.heap.size) : (w.alloc o).heap[n]? = some o := by subst hn; exact hp_new w o
theorem hp_old {w : World} {n : Nat} {o : Obj} (h : w.heap[n]? = some o) (o' : Obj) : (w.alloc o').heap[n]? = some o := by
  rw [Below.heap_alloc _ _ _ (hp_lt h)]; exact h
theorem hp_set {w : World} {n : Nat} {o : Obj} (h : w.heap[n]? = some o) (p : Addr) (u : Value) (hn : n ≠ p.block) : (w.setCell p u).heap[n]? = some o := by
  rw [Below.heap_setCell _ _ _ _ hn]; exact h
theorem Kp.hp {S : Nat → Prop} {a w : World} (h : Kp S a w) {n : Nat} {o : Obj} (ho : a.heap[n]? = some o) (hn : ¬ S n) : w.heap[n]? = some o := by
  rw [h.block n (hp_lt ho) hn]; exact ho
@[simp] theorem setCell_size (w : World) (p : Addr) (u : Value) : (w.setCell p u).heap.size = w.heap.size := by simp [World.setCell]
theorem cell_one {w : World} {n : Nat} {v : Value} {t : TypeId} (h : w.heap[n]? = some (.cells #[v] t (0, 0))) : w.cell? ⟨n, 0, none⟩ = some v ∧ w.frozen? ⟨n, 0, none⟩ = false ∧ n < w.heap.size :=
  ⟨by simp [World.cell?, h], by simp [World.frozen?, h], hp_lt h⟩
theorem set_one {w : World} {n : Nat} {v v' : Value} {t : TypeId} (h : w.heap[n]? = some (.cells #[v] t (0, 0))) : (w.setCell ⟨n, 0, none⟩ v').heap[n]? = some (.cells #[v'] t (0, 0)) := by
  simp only [World.setCell, Array.getElem?_modify, h]
  simp
theorem cell_two {w : World} {n : Nat} {v u : Value} {t : TypeId} (h : w.heap[n]? = some (.cells #[v, u] t (0, 0))) :
    w.cell? ⟨n, 0, none⟩ = some v ∧ w.cell? ⟨n, 1, none⟩ = some u ∧ w.frozen? ⟨n, 0, none⟩ = false ∧ w.frozen? ⟨n, 1, none⟩ = false ∧ n < w.heap.size :=
  ⟨by simp [World.cell?, h], by simp [World.cell?, h], by simp [World.frozen?, h], by simp [World.frozen?, h], hp_lt h⟩
theorem set_two0 {w : World} {n : Nat} {v u v' : Value} {t : TypeId} (h : w.heap[n]? = some (.cells #[v, u] t (0, 0))) : (w.setCell ⟨n, 0, none⟩ v').heap[n]? = some (.cells #[v', u] t (0, 0)) := by
  simp only [World.setCell, Array.getElem?_modify, h]
  simp
theorem set_two1 {w : World} {n : Nat} {v u v' : Value} {t : TypeId} (h : w.heap[n]? = some (.cells #[v, u] t (0, 0))) : (w.setCell ⟨n, 1, none⟩ v').heap[n]? = some (.cells #[v, v'] t (0, 0)) := by
  simp only [World.setCell, Array.getElem?_modify, h]
  simp

/-! ### numbers -/
theorem tmod_neg_emod (n m : Int) (hm : 0 < m) (h : n.tmod m < 0) : n.tmod m + m = n % m := by
  have h1 := Int.tmod_eq_emod (a := n) (b := m)
  have h2 := Int.emod_nonneg n (show m ≠ 0 by omega)
  have h3 := Int.emod_lt_of_pos n hm
  rw [h1] at h ⊢
  have : (m.natAbs : Int) = m := by omega
  split at h
  · omega
  · rename_i hc
    rw [if_neg hc]; omega
theorem tmod_nonneg_emod (n m : Int) (hm : 0 < m) (h : 0 ≤ n.tmod m) : n.tmod m = n % m := by
  have h1 := Int.tmod_eq_emod (a := n) (b := m)
  have h2 := Int.emod_nonneg n (show m ≠ 0 by omega)
  have h3 := Int.emod_lt_of_pos n hm
  rw [h1] at h ⊢
  have : (m.natAbs : Int) = m := by omega
  split at h
  · rename_i hc
    rw [if_pos hc]; omega
  · omega

/-! ### rows of bytes -/
/-- A byte as a value. -/
def byteV (b : UInt8) : Value := .int .u8 b.toNat
theorem byteV_one : ∀ (bs : List UInt8), ∀ u ∈ bs.map byteV, u.oneCell' = true := by
  intro bs u hu
  obtain ⟨_, _, rfl⟩ := List.mem_map.1 hu
  rfl

/-- The bytes bs lie from the address a on. -/
def Seg (w : World) (a : Option Addr) (bs : List UInt8) : Prop :=
  ∀ i (h : i < bs.length), ∃ b off, a = some ⟨b, off, none⟩ ∧ w.cell? ⟨b, off + i, none⟩ = some (byteV bs[i])
/-- The block of an address. -/
def blk (a : Option Addr) : Option Nat := a.map (·.block)
/-- A slice of the bytes bs: at a, with capacity c. -/
structure Sl (w : World) (v : Value) (a : Option Addr) (c : Nat) (bs : List UInt8) : Prop where
  eq : v = .slice a bs.length c
  le : bs.length ≤ c
  max : c ≤ maxLen
  nocap : a = none → c = 0
  seg : Seg w a bs

theorem Seg.keep {w w' : World} {a : Option Addr} {bs : List UInt8} {S : Nat → Prop} (h : Seg w a bs) (k : Kp S w w') (hn : ∀ b, blk a = some b → ¬ S b) : Seg w' a bs := by
  intro i hi
  obtain ⟨b, off, rfl, hc⟩ := h i hi
  exact ⟨b, off, rfl, k.cell hc (hn b rfl)⟩
theorem Sl.keep {w w' : World} {v : Value} {a : Option Addr} {c : Nat} {bs : List UInt8} {S : Nat → Prop} (h : Sl w v a c bs) (k : Kp S w w') (hn : ∀ b, blk a = some b → ¬ S b) : Sl w' v a c bs :=
  ⟨h.eq, h.le, h.max, h.nocap, h.seg.keep k hn⟩
theorem Sl.nil (w : World) : Sl w (.slice none 0 0) none 0 [] := ⟨rfl, Nat.le_refl _, Nat.zero_le _, fun _ => rfl, fun i h => absurd h (Nat.not_lt_zero i)⟩

/-- What a call owns reads as a slice. -/
theorem sl_of_owns {w : World} {base : Nat} {e : TypeId} {v : Value} {bs : List UInt8} (h : w.ownsRow base e 1 v bs.length (bs.map byteV)) : ∃ a c, Sl w v a c bs ∧ v.ownBlock = blk a ∧ ∀ k, blk a = some k → base ≤ k ∧ k < w.heap.size := by
  obtain ⟨h1, h2 | ⟨g, cap, cur, rfl, hg, hh, hl, hm, hs, ht⟩⟩ := h
  · obtain ⟨rfl, h0⟩ := h2
    have : bs = [] := List.eq_nil_of_length_eq_zero h0
    subst this
    exact ⟨none, 0, Sl.nil w, rfl, fun k hk => by cases hk⟩
  · refine ⟨some ⟨g, 0, none⟩, cap, ⟨rfl, hl, hm, fun h => (by cases h), fun i hi => ⟨g, 0, rfl, ?_⟩⟩, rfl, fun k hk => ?_⟩
    · have e : (bs.map byteV)[i]? = some (byteV bs[i]) := by simp [hi]
      rw [← ht, List.getElem?_take] at e
      simp only [Nat.mul_one, hi, if_true] at e
      simpa [World.cell?, hh] using e
    · cases hk
      exact ⟨hg, hp_lt hh⟩

theorem owns_keep {w w' : World} {base : Nat} {e : TypeId} {v : Value} {n : Nat} {xs : List Value} {S : Nat → Prop} (h : w.ownsRow base e 1 v n xs) (k : Kp S w w') (hn : ∀ b, v.ownBlock = some b → ¬ S b) : w'.ownsRow base e 1 v n xs := by
  obtain ⟨h1, h2⟩ := h
  refine ⟨h1, ?_⟩
  rcases h2 with h2 | ⟨g, cap, cur, hv, hg, hh, r⟩
  · exact Or.inl h2
  · exact Or.inr ⟨g, cap, cur, hv, hg, by rw [k.block g (hp_lt hh) (hn g (by rw [hv]; rfl))]; exact hh, r⟩

/-- A writer: one field, a slice of its own. -/
def Wr (T B : TypeId) (w : World) (p : Nat) (row : Option Nat) (bs : List UInt8) : Prop :=
  ∃ v, w.heap[p]? = some (.cells #[v] T (0, 0)) ∧ v.ownBlock = row ∧ w.ownsRow (p + 1) B 1 v bs.length (bs.map byteV)

theorem Wr.keep {T B : TypeId} {w w' : World} {p : Nat} {row : Option Nat} {bs : List UInt8} {S : Nat → Prop} (h : Wr T B w p row bs) (k : Kp S w w') (hp : ¬ S p) (hn : ∀ b, row = some b → ¬ S b) : Wr T B w' p row bs := by
  obtain ⟨v, h1, h2, h3⟩ := h
  exact ⟨v, k.hp h1 hp, h2, owns_keep h3 k (by rw [h2]; exact hn)⟩
theorem Wr.row {T B : TypeId} {w : World} {p : Nat} {row : Option Nat} {bs : List UInt8} (h : Wr T B w p row bs) : ∀ b, row = some b → p < b ∧ b < w.heap.size := by
  obtain ⟨v, h1, h2, h3⟩ := h
  subst h2
  exact fun b hb => by have := World.ownsRow.lt h3 b hb; omega
theorem Wr.lt {T B : TypeId} {w : World} {p : Nat} {row : Option Nat} {bs : List UInt8} (h : Wr T B w p row bs) : p < w.heap.size := by
  obtain ⟨v, h1, h2, h3⟩ := h
  exact hp_lt h1
/-- The row behind a call is the one that it was, or a new one. -/
def Fresh (w : World) (row row' : Option Nat) : Prop := row' = row ∨ ∃ k, row' = some k ∧ w.heap.size ≤ k

/-- append, as one step of a region that draws its order: onto what the call owns. -/
theorem step_append_own {P : Program} {ops : Array Oper} {o : Oper} {a : Act} {w : World} {K : Act → World → Prop} {Q : Exit → Act → World → Prop} {E : Prop} (hgd : o.guard = none) (s x : Operand) (t : TypeId)
    (ho : o.op = .call { callee := .builtin .append, args := #[s, x], argTypes := #[t, t] })
    (base : Nat) (e : TypeId) (i : TypeInfo) (z : Value) (size bytes : Nat) (ht : P.underlying t = some (.slice e)) (hi : P.info? e = some i) (hz : i.zero = some z)
    (hsize : i.size = size) (hby : i.bytes = bytes) (hzs : z.cells.size = size) (hsz : 0 < size)
    (v : Value) (n : Nat) (xs : List Value) (hs : a.eval s = v) (hown : w.ownsRow base e size v n xs)
    (ad : Addr) (m c : Nat) (news : List Value) (hx : a.eval x = .slice (some ad) m c) (hl : news.length = m * size) (hnews : ∀ j u, news[j]? = some u → w.cell? (ad.add j) = some u) (h1 : ∀ u ∈ news, u.oneCell' = true)
    (hmax : n + m ≤ maxLen) (hbytes : (n + m) * bytes ≤ 140737488355328) (hbase : base ≤ w.heap.size)
    (h : ∀ v' w', w'.ownsRow base e size v' (n + m) (xs ++ news) → w.grownBy w' v.ownBlock → K (a.put o.dst v') w') :
    if Region.wanted o (yielded ops a.tmps) = true then Oper.wp P o a w K Q else E := by
  rw [if_pos (by simp [Region.wanted, hgd])]
  exact wp_append_own w s x t ho base e i z size bytes ht hi hz hsize hby hzs hsz v n xs hs hown ad m c news hx hl hnews h1 hmax hbytes hbase fun v' w' a b _ => h v' w' a b

/-! ### slices that came in -/
theorem wf_i64 {n : Int} (h : (Lit.int .i64 n).wf = true) : -9223372036854775808 ≤ n ∧ n ≤ 9223372036854775807 := by
  have e1 : IntKind.i64.min = -9223372036854775808 := by decide
  have e2 : IntKind.i64.max = 9223372036854775807 := by decide
  simp only [Lit.wf, Bool.and_eq_true, decide_eq_true_eq, e1, e2] at h
  exact h
theorem wf_u8 {n : Int} (h : (Lit.int .u8 n).wf = true) : 0 ≤ n ∧ n ≤ 255 := by
  have e1 : IntKind.u8.min = 0 := by decide
  have e2 : IntKind.u8.max = 255 := by decide
  simp only [Lit.wf, Bool.and_eq_true, decide_eq_true_eq, e1, e2] at h
  exact h
theorem cells_at {w : World} {a : Addr} {n : Nat} {f : Nat → Value} (h : ∀ i, i < n → w.cell? (a.add i) = some (f i)) (i : Nat) (hi : i < n) : ∃ b off, a = ⟨b, off, none⟩ ∧ w.cell? ⟨b, off + i, none⟩ = some (f i) := by
  have h0 := h 0 (by omega)
  obtain ⟨b, off, sp⟩ := a
  cases sp with
  | none =>
    refine ⟨b, off, rfl, ?_⟩
    have := h i hi
    simp only [Addr.add] at this
    split at this
    · rename_i e; subst e; exact this
    · exact this
  | some s =>
    exfalso
    simp only [Addr.add, if_true, World.cell?] at h0
    split at h0 <;> simp at h0
theorem getD_mem (l : List Int) (i : Nat) (h : i < l.length) : l.getD i 0 ∈ l := by
  rw [List.getD, List.getElem?_eq_getElem h]
  exact List.getElem_mem h

theorem open_intsAt {H : Type} {enc : TypeId × Value → H} {P : Program} {W : World} {base : Nat} {t e : TypeId} {v : Value} {d : DataW H} {p : List MemPlace} (ht : P.underlying t = some (.slice e)) (he : P.underlying e = some (.int .i64)) (hc : P.cellsOf e = 1)
    (hv : Value.okWide P W .any base t v) (h : DataW.Trod enc P W 0 (fun _ => true) true t v d p) :
    ∃ (a : Option Addr) (len cap : Nat) (z : Nat → Int), v = .slice a len cap ∧ len ≤ maxLen ∧ (∀ i, -9223372036854775808 ≤ z i ∧ z i ≤ 9223372036854775807) ∧
      ∀ i, i < len → ∃ b off, a = some ⟨b, off, none⟩ ∧ W.cell? ⟨b, off + i, none⟩ = some (.int .i64 (z i)) := by
  obtain ⟨a0, len, cap, rfl⟩ := okWide_slice ht hv
  obtain ⟨fuel, hf⟩ := h
  rcases open_ints ht he hc hf with ⟨hcs, _⟩ | ⟨a, len', cap', zs, hcs, _, hl, hm, hz, _, hcell, hw⟩
  · simp only [Value.cells, List.cons.injEq, Value.slice.injEq, and_true] at hcs
    obtain ⟨rfl, rfl, rfl⟩ := hcs
    exact ⟨none, 0, 0, fun _ => 0, rfl, Nat.zero_le _, fun _ => by simp, fun i hi => by omega⟩
  · simp only [Value.cells, List.cons.injEq, Value.slice.injEq, and_true] at hcs
    obtain ⟨rfl, rfl, rfl⟩ := hcs
    simp only [if_true] at hz
    refine ⟨some a, len, cap, fun i => zs.getD i 0, rfl, by omega, fun i => ?_, fun i hi => ?_⟩
    · by_cases h : i < zs.length
      · exact wf_i64 (hw (zs.getD i 0) (getD_mem zs i h))
      · simp [List.getElem?_eq_none (Nat.le_of_not_lt h)]
    · obtain ⟨b, off, rfl, h⟩ := cells_at (f := fun i => .int .i64 (zs.getD i 0)) hcell i (by omega)
      exact ⟨b, off, rfl, h⟩

theorem open_bytesAt {H : Type} {enc : TypeId × Value → H} {P : Program} {W : World} {base : Nat} {t e : TypeId} {v : Value} {d : DataW H} {p : List MemPlace} (ht : P.underlying t = some (.slice e)) (he : P.underlying e = some (.int .u8)) (hc : P.cellsOf e = 1)
    (hv : Value.okWide P W .any base t v) (h : DataW.Trod enc P W 0 (fun _ => true) true t v d p) :
    ∃ (a : Option Addr) (c : Nat) (bs : List UInt8), Sl W v a c bs ∧ (∀ b, blk a = some b → 0 < bs.length → b < W.heap.size) ∧ (c = 0 ∨ ∃ el sp, d = .slice el sp ∧ el.length + sp.length = c) := by
  obtain ⟨a0, len, cap, rfl⟩ := okWide_slice ht hv
  obtain ⟨fuel, hf⟩ := h
  rcases open_ints ht he hc hf with ⟨hcs, _⟩ | ⟨a, len', cap', zs, hcs, _, hl, hm, hz, hdat, hcell, hw⟩
  · simp only [Value.cells, List.cons.injEq, Value.slice.injEq, and_true] at hcs
    obtain ⟨rfl, rfl, rfl⟩ := hcs
    exact ⟨none, 0, [], Sl.nil W, fun b hb => (by cases hb), .inl rfl⟩
  · simp only [Value.cells, List.cons.injEq, Value.slice.injEq, and_true] at hcs
    obtain ⟨rfl, rfl, rfl⟩ := hcs
    simp only [if_true] at hz
    have hlen : ((zs.take len).map fun n => UInt8.ofNat n.toNat).length = len := by simp; omega
    have hseg : Seg W (some a) ((zs.take len).map fun n => UInt8.ofNat n.toNat) := by
      intro i hi
      rw [hlen] at hi
      obtain ⟨b, off, rfl, h⟩ := cells_at (f := fun i => .int .u8 (zs.getD i 0)) hcell i (by omega)
      refine ⟨b, off, rfl, ?_⟩
      have hi2 : i < zs.length := by omega
      have e : zs.getD i 0 = zs[i] := by rw [List.getD, List.getElem?_eq_getElem hi2]; rfl
      have hr := wf_u8 (hw zs[i] (List.getElem_mem hi2))
      rw [h, e]
      simp only [byteV, List.getElem_map, List.getElem_take, UInt8.toNat_ofNat']
      congr 2
      omega
    refine ⟨some a, cap, (zs.take len).map fun n => UInt8.ofNat n.toNat, ⟨by rw [hlen], by omega, by omega, fun h => (by cases h), hseg⟩, fun b hb hpos => ?_, .inr ⟨_, _, (Prod.mk.inj hdat).1, by simp [lits]; omega⟩⟩
    obtain ⟨b', off, e, hcl⟩ := hseg 0 hpos
    cases e
    cases hb
    exact World.block_lt_of_cell? _ _ hcl

/-- The form's own reach, of bytes that came in. -/
theorem bytes_reach {H : Type} {P : Program} {ts : List TypeId} {ds : List (DataW H)} (h : (DataW.weightsEach P ts ds).all (· ≤ reachBytes) = true) {j : Nat} {t e : TypeId} {d : DataW H} {c : Nat} (ht : ts[j]? = some t) (hd : ds[j]? = some d) (hu : P.underlying t = some (.slice e)) (hb : P.bytesOf e = 1)
    (hc : c = 0 ∨ ∃ el sp, d = .slice el sp ∧ el.length + sp.length = c) : c ≤ 140737488351232 := by
  rcases hc with rfl | ⟨el, sp, rfl, rfl⟩
  · omega
  · have := sized_slice h ht hd hu
    rw [hb] at this
    simpa [reachBytes] using this

theorem open_f64 {H : Type} {enc : TypeId × Value → H} {P : Program} {W : World} {base : Nat} {t : TypeId} {v : Value} {d : DataW H} {p : List MemPlace} (ht : P.underlying t = some (.float .f64))
    (hv : Value.okWide P W .any base t v) (h : DataW.Trod enc P W 0 (fun _ => true) true t v d p) : ∃ b : Nat, v = .float .f64 b ∧ b < 18446744073709551616 := by
  obtain ⟨b, rfl, _, _, hw⟩ := open_float ht hv h
  exact ⟨b, rfl, by simpa [Lit.wf] using hw⟩

/-! ### a law's last step -/
namespace LawKit
variable {H : Type} {enc : TypeId × Value → H} {P : Program}

theorem trodAll_stays {W W' : World} {sp : Nat → Bool} (hl : laidOutB P = true) (hb : Below W.heap.size W W') :
    ∀ (ts : List TypeId) (vs : List Value) (ds : List (DataW H)) (ps : List MemPlace), (∀ t ∈ ts, P.readableRec t = true ∧ t < P.types.size) →
      DataW.TrodAll enc P W 0 (fun _ => true) true ts vs ds ps → (∀ x ∈ ps, x.block < W.heap.size) → (∀ x ∈ ps, sp x.block = true) → DataW.TrodAll enc P W' 0 sp true ts vs ds ps
  | [], vs, ds, ps, _, h, _, _ => by
    cases vs <;> cases ds <;> first | exact h | exact h.elim
  | t :: ts, vs, ds, ps, hr, h, hlt, hsp => by
    cases vs with
    | nil => exact h.elim
    | cons v vs =>
      cases ds with
      | nil => exact h.elim
      | cons d ds =>
        obtain ⟨p, q, h1, h2, rfl⟩ := h
        refine ⟨p, q, WideElems.Trod_stays hl (hr t (by simp)).1 (hr t (by simp)).2 h1 (fun x hx => hb.same (hlt x (List.mem_append_left _ hx))) (fun x hx => hsp x (List.mem_append_left _ hx)), ?_, rfl⟩
        exact trodAll_stays hl hb ts vs ds q (fun t ht => hr t (by simp [ht])) h2 (fun x hx => hlt x (List.mem_append_right _ hx)) (fun x hx => hsp x (List.mem_append_right _ hx))

/-- A law's last step: the call has returned true, and nothing that was there has turned. -/
theorem post_law {f : Func} {s : ChangeSpec} {apart fresh handsOn : Bool} {W W' : World} {args : Array Value} {ds gs : List (DataW H)} {before : List MemPlace} {tb : TypeId}
    (hl : laidOutB P = true) (hr : f.params.toList.all (fun t => P.readableRec t && decide (t < P.types.size)) = true) (hv : s.vars = []) (hrt : f.resultTypes = #[tb]) (htb : P.underlying tb = some .bool)
    (hW : DataW.Whole enc P f.params.toList s.vars apart W args.toList ds gs before)
    (hfn : ∀ ds : List (DataW H), ds.length = f.params.size → s.fn H ds = { results := [.lit (.bool true)], args := ds }) (hlen : ds.length = f.params.size)
    (hb : Below W.heap.size W W') : s.post enc P f apart fresh handsOn false W args (.bool true) W' := by
  have hlt : ∀ x ∈ before, x.block < W.heap.size := fun x hx => hW.lt x hx
  have hW' := hW
  obtain ⟨p, q, hA, hV, rfl, hz, hn⟩ := hW
  rw [hv] at hV
  have hgs : gs = [] ∧ q = [] := by
    cases gs with
    | nil => exact ⟨rfl, hV⟩
    | cons a b => exact hV.elim
  obtain ⟨rfl, rfl⟩ := hgs
  have hr' : ∀ t ∈ f.params.toList, P.readableRec t = true ∧ t < P.types.size := fun t ht => by
    have := List.all_eq_true.1 hr t ht
    simpa using this
  have hf := hfn (ds ++ []) (by simpa using hlen)
  refine ⟨ds, [], p ++ [], [], p, [], hW', ?_, ?_, ?_, World.keptBut_mono (fun x hx => ⟨hx, ?_⟩) (hb.frame (· ∈ p ++ [])), fun h => by cases h⟩
  · rw [hf, hrt]
    exact trodAll_mk1 (shut_bool htb true)
  · rw [hf]
    simp only [List.append_nil]
    exact trodAll_stays hl hb _ _ _ _ hr' hA (fun x hx => hlt x (by simp [hx])) (fun x hx => by simpa using hlt x (by simp [hx]))
  · rw [hv, hf]
    rfl
  · right; simpa using hx

theorem trodAll_none {W : World} {sp : Nat → Bool} {vs : List Value} {ds : List (DataW H)} {ps : List MemPlace} (h : DataW.TrodAll enc P W 0 sp true [] vs ds ps) : vs = [] ∧ ds = [] := by
  cases vs with
  | nil =>
    cases ds with
    | nil => exact ⟨rfl, rfl⟩
    | cons a b => exact h.elim
  | cons a b =>
    cases ds with
    | nil => exact h.elim
    | cons c d => exact h.elim
theorem trodAll_step {W : World} {sp : Nat → Bool} {t : TypeId} {ts : List TypeId} {vs : List Value} {ds : List (DataW H)} {ps : List MemPlace} (h : DataW.TrodAll enc P W 0 sp true (t :: ts) vs ds ps) :
    ∃ v vs' d ds' p q, vs = v :: vs' ∧ ds = d :: ds' ∧ DataW.Trod enc P W 0 sp true t v d p ∧ DataW.TrodAll enc P W 0 sp true ts vs' ds' q := by
  cases vs with
  | nil => cases ds <;> exact h.elim
  | cons a b =>
    cases ds with
    | nil => exact h.elim
    | cons c d =>
      obtain ⟨p, q, h1, h2, _⟩ := h
      exact ⟨a, b, c, d, p, q, rfl, rfl, h1, h2⟩
end LawKit
end Go.Proofs.YtgpidbdgodgefaaDoor
/- append of bytes: onto what the call owns, of whatever is a slice of bytes; as an operation of a plain region and of one that draws its order. Whatever the program. Conditions: as the theorems name them. -/
namespace Go.Proofs.YtgpidbdgodgefaaDoor
open Go.RowKit

/-- The row of a type of bytes. -/
structure ByteInfo (P : Program) (t e : TypeId) (i : TypeInfo) : Prop where
  sl : P.underlying t = some (.slice e)
  info : P.info? e = some i
  zero : i.zero = some (.int .u8 0)
  size : i.size = 1
  bytes : i.bytes = 1

theorem Seg.cells {w : World} {a : Addr} {bs : List UInt8} (h : Seg w (some a) bs) : ∀ j u, (bs.map byteV)[j]? = some u → w.cell? (a.add j) = some u := by
  intro j u hj
  have hlt : j < bs.length := by
    have := (List.getElem?_eq_some_iff.1 hj).1
    simpa using this
  obtain ⟨b, off, e, hc⟩ := h j hlt
  cases e
  rw [Addr.add_lit, hc]
  simpa [hlt] using hj

theorem owns_block {w : World} {base : Nat} {e : TypeId} {size : Nat} {v : Value} {n : Nat} {xs : List Value} (h : w.ownsRow base e size v n xs) : ∀ k, v.ownBlock = some k → base ≤ k ∧ k < w.heap.size :=
  World.ownsRow.lt h

theorem run_append_sl {P : Program} {w : World} {t e : TypeId} {i : TypeInfo} (I : ByteInfo P t e i) (base : Nat) (ty : TypeId) (v : Value) (bs : List UInt8) (hown : w.ownsRow base e 1 v bs.length (bs.map byteV)) (hbase : base ≤ w.heap.size)
    (x : Value) (a : Option Addr) (c : Nat) (news : List UInt8) (hx : Sl w x a c news) (hbytes : bs.length + news.length ≤ 140737488355328) :
    ∃ v' w', (Builtin.append_ #[t, t] ty #[v, x]).run P w = .ok v' w' ∧ w'.ownsRow base e 1 v' (bs ++ news).length ((bs ++ news).map byteV) ∧ w.grownBy w' v.ownBlock ∧ Fresh w v.ownBlock v'.ownBlock := by
  have hmax : bs.length + news.length ≤ maxLen := by unfold maxLen; omega
  have hl : (news.map byteV).length = news.length * 1 := by simp
  cases a with
  | none =>
    have hc := hx.nocap rfl
    have hle := hx.le
    have hn : news = [] := List.eq_nil_of_length_eq_zero (by omega)
    subst hn
    have := hx.eq
    subst hc
    subst this
    refine ⟨v, w, run_append_owned_none (P := P) w base t ty e i 1 I.sl I.info v bs.length _ hown, by simpa using hown, World.grownBy.refl _ _, .inl rfl⟩
  | some ad =>
    rw [hx.eq]
    have hnews := Seg.cells hx.seg
    have hlen : (bs ++ news).length = bs.length + news.length := List.length_append
    have hmap : (bs ++ news).map byteV = bs.map byteV ++ news.map byteV := List.map_append
    rw [hlen, hmap]
    have hown' := hown
    obtain ⟨h1, ⟨rfl, h0⟩ | ⟨g, cap, cur, rfl, hg, hh, hle, hm, hs, ht⟩⟩ := hown
    · have hb0 : bs = [] := List.eq_nil_of_length_eq_zero h0
      subst hb0
      obtain ⟨v', w', r1, r2, r3, r4⟩ := run_append_own (P := P) w w.heap.size t ty e i (.int .u8 0) 1 1 I.sl I.info I.zero I.size I.bytes rfl (by decide) (.slice none 0 0) 0 [] (World.ownsRow_nil w _ e 1) ad news.length c (news.map byteV) hl hnews (byteV_one news) (by simpa using hmax) (by simpa using hbytes) (Nat.le_refl _)
      have hw2 : w'.ownsRow base e 1 v' (0 + news.length) ([] ++ news.map byteV) := by
        obtain ⟨q1, q2 | ⟨g, cap, cur, hv, hg, hr⟩⟩ := r2
        · exact ⟨q1, .inl q2⟩
        · exact ⟨q1, .inr ⟨g, cap, cur, hv, Nat.le_trans hbase hg, hr⟩⟩
      refine ⟨v', w', r1, hw2, r3, ?_⟩
      cases hb : v'.ownBlock with
      | none => exact .inl rfl
      | some k => exact .inr ⟨k, rfl, (World.ownsRow.lt r2 k hb).1⟩
    · by_cases hroom : bs.length + news.length ≤ cap
      · obtain ⟨w', r1, r2, r3⟩ := run_append_fits (P := P) w base t ty e i 1 I.sl I.info I.size g bs.length cap _ hown' ad news.length c (news.map byteV) hl hnews (byteV_one news) hroom
        exact ⟨_, w', r1, r2, r3, .inl rfl⟩
      · have holds : ∀ j u, (bs.map byteV)[j]? = some u → w.cell? ((⟨g, 0, none⟩ : Addr).add j) = some u := by
          intro j u hj
          have hlt : j < bs.length := by
            have := (List.getElem?_eq_some_iff.1 hj).1
            simpa using this
          rw [Addr.add_lit, Nat.zero_add]
          rw [← ht, List.getElem?_take, if_pos (by omega)] at hj
          simpa [World.cell?, hh] using hj
        obtain ⟨v', w', r1, r2, r3⟩ := run_append_arg_grows (P := P) w t ty e i (.int .u8 0) 1 1 I.sl I.info I.zero I.size I.bytes rfl (by decide) ⟨g, 0, none⟩ bs.length cap (bs.map byteV) (by simp) holds ad news.length c (news.map byteV) hl hnews (by omega) hmax (by simpa using hbytes)
        have hw2 : w'.ownsRow base e 1 v' (bs.length + news.length) (bs.map byteV ++ news.map byteV) := by
          obtain ⟨q1, q2 | ⟨g, cap, cur, hv, hg, hr⟩⟩ := r2
          · exact ⟨q1, .inl q2⟩
          · exact ⟨q1, .inr ⟨g, cap, cur, hv, Nat.le_trans hbase hg, hr⟩⟩
        refine ⟨v', w', r1, hw2, ⟨r3.os, r3.tape, r3.output, r3.size, fun k hk _ => r3.block k hk (by intro e; cases e)⟩, ?_⟩
        cases hb : v'.ownBlock with
        | none =>
          exfalso
          obtain ⟨q1, ⟨rfl, q2⟩ | ⟨g, cap, cur, rfl, _⟩⟩ := r2
          · omega
          · cases hb
        | some k => exact .inr ⟨k, rfl, (World.ownsRow.lt r2 k hb).1⟩

/-- As an operation. -/
theorem wp_append_sl {P : Program} {o : Oper} {a : Act} {w : World} {K : Act → World → Prop} {Q : Exit → Act → World → Prop} {t e : TypeId} {i : TypeInfo} (I : ByteInfo P t e i) (base : Nat) (s x : Operand)
    (ho : o.op = .call { callee := .builtin .append, args := #[s, x], argTypes := #[t, t] })
    (v : Value) (bs : List UInt8) (hs : a.eval s = v) (hown : w.ownsRow base e 1 v bs.length (bs.map byteV)) (hbase : base ≤ w.heap.size)
    (xv : Value) (ao : Option Addr) (c : Nat) (news : List UInt8) (hxv : a.eval x = xv) (hx : Sl w xv ao c news) (hbytes : bs.length + news.length ≤ 140737488355328)
    (h : ∀ v' w', w'.ownsRow base e 1 v' (bs ++ news).length ((bs ++ news).map byteV) → w.grownBy w' v.ownBlock → Fresh w v.ownBlock v'.ownBlock → K (a.put o.dst v') w') : o.wp P a w K Q := by
  obtain ⟨v', w', hr, h2, h3, h4⟩ := run_append_sl (P := P) I base o.type v bs hown hbase xv ao c news hx hbytes
  unfold Oper.wp execOp
  simp only [ho, resolve, invoke, builtin, Sem.run_bind, Sem.run_pure, Result.andThen_ok, List.map_toArray, List.map_cons, List.map_nil, hs, hxv, hr]
  exact h v' w' h2 h3 h4

theorem wpList_append_sl {P : Program} {ops : Array Oper} {rest : List Oper} {o : Oper} {a : Act} {w : World} {Q : Exit → Act → World → Prop} {t e : TypeId} {i : TypeInfo} (hgd : o.guard = none) (I : ByteInfo P t e i) (base : Nat) (s x : Operand)
    (ho : o.op = .call { callee := .builtin .append, args := #[s, x], argTypes := #[t, t] })
    (v : Value) (bs : List UInt8) (hs : a.eval s = v) (hown : w.ownsRow base e 1 v bs.length (bs.map byteV)) (hbase : base ≤ w.heap.size)
    (xv : Value) (ao : Option Addr) (c : Nat) (news : List UInt8) (hxv : a.eval x = xv) (hx : Sl w xv ao c news) (hbytes : bs.length + news.length ≤ 140737488355328)
    (h : ∀ v' w', w'.ownsRow base e 1 v' (bs ++ news).length ((bs ++ news).map byteV) → w.grownBy w' v.ownBlock → Fresh w v.ownBlock v'.ownBlock → wpList P ops Q rest (a.put o.dst v') w') : wpList P ops Q (o :: rest) a w :=
  wpList_plain hgd fun _ hK => wp_append_sl I base s x ho v bs hs hown hbase xv ao c news hxv hx hbytes fun v' w' a b c => hK _ _ (h v' w' a b c)

theorem step_append_sl {P : Program} {ops : Array Oper} {o : Oper} {a : Act} {w : World} {K : Act → World → Prop} {Q : Exit → Act → World → Prop} {E : Prop} {t e : TypeId} {i : TypeInfo} (hgd : o.guard = none) (I : ByteInfo P t e i) (base : Nat) (s x : Operand)
    (ho : o.op = .call { callee := .builtin .append, args := #[s, x], argTypes := #[t, t] })
    (v : Value) (bs : List UInt8) (hs : a.eval s = v) (hown : w.ownsRow base e 1 v bs.length (bs.map byteV)) (hbase : base ≤ w.heap.size)
    (xv : Value) (ao : Option Addr) (c : Nat) (news : List UInt8) (hxv : a.eval x = xv) (hx : Sl w xv ao c news) (hbytes : bs.length + news.length ≤ 140737488355328)
    (h : ∀ v' w', w'.ownsRow base e 1 v' (bs ++ news).length ((bs ++ news).map byteV) → w.grownBy w' v.ownBlock → Fresh w v.ownBlock v'.ownBlock → K (a.put o.dst v') w') :
    if Region.wanted o (yielded ops a.tmps) = true then Oper.wp P o a w K Q else E := by
  rw [if_pos (by simp [Region.wanted, hgd])]
  exact wp_append_sl I base s x ho v bs hs hown hbase xv ao c news hxv hx hbytes h

/-- A value that owns at least one element is written out. -/
theorem owns_form {w : World} {base : Nat} {e : TypeId} {v : Value} {n : Nat} {xs : List Value} (h : w.ownsRow base e 1 v n xs) : ∃ a c, v = .slice a n c := by
  obtain ⟨_, ⟨rfl, rfl⟩ | ⟨g, cap, cur, rfl, _⟩⟩ := h
  · exact ⟨none, 0, rfl⟩
  · exact ⟨_, _, rfl⟩

/-- One new cell is a slice of one byte. -/
theorem sl_new (w : World) (b : UInt8) (t : TypeId) : Sl (w.alloc (.cells #[byteV b] t)) (.slice (some ⟨w.heap.size, 0, none⟩) 1 1) (some ⟨w.heap.size, 0, none⟩) 1 [b] :=
  ⟨rfl, Nat.le_refl _, by unfold maxLen; omega, fun h => (by cases h), fun i hi => ⟨_, 0, rfl, by
    have : i = 0 := by simpa using hi
    subst this
    exact (cell_one (hp_new w _)).1⟩⟩

/-- The empty slice that is written out owns nothing yet. -/
theorem owns_empty (w : World) (base : Nat) (e : TypeId) (hb : base ≤ w.heap.size) : (w.alloc (.cells #[] e)).ownsRow base e 1 (.slice (some ⟨w.heap.size, 0, none⟩) 0 0) 0 [] :=
  World.ownsRow_made w #[] 0 hb (Nat.zero_le _) rfl

/-- A slice of bytes as a string. -/
theorem sl_string {P : Program} {w : World} {x : Value} {a : Option Addr} {c : Nat} {bs : List UInt8} (h : Sl w x a c bs) (src dst e : TypeId) (hs : P.underlying src = some (.slice e)) (he : P.underlying e = some (.int .u8)) (hd : P.underlying dst = some .string) :
    (convert src dst x).run P w = .ok (.string ⟨bs.toArray⟩) w := by
  cases a with
  | none =>
    have hc := h.nocap rfl
    have hle := h.le
    have hn : bs = [] := List.eq_nil_of_length_eq_zero (by omega)
    subst hn
    rw [h.eq]
    exact run_convert_bytes_nil w src e hs he _ _ dst hd
  | some ad =>
    rw [h.eq]
    refine run_convert_bytes_back w src dst e ad c bs hs he hd fun j hj => ?_
    obtain ⟨b, off, e1, hc⟩ := h.seg j hj
    cases e1
    rw [Addr.add_lit]
    exact hc

/-- The new value is stored into the writer's field. -/
theorem wr_store {T B : TypeId} {w : World} {p : Nat} {old v : Value} {bs : List UInt8} (hh : w.heap[p]? = some (.cells #[old] T (0, 0))) (ho : w.ownsRow (p + 1) B 1 v bs.length (bs.map byteV)) :
    Wr T B (w.setCell ⟨p, 0, none⟩ v) p v.ownBlock bs :=
  ⟨v, set_one hh, rfl, owns_keep (S := fun k => k = p) ho ((Kp.refl (fun k => k = p) w).setCell ⟨p, 0, none⟩ (.inl rfl) v) (fun b hb e => by have := owns_block ho b hb; omega)⟩

theorem Fresh.trans {w w1 : World} {a b c : Option Nat} (h : Fresh w a b) (k : Fresh w1 b c) (hs : w.heap.size ≤ w1.heap.size) : Fresh w a c := by
  rcases k with rfl | ⟨n, rfl, hn⟩
  · exact h
  · exact .inr ⟨n, rfl, by omega⟩

/-- The frame of an append onto a row that was the writer's, or is new. -/
theorem Kp.appended {w w1 w2 : World} {p : Nat} {row row' : Option Nat} (h : Kp (fun k => k = p ∨ row = some k) w w1) (hf : Fresh w row row') (g : w1.grownBy w2 row') : Kp (fun k => k = p ∨ row = some k) w w2 :=
  h.grown g fun k hk => by
    rcases hf with e | ⟨n, e, hn⟩
    · subst e; exact .inl (.inr hk)
    · rw [e] at hk; cases hk; exact .inr hn
end Go.Proofs.YtgpidbdgodgefaaDoor
/- A few bytes of new memory. Conditions: as the theorems name them. -/
namespace Go.Proofs.YtgpidbdgodgefaaDoor
open Go.RowKit Go.Deep

theorem infoByteF : (Tryd.prog.info? 5).map (fun i => (i.zero, i.size, i.bytes)) = some (some (.int .u8 0), 1, 1) := by kernel_rfl
theorem byteInfoF : ∃ i, ByteInfo Tryd.prog 40 5 i := by
  obtain ⟨i, h1, h2, h3, h4⟩ := info_parts infoByteF
  exact ⟨i, Tryd.underlying40, h1, h2, h3, h4⟩
/-- What Bytes hands back: bytes of its own. -/
def Given (w : World) (bs : List UInt8) (e : Ending) (w' : World) : Prop :=
  ∃ v, e = .returned v ∧ w'.ownsRow w.heap.size 5 1 v bs.length (bs.map byteV) ∧ Kp (fun _ => False) w w'
/-- A slice from its head on. -/
theorem sl_head {P : Program} {t e : TypeId} {i : TypeInfo} (I : ByteInfo P t e i) {w : World} {a : Option Addr} {c : Nat} {bs : List UInt8} (h : Sl w (.slice a bs.length c) a c bs) (n : Nat) (hn : n ≤ bs.length) :
    (∀ w', (Instr.slice t (.slice a bs.length c) none (some (.int .i64 n)) none).run P w' = .ok (.slice a n c) w') ∧ Sl w (.slice a n c) a c (bs.take n) := by
  have hlen : (bs.take n).length = n := by simp; omega
  have hle := h.le
  refine ⟨fun w' => ?_, ⟨by rw [hlen], by omega, h.max, h.nocap, fun j hj => ?_⟩⟩
  · cases a with
    | none =>
      have hc := h.nocap rfl
      have hn0 : n = 0 := by omega
      subst hc
      subst hn0
      simp [Instr.slice, Instr.sliceBounds, Instr.sliceBound, asIntOf, run_underlying I.sl, sizeOf, typeInfo, I.info]
    | some ad =>
      have h1 : n ≤ c := by omega
      have h0 : ad.add 0 = ad := by simp [Addr.add]
      simp [Instr.slice, Instr.sliceBounds, Instr.sliceBound, asIntOf, run_underlying I.sl, sizeOf, typeInfo, I.info, h1, h0]
  · rw [hlen] at hj
    obtain ⟨b, off, e1, hc⟩ := h.seg j (by omega)
    exact ⟨b, off, e1, by rw [hc]; simp⟩
set_option maxHeartbeats 400000 in
theorem Few_any (x : Value) (a : Option Addr) (c : Nat) (xs : List UInt8) (n : Nat) (w : World) (hx : Sl w x a c xs) (hb : xs.length ≤ 140737488355328) (hn : n ≤ 9223372036854775807) :
    Calls Tryd.prog 68 #[x, .int .i64 n] w (Given w (xs.take n)) := by
  obtain ⟨ti, I⟩ := byteInfoF
  have h1 := owns_empty w w.heap.size 5 (Nat.le_refl _)
  have h2 := hx.keep (S := fun _ => False) ((Kp.refl _ w).alloc (.cells #[] 5)) (fun _ _ => id)
  have he := hx.eq
  subst he
  by_cases hlt : n < xs.length
  · obtain ⟨hsl, h3⟩ := sl_head I h2 n (by omega)
    have hlen : (xs.take n).length = n := by simp; omega
    have HO := Lib.hid h1; have HX := Lib.hid h3; have HL := Lib.hid hlen
    have HB := Lib.hid hb
    clear h1 h2 h3 hx hlen hb
    go_enter Tryd.func68, Tryd.ntmps68
    go_wp2_with (at_builtin; refine wpList_append_sl rfl I w.heap.size (.tmp 5) (.tmp 11) rfl (.slice (some ⟨w.heap.size, 0, none⟩) 0 0) [] rfl HO.out (by simp) (.slice a n c) a c (xs.take n) rfl HX.out (by rw [HL.out]; have := HB.out; simp; omega) ?_)
    intro v' w' hown' hgr hfr'
    have HO' := Lib.hid hown'; have HG' := Lib.hid hgr
    clear hown' hgr hfr'
    go_wp2
    go_ret
    exact ⟨_, rfl, by simpa using HO'.out, ((Kp.refl (fun _ => False) w).alloc _).grown HG'.out (fun k hk => by cases hk; exact .inr (Nat.le_refl _))⟩
  · obtain ⟨hsl, h3⟩ := sl_head I h2 xs.length (Nat.le_refl _)
    rw [List.take_length] at h3
    have HO := Lib.hid h1; have HX := Lib.hid h3
    have HB := Lib.hid hb
    rw [List.take_of_length_le (by omega)]
    clear h1 h2 h3 hx
    go_enter Tryd.func68, Tryd.ntmps68
    go_wp2_with (at_builtin; refine wpList_append_sl rfl I w.heap.size (.tmp 5) (.tmp 11) rfl (.slice (some ⟨w.heap.size, 0, none⟩) 0 0) [] rfl HO.out (by simp) (.slice a xs.length c) a c xs rfl HX.out (by simpa using HB.out) ?_)
    intro v' w' hown' hgr hfr'
    have HO' := Lib.hid hown'; have HG' := Lib.hid hgr
    clear hown' hgr hfr'
    go_wp2
    go_ret
    exact ⟨_, rfl, by simpa using HO'.out, ((Kp.refl (fun _ => False) w).alloc _).grown HG'.out (fun k hk => by cases hk; exact .inr (Nat.le_refl _))⟩
end Go.Proofs.YtgpidbdgodgefaaDoor
/- The contracts of Name and Path of package pentimentohand. Conditions: as the theorems name them. -/
namespace Go.Proofs.YtgpidbdgodgefaaDoor
open Go.RowKit

set_option maxHeartbeats 400000 in
theorem pick_any (n m : Int) (w : World) (hm : 0 < m) (hm2 : m ≤ 9223372036854775807) (_hn : -9223372036854775808 ≤ n) (_hn2 : n ≤ 9223372036854775807) :
    Calls Tryd.prog 36 #[.int .i64 n, .int .i64 m] w fun e w' => e = .returned (.int .i64 (n % m)) ∧ w = w' := by
  go_enter Tryd.func36, Tryd.ntmps36
  go_wp2
  · have h : n.tmod m < 0 := by assumption
    have h3 := Int.emod_nonneg n (show m ≠ 0 by omega)
    have h4 := Int.emod_lt_of_pos n hm
    go_ret
    refine ⟨?_, rfl⟩
    have e := tmod_neg_emod n m hm h
    simp only [Array.getD]
    simp [e]
    rw [IntWalk.wrap64_in _ (by omega)]
  · have h : 0 ≤ n.tmod m := by assumption
    go_ret
    refine ⟨?_, rfl⟩
    have e := tmod_nonneg_emod n m hm h
    simp [e]

/-- The six names. -/
def nmB : Nat → List UInt8
  | 0 => [97]
  | 1 => [98]
  | 2 => [99]
  | 3 => [100, 46, 101]
  | 4 => [102, 45, 49]
  | _ => [255]
theorem nmB_len (k : Nat) : 1 ≤ (nmB k).length ∧ (nmB k).length ≤ 3 := by
  unfold nmB
  split <;> decide
/-- The steps of Path. -/
def pathLoop : Nat → Nat → List UInt8 → List UInt8
  | 0, _, p => p
  | k + 1, n, p => pathLoop k (n / 7) ((p ++ [47]) ++ nmB (n / 7 % 6))
def pathN (m : Nat) : List UInt8 := pathLoop (m / 6 % 3) m (nmB (m % 6))
def pathB (n : Int) : List UInt8 := pathN (n % 1073741824).toNat
theorem pathLoop_len : ∀ (k n : Nat) (p : List UInt8), p.length ≤ (pathLoop k n p).length ∧ (pathLoop k n p).length ≤ p.length + 4 * k
  | 0, _, p => ⟨Nat.le_refl _, Nat.le_refl _⟩
  | k + 1, n, p => by
    have h1 := pathLoop_len k (n / 7) ((p ++ [47]) ++ nmB (n / 7 % 6))
    have h2 := nmB_len (n / 7 % 6)
    unfold pathLoop
    simp only [List.length_append, List.length_singleton] at h1
    omega
theorem pathB_len (n : Int) : 1 ≤ (pathB n).length ∧ (pathB n).length ≤ 11 := by
  unfold pathB pathN
  generalize (n % 1073741824).toNat = m
  have h1 := pathLoop_len (m / 6 % 3) m (nmB (m % 6))
  have h2 := nmB_len (m % 6)
  omega

theorem bytes_append (xs ys : List UInt8) : (⟨xs.toArray⟩ : ByteArray) ++ ⟨ys.toArray⟩ = ⟨(xs ++ ys).toArray⟩ := by
  refine ByteArray.ext ?_
  simp [ByteArray.data_append]
theorem run_cat (xs ys : List UInt8) (h : xs.length + ys.length ≤ 9223372036854775807) (w : World) : (Op.stringOp .add ⟨xs.toArray⟩ ⟨ys.toArray⟩).run Tryd.prog w = .ok (.string ⟨(xs ++ ys).toArray⟩) w := by
  rw [← bytes_append]
  exact run_string_add_sum _ _ _ (by simpa [ByteArray.size] using h)

set_option maxRecDepth 100000 in
set_option maxHeartbeats 400000 in
theorem Name_any (n : Int) (w : World) (hn : -9223372036854775808 ≤ n) (hn2 : n ≤ 9223372036854775807) :
    Calls Tryd.prog 18 #[.int .i64 n] w fun e w' => e = .returned (.string ⟨(nmB (n % 6).toNat).toArray⟩) ∧ w = w' := by
  have x0 : ∀ w : World, (Instr.index 78 (.agg #[.string ⟨#[97]⟩, .string ⟨#[98]⟩, .string ⟨#[99]⟩, .string ⟨#[100, 46, 101]⟩, .string ⟨#[102, 45, 49]⟩, .string ⟨#[255]⟩]) (.int .i64 0)).run Tryd.prog w = .ok (.string ⟨#[97]⟩) w := fun w => by kernel_rfl
  have x1 : ∀ w : World, (Instr.index 78 (.agg #[.string ⟨#[97]⟩, .string ⟨#[98]⟩, .string ⟨#[99]⟩, .string ⟨#[100, 46, 101]⟩, .string ⟨#[102, 45, 49]⟩, .string ⟨#[255]⟩]) (.int .i64 1)).run Tryd.prog w = .ok (.string ⟨#[98]⟩) w := fun w => by kernel_rfl
  have x2 : ∀ w : World, (Instr.index 78 (.agg #[.string ⟨#[97]⟩, .string ⟨#[98]⟩, .string ⟨#[99]⟩, .string ⟨#[100, 46, 101]⟩, .string ⟨#[102, 45, 49]⟩, .string ⟨#[255]⟩]) (.int .i64 2)).run Tryd.prog w = .ok (.string ⟨#[99]⟩) w := fun w => by kernel_rfl
  have x3 : ∀ w : World, (Instr.index 78 (.agg #[.string ⟨#[97]⟩, .string ⟨#[98]⟩, .string ⟨#[99]⟩, .string ⟨#[100, 46, 101]⟩, .string ⟨#[102, 45, 49]⟩, .string ⟨#[255]⟩]) (.int .i64 3)).run Tryd.prog w = .ok (.string ⟨#[100, 46, 101]⟩) w := fun w => by kernel_rfl
  have x4 : ∀ w : World, (Instr.index 78 (.agg #[.string ⟨#[97]⟩, .string ⟨#[98]⟩, .string ⟨#[99]⟩, .string ⟨#[100, 46, 101]⟩, .string ⟨#[102, 45, 49]⟩, .string ⟨#[255]⟩]) (.int .i64 4)).run Tryd.prog w = .ok (.string ⟨#[102, 45, 49]⟩) w := fun w => by kernel_rfl
  have x5 : ∀ w : World, (Instr.index 78 (.agg #[.string ⟨#[97]⟩, .string ⟨#[98]⟩, .string ⟨#[99]⟩, .string ⟨#[100, 46, 101]⟩, .string ⟨#[102, 45, 49]⟩, .string ⟨#[255]⟩]) (.int .i64 5)).run Tryd.prog w = .ok (.string ⟨#[255]⟩) w := fun w => by kernel_rfl
  go_enter Tryd.func18, Tryd.ntmps18
  go_wp2_with fail
  refine (pick_any n 6 _ (by decide) (by decide) hn hn2).mono ?_
  rintro e w' ⟨rfl, rfl⟩
  have h0 := Int.emod_nonneg n (show (6 : Int) ≠ 0 by decide)
  have h1 := Int.emod_lt_of_pos n (show (0 : Int) < 6 by decide)
  obtain ⟨c, hcn⟩ : ∃ c, n % 6 = c := ⟨_, rfl⟩
  have HC := Lib.hid hcn
  rw [hcn] at h0 h1
  rw [hcn]
  clear hcn
  have hc : c = 0 ∨ c = 1 ∨ c = 2 ∨ c = 3 ∨ c = 4 ∨ c = 5 := by omega
  clear h0 h1
  rcases hc with rfl | rfl | rfl | rfl | rfl | rfl
  all_goals
    go_wp2
    go_ret
    rw [HC.out]
    exact ⟨rfl, rfl⟩

set_option maxHeartbeats 400000 in
theorem Path_any (n : Int) (w : World) (hn : -9223372036854775808 ≤ n) (hn2 : n ≤ 9223372036854775807) :
    Calls Tryd.prog 16 #[.int .i64 n] w fun e w' => e = .returned (.string ⟨(pathB n).toArray⟩) ∧ w = w' := by
  go_enter Tryd.func16, Tryd.ntmps16
  go_wp2_with fail
  refine (pick_any n 1073741824 _ (by decide) (by decide) hn hn2).mono ?_
  rintro e w' ⟨rfl, rfl⟩
  have h0 := Int.emod_nonneg n (show (1073741824 : Int) ≠ 0 by decide)
  have h1 := Int.emod_lt_of_pos n (show (0 : Int) < 1073741824 by decide)
  obtain ⟨m, hm⟩ : ∃ m : Nat, n % 1073741824 = (m : Int) := ⟨(n % 1073741824).toNat, by omega⟩
  have HP : Hid (pathB n = pathN m) := by
    show _ = _
    unfold pathB
    rw [hm]
    simp
  rw [hm]
  have hml : m < 1073741824 := by omega
  clear h0 h1 hm
  go_wp2_with fail
  refine (Name_any (m : Int) _ (by omega) (by omega)).mono ?_
  rintro e w' ⟨rfl, rfl⟩
  rw [show ((m : Int) % 6).toNat = m % 6 by omega]
  go_wp2_with fail
  go_loop [0, 3, 4] (fun n p k => ∃ (m' j : Nat) (pb : List UInt8), n = .int .i64 m' ∧ p = .string ⟨pb.toArray⟩ ∧ k = .int .i64 j ∧ m' < 1073741824 ∧ pb.length + 4 * j ≤ 20 ∧ Hid (pathLoop j m' pb = pathN m)) (fun _ _ k => (intOf k).toNat)
  case atStart => exact ⟨m, m / 6 % 3, nmB (m % 6), rfl, rfl, by congr 1, hml, by have := nmB_len (m % 6); omega, rfl⟩
  case round =>
    obtain ⟨m', j, pb, rfl, rfl, rfl, hm', hlen, HL⟩ := hrel
    cases j with
    | zero =>
      go_wp2
      go_ret
      exact ⟨by rw [HP.out, ← HL.out]; rfl, rfl⟩
    | succ j =>
      have hj : ((j + 1 : Nat) : Int) = (j : Int) + 1 := by omega
      rw [hj]
      have hcat := run_cat pb [47] (by simp; omega)
      go_wp2_with fail
      refine (Name_any ((m' : Int) / 7) _ (by omega) (by omega)).mono ?_
      rintro e w' ⟨rfl, rfl⟩
      rw [show ((m' : Int) / 7 % 6).toNat = m' / 7 % 6 by omega]
      have hl2 := nmB_len (m' / 7 % 6)
      have hcat2 := run_cat (pb ++ [47]) (nmB (m' / 7 % 6)) (by simp; omega)
      have hd : (m' : Int) / 7 = ((m' / 7 : Nat) : Int) := by omega
      rw [hd]
      clear hd hj hcat
      have HL2 : Hid (pathLoop j (m' / 7) ((pb ++ [47]) ++ nmB (m' / 7 % 6)) = pathN m) := HL.out
      have hlen2 : ((pb ++ [47]) ++ nmB (m' / 7 % 6)).length + 4 * j ≤ 20 := by simp; omega
      have hm2 : m' / 7 < 1073741824 := by omega
      clear hl2 HL hlen
      generalize (pb ++ [47]) ++ nmB (m' / 7 % 6) = pb2 at *
      generalize m' / 7 = m2 at *
      go_wp2
      go_round
      case rel => exact ⟨m2, j, pb2, rfl, rfl, by go_num, hm2, hlen2, HL2⟩
      case measure => simp [intOf]
end Go.Proofs.YtgpidbdgodgefaaDoor
