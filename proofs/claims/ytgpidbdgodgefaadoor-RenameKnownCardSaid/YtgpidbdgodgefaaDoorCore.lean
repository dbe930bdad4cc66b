/- Plain facts on worlds: frames, blocks of one cell, rows of bytes; a law that answers true meets its row. Whatever the program. Conditions: as the theorems name them. -/
import Derived.WalkKit
import Derived.WalkSpells
import Derived.WalkLawsBesides
import Derived.Laws.EntriesVeiled
import Derived.Lib.Hide
import Derived.LaidEql
import Derived.LaidEqlPtr
import Derived.ProofKit
import Derived.Deep.Grids
import Derived.Deep.RegionLaw
import Derived.BigQuiet
import Derived.SizedLaws
namespace Go.Proofs.YtgpidbdgodgefaaDoor
open Go.RowKit Go.ChangeShapes Go.WideShapes Go.ChangeAt Go.Deep

/-- Kept: but for the blocks of S, what was there is as it was. -/
structure Kp (S : Nat → Prop) (w w' : World) : Prop where
  os : w'.os = w.os
  tape : w'.tape = w.tape
  output : w'.output = w.output
  size : w.heap.size ≤ w'.heap.size
  block : ∀ k, k < w.heap.size → ¬ S k → w'.heap[k]? = w.heap[k]?

theorem Kp.refl (S : Nat → Prop) (w : World) : Kp S w w := ⟨rfl, rfl, rfl, Nat.le_refl _, fun _ _ _ => rfl⟩
theorem Kp.trans {S : Nat → Prop} {a b c : World} (h : Kp S a b) (k : Kp S b c) : Kp S a c :=
  ⟨k.os.trans h.os, k.tape.trans h.tape, k.output.trans h.output, Nat.le_trans h.size k.size, fun i hi hs => (k.block i (Nat.lt_of_lt_of_le hi h.size) hs).trans (h.block i hi hs)⟩
theorem Kp.alloc {S : Nat → Prop} {a w : World} (h : Kp S a w) (o : Obj) : Kp S a (w.alloc o) :=
  ⟨h.os, h.tape, h.output, by have := h.size; simp; omega, fun k hk hs => by rw [Below.heap_alloc _ _ _ (Nat.lt_of_lt_of_le hk h.size)]; exact h.block k hk hs⟩
theorem Kp.setCell {S : Nat → Prop} {a w : World} (h : Kp S a w) (p : Addr) (hp : S p.block ∨ a.heap.size ≤ p.block) (u : Value) : Kp S a (w.setCell p u) :=
  ⟨h.os, h.tape, h.output, by have := h.size; simp [World.setCell]; omega, fun k hk hs => by
    rw [Below.heap_setCell _ _ _ _ (by rintro rfl; rcases hp with hp | hp; exact hs hp; omega)]; exact h.block k hk hs⟩
theorem Kp.mono {S S' : Nat → Prop} {a w : World} (h : Kp S a w) (hs : ∀ k, k < a.heap.size → S k → S' k) : Kp S' a w :=
  ⟨h.os, h.tape, h.output, h.size, fun k hk hn => h.block k hk fun h' => hn (hs k hk h')⟩
/-- What an inner call turns may be new here. -/
theorem Kp.step {S S' : Nat → Prop} {a b c : World} (h : Kp S a b) (k : Kp S' b c) (hs : ∀ i, i < a.heap.size → S' i → S i) : Kp S a c :=
  ⟨k.os.trans h.os, k.tape.trans h.tape, k.output.trans h.output, Nat.le_trans h.size k.size, fun i hi hn => (k.block i (Nat.lt_of_lt_of_le hi h.size) fun h' => hn (hs i hi h')).trans (h.block i hi hn)⟩
theorem Kp.below {a w : World} (h : Kp (fun _ => False) a w) : Below a.heap.size a w := ⟨h.os, h.tape, h.output, h.size, fun k hk => h.block k hk id⟩
theorem Kp.drewN {S : Nat → Prop} {a w : World} (h : Kp S a w) (n : Nat) : Kp S a (w.drewN n) := ⟨h.os, h.tape, h.output, h.size, h.block⟩
theorem Kp.drew {S : Nat → Prop} {a w : World} (h : Kp S a w) : Kp S a w.drew := ⟨h.os, h.tape, h.output, h.size, h.block⟩
theorem Kp.grown {S : Nat → Prop} {a w w' : World} {row : Option Nat} (h : Kp S a w) (g : w.grownBy w' row) (hr : ∀ k, row = some k → S k ∨ a.heap.size ≤ k) : Kp S a w' :=
  ⟨g.os.trans h.os, g.tape.trans h.tape, g.output.trans h.output, Nat.le_trans h.size g.size, fun k hk hn =>
    (g.block k (Nat.lt_of_lt_of_le hk h.size) (fun e => by rcases hr k e.symm with h' | h'; exact hn h'; omega)).trans (h.block k hk hn)⟩
/-- A cell of a block that is kept. -/
theorem Kp.cell {S : Nat → Prop} {a w : World} (h : Kp S a w) {p : Addr} {v : Value} (hc : a.cell? p = some v) (hn : ¬ S p.block) : w.cell? p = some v := by
  rw [World.cell?_of_block (h.block _ (World.block_lt_of_cell? _ _ hc) hn)]; exact hc

theorem hp_lt {w : World} {n : Nat} {o : Obj} (h : w.heap[n]? = some o) : n < w.heap.size := by
  by_cases hl : n < w.heap.size
  · exact hl
  · rw [Array.getElem?_eq_none (by omega)] at h; cases h
theorem hp_new (w : World) (o : Obj) : (w.alloc o).heap[w.heap.size]? = some o := by
  show (w.heap.push o)[w.heap.size]? = _
  simp
theorem hp_new' (w : World) (o : Obj) {n : Nat} (hn : n = w.heap.size) : (w.alloc o).heap[n]? = some o := by subst hn; exact hp_new w o
theorem hp_old {w : World} {n : Nat} {o : Obj} (h : w.heap[n]? = some o) (o' : Obj) : (w.alloc o').heap[n]? = some o := by
  rw [Below.heap_alloc _ _ _ (hp_lt h)]; exact h
theorem hp_set {w : World} {n : Nat} {o : Obj} (h : w.heap[n]? = some o) (p : Addr) (u : Value) (hn : n ≠ p.block) : (w.setCell p u).heap[n]? = some o := by
  rw [Below.heap_setCell _ _ _ _ hn]; exact h
theorem Kp.hp {S : Nat → Prop} {a w : World} (h : Kp S a w) {n : Nat} {o : Obj} (ho : a.heap[n]? = some o) (hn : ¬ S n) : w.heap[n]? = some o := by
  rw [h.block n (hp_lt ho) hn]; exact ho
@[simp] theorem setCell_size (w : World) (p : Addr) (u : Value) : (w.setCell p u).heap.size = w.heap.size := by simp [World.setCell]
theorem cell_one {w : World} {n : Nat} {v : Value} {t : TypeId} (h : w.heap[n]? = some (.cells #[v] t (0, 0))) : w.cell? ⟨n, 0, none⟩ = some v ∧ w.frozen? ⟨n, 0, none⟩ = false ∧ n < w.heap.size :=
  ⟨by simp [World.cell?, h], by simp [World.frozen?, h], hp_lt h⟩
theorem set_one {w : World} {n : Nat} {v v' : Value} {t : TypeId} (h : w.heap[n]? = some (.cells #[v] t (0, 0))) : (w.setCell ⟨n, 0, none⟩ v').heap[n]? = some (.cells #[v'] t (0, 0)) := by
  simp only [World.setCell, Array.getElem?_modify, h]
  simp
theorem cell_two {w : World} {n : Nat} {v u : Value} {t : TypeId} (h : w.heap[n]? = some (.cells #[v, u] t (0, 0))) :
    w.cell? ⟨n, 0, none⟩ = some v ∧ w.cell? ⟨n, 1, none⟩ = some u ∧ w.frozen? ⟨n, 0, none⟩ = false ∧ w.frozen? ⟨n, 1, none⟩ = false ∧ n < w.heap.size :=
  ⟨by simp [World.cell?, h], by simp [World.cell?, h], by simp [World.frozen?, h], by simp [World.frozen?, h], hp_lt h⟩
theorem set_two0 {w : World} {n : Nat} {v u v' : Value} {t : TypeId} (h : w.heap[n]? = some (.cells #[v, u] t (0, 0))) : (w.setCell ⟨n, 0, none⟩ v').heap[n]? = some (.cells #[v', u] t (0, 0)) := by
  simp only [World.setCell, Array.getElem?_modify, h]
  simp
theorem set_two1 {w : World} {n : Nat} {v u v' : Value} {t : TypeId} (h : w.heap[n]? = some (.cells #[v, u] t (0, 0))) : (w.setCell ⟨n, 1, none⟩ v').heap[n]? = some (.cells #[v, v'] t (0, 0)) := by
  simp only [World.setCell, Array.getElem?_modify, h]
  simp

/-! ### numbers -/
theorem tmod_neg_emod (n m : Int) (hm : 0 < m) (h : n.tmod m < 0) : n.tmod m + m = n % m := by
  have h1 := Int.tmod_eq_emod (a := n) (b := m)
  have h2 := Int.emod_nonneg n (show m ≠ 0 by omega)
  have h3 := Int.emod_lt_of_pos n hm
  rw [h1] at h ⊢
  have : (m.natAbs : Int) = m := by omega
  split at h
  · omega
  · rename_i hc
    rw [if_neg hc]; omega
theorem tmod_nonneg_emod (n m : Int) (hm : 0 < m) (h : 0 ≤ n.tmod m) : n.tmod m = n % m := by
  have h1 := Int.tmod_eq_emod (a := n) (b := m)
  have h2 := Int.emod_nonneg n (show m ≠ 0 by omega)
  have h3 := Int.emod_lt_of_pos n hm
  rw [h1] at h ⊢
  have : (m.natAbs : Int) = m := by omega
  split at h
  · rename_i hc
    rw [if_pos hc]; omega
  · omega

/-! ### rows of bytes -/
/-- A byte as a value. -/
def byteV (b : UInt8) : Value := .int .u8 b.toNat
theorem byteV_one : ∀ (bs : List UInt8), ∀ u ∈ bs.map byteV, u.oneCell' = true := by
  intro bs u hu
  obtain ⟨_, _, rfl⟩ := List.mem_map.1 hu
  rfl

/-- The bytes bs lie from the address a on. -/
def Seg (w : World) (a : Option Addr) (bs : List UInt8) : Prop :=
  ∀ i (h : i < bs.length), ∃ b off, a = some ⟨b, off, none⟩ ∧ w.cell? ⟨b, off + i, none⟩ = some (byteV bs[i])
/-- The block of an address. -/
def blk (a : Option Addr) : Option Nat := a.map (·.block)
/-- A slice of the bytes bs: at a, with capacity c. -/
structure Sl (w : World) (v : Value) (a : Option Addr) (c : Nat) (bs : List UInt8) : Prop where
  eq : v = .slice a bs.length c
  le : bs.length ≤ c
  max : c ≤ maxLen
  nocap : a = none → c = 0
  seg : Seg w a bs

theorem Seg.keep {w w' : World} {a : Option Addr} {bs : List UInt8} {S : Nat → Prop} (h : Seg w a bs) (k : Kp S w w') (hn : ∀ b, blk a = some b → ¬ S b) : Seg w' a bs := by
  intro i hi
  obtain ⟨b, off, rfl, hc⟩ := h i hi
  exact ⟨b, off, rfl, k.cell hc (hn b rfl)⟩
theorem Sl.keep {w w' : World} {v : Value} {a : Option Addr} {c : Nat} {bs : List UInt8} {S : Nat → Prop} (h : Sl w v a c bs) (k : Kp S w w') (hn : ∀ b, blk a = some b → ¬ S b) : Sl w' v a c bs :=
  ⟨h.eq, h.le, h.max, h.nocap, h.seg.keep k hn⟩
theorem Sl.nil (w : World) : Sl w (.slice none 0 0) none 0 [] := ⟨rfl, Nat.le_refl _, Nat.zero_le _, fun _ => rfl, fun i h => absurd h (Nat.not_lt_zero i)⟩

/-- What a call owns reads as a slice. -/
theorem sl_of_owns {w : World} {base : Nat} {e : TypeId} {v : Value} {bs : List UInt8} (h : w.ownsRow base e 1 v bs.length (bs.map byteV)) : ∃ a c, Sl w v a c bs ∧ v.ownBlock = blk a ∧ ∀ k, blk a = some k → base ≤ k ∧ k < w.heap.size := by
  obtain ⟨h1, h2 | ⟨g, cap, cur, rfl, hg, hh, hl, hm, hs, ht⟩⟩ := h
  · obtain ⟨rfl, h0⟩ := h2
    have : bs = [] := List.eq_nil_of_length_eq_zero h0
    subst this
    exact ⟨none, 0, Sl.nil w, rfl, fun k hk => by cases hk⟩
  · refine ⟨some ⟨g, 0, none⟩, cap, ⟨rfl, hl, hm, fun h => (by cases h), fun i hi => ⟨g, 0, rfl, ?_⟩⟩, rfl, fun k hk => ?_⟩
    · have e : (bs.map byteV)[i]? = some (byteV bs[i]) := by simp [hi]
      rw [← ht, List.getElem?_take] at e
      simp only [Nat.mul_one, hi, if_true] at e
      simpa [World.cell?, hh] using e
    · cases hk
      exact ⟨hg, hp_lt hh⟩

theorem owns_keep {w w' : World} {base : Nat} {e : TypeId} {v : Value} {n : Nat} {xs : List Value} {S : Nat → Prop} (h : w.ownsRow base e 1 v n xs) (k : Kp S w w') (hn : ∀ b, v.ownBlock = some b → ¬ S b) : w'.ownsRow base e 1 v n xs := by
  obtain ⟨h1, h2⟩ := h
  refine ⟨h1, ?_⟩
  rcases h2 with h2 | ⟨g, cap, cur, hv, hg, hh, r⟩
  · exact Or.inl h2
  · exact Or.inr ⟨g, cap, cur, hv, hg, by rw [k.block g (hp_lt hh) (hn g (by rw [hv]; rfl))]; exact hh, r⟩

/-- A writer: one field, a slice of its own. -/
def Wr (T B : TypeId) (w : World) (p : Nat) (row : Option Nat) (bs : List UInt8) : Prop :=
  ∃ v, w.heap[p]? = some (.cells #[v] T (0, 0)) ∧ v.ownBlock = row ∧ w.ownsRow (p + 1) B 1 v bs.length (bs.map byteV)

theorem Wr.keep {T B : TypeId} {w w' : World} {p : Nat} {row : Option Nat} {bs : List UInt8} {S : Nat → Prop} (h : Wr T B w p row bs) (k : Kp S w w') (hp : ¬ S p) (hn : ∀ b, row = some b → ¬ S b) : Wr T B w' p row bs := by
  obtain ⟨v, h1, h2, h3⟩ := h
  exact ⟨v, k.hp h1 hp, h2, owns_keep h3 k (by rw [h2]; exact hn)⟩
theorem Wr.row {T B : TypeId} {w : World} {p : Nat} {row : Option Nat} {bs : List UInt8} (h : Wr T B w p row bs) : ∀ b, row = some b → p < b ∧ b < w.heap.size := by
  obtain ⟨v, h1, h2, h3⟩ := h
  subst h2
  exact fun b hb => by have := World.ownsRow.lt h3 b hb; omega
theorem Wr.lt {T B : TypeId} {w : World} {p : Nat} {row : Option Nat} {bs : List UInt8} (h : Wr T B w p row bs) : p < w.heap.size := by
  obtain ⟨v, h1, h2, h3⟩ := h
  exact hp_lt h1
/-- The row behind a call is the one that it was, or a new one. -/
def Fresh (w : World) (row row' : Option Nat) : Prop := row' = row ∨ ∃ k, row' = some k ∧ w.heap.size ≤ k

/-- append, as one step of a region that draws its order: onto what the call owns. -/
theorem step_append_own {P : Program} {ops : Array Oper} {o : Oper} {a : Act} {w : World} {K : Act → World → Prop} {Q : Exit → Act → World → Prop} {E : Prop} (hgd : o.guard = none) (s x : Operand) (t : TypeId)
    (ho : o.op = .call { callee := .builtin .append, args := #[s, x], argTypes := #[t, t] })
    (base : Nat) (e : TypeId) (i : TypeInfo) (z : Value) (size bytes : Nat) (ht : P.underlying t = some (.slice e)) (hi : P.info? e = some i) (hz : i.zero = some z)
    (hsize : i.size = size) (hby : i.bytes = bytes) (hzs : z.cells.size = size) (hsz : 0 < size)
    (v : Value) (n : Nat) (xs : List Value) (hs : a.eval s = v) (hown : w.ownsRow base e size v n xs)
    (ad : Addr) (m c : Nat) (news : List Value) (hx : a.eval x = .slice (some ad) m c) (hl : news.length = m * size) (hnews : ∀ j u, news[j]? = some u → w.cell? (ad.add j) = some u) (h1 : ∀ u ∈ news, u.oneCell' = true)
    (hmax : n + m ≤ maxLen) (hbytes : (n + m) * bytes ≤ 140737488355328) (hbase : base ≤ w.heap.size)
    (h : ∀ v' w', w'.ownsRow base e size v' (n + m) (xs ++ news) → w.grownBy w' v.ownBlock → K (a.put o.dst v') w') :
    if Region.wanted o (yielded ops a.tmps) = true then Oper.wp P o a w K Q else E := by
  rw [if_pos (by simp [Region.wanted, hgd])]
  exact wp_append_own w s x t ho base e i z size bytes ht hi hz hsize hby hzs hsz v n xs hs hown ad m c news hx hl hnews h1 hmax hbytes hbase fun v' w' a b _ => h v' w' a b

/-! ### slices that came in -/
theorem wf_i64 {n : Int} (h : (Lit.int .i64 n).wf = true) : -9223372036854775808 ≤ n ∧ n ≤ 9223372036854775807 := by
  have e1 : IntKind.i64.min = -9223372036854775808 := by decide
  have e2 : IntKind.i64.max = 9223372036854775807 := by decide
  simp only [Lit.wf, Bool.and_eq_true, decide_eq_true_eq, e1, e2] at h
  exact h
theorem wf_u8 {n : Int} (h : (Lit.int .u8 n).wf = true) : 0 ≤ n ∧ n ≤ 255 := by
  have e1 : IntKind.u8.min = 0 := by decide
  have e2 : IntKind.u8.max = 255 := by decide
  simp only [Lit.wf, Bool.and_eq_true, decide_eq_true_eq, e1, e2] at h
  exact h
theorem cells_at {w : World} {a : Addr} {n : Nat} {f : Nat → Value} (h : ∀ i, i < n → w.cell? (a.add i) = some (f i)) (i : Nat) (hi : i < n) : ∃ b off, a = ⟨b, off, none⟩ ∧ w.cell? ⟨b, off + i, none⟩ = some (f i) := by
  have h0 := h 0 (by omega)
  obtain ⟨b, off, sp⟩ := a
  cases sp with
  | none =>
    refine ⟨b, off, rfl, ?_⟩
    have := h i hi
    simp only [Addr.add] at this
    split at this
    · rename_i e; subst e; exact this
    · exact this
  | some s =>
    exfalso
    simp only [Addr.add, if_true, World.cell?] at h0
    split at h0 <;> simp at h0
theorem getD_mem (l : List Int) (i : Nat) (h : i < l.length) : l.getD i 0 ∈ l := by
  rw [List.getD, List.getElem?_eq_getElem h]
  exact List.getElem_mem h

theorem open_intsAt {H : Type} {enc : TypeId × Value → H} {P : Program} {W : World} {base : Nat} {t e : TypeId} {v : Value} {d : DataW H} {p : List MemPlace} (ht : P.underlying t = some (.slice e)) (he : P.underlying e = some (.int .i64)) (hc : P.cellsOf e = 1)
    (hv : Value.okWide P W .any base t v) (h : DataW.Trod enc P W 0 (fun _ => true) true t v d p) :
    ∃ (a : Option Addr) (len cap : Nat) (z : Nat → Int), v = .slice a len cap ∧ len ≤ maxLen ∧ (∀ i, -9223372036854775808 ≤ z i ∧ z i ≤ 9223372036854775807) ∧
      ∀ i, i < len → ∃ b off, a = some ⟨b, off, none⟩ ∧ W.cell? ⟨b, off + i, none⟩ = some (.int .i64 (z i)) := by
  obtain ⟨a0, len, cap, rfl⟩ := okWide_slice ht hv
  obtain ⟨fuel, hf⟩ := h
  rcases open_ints ht he hc hf with ⟨hcs, _⟩ | ⟨a, len', cap', zs, hcs, _, hl, hm, hz, _, hcell, hw⟩
  · simp only [Value.cells, List.cons.injEq, Value.slice.injEq, and_true] at hcs
    obtain ⟨rfl, rfl, rfl⟩ := hcs
    exact ⟨none, 0, 0, fun _ => 0, rfl, Nat.zero_le _, fun _ => by simp, fun i hi => by omega⟩
  · simp only [Value.cells, List.cons.injEq, Value.slice.injEq, and_true] at hcs
    obtain ⟨rfl, rfl, rfl⟩ := hcs
    simp only [if_true] at hz
    refine ⟨some a, len, cap, fun i => zs.getD i 0, rfl, by omega, fun i => ?_, fun i hi => ?_⟩
    · by_cases h : i < zs.length
      · exact wf_i64 (hw (zs.getD i 0) (getD_mem zs i h))
      · simp [List.getElem?_eq_none (Nat.le_of_not_lt h)]
    · obtain ⟨b, off, rfl, h⟩ := cells_at (f := fun i => .int .i64 (zs.getD i 0)) hcell i (by omega)
      exact ⟨b, off, rfl, h⟩

theorem open_bytesAt {H : Type} {enc : TypeId × Value → H} {P : Program} {W : World} {base : Nat} {t e : TypeId} {v : Value} {d : DataW H} {p : List MemPlace} (ht : P.underlying t = some (.slice e)) (he : P.underlying e = some (.int .u8)) (hc : P.cellsOf e = 1)
    (hv : Value.okWide P W .any base t v) (h : DataW.Trod enc P W 0 (fun _ => true) true t v d p) :
    ∃ (a : Option Addr) (c : Nat) (bs : List UInt8), Sl W v a c bs ∧ (∀ b, blk a = some b → 0 < bs.length → b < W.heap.size) ∧ (c = 0 ∨ ∃ el sp, d = .slice el sp ∧ el.length + sp.length = c) := by
  obtain ⟨a0, len, cap, rfl⟩ := okWide_slice ht hv
  obtain ⟨fuel, hf⟩ := h
  rcases open_ints ht he hc hf with ⟨hcs, _⟩ | ⟨a, len', cap', zs, hcs, _, hl, hm, hz, hdat, hcell, hw⟩
  · simp only [Value.cells, List.cons.injEq, Value.slice.injEq, and_true] at hcs
    obtain ⟨rfl, rfl, rfl⟩ := hcs
    exact ⟨none, 0, [], Sl.nil W, fun b hb => (by cases hb), .inl rfl⟩
  · simp only [Value.cells, List.cons.injEq, Value.slice.injEq, and_true] at hcs
    obtain ⟨rfl, rfl, rfl⟩ := hcs
    simp only [if_true] at hz
    have hlen : ((zs.take len).map fun n => UInt8.ofNat n.toNat).length = len := by simp; omega
    have hseg : Seg W (some a) ((zs.take len).map fun n => UInt8.ofNat n.toNat) := by
      intro i hi
      rw [hlen] at hi
      obtain ⟨b, off, rfl, h⟩ := cells_at (f := fun i => .int .u8 (zs.getD i 0)) hcell i (by omega)
      refine ⟨b, off, rfl, ?_⟩
      have hi2 : i < zs.length := by omega
      have e : zs.getD i 0 = zs[i] := by rw [List.getD, List.getElem?_eq_getElem hi2]; rfl
      have hr := wf_u8 (hw zs[i] (List.getElem_mem hi2))
      rw [h, e]
      simp only [byteV, List.getElem_map, List.getElem_take, UInt8.toNat_ofNat']
      congr 2
      omega
    refine ⟨some a, cap, (zs.take len).map fun n => UInt8.ofNat n.toNat, ⟨by rw [hlen], by omega, by omega, fun h => (by cases h), hseg⟩, fun b hb hpos => ?_, .inr ⟨_, _, (Prod.mk.inj hdat).1, by simp [lits]; omega⟩⟩
    obtain ⟨b', off, e, hcl⟩ := hseg 0 hpos
    cases e
    cases hb
    exact World.block_lt_of_cell? _ _ hcl

/-- The form's own reach, of bytes that came in. -/
theorem bytes_reach {H : Type} {P : Program} {ts : List TypeId} {ds : List (DataW H)} (h : (DataW.weightsEach P ts ds).all (· ≤ reachBytes) = true) {j : Nat} {t e : TypeId} {d : DataW H} {c : Nat} (ht : ts[j]? = some t) (hd : ds[j]? = some d) (hu : P.underlying t = some (.slice e)) (hb : P.bytesOf e = 1)
    (hc : c = 0 ∨ ∃ el sp, d = .slice el sp ∧ el.length + sp.length = c) : c ≤ 140737488351232 := by
  rcases hc with rfl | ⟨el, sp, rfl, rfl⟩
  · omega
  · have := sized_slice h ht hd hu
    rw [hb] at this
    simpa [reachBytes] using this

theorem open_f64 {H : Type} {enc : TypeId × Value → H} {P : Program} {W : World} {base : Nat} {t : TypeId} {v : Value} {d : DataW H} {p : List MemPlace} (ht : P.underlying t = some (.float .f64))
    (hv : Value.okWide P W .any base t v) (h : DataW.Trod enc P W 0 (fun _ => true) true t v d p) : ∃ b : Nat, v = .float .f64 b ∧ b < 18446744073709551616 := by
  obtain ⟨b, rfl, _, _, hw⟩ := open_float ht hv h
  exact ⟨b, rfl, by simpa [Lit.wf] using hw⟩

/-! ### a law's last step -/
namespace LawKit
variable {H : Type} {enc : TypeId × Value → H} {P : Program}

theorem trodAll_stays {W W' : World} {sp : Nat → Bool} (hl : laidOutB P = true) (hb : Below W.heap.size W W') :
    ∀ (ts : List TypeId) (vs : List Value) (ds : List (DataW H)) (ps : List MemPlace), (∀ t ∈ ts, P.readableRec t = true ∧ t < P.types.size) →
      DataW.TrodAll enc P W 0 (fun _ => true) true ts vs ds ps → (∀ x ∈ ps, x.block < W.heap.size) → (∀ x ∈ ps, sp x.block = true) → DataW.TrodAll enc P W' 0 sp true ts vs ds ps
  | [], vs, ds, ps, _, h, _, _ => by
    cases vs <;> cases ds <;> first | exact h | exact h.elim
  | t :: ts, vs, ds, ps, hr, h, hlt, hsp => by
    cases vs with
    | nil => exact h.elim
    | cons v vs =>
      cases ds with
      | nil => exact h.elim
      | cons d ds =>
        obtain ⟨p, q, h1, h2, rfl⟩ := h
        refine ⟨p, q, WideElems.Trod_stays hl (hr t (by simp)).1 (hr t (by simp)).2 h1 (fun x hx => hb.same (hlt x (List.mem_append_left _ hx))) (fun x hx => hsp x (List.mem_append_left _ hx)), ?_, rfl⟩
        exact trodAll_stays hl hb ts vs ds q (fun t ht => hr t (by simp [ht])) h2 (fun x hx => hlt x (List.mem_append_right _ hx)) (fun x hx => hsp x (List.mem_append_right _ hx))

/-- A law's last step: the call has returned true, and nothing that was there has turned. -/
theorem post_law {f : Func} {s : ChangeSpec} {apart fresh handsOn : Bool} {W W' : World} {args : Array Value} {ds gs : List (DataW H)} {before : List MemPlace} {tb : TypeId}
    (hl : laidOutB P = true) (hr : f.params.toList.all (fun t => P.readableRec t && decide (t < P.types.size)) = true) (hv : s.vars = []) (hrt : f.resultTypes = #[tb]) (htb : P.underlying tb = some .bool)
    (hW : DataW.Whole enc P f.params.toList s.vars apart W args.toList ds gs before)
    (hfn : ∀ ds : List (DataW H), ds.length = f.params.size → s.fn H ds = { results := [.lit (.bool true)], args := ds }) (hlen : ds.length = f.params.size)
    (hb : Below W.heap.size W W') : s.post enc P f apart fresh handsOn false W args (.bool true) W' := by
  have hlt : ∀ x ∈ before, x.block < W.heap.size := fun x hx => hW.lt x hx
  have hW' := hW
  obtain ⟨p, q, hA, hV, rfl, hz, hn⟩ := hW
  rw [hv] at hV
  have hgs : gs = [] ∧ q = [] := by
    cases gs with
    | nil => exact ⟨rfl, hV⟩
    | cons a b => exact hV.elim
  obtain ⟨rfl, rfl⟩ := hgs
  have hr' : ∀ t ∈ f.params.toList, P.readableRec t = true ∧ t < P.types.size := fun t ht => by
    have := List.all_eq_true.1 hr t ht
    simpa using this
  have hf := hfn (ds ++ []) (by simpa using hlen)
  refine ⟨ds, [], p ++ [], [], p, [], hW', ?_, ?_, ?_, World.keptBut_mono (fun x hx => ⟨hx, ?_⟩) (hb.frame (· ∈ p ++ [])), fun h => by cases h⟩
  · rw [hf, hrt]
    exact trodAll_mk1 (shut_bool htb true)
  · rw [hf]
    simp only [List.append_nil]
    exact trodAll_stays hl hb _ _ _ _ hr' hA (fun x hx => hlt x (by simp [hx])) (fun x hx => by simpa using hlt x (by simp [hx]))
  · rw [hv, hf]
    rfl
  · right; simpa using hx

theorem trodAll_none {W : World} {sp : Nat → Bool} {vs : List Value} {ds : List (DataW H)} {ps : List MemPlace} (h : DataW.TrodAll enc P W 0 sp true [] vs ds ps) : vs = [] ∧ ds = [] := by
  cases vs with
  | nil =>
    cases ds with
    | nil => exact ⟨rfl, rfl⟩
    | cons a b => exact h.elim
  | cons a b =>
    cases ds with
    | nil => exact h.elim
    | cons c d => exact h.elim
theorem trodAll_step {W : World} {sp : Nat → Bool} {t : TypeId} {ts : List TypeId} {vs : List Value} {ds : List (DataW H)} {ps : List MemPlace} (h : DataW.TrodAll enc P W 0 sp true (t :: ts) vs ds ps) :
    ∃ v vs' d ds' p q, vs = v :: vs' ∧ ds = d :: ds' ∧ DataW.Trod enc P W 0 sp true t v d p ∧ DataW.TrodAll enc P W 0 sp true ts vs' ds' q := by
  cases vs with
  | nil => cases ds <;> exact h.elim
  | cons a b =>
    cases ds with
    | nil => exact h.elim
    | cons c d =>
      obtain ⟨p, q, h1, h2, _⟩ := h
      exact ⟨a, b, c, d, p, q, rfl, rfl, h1, h2⟩
end LawKit
end Go.Proofs.YtgpidbdgodgefaaDoor
