/- Files with one byte alone: plain laws. Conditions: as the theorems name them. -/
import Derived.Test.YtgpidbdgodgefaaDoorTurnL
import Derived.Test.YtgpidbdgodgefaaDoorTreeMG
import Derived.Test.YtgpidbdgodgefaaDoorRenMP
import Derived.Test.YtgpidbdgodgefaaDoorBase
import Derived.StillTailTactics
namespace Go.Proofs.YtgpidbdgodgefaaDoor
open Go.RowKit

def bitB (bs : List UInt8) : List UInt8 := (bs.take 1).map fun b => b % 2
def plainI (x : ItemV) : ItemV := if x.kind = 1 then ⟨x.path, x.kind, x.mode, x.time, bitB x.bs⟩ else x
def plainT (l : List ItemV) : List ItemV := l.map plainI
theorem plainI_path (x : ItemV) : (plainI x).path = x.path := by unfold plainI; split <;> rfl
theorem bitB_len (bs : List UInt8) : (bitB bs).length ≤ 1 := by
  unfold bitB
  rw [List.length_map]
  exact List.length_take_le _ _
theorem plainI_right (x : ItemV) (h : rightN x.node = true) : rightN (plainI x).node = true := by
  unfold plainI
  by_cases hk : x.kind = 1
  · rw [if_pos hk]
    unfold rightN at h ⊢
    rw [Bool.and_eq_true] at h ⊢
    refine ⟨?_, h.2⟩
    unfold dataN
    rw [if_pos (show (ItemV.node ⟨x.path, x.kind, x.mode, x.time, bitB x.bs⟩).kind = 1 from hk)]
    have := bitB_len x.bs
    exact decide_eq_true (by show (bitB x.bs).length ≤ 2000; omega)
  · rw [if_neg hk]; exact h
theorem Tr.plain {l : List ItemV} (h : Tr l) : Tr (plainT l) := by
  refine ⟨?_, fun x hx => ?_, by unfold plainT; rw [List.length_map]; exact h.len, fun x hx => ?_⟩
  · unfold Srt plainT
    rw [List.pairwise_map]
    exact h.srt.imp fun {a b} hab => by rw [plainI_path, plainI_path]; exact hab
  · obtain ⟨y, hy, rfl⟩ := List.mem_map.1 hx
    rw [plainI_path]
    exact ⟨(h.ok y hy).1, (h.ok y hy).2.1, plainI_right y (h.ok y hy).2.2⟩
  · obtain ⟨y, hy, rfl⟩ := List.mem_map.1 hx
    refine ⟨by rw [plainI_path]; exact (h.small y hy).1, ?_⟩
    unfold plainI
    split
    · have := bitB_len y.bs
      show (bitB y.bs).length ≤ 60
      omega
    · exact (h.small y hy).2
theorem plainT_len (l : List ItemV) : (plainT l).length = l.length := List.length_map _
theorem plain_step (l : List ItemV) (i : Nat) (hi : i < l.length) : (l.take (i + 1)).map plainI ++ l.drop (i + 1) = ((l.take i).map plainI ++ l.drop i).set i (plainI l[i]) := by
  have h1 : ((l.take i).map plainI).length = i := by rw [List.length_map, List.length_take]; omega
  rw [List.take_succ_eq_append_getElem hi, List.map_append, List.drop_eq_getElem_cons hi, List.append_assoc]
  rw [List.set_append_right i _ (by omega), h1, Nat.sub_self]
  rfl
end Go.Proofs.YtgpidbdgodgefaaDoor
/- Trees that a call copies whole, and turns in place. Conditions: as the theorems name them. -/
namespace Go.Proofs.YtgpidbdgodgefaaDoor
open Go.RowKit

/-- append of nil, whatever its capacity. -/
theorem run_append_nilc {P : Program} {w : World} {t e : TypeId} {i : TypeInfo} (ht : P.underlying t = some (.slice e)) (hi : P.info? e = some i) (ty : TypeId) (a : Option Addr) (n c d : Nat) (hn : n ≤ c) :
    (Builtin.append_ #[t, t] ty #[.slice a n c, .slice none 0 d]).run P w = .ok (.slice a n c) w := by
  cases a with
  | none => simp [Builtin.append_, run_underlying ht, sizeOf, typeInfo, hi, Builtin.lenOf, Builtin.firstCells, hn]
  | some ad => simp [Builtin.append_, run_underlying ht, sizeOf, typeInfo, hi, Builtin.lenOf, Builtin.firstCells, hn, storeCells]
/-- A tree's items, with where their data lies. -/
theorem TreeAt.items {w : World} {a : Option Addr} {l : List ItemV} (h : TreeAt w a l) :
    ∃ L : List ItemP, L.map (·.x) = l ∧ (∀ y ∈ L, y.Ok w) ∧ ∀ i (_ : i < L.length), ∃ b off, a = some ⟨b, off, none⟩ ∧ ItemAt w b (off + i * 5) L[i].x L[i].ad L[i].cp := by
  have h' : ∀ i : Fin l.length, ∃ y : ItemP, y.x = l[i.1] ∧ ∃ b off, a = some ⟨b, off, none⟩ ∧ ItemAt w b (off + i.1 * 5) y.x y.ad y.cp := fun i => by
    obtain ⟨b, off, ad, cp, e, hx⟩ := h i.1 i.2
    exact ⟨⟨l[i.1], ad, cp⟩, rfl, b, off, e, hx⟩
  refine ⟨List.ofFn fun i => (h' i).choose, ?_, fun y hy => ?_, fun i hi => ?_⟩
  · refine List.ext_getElem (by simp) fun i h1 h2 => ?_
    rw [List.getElem_map, List.getElem_ofFn]
    exact (h' ⟨i, h2⟩).choose_spec.1
  · obtain ⟨i, hi, rfl⟩ := List.getElem_of_mem hy
    rw [List.getElem_ofFn]
    obtain ⟨_, b, off, _, hx⟩ := (h' ⟨i, by simpa using hi⟩).choose_spec
    exact ⟨hx.sl, hx.time, hx.len⟩
  · rw [List.getElem_ofFn]
    exact (h' ⟨i, by simpa using hi⟩).choose_spec.2
theorem items_len (l : List ItemP) : (l.flatMap ItemP.cells).length = l.length * 5 := by
  induction l with
  | nil => rfl
  | cons x l ih =>
    rw [List.flatMap_cons, List.length_append, ih, List.length_cons]
    show 5 + l.length * 5 = _
    omega
/-- append of a whole tree onto an empty slice that the call has made. -/
theorem run_append_tree (w0 w : World) (k : Kp (fun _ => False) w0 w) (g : Nat) (ty : TypeId) (hg : w.heap[g]? = some (.cells #[] 44 (0, 0))) (hg0 : w0.heap.size ≤ g) (a : Option Addr) (c : Nat) (l : List ItemV) (h : TreeAt w0 a l) (hl : l.length ≤ 1000) :
    ∃ v' w' L, (Builtin.append_ #[45, 45] ty #[.slice (some ⟨g, 0, none⟩) 0 0, .slice a l.length c]).run Tryd.prog w = .ok v' w' ∧ OwnT w' w0.heap.size v' L ∧ L.map (·.x) = l ∧ Kp (fun _ => False) w0 w' := by
  obtain ⟨L, hL, hok, hat⟩ := h.items
  have hlen : L.length = l.length := by rw [← hL, List.length_map]
  obtain ⟨i, I⟩ := itemInfo
  cases a with
  | none =>
    have hL0 : L = [] := by
      cases L with
      | nil => rfl
      | cons x L =>
        obtain ⟨b, off, e, _⟩ := hat 0 (by simp)
        cases e
    subst hL0
    have hl0 : l = [] := by rw [← hL]; rfl
    subst hl0
    refine ⟨_, w, [], run_append_nilc I.sl I.info ty _ 0 0 c (Nat.le_refl _), ⟨⟨rfl, .inr ⟨g, 0, #[], rfl, hg0, hg, Nat.le_refl _, Nat.zero_le _, rfl, rfl⟩⟩, fun _ h => (by cases h), fun _ h => (by cases h)⟩, rfl, k⟩
  | some ad =>
    have hnews : ∀ j u, (L.flatMap ItemP.cells)[j]? = some u → w.cell? (ad.add j) = some u := fun j u hj => by
      have hjl := (List.getElem?_eq_some_iff.1 hj).1
      rw [items_len] at hjl
      have hi : j / 5 < L.length := by omega
      obtain ⟨b, off, e, hx⟩ := hat (j / 5) hi
      cases e
      have h5 := cells_at5 L (j / 5) (j % 5) hi (by omega)
      rw [show j / 5 * 5 + j % 5 = j by omega] at h5
      rw [h5] at hj
      rw [Addr.add_lit, show off + j = off + j / 5 * 5 + j % 5 by omega]
      have hm : j % 5 = 0 ∨ j % 5 = 1 ∨ j % 5 = 2 ∨ j % 5 = 3 ∨ j % 5 = 4 := by omega
      rcases hm with e | e | e | e | e
      · rw [e] at hj ⊢; rw [← hj]; exact k.cell hx.c0 id
      · rw [e] at hj ⊢; rw [← hj]; exact k.cell hx.c1 id
      · rw [e] at hj ⊢; rw [← hj]; exact k.cell hx.c2 id
      · rw [e] at hj ⊢; rw [← hj]; exact k.cell hx.c3 id
      · rw [e] at hj ⊢; rw [← hj]; exact k.cell hx.c4 id
    have hown : w.ownsRow w0.heap.size 44 5 (.slice (some ⟨g, 0, none⟩) 0 0) 0 [] := ⟨rfl, .inr ⟨g, 0, #[], rfl, hg0, hg, Nat.le_refl _, Nat.zero_le _, rfl, rfl⟩⟩
    have h1 : ∀ u ∈ L.flatMap ItemP.cells, u.oneCell' = true := fun u hu => by
      obtain ⟨y, _, hy⟩ := List.mem_flatMap.1 hu
      exact y.cells_one u hy
    obtain ⟨v', w', r1, r2, r3, r4⟩ := run_append_row (P := Tryd.prog) I w0.heap.size ty (.slice (some ⟨g, 0, none⟩) 0 0) 0 [] hown k.size ad L.length c (L.flatMap ItemP.cells) (items_len L) hnews h1 (by unfold maxLen; omega) (by omega)
    have kg : Kp (fun b => b = g) w w' := (Kp.refl (fun b => b = g) w).grown r3 fun b hb => by cases hb; exact .inl rfl
    have kk : Kp (fun _ => False) w0 w' := k.step kg fun i hi e => by omega
    refine ⟨v', w', L, by rw [← hlen]; exact r1, ⟨by simpa using r2, fun y hy => (hok y hy).keep kk, fun y hy hp b hb e => ?_⟩, hL, kk⟩
    have h2 := (hok y hy).1.blk_in hp hb
    have h3 := (World.ownsRow.lt r2 b e).1
    omega
theorem wpList_append_tree {ops : Array Oper} {rest : List Oper} {o : Oper} {a : Act} {Q : Exit → Act → World → Prop} (w0 w : World) (hgd : o.guard = none) (s x : Operand)
    (ho : o.op = .call { callee := .builtin .append, args := #[s, x], argTypes := #[45, 45] })
    (g : Nat) (hs : a.eval s = .slice (some ⟨g, 0, none⟩) 0 0) (k : Kp (fun _ => False) w0 w) (hg : w.heap[g]? = some (.cells #[] 44 (0, 0))) (hg0 : w0.heap.size ≤ g) (ad : Option Addr) (c : Nat) (l : List ItemV) (hx : a.eval x = .slice ad l.length c) (h : TreeAt w0 ad l) (hl : l.length ≤ 1000)
    (hK : ∀ v' w' L, OwnT w' w0.heap.size v' L → L.map (·.x) = l → Kp (fun _ => False) w0 w' → wpList Tryd.prog ops Q rest (a.put o.dst v') w') : wpList Tryd.prog ops Q (o :: rest) a w :=
  wpList_plain hgd fun K hK2 => by
    obtain ⟨v', w', L, hr, h2, h3, h4⟩ := run_append_tree w0 w k g o.type hg hg0 ad c l h hl
    unfold Oper.wp execOp
    simp only [ho, resolve, invoke, builtin, Sem.run_bind, Sem.run_pure, Result.andThen_ok, List.map_toArray, List.map_cons, List.map_nil, hs, hx, hr]
    exact hK2 _ _ (hK v' w' L h2 h3 h4)

/-! ### an item's data is turned in place -/
theorem flatMap_set {α : Type} (f : α → List Value) (n : Nat) (hf : ∀ x, (f x).length = n) (y : α) (j : Nat) (u : Value) : ∀ (l : List α) (i : Nat) (hi : i < l.length), f y = (f l[i]).set j u → j < n → (l.set i y).flatMap f = (l.flatMap f).set (i * n + j) u
  | x :: l, 0, _, e, hj => by
    rw [List.set_cons_zero, List.flatMap_cons, List.flatMap_cons, e, Nat.zero_mul, Nat.zero_add, List.set_append_left j u (by rw [hf]; exact hj)]
    rfl
  | x :: l, i + 1, hi, e, hj => by
    have ih := flatMap_set f n hf y j u l i (by simpa using hi) e hj
    rw [List.set_cons_succ, List.flatMap_cons, List.flatMap_cons, ih, List.set_append_right _ u (by rw [hf, Nat.succ_mul]; omega), hf, show (i + 1) * n + j - n = i * n + j by rw [Nat.succ_mul]; omega]
theorem setCell_heap {w : World} {g : Nat} {cur : Array Value} {e : TypeId} {fz : Nat × Nat} (h : w.heap[g]? = some (.cells cur e fz)) (j : Nat) (u : Value) : (w.setCell ⟨g, j, none⟩ u).heap[g]? = some (.cells (cur.setIfInBounds j u) e fz) := by
  simp only [World.setCell, Array.getElem?_modify, h]
  simp
theorem take_set_lt {α : Type} (u : α) : ∀ (l : List α) (j n : Nat), j < n → (l.set j u).take n = (l.take n).set j u
  | [], _, _, _ => by simp
  | x :: l, 0, n + 1, _ => by simp
  | x :: l, j + 1, n + 1, h => by
    rw [List.set_cons_succ, List.take_succ_cons, List.take_succ_cons, List.set_cons_succ, take_set_lt u l j n (by omega)]
/-- Where the row of a tree of the call's own lies: not frozen, each cell there. -/
theorem OwnT.at_ {w : World} {base : Nat} {g n cap : Nat} {L : List ItemP} (h : OwnT w base (.slice (some ⟨g, 0, none⟩) n cap) L) :
    n = L.length ∧ base ≤ g ∧ ∃ cur, w.heap[g]? = some (.cells cur 44 (0, 0)) ∧ cur.toList.take (n * 5) = L.flatMap ItemP.cells ∧ n ≤ cap ∧ cap ≤ maxLen ∧ cur.size = cap * 5 := by
  obtain ⟨h1, ⟨e, h0⟩ | ⟨g', cap', cur, e, hg, hh, hl, hm, hs, ht⟩⟩ := h.own
  · cases e
  · cases e
    exact ⟨rfl, hg, cur, hh, ht, hl, hm, hs⟩
theorem OwnT.setD {w : World} {base : Nat} {g n cap : Nat} {L : List ItemP} (h : OwnT w base (.slice (some ⟨g, 0, none⟩) n cap) L) (i : Nat) (hi : i < L.length) (bs : List UInt8) (ad : Option Addr) (cp : Nat) (hs : Sl w (.slice ad bs.length cp) ad cp bs) (hl : bs.length ≤ 140737488355328) (hb : ∀ b, blk ad = some b → b ≠ g) :
    OwnT (w.setCell ⟨g, i * 5 + 4, none⟩ (.slice ad bs.length cp)) base (.slice (some ⟨g, 0, none⟩) n cap) (L.set i ⟨⟨L[i].x.path, L[i].x.kind, L[i].x.mode, L[i].x.time, bs⟩, ad, cp⟩) := by
  obtain ⟨hn, hbg, cur, hh, ht, hle, hm, hsz⟩ := h.at_
  subst hn
  have kS : Kp (fun b => b = g) w (w.setCell ⟨g, i * 5 + 4, none⟩ (.slice ad bs.length cp)) := (Kp.refl (fun b => b = g) w).setCell ⟨g, i * 5 + 4, none⟩ (.inl rfl) _
  have hfm : (L.set i ⟨⟨L[i].x.path, L[i].x.kind, L[i].x.mode, L[i].x.time, bs⟩, ad, cp⟩).flatMap ItemP.cells = (L.flatMap ItemP.cells).set (i * 5 + 4) (.slice ad bs.length cp) := flatMap_set ItemP.cells 5 (fun _ => rfl) _ 4 _ L i hi rfl (by decide)
  have hll : (L.set i ⟨⟨L[i].x.path, L[i].x.kind, L[i].x.mode, L[i].x.time, bs⟩, ad, cp⟩).length = L.length := List.length_set
  refine ⟨⟨?_, .inr ⟨g, cap, cur.setIfInBounds (i * 5 + 4) (.slice ad bs.length cp), by rw [hll], hbg, setCell_heap hh _ _, by rw [hll]; exact hle, hm, by rw [Array.size_setIfInBounds]; exact hsz, ?_⟩⟩, fun y hy => ?_, fun y hy => ?_⟩
  · exact items_len _
  · rw [hfm, hll, Array.toList_setIfInBounds, take_set_lt _ _ _ _ (by omega), ht]
  · rcases List.mem_or_eq_of_mem_set hy with hy | rfl
    · exact ⟨(h.ok y hy).1.keepE kS fun hp b hb' e => by subst e; exact h.sep y hy hp b hb' rfl, (h.ok y hy).2⟩
    · exact ⟨hs.keep kS hb, (h.ok L[i] (List.getElem_mem hi)).2.1, hl⟩
  · rcases List.mem_or_eq_of_mem_set hy with hy | rfl
    · exact h.sep y hy
    · exact fun _ b hb' e => by cases e; exact hb _ hb' rfl
/-- One byte of an item's data is turned. -/
theorem OwnT.setB {w : World} {base : Nat} {g n cap vb cp : Nat} {L : List ItemP} (h : OwnT w base (.slice (some ⟨g, 0, none⟩) n cap) L) (i : Nat) (hi : i < L.length) (b c : UInt8) (hx : L[i].x.bs = [b]) (hd : L[i].ad = some ⟨vb, 0, none⟩) (hc : L[i].cp = cp) (hvg : vb ≠ g)
    (hv : (w.setCell ⟨vb, 0, none⟩ (byteV c)).cell? ⟨vb, 0, none⟩ = some (byteV c)) (ho : ∀ j (hj : j < L.length), j ≠ i → 0 < L[j].x.bs.length → ∀ k, blk L[j].ad = some k → k ≠ vb) :
    OwnT (w.setCell ⟨vb, 0, none⟩ (byteV c)) base (.slice (some ⟨g, 0, none⟩) n cap) (L.set i ⟨⟨L[i].x.path, L[i].x.kind, L[i].x.mode, L[i].x.time, [c]⟩, some ⟨vb, 0, none⟩, cp⟩) := by
  have kS : Kp (fun b => b = vb) w (w.setCell ⟨vb, 0, none⟩ (byteV c)) := (Kp.refl (fun b => b = vb) w).setCell ⟨vb, 0, none⟩ (.inl rfl) _
  have hsame : ItemP.cells ⟨⟨L[i].x.path, L[i].x.kind, L[i].x.mode, L[i].x.time, [c]⟩, some ⟨vb, 0, none⟩, cp⟩ = (ItemP.cells L[i]).set 4 (.slice (some ⟨vb, 0, none⟩) 1 cp) := rfl
  have hu : (L.flatMap ItemP.cells)[i * 5 + 4]? = some (.slice (some ⟨vb, 0, none⟩) 1 cp) := by
    rw [cells_at5 L i 4 hi (by decide)]
    show some (Value.slice L[i].ad L[i].x.bs.length L[i].cp) = _
    rw [hx, hd, hc]
    rfl
  have hfm : (L.set i ⟨⟨L[i].x.path, L[i].x.kind, L[i].x.mode, L[i].x.time, [c]⟩, some ⟨vb, 0, none⟩, cp⟩).flatMap ItemP.cells = L.flatMap ItemP.cells := by
    rw [flatMap_set ItemP.cells 5 (fun _ => rfl) _ 4 _ L i hi hsame (by decide)]
    obtain ⟨hj, e⟩ := List.getElem?_eq_some_iff.1 hu
    rw [← e, List.set_getElem_self]
  have hll : (L.set i ⟨⟨L[i].x.path, L[i].x.kind, L[i].x.mode, L[i].x.time, [c]⟩, some ⟨vb, 0, none⟩, cp⟩).length = L.length := List.length_set
  have hoi := h.ok L[i] (List.getElem_mem hi)
  refine ⟨?_, fun y hy => ?_, fun y hy => ?_⟩
  · rw [hfm, hll]
    exact ownsN_keep h.own kS fun b hb e => by cases hb; exact hvg e.symm
  · obtain ⟨j, hj, rfl⟩ := List.getElem_of_mem hy
    rw [List.getElem_set]
    rw [hll] at hj
    by_cases hji : i = j
    · rw [if_pos hji]
      have h1 := hoi.1
      rw [hx, hd, hc] at h1
      refine ⟨⟨rfl, h1.le, h1.max, h1.nocap, fun k hk => ⟨vb, 0, rfl, ?_⟩⟩, hoi.2.1, (by decide : (1 : Nat) ≤ 140737488355328)⟩
      have hk0 : k = 0 := by simpa using hk
      subst hk0
      exact hv
    · rw [if_neg hji]
      have hoj := h.ok L[j] (List.getElem_mem hj)
      exact ⟨hoj.1.keepE kS fun hp b hb e => ho j hj (fun e => hji e.symm) hp b hb e, hoj.2⟩
  · obtain ⟨j, hj, rfl⟩ := List.getElem_of_mem hy
    rw [List.getElem_set]
    rw [hll] at hj
    by_cases hji : i = j
    · rw [if_pos hji]
      exact fun _ b hb e => by cases hb; cases e; exact hvg rfl
    · rw [if_neg hji]
      exact h.sep L[j] (List.getElem_mem hj)
end Go.Proofs.YtgpidbdgodgefaaDoor
/- The contract of plain of chapter 18's statements: a tree whose files have one byte alone. Conditions: as the theorem names them. -/
namespace Go.Proofs.YtgpidbdgodgefaaDoor
open Go.RowKit Go.Deep

/-- The cells of an item in a row of the call's own. -/
theorem OwnT.cellsAt {w : World} {base : Nat} {g n cap : Nat} {L : List ItemP} (h : OwnT w base (.slice (some ⟨g, 0, none⟩) n cap) L) (i : Nat) (hi : i < L.length) :
    (w.cell? ⟨g, i * 5, none⟩ = some (.string ⟨L[i].x.path.toArray⟩) ∧ w.cell? ⟨g, i * 5 + 1, none⟩ = some (.int .i64 L[i].x.kind) ∧ w.cell? ⟨g, i * 5 + 4, none⟩ = some (.slice L[i].ad L[i].x.bs.length L[i].cp)) ∧ w.frozen? ⟨g, i * 5 + 4, none⟩ = false := by
  obtain ⟨hn, hbg, cur, hh, ht, hle, hm, hsz⟩ := h.at_
  have hc : ∀ j, j < 5 → w.cell? ⟨g, i * 5 + j, none⟩ = (L[i].cells)[j]? := fun j hj => by
    rw [← cells_at5 L i j hi hj, ← ht, List.getElem?_take, if_pos (by omega)]
    simp [World.cell?, hh]
  exact ⟨⟨hc 0 (by decide), hc 1 (by decide), hc 4 (by decide)⟩, by simp [World.frozen?, hh]⟩
theorem OwnT.some_ {w : World} {base n : Nat} {a : Option Addr} {c : Nat} {L : List ItemP} (h : OwnT w base (.slice a n c) L) (hp : 0 < L.length) : ∃ g, a = some ⟨g, 0, none⟩ ∧ base ≤ g ∧ g < w.heap.size := by
  obtain ⟨h1, ⟨e, h0⟩ | ⟨g', cap', cur, e, hg, hh, _⟩⟩ := h.own
  · omega
  · cases e
    exact ⟨g', rfl, hg, hp_lt hh⟩

set_option maxHeartbeats 8000000 in
set_option maxRecDepth 100000 in
theorem plain18_any (a : Option Addr) (c : Nat) (l : List ItemV) (w : World) (h : TreeAt w a l) (hl : l.length ≤ 1000) :
    Calls Tryd.prog 49 #[.slice a l.length c] w (TreeEnd w (plainT l)) := by
  have HT := Lib.hid h
  have HKa := Lib.hid ((Kp.refl (fun _ => False) w).alloc (.cells #[] 44))
  have HG := Lib.hid (hp_new w (.cells #[] 44))
  clear h
  go_enter Tryd.func49, Tryd.ntmps49
  go_wp2_with (at_builtin; refine wpList_append_tree w (w.alloc (.cells #[] 44)) rfl (.tmp 6) (.tmp 7) rfl w.heap.size rfl HKa.out HG.out (Nat.le_refl _) a c l rfl HT.out hl ?_)
  intro v1 w1 L1 hown hL hk
  obtain ⟨a1, c1, rfl, _, _⟩ := hown.form
  have hlen : L1.length = l.length := by rw [← hL, List.length_map]
  rw [hlen] at hown ⊢
  have HO := Lib.hid hown
  have HL := Lib.hid (show L1.map (·.x) = (l.take 0).map plainI ++ l.drop 0 from by simpa using hL)
  have HK := Lib.hid hk
  have HPT := Lib.hid (show plainT l = l.map plainI from rfl)
  clear hown hL hk hlen HG HKa HT
  go_wp2_with fail
  go_loopw [4] (fun v wr => ∃ (i : Nat) (L : List ItemP), v = .int .i64 i ∧ i ≤ l.length ∧ Hid (L.map (·.x) = (l.take i).map plainI ++ l.drop i) ∧ Hid (OwnT wr w.heap.size (.slice a1 l.length c1) L) ∧ Hid (Kp (fun _ => False) w wr)) (fun v _ => l.length - (intOf v).toNat)
  case atStart => exact ⟨0, L1, rfl, Nat.zero_le _, HL, HO, HK⟩
  case round =>
    clear HL HO HK
    obtain ⟨i, L, rfl, hil, HL, HO, HK⟩ := hrel
    by_cases hlt : i < l.length
    case neg =>
      have HX := Lib.hid (show L.map (·.x) = plainT l from by
        have h := HL.out
        rw [List.take_of_length_le (by omega), List.drop_eq_nil_of_le (by omega), List.append_nil] at h
        rw [h, HPT.out])
      go_wp2
      go_ret
      exact ⟨_, L, rfl, HX.out, HO.out, HK.out⟩
    have hLl : L.length = l.length := by
      have h := congrArg List.length HL.out
      simp only [List.length_map, List.length_append, List.length_take, List.length_drop] at h
      omega
    have hiL : i < L.length := by omega
    have hLi : L[i].x = l[i] := by
      have h : (L.map (·.x))[i]? = some l[i] := by
        rw [HL.out, List.getElem?_append_right (by rw [List.length_map, List.length_take]; omega), List.length_map, List.length_take, List.getElem?_drop]
        rw [show i + (i - min i l.length) = i by omega, List.getElem?_eq_getElem hlt]
      rw [List.getElem?_map, List.getElem?_eq_getElem hiL] at h
      simpa using h
    have HST := Lib.hid (show (l.take (i + 1)).map plainI ++ l.drop (i + 1) = ((l.take i).map plainI ++ l.drop i).set i (plainI l[i]) from plain_step l i hlt)
    obtain ⟨g, rfl, hgb, hgw⟩ := HO.out.some_ (by omega)
    obtain ⟨⟨d0, d1, d4⟩, fz4⟩ := HO.out.cellsAt i hiL
    have hLok := HO.out.ok L[i] (List.getElem_mem hiL)
    have HSl := Lib.hid hLok.1
    have HBl := Lib.hid hLok.2.2
    have HLi := Lib.hid hLi
    rw [hLi] at d0 d1 d4
    have HIX : Hid (∀ u : ItemV, u = plainI l[i] → ∀ (L' : List ItemP) (y : ItemP), L' = L.set i y → y.x = u → L'.map (·.x) = (l.take (i + 1)).map plainI ++ l.drop (i + 1)) := fun u hu L' y e hy => by
      rw [HST.out, e, List.map_set, HL.out, hy, hu]
    clear HL HST hLok hLi d0
    have hgg : g < wr.heap.size := hgw
    by_cases hk : l[i].kind = 1
    case neg =>
      have hkb : (l[i].kind == 1) = false := by simpa using hk
      have HNX := Lib.hid (show L.map (·.x) = (l.take (i + 1)).map plainI ++ l.drop (i + 1) from HIX.out (plainI l[i]) rfl L L[i] (by rw [List.set_getElem_self]) (by rw [HLi.out]; unfold plainI; rw [if_neg hk]))
      clear hk HIX
      go_wp2
      exact ⟨⟨i + 1, L, by go_num, by omega, HNX, HO, HK⟩, by simp only [intOf]; omega⟩
    have hkb : (l[i].kind == 1) = true := by simpa using hk
    have HPI := Lib.hid (show plainI l[i] = ⟨l[i].path, l[i].kind, l[i].mode, l[i].time, bitB l[i].bs⟩ from by unfold plainI; rw [if_pos hk])
    clear hk
    have hxx := HLi.out
    have hSx := HSl.out
    rw [hxx] at hSx
    have HSx := Lib.hid hSx
    have hBx := HBl.out
    rw [hxx] at hBx
    clear hSx hxx HSl HBl
    generalize l[i] = x at *
    go_wp2_with fail
    refine (Few_any (.slice L[i].ad x.bs.length L[i].cp) L[i].ad L[i].cp x.bs 1 wr HSx.out hBx (by decide)).mono ?_
    rintro e w2 ⟨v2, rfl, ho2, hk2⟩
    obtain ⟨B, hB⟩ : ∃ B, B = x.bs.take 1 := ⟨_, rfl⟩
    rw [← hB] at ho2
    have hbit : bitB x.bs = B.map (· % 2) := by rw [hB]; rfl
    have hBc : B = [] ∨ ∃ b, B = [b] := by
      rw [hB]
      cases x.bs with
      | nil => exact .inl rfl
      | cons b r => exact .inr ⟨b, rfl⟩
    have HO2 := Lib.hid (HO.out.keep hk2)
    have HK2 := Lib.hid (HK.out.trans hk2)
    have hks2 := hk2.size
    have HBD := Lib.hid (show ∀ j (hj : j < L.length), 0 < L[j].x.bs.length → ∀ k, blk L[j].ad = some k → k < wr.heap.size from fun j hj hp k hb => (HO.out.ok L[j] (List.getElem_mem hj)).1.blk_in hp hb)
    clear hB hk2 HO HK d1 d4 fz4 hkb HSx hBx
    obtain ⟨⟨_, _, d4⟩, fz4⟩ := HO2.out.cellsAt i hiL
    rcases hBc with rfl | ⟨b, rfl⟩
    · obtain ⟨va, vc, hv, _, hvf⟩ := sl_of_owns (bs := []) ho2
      have he := hv.eq
      subst he
      have HO3 := Lib.hid (HO2.out.setD i hiL [] va vc hv (by decide) (fun b hb => by have := (hvf b hb).1; omega))
      have HK3 := Lib.hid (HK2.out.setCell ⟨g, i * 5 + 4, none⟩ (.inr hgb) (.slice va 0 vc))
      have HNX := Lib.hid (show (L.set i ⟨⟨L[i].x.path, L[i].x.kind, L[i].x.mode, L[i].x.time, []⟩, va, vc⟩).map (·.x) = (l.take (i + 1)).map plainI ++ l.drop (i + 1) from HIX.out _ (by rw [HPI.out, hbit]) _ ⟨⟨L[i].x.path, L[i].x.kind, L[i].x.mode, L[i].x.time, []⟩, va, vc⟩ rfl (by rw [HLi.out]; rfl))
      obtain ⟨⟨_, _, e4⟩, _⟩ := HO3.out.cellsAt i (by rw [List.length_set]; exact hiL)
      rw [List.getElem_set_self] at e4
      have HE4 := Lib.hid e4
      clear hv hvf ho2 hbit e4 HIX HBD HO2 HK2
      go_wp2_with fail
      rw [show i * 5 + 1 + 3 = i * 5 + 4 from rfl]
      generalize w2.setCell ⟨g, i * 5 + 4, none⟩ (.slice va 0 vc) = w3 at *
      have hw3 : ∃ wq : World, wq = w3 := ⟨_, rfl⟩
      go_loopw [5] (fun v wq => v = .int .i64 0 ∧ wq = w3) (fun _ _ => 0)
      case atStart => exact ⟨rfl, rfl⟩
      case round =>
        obtain ⟨rfl, hwq⟩ := hrel
        rw [hwq]
        clear hwq
        have e4 := HE4.out
        go_wp2
        exact ⟨⟨i + 1, _, by go_num, by omega, HNX, HO3, HK3⟩, by simp only [intOf]; omega⟩
    · obtain ⟨_, ⟨_, h0⟩ | ⟨vb, cap, cur, rfl, hvb, hh, hle, hm, hs, ht⟩⟩ := id ho2
      · cases h0
      obtain ⟨va, vc, hv, _, hvf⟩ := sl_of_owns (bs := [b]) ho2
      have he := hv.eq
      cases he
      have hvg : vb ≠ g := by omega
      have HO3 := Lib.hid (HO2.out.setD i hiL [b] (some ⟨vb, 0, none⟩) cap hv (by show (1 : Nat) ≤ 140737488355328; decide) (fun k hk => by cases hk; exact hvg))
      have HK3 := Lib.hid (HK2.out.setCell ⟨g, i * 5 + 4, none⟩ (.inr hgb) (.slice (some ⟨vb, 0, none⟩) 1 cap))
      obtain ⟨⟨_, _, e4⟩, _⟩ := HO3.out.cellsAt i (by rw [List.length_set]; exact hiL)
      rw [List.getElem_set_self] at e4
      have HE4 := Lib.hid e4
      have hcs : cur[0]? = some (byteV b) := by
        have h : (cur.toList.take 1)[0]? = some (byteV b) := by rw [show ([b] : List UInt8).length * 1 = 1 from rfl] at ht; rw [ht]; rfl
        rw [List.getElem?_take] at h
        simpa using h
      have HHB := Lib.hid (show (w2.setCell ⟨g, i * 5 + 4, none⟩ (.slice (some ⟨vb, 0, none⟩) 1 cap)).heap[vb]? = some (.cells cur 5 (0, 0)) from hp_set hh ⟨g, i * 5 + 4, none⟩ _ hvg)
      clear hv hvf e4 HO2 HK2 ho2
      go_wp2_with fail
      rw [show i * 5 + 1 + 3 = i * 5 + 4 from rfl]
      generalize w2.setCell ⟨g, i * 5 + 4, none⟩ (.slice (some ⟨vb, 0, none⟩) 1 cap) = w3 at *
      have hbc : w3.cell? ⟨vb, 0, none⟩ = some (byteV b) := by simpa [World.cell?, HHB.out] using hcs
      have hbf : w3.frozen? ⟨vb, 0, none⟩ = false := by simp [World.frozen?, HHB.out]
      have hsc : (w3.setCell ⟨vb, 0, none⟩ (byteV (b % 2))).cell? ⟨vb, 0, none⟩ = some (byteV (b % 2)) := by
        have h := setCell_heap HHB.out 0 (byteV (b % 2))
        obtain ⟨h0, _⟩ := Array.getElem?_eq_some_iff.1 hcs
        simp [World.cell?, h, h0]
      have hiL3 : i < (L.set i ⟨⟨L[i].x.path, L[i].x.kind, L[i].x.mode, L[i].x.time, [b]⟩, some ⟨vb, 0, none⟩, cap⟩).length := by rw [List.length_set]; exact hiL
      have HO4 := Lib.hid (HO3.out.setB i hiL3 b (b % 2) (vb := vb) (cp := cap) (by rw [List.getElem_set_self]) (by rw [List.getElem_set_self]) (by rw [List.getElem_set_self]) hvg hsc (fun j hj hji hp k hk => by
        rw [List.getElem_set_ne (Ne.symm hji)] at hp hk
        rw [List.length_set] at hj
        have := HBD.out j hj hp k hk
        omega))
      have HNX := Lib.hid (show ((L.set i ⟨⟨L[i].x.path, L[i].x.kind, L[i].x.mode, L[i].x.time, [b]⟩, some ⟨vb, 0, none⟩, cap⟩).set i ⟨⟨x.path, x.kind, x.mode, x.time, [b % 2]⟩, some ⟨vb, 0, none⟩, cap⟩).map (·.x) = (l.take (i + 1)).map plainI ++ l.drop (i + 1) from HIX.out _ (by rw [HPI.out, hbit]; rfl) _ ⟨⟨x.path, x.kind, x.mode, x.time, [b % 2]⟩, some ⟨vb, 0, none⟩, cap⟩ (List.set_set _) rfl)
      have hxi : (L.set i ⟨⟨L[i].x.path, L[i].x.kind, L[i].x.mode, L[i].x.time, [b]⟩, some ⟨vb, 0, none⟩, cap⟩)[i]'hiL3 = ⟨⟨x.path, x.kind, x.mode, x.time, [b]⟩, some ⟨vb, 0, none⟩, cap⟩ := by rw [List.getElem_set_self, HLi.out]
      have hyv : (⟨⟨(L.set i ⟨⟨L[i].x.path, L[i].x.kind, L[i].x.mode, L[i].x.time, [b]⟩, some ⟨vb, 0, none⟩, cap⟩)[i].x.path, (L.set i ⟨⟨L[i].x.path, L[i].x.kind, L[i].x.mode, L[i].x.time, [b]⟩, some ⟨vb, 0, none⟩, cap⟩)[i].x.kind, (L.set i ⟨⟨L[i].x.path, L[i].x.kind, L[i].x.mode, L[i].x.time, [b]⟩, some ⟨vb, 0, none⟩, cap⟩)[i].x.mode, (L.set i ⟨⟨L[i].x.path, L[i].x.kind, L[i].x.mode, L[i].x.time, [b]⟩, some ⟨vb, 0, none⟩, cap⟩)[i].x.time, [b % 2]⟩, some ⟨vb, 0, none⟩, cap⟩ : ItemP) = ⟨⟨x.path, x.kind, x.mode, x.time, [b % 2]⟩, some ⟨vb, 0, none⟩, cap⟩ := by rw [hxi]
      rw [hyv] at HO4
      have HSC := Lib.hid hsc
      have HBC := Lib.hid (show (∀ j, (w3.setCell ⟨vb, 0, none⟩ (byteV (b % 2))).cell? ⟨g, j, none⟩ = w3.cell? ⟨g, j, none⟩) from fun j => World.cell?_setCell_other _ _ _ _ (by simp; try omega))
      have HBM := Lib.hid (show ((b.toNat : Int) % 2) = ((b % 2).toNat : Int) from by rw [UInt8.toNat_mod]; rfl)
      have HK4 := Lib.hid (HK3.out.setCell ⟨vb, 0, none⟩ (.inr (show w.heap.size ≤ vb by omega)) (byteV (b % 2)))
      clear hyv hxi HHB hcs hiL3 hsc HIX HBD hbit hh hle hm hs ht HO3 HPI
      obtain ⟨L', hL'⟩ : ∃ L' : List ItemP, L' = (L.set i ⟨⟨L[i].x.path, L[i].x.kind, L[i].x.mode, L[i].x.time, [b]⟩, some ⟨vb, 0, none⟩, cap⟩).set i ⟨⟨x.path, x.kind, x.mode, x.time, [b % 2]⟩, some ⟨vb, 0, none⟩, cap⟩ := ⟨_, rfl⟩
      rw [← hL'] at HO4 HNX
      clear hL'
      unfold byteV at hbc
      have kD : Kp (fun _ => False) (w3.setCell ⟨vb, 0, none⟩ (byteV (b % 2))) (w3.setCell ⟨vb, 0, none⟩ (byteV (b % 2))).drew := (Kp.refl _ _).drew
      have HO5 := Lib.hid (HO4.out.keep kD)
      have HK5 := Lib.hid (HK4.out.trans kD)
      have HC5 := Lib.hid (show (w3.setCell ⟨vb, 0, none⟩ (byteV (b % 2))).drew.cell? ⟨g, i * 5 + 4, none⟩ = some (.slice (some ⟨vb, 0, none⟩) 1 cap) from by
        have h := HBC.out (i * 5 + 4)
        exact h.trans HE4.out)
      have HWD := Lib.hid (show w3.drew.setCell ⟨vb, 0, none⟩ (byteV (b % 2)) = (w3.setCell ⟨vb, 0, none⟩ (byteV (b % 2))).drew from rfl)
      have HBV := Lib.hid (show byteV (b % 2) = .int .u8 ((b % 2).toNat : Int) from rfl)
      clear kD HO4 HK4 HSC HBC
      generalize (w3.setCell ⟨vb, 0, none⟩ (byteV (b % 2))).drew = w5 at *
      go_loopw [5] (fun v wq => ∃ k : Nat, v = .int .i64 k ∧ k ≤ 1 ∧ Hid (k = 0 → wq = w3) ∧ Hid (k = 1 → wq = w5)) (fun v _ => 1 - (intOf v).toNat)
      case atStart => exact ⟨0, rfl, by decide, Lib.hid fun _ => rfl, Lib.hid fun h => by cases h⟩
      case round =>
        obtain ⟨k, rfl, hk1, H0, H1⟩ := hrel
        have hkk : k = 0 ∨ k = 1 := by omega
        rcases hkk with rfl | rfl
        · have h := H0.out rfl
          subst h
          clear H0 H1 HO5 HNX HK5 HC5
          have e4 : wr.cell? ⟨g, i * 5 + 4, none⟩ = some (.slice (some ⟨vb, 0, none⟩) 1 cap) := HE4.out
          go_upto_region 10 with fail
          go_still_tail 18, (by kernel_rfl)
          have e4d : wr.drew.cell? ⟨g, i * 5 + 4, none⟩ = some (.slice (some ⟨vb, 0, none⟩) 1 cap) := e4
          have hbcd : wr.drew.cell? ⟨vb, 0, none⟩ = some (.int .u8 b.toNat) := hbc
          have hbfd : wr.drew.frozen? ⟨vb, 0, none⟩ = false := hbf
          change wpList _ _ _ _ _ wr.drew
          clear e4 hbc hbf
          generalize wr.drew = wd at *
          go_wp2
          exact ⟨⟨1, rfl, by decide, Lib.hid (fun h => by cases h), Lib.hid (fun _ => by rw [HBM.out, ← HBV.out]; exact HWD.out)⟩, by decide⟩
        · have h := H1.out rfl
          rw [h]
          have e4 := HC5.out
          clear h H0 H1 hbc hbf
          go_wp2
          exact ⟨⟨i + 1, _, by go_num, by omega, HNX, HO5, HK5⟩, by simp only [intOf]; omega⟩
end Go.Proofs.YtgpidbdgodgefaaDoor
