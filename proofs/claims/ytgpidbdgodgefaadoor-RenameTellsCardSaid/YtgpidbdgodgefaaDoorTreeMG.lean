/- Rows of structs that a call makes: append, whatever the element's size; trees that a call makes. Conditions: as the theorems name them. -/
import Derived.Test.YtgpidbdgodgefaaDoorSome
import Derived.Test.YtgpidbdgodgefaaDoorTreeOk
import Derived.Deep.CutRange
import Derived.Deep.CutBlock
namespace Go.Proofs.YtgpidbdgodgefaaDoor
open Go.RowKit

/-- The row of an element's type. -/
structure RowInfo (P : Program) (t e : TypeId) (i : TypeInfo) (z : Value) (size bytes : Nat) : Prop where
  sl : P.underlying t = some (.slice e)
  info : P.info? e = some i
  zero : i.zero = some z
  sz : i.size = size
  by_ : i.bytes = bytes
  zs : z.cells.size = size
  pos : 0 < size

theorem run_append_row {P : Program} {w : World} {t e : TypeId} {i : TypeInfo} {z : Value} {size bytes : Nat} (I : RowInfo P t e i z size bytes) (base : Nat) (ty : TypeId) (v : Value) (n : Nat) (xs : List Value) (hown : w.ownsRow base e size v n xs) (hbase : base ≤ w.heap.size)
    (ad : Addr) (m c : Nat) (news : List Value) (hl : news.length = m * size) (hnews : ∀ j u, news[j]? = some u → w.cell? (ad.add j) = some u) (h1 : ∀ u ∈ news, u.oneCell' = true) (hmax : n + m ≤ maxLen) (hbytes : (n + m) * bytes ≤ 140737488355328) :
    ∃ v' w', (Builtin.append_ #[t, t] ty #[v, .slice (some ad) m c]).run P w = .ok v' w' ∧ w'.ownsRow base e size v' (n + m) (xs ++ news) ∧ w.grownBy w' v.ownBlock ∧ Fresh w v.ownBlock v'.ownBlock := by
  have hown' := hown
  obtain ⟨g1, ⟨rfl, h0⟩ | ⟨g, cap, cur, rfl, hg, hh, hle, hm, hs, ht⟩⟩ := hown
  · subst h0
    have hx0 : xs = [] := List.eq_nil_of_length_eq_zero (by omega)
    subst hx0
    obtain ⟨v', w', r1, r2, r3, r4⟩ := run_append_own (P := P) w w.heap.size t ty e i z size bytes I.sl I.info I.zero I.sz I.by_ I.zs I.pos (.slice none 0 0) 0 [] (World.ownsRow_nil w _ e size) ad m c news hl hnews h1 (by simpa using hmax) (by simpa using hbytes) (Nat.le_refl _)
    refine ⟨v', w', r1, ?_, r3, ?_⟩
    · obtain ⟨q1, q2 | ⟨g, cap, cur, hv, hg, hr⟩⟩ := r2
      · exact ⟨q1, .inl q2⟩
      · exact ⟨q1, .inr ⟨g, cap, cur, hv, Nat.le_trans hbase hg, hr⟩⟩
    · cases hb : v'.ownBlock with
      | none => exact .inl rfl
      | some k => exact .inr ⟨k, rfl, (World.ownsRow.lt r2 k hb).1⟩
  · by_cases hroom : n + m ≤ cap
    · obtain ⟨w', r1, r2, r3⟩ := run_append_fits (P := P) w base t ty e i size I.sl I.info I.sz g n cap xs hown' ad m c news hl hnews h1 hroom
      exact ⟨_, w', r1, r2, r3, .inl rfl⟩
    · have holds : ∀ j u, xs[j]? = some u → w.cell? ((⟨g, 0, none⟩ : Addr).add j) = some u := by
        intro j u hj
        have hlt : j < n * size := by
          have := (List.getElem?_eq_some_iff.1 hj).1
          omega
        rw [Addr.add_lit, Nat.zero_add]
        rw [← ht, List.getElem?_take, if_pos hlt] at hj
        simpa [World.cell?, hh] using hj
      obtain ⟨v', w', r1, r2, r3⟩ := run_append_arg_grows (P := P) w t ty e i z size bytes I.sl I.info I.zero I.sz I.by_ I.zs I.pos ⟨g, 0, none⟩ n cap xs g1 holds ad m c news hl hnews (by omega) hmax hbytes
      have hw2 : w'.ownsRow base e size v' (n + m) (xs ++ news) := by
        obtain ⟨q1, q2 | ⟨g, cap, cur, hv, hg, hr⟩⟩ := r2
        · exact ⟨q1, .inl q2⟩
        · exact ⟨q1, .inr ⟨g, cap, cur, hv, Nat.le_trans hbase hg, hr⟩⟩
      refine ⟨v', w', r1, hw2, ⟨r3.os, r3.tape, r3.output, r3.size, fun k hk _ => r3.block k hk (by intro e; cases e)⟩, ?_⟩
      cases hb : v'.ownBlock with
      | none =>
        exfalso
        obtain ⟨q1, ⟨rfl, q2⟩ | ⟨g, cap, cur, rfl, _⟩⟩ := r2
        · omega
        · cases hb
      | some k => exact .inr ⟨k, rfl, (World.ownsRow.lt r2 k hb).1⟩

theorem ownsN_keep {w w' : World} {base : Nat} {e : TypeId} {size : Nat} {v : Value} {n : Nat} {xs : List Value} {S : Nat → Prop} (h : w.ownsRow base e size v n xs) (k : Kp S w w') (hn : ∀ b, v.ownBlock = some b → ¬ S b) : w'.ownsRow base e size v n xs := by
  obtain ⟨h1, h2⟩ := h
  refine ⟨h1, ?_⟩
  rcases h2 with h2 | ⟨g, cap, cur, hv, hg, hh, r⟩
  · exact Or.inl h2
  · exact Or.inr ⟨g, cap, cur, hv, hg, by rw [k.block g (hp_lt hh) (hn g (by rw [hv]; rfl))]; exact hh, r⟩

/-- append of one element, as an operation. -/
theorem wpList_append_row {P : Program} {ops : Array Oper} {rest : List Oper} {o : Oper} {a : Act} {w : World} {Q : Exit → Act → World → Prop} {t e : TypeId} {i : TypeInfo} {z : Value} {size bytes : Nat} (hgd : o.guard = none) (I : RowInfo P t e i z size bytes) (base : Nat) (s x : Operand)
    (ho : o.op = .call { callee := .builtin .append, args := #[s, x], argTypes := #[t, t] })
    (v : Value) (n : Nat) (xs : List Value) (hs : a.eval s = v) (hown : w.ownsRow base e size v n xs) (hbase : base ≤ w.heap.size)
    (g : Nat) (hx : a.eval x = .slice (some ⟨g, 0, none⟩) 1 1) (news : List Value) (T : TypeId) (fz : Nat × Nat) (hg : w.heap[g]? = some (.cells news.toArray T fz)) (hl : news.length = size) (h1 : ∀ u ∈ news, u.oneCell' = true) (hmax : n ≤ 1000000) (hb : bytes ≤ 1000)
    (h : ∀ v' w', w'.ownsRow base e size v' (n + 1) (xs ++ news) → w.grownBy w' v.ownBlock → Fresh w v.ownBlock v'.ownBlock → wpList P ops Q rest (a.put o.dst v') w') : wpList P ops Q (o :: rest) a w :=
  wpList_plain hgd fun _ hK => by
    have hnews : ∀ j u, news[j]? = some u → w.cell? ((⟨g, 0, none⟩ : Addr).add j) = some u := by
      intro j u hj
      rw [Addr.add_lit, Nat.zero_add]
      simpa [World.cell?, hg] using hj
    have hby : (n + 1) * bytes ≤ 140737488355328 := Nat.le_trans (Nat.mul_le_mul (show n + 1 ≤ 1000001 by omega) hb) (by decide)
    obtain ⟨v', w', hr, h2, h3, h4⟩ := run_append_row (P := P) I base o.type v n xs hown hbase ⟨g, 0, none⟩ 1 1 news (by omega) hnews h1 (by unfold maxLen; omega) hby
    unfold Oper.wp execOp
    simp only [ho, resolve, invoke, builtin, Sem.run_bind, Sem.run_pure, Result.andThen_ok, List.map_toArray, List.map_cons, List.map_nil, hs, hx, hr]
    exact hK _ _ (h v' w' h2 h3 h4)

/-! ### trees that a call makes -/
theorem Sl.keepE {w w' : World} {v : Value} {a : Option Addr} {c : Nat} {bs : List UInt8} {S : Nat → Prop} (h : Sl w v a c bs) (k : Kp S w w') (hn : 0 < bs.length → ∀ b, blk a = some b → ¬ S b) : Sl w' v a c bs := by
  refine ⟨h.eq, h.le, h.max, h.nocap, fun i hi => ?_⟩
  obtain ⟨b, off, e, hc⟩ := h.seg i hi
  exact ⟨b, off, e, k.cell hc (hn (by omega) b (by rw [e]; rfl))⟩
theorem Sl.blk_in {w : World} {v : Value} {a : Option Addr} {c : Nat} {bs : List UInt8} (h : Sl w v a c bs) (hp : 0 < bs.length) {b : Nat} (hb : blk a = some b) : b < w.heap.size := by
  obtain ⟨b', off, e, hc⟩ := h.seg 0 hp
  rw [e] at hb
  cases hb
  exact World.block_lt_of_cell? _ _ hc
theorem infoItem : (Tryd.prog.info? 44).map (fun i => (i.zero, i.size, i.bytes)) = some (some (.agg #[.string ByteArray.empty, .int .i64 0, .int .i64 0, .float .f64 0, .slice none 0 0]), 5, 64) := by kernel_rfl
theorem itemInfo : ∃ i, RowInfo Tryd.prog 45 44 i (.agg #[.string ByteArray.empty, .int .i64 0, .int .i64 0, .float .f64 0, .slice none 0 0]) 5 64 := by
  obtain ⟨i, h1, h2, h3, h4⟩ := info_parts infoItem
  exact ⟨i, Tryd.underlying45, h1, h2, h3, h4, rfl, by decide⟩
/-- A tree that a call makes: its row is its own. -/
structure OwnT (w : World) (base : Nat) (v : Value) (l : List ItemP) : Prop where
  own : w.ownsRow base 44 5 v l.length (l.flatMap ItemP.cells)
  ok : ∀ y ∈ l, y.Ok w
  sep : ∀ y ∈ l, 0 < y.x.bs.length → ∀ b, blk y.ad = some b → v.ownBlock ≠ some b
theorem OwnT.nil (w : World) (base : Nat) : OwnT w base (.slice none 0 0) [] := ⟨World.ownsRow_nil w _ _ _, fun _ h => (by cases h), fun _ h => (by cases h)⟩
theorem OwnT.keep {w w' : World} {base : Nat} {v : Value} {l : List ItemP} (h : OwnT w base v l) (k : Kp (fun _ => False) w w') : OwnT w' base v l :=
  ⟨ownsN_keep h.own k (fun _ _ => id), fun y hy => (h.ok y hy).keep k, h.sep⟩
theorem OwnT.form {w : World} {base : Nat} {v : Value} {l : List ItemP} (h : OwnT w base v l) : ∃ a c, v = .slice a l.length c ∧ v.ownBlock = blk a ∧ (a = none → l = []) := by
  obtain ⟨_, ⟨rfl, h0⟩ | ⟨g, cap, cur, rfl, _⟩⟩ := h.own
  · exact ⟨none, 0, by rw [h0], rfl, fun _ => List.eq_nil_of_length_eq_zero h0⟩
  · exact ⟨_, _, rfl, rfl, fun h => (by cases h)⟩
theorem OwnT.lt {w : World} {base : Nat} {v : Value} {l : List ItemP} (h : OwnT w base v l) : ∀ k, v.ownBlock = some k → base ≤ k ∧ k < w.heap.size := World.ownsRow.lt h.own
/-- What a call has made is a tree. -/
theorem OwnT.tree {w : World} {base : Nat} {v : Value} {l : List ItemP} (h : OwnT w base v l) {a : Option Addr} {c : Nat} (hv : v = .slice a l.length c) : TreeAt w a (l.map (·.x)) := by
  obtain ⟨h1, ⟨e, h0⟩ | ⟨g, cap, cur, e, hg, hh, hl, hm, hs, ht⟩⟩ := h.own
  · have : l = [] := List.eq_nil_of_length_eq_zero h0
    subst this
    intro i hi
    simp at hi
  · rw [hv] at e
    cases e
    refine tree_row l hh (fun i v hi => ?_) h.ok
    have hlt := (List.getElem?_eq_some_iff.1 hi).1
    rw [← ht, List.getElem?_take] at hi
    split at hi
    · simpa using hi
    · cases hi
/-- One more. -/
theorem OwnT.more {w w' : World} {base : Nat} {v v' : Value} {l : List ItemP} {y : ItemP} (h : OwnT w base v l) (hy : y.Ok w) (hsep : 0 < y.x.bs.length → ∀ b, blk y.ad = some b → v.ownBlock ≠ some b)
    (own : w'.ownsRow base 44 5 v' (l.length + 1) (l.flatMap ItemP.cells ++ y.cells)) (g : w.grownBy w' v.ownBlock) (f : Fresh w v.ownBlock v'.ownBlock) : OwnT w' base v' (l ++ [y]) := by
  have hk : Kp (fun b => v.ownBlock = some b) w w' := (Kp.refl (fun b => v.ownBlock = some b) w).grown g fun k hk => .inl hk
  have hok : ∀ x : ItemP, x.Ok w → (0 < x.x.bs.length → ∀ b, blk x.ad = some b → v.ownBlock ≠ some b) → x.Ok w' := fun x hx hs => ⟨hx.1.keepE hk fun hp b hb => hs hp b hb, hx.2⟩
  have hse : ∀ x : ItemP, x.Ok w → (0 < x.x.bs.length → ∀ b, blk x.ad = some b → v.ownBlock ≠ some b) → 0 < x.x.bs.length → ∀ b, blk x.ad = some b → v'.ownBlock ≠ some b := fun x hx hs hp b hb e => by
    rcases f with f | ⟨k, f, hk2⟩
    · exact hs hp b hb (f ▸ e)
    · rw [f] at e
      cases e
      have := hx.1.blk_in hp hb
      omega
  refine ⟨?_, fun x hx => ?_, fun x hx => ?_⟩
  · rw [List.length_append, List.flatMap_append, List.length_singleton, List.flatMap_singleton]
    exact own
  · rcases List.mem_append.1 hx with hx | hx
    · exact hok x (h.ok x hx) (h.sep x hx)
    · have : x = y := by simpa using hx
      subst this
      exact hok x hy hsep
  · rcases List.mem_append.1 hx with hx | hx
    · exact hse x (h.ok x hx) (h.sep x hx)
    · have : x = y := by simpa using hx
      subst this
      exact hse x hy hsep
theorem ItemP.cells_one (y : ItemP) : ∀ u ∈ y.cells, u.oneCell' = true := fun u hu => by
  simp only [ItemP.cells, List.mem_cons, List.not_mem_nil, or_false] at hu
  rcases hu with rfl | rfl | rfl | rfl | rfl <;> rfl
/-- append of an item onto a tree that the call makes. -/
theorem wpList_append_item {ops : Array Oper} {rest : List Oper} {o : Oper} {a : Act} {w : World} {Q : Exit → Act → World → Prop} (hgd : o.guard = none) (base : Nat) (s x : Operand)
    (ho : o.op = .call { callee := .builtin .append, args := #[s, x], argTypes := #[45, 45] })
    (v : Value) (l : List ItemP) (hs : a.eval s = v) (hown : OwnT w base v l) (hbase : base ≤ w.heap.size) (y : ItemP) (hy : y.Ok w) (hsep : 0 < y.x.bs.length → ∀ b, blk y.ad = some b → v.ownBlock ≠ some b)
    (g : Nat) (hx : a.eval x = .slice (some ⟨g, 0, none⟩) 1 1) (T : TypeId) (fz : Nat × Nat) (hg : w.heap[g]? = some (.cells y.cells.toArray T fz)) (hmax : l.length ≤ 1000000)
    (h : ∀ v' w', OwnT w' base v' (l ++ [y]) → Kp (fun b => v.ownBlock = some b) w w' → wpList Tryd.prog ops Q rest (a.put o.dst v') w') : wpList Tryd.prog ops Q (o :: rest) a w := by
  obtain ⟨i, I⟩ := itemInfo
  refine wpList_append_row (bytes := 64) hgd I base s x ho v l.length _ hs hown.own hbase g hx y.cells T fz hg rfl y.cells_one hmax (by decide) fun v' w' h1 h2 h3 => ?_
  exact h v' w' (hown.more hy hsep h1 h2 h3) ((Kp.refl (fun b => v.ownBlock = some b) w).grown h2 fun k hk => .inl hk)
end Go.Proofs.YtgpidbdgodgefaaDoor
/- The document's trees: the contracts of Get, IsDir and below. Conditions: as the theorems name them. -/
namespace Go.Proofs.YtgpidbdgodgefaaDoor
open Go.RowKit Go.Deep

/-- A tree that the call has made. -/
def TreeEnd (w : World) (R : List ItemV) (e : Ending) (w' : World) : Prop :=
  ∃ v L, e = .returned v ∧ L.map (·.x) = R ∧ OwnT w' w.heap.size v L ∧ Kp (fun _ => False) w w'
/-- What is there, or nothing. -/
def RGetEnd (w : World) (o : Option ItemV) (e : Ending) (w' : World) : Prop :=
  ∃ (n : NodeV) (a : Option Addr) (c : Nat), e = .returned (.tuple #[nodeVal n a c, .bool o.isSome]) ∧ (∀ x, o = some x → n = x.node) ∧ (o = none → n = ⟨0, 0, 0, []⟩) ∧ NAt w' n a c ∧ (0 < n.bs.length → ∀ b, blk a = some b → b < w.heap.size) ∧ Kp (fun _ => False) w w'

theorem look_take (l : List ItemV) (p : List UInt8) (i : Nat) (hi : i < l.length) (h : lookT (l.take i) p = none) : lookT (l.take (i + 1)) p = if l[i].path = p then some l[i] else none := by
  unfold lookT at h ⊢
  rw [List.take_succ_eq_append_getElem hi, List.find?_append, h]
  by_cases hc : l[i].path = p <;> simp [hc]
theorem look_hit (l : List ItemV) (p : List UInt8) (i : Nat) (hi : i < l.length) (h : lookT (l.take i) p = none) (hp : l[i].path = p) : lookT l p = some l[i] := by
  unfold lookT at h ⊢
  have e : l = l.take i ++ l[i] :: l.drop (i + 1) := by rw [← List.drop_eq_getElem_cons hi, List.take_append_drop]
  conv => lhs; arg 2; rw [e]
  rw [List.find?_append, h, List.find?_cons]
  simp [hp]

set_option maxHeartbeats 4000000 in
set_option maxRecDepth 100000 in
theorem refGet_any (a : Option Addr) (c : Nat) (l : List ItemV) (s : List UInt8) (w : World) (h : TreeAt w a l) (hl : l.length ≤ 4611686018427387903) :
    Calls Tryd.prog 47 #[.slice a l.length c, .string ⟨s.toArray⟩] w (RGetEnd w (lookT l s)) := by
  have k0 : Kp (fun _ => False) w (w.alloc (.cells #[.int .i64 0, .int .i64 0, .float .f64 0, .slice none 0 0] 42)) := (Kp.refl _ w).alloc _
  have HN := Lib.hid (hp_new w (.cells #[.int .i64 0, .int .i64 0, .float .f64 0, .slice none 0 0] 42))
  have HK0 := Lib.hid k0
  have HT := Lib.hid h
  clear h k0
  have hsf : ∀ (a : Addr) (b : Nat) (m : Mode) (w : World), (store a (.float .f64 b) m).run Tryd.prog w = stored Tryd.prog w a (.float .f64 b) m := fun a b m w => run_store _ w a _ m rfl
  go_enter Tryd.func47, Tryd.ntmps47
  go_wp2_with fail
  go_loopw [6] (fun v wr => ∃ i : Nat, v = .int .i64 i ∧ i ≤ l.length ∧ Hid (lookT (l.take i) s = none) ∧ Hid (wr.heap[w.heap.size]? = some (.cells #[.int .i64 0, .int .i64 0, .float .f64 0, .slice none 0 0] 42 (0, 0))) ∧ Hid (Kp (fun _ => False) w wr)) (fun v _ => l.length - (intOf v).toNat)
  case atStart => exact ⟨0, rfl, Nat.zero_le _, Lib.hid rfl, HN, HK0⟩
  case round =>
    obtain ⟨i, rfl, hil, HL, HNr, HK⟩ := hrel
    clear HN HK0
    obtain ⟨⟨p0, p1, p2, p3⟩, ⟨l0, l1, l2, l3⟩, lt3⟩ := cell_fr HNr.out
    by_cases hlt : i < l.length
    · obtain ⟨b, off, ad, cp, rfl, hx0⟩ := HT.out i hlt
      have hx := hx0.keep HK.out
      obtain ⟨d0, d1, d2, d3, d4, _, _, _⟩ := hx
      have HX := Lib.hid (hx0.keep HK.out)
      have HX0 := Lib.hid hx0
      clear hx0
      by_cases hp : l[i].path = s
      · have HR := Lib.hid (look_hit l s i hlt HL.out hp)
        go_wp2
        obtain ⟨hl4, hk4⟩ := node_laid HNr.out l[i].node ad cp (fun _ => False) w (.inr (Nat.le_refl _)) HK.out
        obtain ⟨_, hk5⟩ := node_laid HNr.out l[i].node ad cp (fun b => b = w.heap.size) _ (.inl rfl) (Kp.refl _ _)
        obtain ⟨y0, y1, y2, y3⟩ := cell_four hl4
        dsimp only [ItemV.node] at y0 y1 y2 y3
        refine bodyPost_ret (v := .tuple #[.agg #[.int .i64 l[i].kind, .int .i64 l[i].mode, .float .f64 l[i].time, .slice ad l[i].bs.length cp], .bool true]) (by simp [results, Tryd.results47, go_sem, y0, y1, y2, y3]) rfl ?_
        rw [HR.out]
        refine ⟨l[i].node, ad, cp, rfl, fun x h => (by cases h; rfl), fun h => (by cases h), ⟨HX.out.sl.keepE hk5 (fun hpos b hb h => ?_), HX.out.time, HX.out.len⟩, fun hpos b hb => HX0.out.sl.blk_in hpos hb, hk4⟩
        have := HX0.out.sl.blk_in hpos hb
        omega
      · have HR := Lib.hid (show lookT (l.take (i + 1)) s = none from by rw [look_take l s i hlt HL.out, if_neg hp])
        have hb : (l[i].path == s) = false := by simpa using hp
        go_wp2
        exact ⟨⟨i + 1, by go_num, by omega, HR, HNr, HK⟩, by simp only [intOf]; omega⟩
    · have HR := Lib.hid (show lookT l s = none from by have h5 := HL.out; rwa [List.take_of_length_le (by omega)] at h5)
      go_wp2
      obtain ⟨hl4, hk4⟩ := node_laid HNr.out ⟨0, 0, 0, []⟩ none 0 (fun _ => False) w (.inr (Nat.le_refl _)) HK.out
      obtain ⟨y0, y1, y2, y3⟩ := cell_four hl4
      dsimp only [List.length_nil] at y0 y1 y2 y3 hk4
      refine bodyPost_ret (v := .tuple #[.agg #[.int .i64 0, .int .i64 0, .float .f64 0, .slice none 0 0], .bool false]) (by simp [results, Tryd.results47, go_sem, y0, y1, y2, y3]) rfl ?_
      rw [HR.out]
      exact ⟨⟨0, 0, 0, []⟩, none, 0, rfl, fun x h => (by cases h), fun _ => rfl, ⟨Sl.nil _, by decide, by decide⟩, fun _ b h => (by cases h), hk4⟩

set_option maxHeartbeats 2000000 in
theorem refIsDir_any (a : Option Addr) (c : Nat) (l : List ItemV) (s : List UInt8) (w : World) (h : TreeAt w a l) (hl : l.length ≤ 4611686018427387903) :
    Calls Tryd.prog 48 #[.slice a l.length c, .string ⟨s.toArray⟩] w fun e w' => e = .returned (.bool (dirL l s)) ∧ Kp (fun _ => False) w w' := by
  have HC := Lib.hid (refGet_any a c l s w h hl)
  have HR := Lib.hid (show dirL l s = (s.isEmpty || match lookT l s with | some x => x.kind == 2 | none => false) from rfl)
  clear h
  go_enter Tryd.func48, Tryd.ntmps48
  go_wp2_with fail
  refine HC.out.mono ?_
  rintro e w1 ⟨n, na, nc, rfl, hn1, hn2, _, _, hk⟩
  have hsf : ∀ (a : Addr) (b : Nat) (m : Mode) (w : World), (store a (.float .f64 b) m).run Tryd.prog w = stored Tryd.prog w a (.float .f64 b) m := fun a b m w => run_store _ w a _ m rfl
  have HK := Lib.hid hk
  rw [nodeVal]
  clear hk HC
  cases he : s.isEmpty with
  | true =>
    go_wp2
    go_ret
    rw [HR.out, he]
    exact ⟨rfl, HK.out.alloc _⟩
  | false =>
    cases ho : lookT l s with
    | none =>
      go_wp2
      go_ret
      rw [HR.out, he, ho]
      exact ⟨rfl, HK.out.alloc _⟩
    | some x =>
      have e := hn1 x ho
      subst e
      go_wp2
      go_ret
      rw [HR.out, he, ho]
      exact ⟨rfl, HK.out.alloc _⟩

theorem cutL_take (l : List ItemV) (p : List UInt8) (i : Nat) (hi : i < l.length) : cutL (l.take (i + 1)) p = if belowB p l[i].path = true then cutL (l.take i) p else cutL (l.take i) p ++ [l[i]] := by
  unfold cutL
  rw [List.take_succ_eq_append_getElem hi, List.filter_append]
  by_cases hc : belowB p l[i].path = true <;> simp [hc]

set_option maxHeartbeats 4000000 in
set_option maxRecDepth 100000 in
theorem refCut_any (a : Option Addr) (c : Nat) (l : List ItemV) (s : List UInt8) (w : World) (h : TreeAt w a l) (hl : l.length ≤ 1000) (hpl : ∀ x ∈ l, x.path.length ≤ 1000) (hs : s.length ≤ 1000) :
    Calls Tryd.prog 66 #[.slice a l.length c, .string ⟨s.toArray⟩] w (TreeEnd w (cutL l s)) := by
  have HT := Lib.hid h
  have HPL := Lib.hid hpl
  clear h hpl
  go_enter Tryd.func66, Tryd.ntmps66
  go_wp2_with fail
  go_loopw [5, 6] (fun u v wr => ∃ (i : Nat) (L : List ItemP), v = .int .i64 i ∧ i ≤ l.length ∧ Hid (L.map (·.x) = cutL (l.take i) s) ∧ Hid (L.length ≤ i) ∧ Hid (OwnT wr w.heap.size u L) ∧ Hid (Kp (fun _ => False) w wr)) (fun _ v _ => l.length - (intOf v).toNat)
  case atStart => exact ⟨0, [], rfl, Nat.zero_le _, Lib.hid rfl, Lib.hid (Nat.zero_le _), Lib.hid (OwnT.nil _ _), Lib.hid (Kp.refl _ _)⟩
  case round =>
    obtain ⟨i, L, rfl, hil, HL, HLL, HO, HK⟩ := hrel
    by_cases hlt : i < l.length
    · obtain ⟨b, off, ad, cp, rfl, hx0⟩ := HT.out i hlt
      have hx := hx0.keep HK.out
      obtain ⟨d0, d1, d2, d3, d4, _, _, _⟩ := hx
      have HOk := Lib.hid (show (ItemP.mk l[i] ad cp).Ok wr from ⟨(hx0.keep HK.out).sl, hx0.time, hx0.len⟩)
      have HLt := Lib.hid (show 0 < l[i].bs.length → ∀ b, blk ad = some b → b < w.heap.size from fun hpos b hb => hx0.sl.blk_in hpos hb)
      have HCT := Lib.hid (cutL_take l s i hlt)
      have hpi := HPL.out l[i] (List.getElem_mem hlt)
      clear hx0
      go_wp2_with fail
      refine (refBelow_any s l[i].path wr (by omega) (by omega)).mono ?_
      rintro e w2 ⟨rfl, rfl⟩
      cases hb : belowB s l[i].path with
      | true =>
        have HC2 := Lib.hid (show cutL (l.take (i + 1)) s = cutL (l.take i) s from by rw [HCT.out, if_pos hb])
        clear HCT
        go_wp2
        exact ⟨⟨i + 1, L, by go_num, by omega, Lib.hid (by rw [HC2.out]; exact HL.out), Lib.hid (by have := HLL.out; omega), HO, HK⟩, by simp only [intOf]; omega⟩
      | false =>
        have HC2 := Lib.hid (show cutL (l.take (i + 1)) s = cutL (l.take i) s ++ [l[i]] from by rw [HCT.out, if_neg (by rw [hb]; decide)])
        have ka : Kp (fun _ => False) wr (wr.alloc (.cells #[.string ⟨l[i].path.toArray⟩, .int .i64 l[i].kind, .int .i64 l[i].mode, .float .f64 l[i].time, .slice ad l[i].bs.length cp] 44)) := (Kp.refl _ wr).alloc _
        have HOA := Lib.hid (HO.out.keep ka)
        have HOkA := Lib.hid (HOk.out.keep ka)
        have HGA := Lib.hid (hp_new wr (.cells #[.string ⟨l[i].path.toArray⟩, .int .i64 l[i].kind, .int .i64 l[i].mode, .float .f64 l[i].time, .slice ad l[i].bs.length cp] 44))
        have HKA := Lib.hid (HK.out.trans ka)
        have HSZ := Lib.hid HK.out.size
        have HSP := Lib.hid (show 0 < (ItemP.mk l[i] ad cp).x.bs.length → ∀ b, blk (ItemP.mk l[i] ad cp).ad = some b → u5.ownBlock ≠ some b from fun hp b hb e => by have h1 := (HO.out.lt b e).1; have h2 := HLt.out hp b hb; omega)
        clear HCT ka HO HOk HLt HK
        go_wp2_with (at_builtin; refine wpList_append_item rfl w.heap.size (.tmp 21) (.tmp 26) rfl u5 L rfl HOA.out (by have := HKA.out.size; exact this) ⟨l[i], ad, cp⟩ HOkA.out HSP.out wr.heap.size rfl 44 (0, 0) HGA.out (by have := HLL.out; omega) ?_)
        intro v' w' hown' hk'
        have HO' := Lib.hid hown'
        have HK' := Lib.hid (HKA.out.step hk' (fun k hk h => by have := (HOA.out.lt k h).1; omega))
        clear hown' hk'
        go_wp2
        exact ⟨⟨i + 1, L ++ [⟨l[i], ad, cp⟩], by go_num, by omega, Lib.hid (by rw [HC2.out, List.map_append, HL.out]; rfl), Lib.hid (by have := HLL.out; simp; omega), HO', HK'⟩, by simp only [intOf]; omega⟩
    · have HR := Lib.hid (show cutL (l.take i) s = cutL l s from by rw [List.take_of_length_le (by omega)])
      go_wp2
      go_ret
      exact ⟨u5, L, rfl, by rw [HL.out, HR.out], HO.out, HK.out⟩
end Go.Proofs.YtgpidbdgodgefaaDoor
