/- append of bytes: onto what the call owns, of whatever is a slice of bytes; as an operation of a plain region and of one that draws its order. Whatever the program. Conditions: as the theorems name them. -/
import Derived.Test.YtgpidbdgodgefaaDoorCore
namespace Go.Proofs.YtgpidbdgodgefaaDoor
open Go.RowKit

/-- The row of a type of bytes. -/
structure ByteInfo (P : Program) (t e : TypeId) (i : TypeInfo) : Prop where
  sl : P.underlying t = some (.slice e)
  info : P.info? e = some i
  zero : i.zero = some (.int .u8 0)
  size : i.size = 1
  bytes : i.bytes = 1

theorem Seg.cells {w : World} {a : Addr} {bs : List UInt8} (h : Seg w (some a) bs) : ∀ j u, (bs.map byteV)[j]? = some u → w.cell? (a.add j) = some u := by
  intro j u hj
  have hlt : j < bs.length := by
    have := (List.getElem?_eq_some_iff.1 hj).1
    simpa using this
  obtain ⟨b, off, e, hc⟩ := h j hlt
  cases e
  rw [Addr.add_lit, hc]
  simpa [hlt] using hj

theorem owns_block {w : World} {base : Nat} {e : TypeId} {size : Nat} {v : Value} {n : Nat} {xs : List Value} (h : w.ownsRow base e size v n xs) : ∀ k, v.ownBlock = some k → base ≤ k ∧ k < w.heap.size :=
  World.ownsRow.lt h

theorem run_append_sl {P : Program} {w : World} {t e : TypeId} {i : TypeInfo} (I : ByteInfo P t e i) (base : Nat) (ty : TypeId) (v : Value) (bs : List UInt8) (hown : w.ownsRow base e 1 v bs.length (bs.map byteV)) (hbase : base ≤ w.heap.size)
    (x : Value) (a : Option Addr) (c : Nat) (news : List UInt8) (hx : Sl w x a c news) (hbytes : bs.length + news.length ≤ 140737488355328) :
    ∃ v' w', (Builtin.append_ #[t, t] ty #[v, x]).run P w = .ok v' w' ∧ w'.ownsRow base e 1 v' (bs ++ news).length ((bs ++ news).map byteV) ∧ w.grownBy w' v.ownBlock ∧ Fresh w v.ownBlock v'.ownBlock := by
  have hmax : bs.length + news.length ≤ maxLen := by unfold maxLen; omega
  have hl : (news.map byteV).length = news.length * 1 := by simp
  cases a with
  | none =>
    have hc := hx.nocap rfl
    have hle := hx.le
    have hn : news = [] := List.eq_nil_of_length_eq_zero (by omega)
    subst hn
    have := hx.eq
    subst hc
    subst this
    refine ⟨v, w, run_append_owned_none (P := P) w base t ty e i 1 I.sl I.info v bs.length _ hown, by simpa using hown, World.grownBy.refl _ _, .inl rfl⟩
  | some ad =>
    rw [hx.eq]
    have hnews := Seg.cells hx.seg
    have hlen : (bs ++ news).length = bs.length + news.length := List.length_append
    have hmap : (bs ++ news).map byteV = bs.map byteV ++ news.map byteV := List.map_append
    rw [hlen, hmap]
    have hown' := hown
    obtain ⟨h1, ⟨rfl, h0⟩ | ⟨g, cap, cur, rfl, hg, hh, hle, hm, hs, ht⟩⟩ := hown
    · have hb0 : bs = [] := List.eq_nil_of_length_eq_zero h0
      subst hb0
      obtain ⟨v', w', r1, r2, r3, r4⟩ := run_append_own (P := P) w w.heap.size t ty e i (.int .u8 0) 1 1 I.sl I.info I.zero I.size I.bytes rfl (by decide) (.slice none 0 0) 0 [] (World.ownsRow_nil w _ e 1) ad news.length c (news.map byteV) hl hnews (byteV_one news) (by simpa using hmax) (by simpa using hbytes) (Nat.le_refl _)
      have hw2 : w'.ownsRow base e 1 v' (0 + news.length) ([] ++ news.map byteV) := by
        obtain ⟨q1, q2 | ⟨g, cap, cur, hv, hg, hr⟩⟩ := r2
        · exact ⟨q1, .inl q2⟩
        · exact ⟨q1, .inr ⟨g, cap, cur, hv, Nat.le_trans hbase hg, hr⟩⟩
      refine ⟨v', w', r1, hw2, r3, ?_⟩
      cases hb : v'.ownBlock with
      | none => exact .inl rfl
      | some k => exact .inr ⟨k, rfl, (World.ownsRow.lt r2 k hb).1⟩
    · by_cases hroom : bs.length + news.length ≤ cap
      · obtain ⟨w', r1, r2, r3⟩ := run_append_fits (P := P) w base t ty e i 1 I.sl I.info I.size g bs.length cap _ hown' ad news.length c (news.map byteV) hl hnews (byteV_one news) hroom
        exact ⟨_, w', r1, r2, r3, .inl rfl⟩
      · have holds : ∀ j u, (bs.map byteV)[j]? = some u → w.cell? ((⟨g, 0, none⟩ : Addr).add j) = some u := by
          intro j u hj
          have hlt : j < bs.length := by
            have := (List.getElem?_eq_some_iff.1 hj).1
            simpa using this
          rw [Addr.add_lit, Nat.zero_add]
          rw [← ht, List.getElem?_take, if_pos (by omega)] at hj
          simpa [World.cell?, hh] using hj
        obtain ⟨v', w', r1, r2, r3⟩ := run_append_arg_grows (P := P) w t ty e i (.int .u8 0) 1 1 I.sl I.info I.zero I.size I.bytes rfl (by decide) ⟨g, 0, none⟩ bs.length cap (bs.map byteV) (by simp) holds ad news.length c (news.map byteV) hl hnews (by omega) hmax (by simpa using hbytes)
        have hw2 : w'.ownsRow base e 1 v' (bs.length + news.length) (bs.map byteV ++ news.map byteV) := by
          obtain ⟨q1, q2 | ⟨g, cap, cur, hv, hg, hr⟩⟩ := r2
          · exact ⟨q1, .inl q2⟩
          · exact ⟨q1, .inr ⟨g, cap, cur, hv, Nat.le_trans hbase hg, hr⟩⟩
        refine ⟨v', w', r1, hw2, ⟨r3.os, r3.tape, r3.output, r3.size, fun k hk _ => r3.block k hk (by intro e; cases e)⟩, ?_⟩
        cases hb : v'.ownBlock with
        | none =>
          exfalso
          obtain ⟨q1, ⟨rfl, q2⟩ | ⟨g, cap, cur, rfl, _⟩⟩ := r2
          · omega
          · cases hb
        | some k => exact .inr ⟨k, rfl, (World.ownsRow.lt r2 k hb).1⟩

/-- As an operation. -/
theorem wp_append_sl {P : Program} {o : Oper} {a : Act} {w : World} {K : Act → World → Prop} {Q : Exit → Act → World → Prop} {t e : TypeId} {i : TypeInfo} (I : ByteInfo P t e i) (base : Nat) (s x : Operand)
    (ho : o.op = .call { callee := .builtin .append, args := #[s, x], argTypes := #[t, t] })
    (v : Value) (bs : List UInt8) (hs : a.eval s = v) (hown : w.ownsRow base e 1 v bs.length (bs.map byteV)) (hbase : base ≤ w.heap.size)
    (xv : Value) (ao : Option Addr) (c : Nat) (news : List UInt8) (hxv : a.eval x = xv) (hx : Sl w xv ao c news) (hbytes : bs.length + news.length ≤ 140737488355328)
    (h : ∀ v' w', w'.ownsRow base e 1 v' (bs ++ news).length ((bs ++ news).map byteV) → w.grownBy w' v.ownBlock → Fresh w v.ownBlock v'.ownBlock → K (a.put o.dst v') w') : o.wp P a w K Q := by
  obtain ⟨v', w', hr, h2, h3, h4⟩ := run_append_sl (P := P) I base o.type v bs hown hbase xv ao c news hx hbytes
  unfold Oper.wp execOp
  simp only [ho, resolve, invoke, builtin, Sem.run_bind, Sem.run_pure, Result.andThen_ok, List.map_toArray, List.map_cons, List.map_nil, hs, hxv, hr]
  exact h v' w' h2 h3 h4

theorem wpList_append_sl {P : Program} {ops : Array Oper} {rest : List Oper} {o : Oper} {a : Act} {w : World} {Q : Exit → Act → World → Prop} {t e : TypeId} {i : TypeInfo} (hgd : o.guard = none) (I : ByteInfo P t e i) (base : Nat) (s x : Operand)
    (ho : o.op = .call { callee := .builtin .append, args := #[s, x], argTypes := #[t, t] })
    (v : Value) (bs : List UInt8) (hs : a.eval s = v) (hown : w.ownsRow base e 1 v bs.length (bs.map byteV)) (hbase : base ≤ w.heap.size)
    (xv : Value) (ao : Option Addr) (c : Nat) (news : List UInt8) (hxv : a.eval x = xv) (hx : Sl w xv ao c news) (hbytes : bs.length + news.length ≤ 140737488355328)
    (h : ∀ v' w', w'.ownsRow base e 1 v' (bs ++ news).length ((bs ++ news).map byteV) → w.grownBy w' v.ownBlock → Fresh w v.ownBlock v'.ownBlock → wpList P ops Q rest (a.put o.dst v') w') : wpList P ops Q (o :: rest) a w :=
  wpList_plain hgd fun _ hK => wp_append_sl I base s x ho v bs hs hown hbase xv ao c news hxv hx hbytes fun v' w' a b c => hK _ _ (h v' w' a b c)

theorem step_append_sl {P : Program} {ops : Array Oper} {o : Oper} {a : Act} {w : World} {K : Act → World → Prop} {Q : Exit → Act → World → Prop} {E : Prop} {t e : TypeId} {i : TypeInfo} (hgd : o.guard = none) (I : ByteInfo P t e i) (base : Nat) (s x : Operand)
    (ho : o.op = .call { callee := .builtin .append, args := #[s, x], argTypes := #[t, t] })
    (v : Value) (bs : List UInt8) (hs : a.eval s = v) (hown : w.ownsRow base e 1 v bs.length (bs.map byteV)) (hbase : base ≤ w.heap.size)
    (xv : Value) (ao : Option Addr) (c : Nat) (news : List UInt8) (hxv : a.eval x = xv) (hx : Sl w xv ao c news) (hbytes : bs.length + news.length ≤ 140737488355328)
    (h : ∀ v' w', w'.ownsRow base e 1 v' (bs ++ news).length ((bs ++ news).map byteV) → w.grownBy w' v.ownBlock → Fresh w v.ownBlock v'.ownBlock → K (a.put o.dst v') w') :
    if Region.wanted o (yielded ops a.tmps) = true then Oper.wp P o a w K Q else E := by
  rw [if_pos (by simp [Region.wanted, hgd])]
  exact wp_append_sl I base s x ho v bs hs hown hbase xv ao c news hxv hx hbytes h

/-- A value that owns at least one element is written out. -/
theorem owns_form {w : World} {base : Nat} {e : TypeId} {v : Value} {n : Nat} {xs : List Value} (h : w.ownsRow base e 1 v n xs) : ∃ a c, v = .slice a n c := by
  obtain ⟨_, ⟨rfl, rfl⟩ | ⟨g, cap, cur, rfl, _⟩⟩ := h
  · exact ⟨none, 0, rfl⟩
  · exact ⟨_, _, rfl⟩

/-- One new cell is a slice of one byte. -/
theorem sl_new (w : World) (b : UInt8) (t : TypeId) : Sl (w.alloc (.cells #[byteV b] t)) (.slice (some ⟨w.heap.size, 0, none⟩) 1 1) (some ⟨w.heap.size, 0, none⟩) 1 [b] :=
  ⟨rfl, Nat.le_refl _, by unfold maxLen; omega, fun h => (by cases h), fun i hi => ⟨_, 0, rfl, by
    have : i = 0 := by simpa using hi
    subst this
    exact (cell_one (hp_new w _)).1⟩⟩

/-- The empty slice that is written out owns nothing yet. -/
theorem owns_empty (w : World) (base : Nat) (e : TypeId) (hb : base ≤ w.heap.size) : (w.alloc (.cells #[] e)).ownsRow base e 1 (.slice (some ⟨w.heap.size, 0, none⟩) 0 0) 0 [] :=
  World.ownsRow_made w #[] 0 hb (Nat.zero_le _) rfl

/-- A slice of bytes as a string. -/
theorem sl_string {P : Program} {w : World} {x : Value} {a : Option Addr} {c : Nat} {bs : List UInt8} (h : Sl w x a c bs) (src dst e : TypeId) (hs : P.underlying src = some (.slice e)) (he : P.underlying e = some (.int .u8)) (hd : P.underlying dst = some .string) :
    (convert src dst x).run P w = .ok (.string ⟨bs.toArray⟩) w := by
  cases a with
  | none =>
    have hc := h.nocap rfl
    have hle := h.le
    have hn : bs = [] := List.eq_nil_of_length_eq_zero (by omega)
    subst hn
    rw [h.eq]
    exact run_convert_bytes_nil w src e hs he _ _ dst hd
  | some ad =>
    rw [h.eq]
    refine run_convert_bytes_back w src dst e ad c bs hs he hd fun j hj => ?_
    obtain ⟨b, off, e1, hc⟩ := h.seg j hj
    cases e1
    rw [Addr.add_lit]
    exact hc

/-- The new value is stored into the writer's field. -/
theorem wr_store {T B : TypeId} {w : World} {p : Nat} {old v : Value} {bs : List UInt8} (hh : w.heap[p]? = some (.cells #[old] T (0, 0))) (ho : w.ownsRow (p + 1) B 1 v bs.length (bs.map byteV)) :
    Wr T B (w.setCell ⟨p, 0, none⟩ v) p v.ownBlock bs :=
  ⟨v, set_one hh, rfl, owns_keep (S := fun k => k = p) ho ((Kp.refl (fun k => k = p) w).setCell ⟨p, 0, none⟩ (.inl rfl) v) (fun b hb e => by have := owns_block ho b hb; omega)⟩

theorem Fresh.trans {w w1 : World} {a b c : Option Nat} (h : Fresh w a b) (k : Fresh w1 b c) (hs : w.heap.size ≤ w1.heap.size) : Fresh w a c := by
  rcases k with rfl | ⟨n, rfl, hn⟩
  · exact h
  · exact .inr ⟨n, rfl, by omega⟩

/-- The frame of an append onto a row that was the writer's, or is new. -/
theorem Kp.appended {w w1 w2 : World} {p : Nat} {row row' : Option Nat} (h : Kp (fun k => k = p ∨ row = some k) w w1) (hf : Fresh w row row') (g : w1.grownBy w2 row') : Kp (fun k => k = p ∨ row = some k) w w2 :=
  h.grown g fun k hk => by
    rcases hf with e | ⟨n, e, hn⟩
    · subst e; exact .inl (.inr hk)
    · rw [e] at hk; cases hk; exact .inr hn
end Go.Proofs.YtgpidbdgodgefaaDoor
