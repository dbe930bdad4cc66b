/- Rows of one-cell elements that a call owns: append of one, a part of one, reading one. Whatever the program. Conditions: as the theorems name them. -/
import Derived.Test.YtbjndmmelngbdaaFail
import Derived.Deep.RegionLaw
namespace Go.Proofs.Ytbjndmmelngbdaa
open Go.RowKit

theorem Kp.drewN {S : Nat → Prop} {a w : World} (h : Kp S a w) (n : Nat) : Kp S a (w.drewN n) := ⟨h.os, h.tape, h.output, h.size, h.block⟩
theorem Kp.drew {S : Nat → Prop} {a w : World} (h : Kp S a w) : Kp S a w.drew := ⟨h.os, h.tape, h.output, h.size, h.block⟩
theorem Kp.grown {S : Nat → Prop} {a w w' : World} {row : Option Nat} (h : Kp S a w) (g : w.grownBy w' row) (hr : ∀ k, row = some k → S k ∨ a.heap.size ≤ k) : Kp S a w' :=
  ⟨g.os.trans h.os, g.tape.trans h.tape, g.output.trans h.output, Nat.le_trans h.size g.size, fun k hk hn =>
    (g.block k (Nat.lt_of_lt_of_le hk h.size) (fun e => by rcases hr k e.symm with h' | h'; exact hn h'; omega)).trans (h.block k hk hn)⟩
theorem Kp.hp {S : Nat → Prop} {a w : World} (h : Kp S a w) {n : Nat} {o : Obj} (ho : a.heap[n]? = some o) (hn : ¬ S n) : w.heap[n]? = some o := by
  rw [h.block n (hp_lt ho) hn]; exact ho
theorem owns_keep {w w' : World} {base : Nat} {e : TypeId} {v : Value} {n : Nat} {xs : List Value} {S : Nat → Prop} (h : w.ownsRow base e 1 v n xs) (k : Kp S w w') (hn : ∀ b, v.ownBlock = some b → ¬ S b) : w'.ownsRow base e 1 v n xs := by
  obtain ⟨h1, h2⟩ := h
  refine ⟨h1, ?_⟩
  rcases h2 with h2 | ⟨g, cap, cur, hv, hg, hh, r⟩
  · exact Or.inl h2
  · exact Or.inr ⟨g, cap, cur, hv, hg, by rw [k.block g (hp_lt hh) (hn g (by rw [hv]; rfl))]; exact hh, r⟩
/-- The row behind a call is the one that it was, or a new one. -/
def Fresh (w : World) (row row' : Option Nat) : Prop := row' = row ∨ ∃ k, row' = some k ∧ w.heap.size ≤ k
theorem Fresh.trans {w w1 : World} {a b c : Option Nat} (h : Fresh w a b) (k : Fresh w1 b c) (hs : w.heap.size ≤ w1.heap.size) : Fresh w a c := by
  rcases k with rfl | ⟨n, rfl, hn⟩
  · exact h
  · exact .inr ⟨n, rfl, by omega⟩

/-- A value that owns a row is written out. -/
theorem owns_form {w : World} {base : Nat} {e : TypeId} {v : Value} {n : Nat} {xs : List Value} (h : w.ownsRow base e 1 v n xs) : ∃ a c, v = .slice a n c ∧ n ≤ c := by
  obtain ⟨_, ⟨rfl, rfl⟩ | ⟨g, cap, cur, rfl, _, _, hc, _⟩⟩ := h
  · exact ⟨none, 0, rfl, Nat.le_refl _⟩
  · exact ⟨_, _, rfl, hc⟩
/-- An element of it. -/
theorem owns_at {w : World} {base : Nat} {e : TypeId} {a : Option Addr} {n m c : Nat} {xs : List Value} (h : w.ownsRow base e 1 (.slice a m c) n xs) (i : Nat) (hi : i < n) : ∃ b, a = some ⟨b, 0, none⟩ ∧ w.cell? ⟨b, 0 + i, none⟩ = xs[i]? := by
  obtain ⟨h1, ⟨h2, h3⟩ | ⟨g, cap, cur, h2, hg, hh, hl, hm, hs, ht⟩⟩ := h
  · omega
  · cases h2
    refine ⟨g, rfl, ?_⟩
    rw [← ht, List.getElem?_take]
    simp only [Nat.mul_one, hi, if_true]
    simp [World.cell?, hh]
/-- Its first elements. -/
theorem owns_take {w : World} {base : Nat} {e : TypeId} {a : Option Addr} {n c : Nat} {xs : List Value} (h : w.ownsRow base e 1 (.slice a n c) n xs) (k : Nat) (hk : k ≤ n) : w.ownsRow base e 1 (.slice a k c) k (xs.take k) := by
  obtain ⟨h1, ⟨h2, h3⟩ | ⟨g, cap, cur, h2, hg, hh, hl, hm, hs, ht⟩⟩ := h
  · cases h2
    have : k = 0 := by omega
    subst this
    exact ⟨by simp, .inl ⟨rfl, rfl⟩⟩
  · cases h2
    refine ⟨by simp; omega, .inr ⟨g, c, cur, rfl, hg, hh, by omega, hm, hs, ?_⟩⟩
    rw [← ht, List.take_take]
    congr 1
    omega

/-- The facts of a type of slices of one-cell elements. -/
structure RowInfo (P : Program) (t e : TypeId) (i : TypeInfo) (z : Value) (by' : Nat) : Prop where
  sl : P.underlying t = some (.slice e)
  info : P.info? e = some i
  zero : i.zero = some z
  one : z.cells.size = 1
  size : i.size = 1
  bytes : i.bytes = by'

theorem run_append_one {P : Program} {w : World} {t e : TypeId} {i : TypeInfo} {z : Value} {by' : Nat} (I : RowInfo P t e i z by') (base : Nat) (ty : TypeId) (v : Value) (n : Nat) (xs : List Value) (hown : w.ownsRow base e 1 v n xs) (hbase : base ≤ w.heap.size)
    (b : Nat) (c : Nat) (u : Value) (hu : w.cell? ⟨b, 0, none⟩ = some u) (h1u : u.oneCell' = true) (hn : n + 1 ≤ 1000000) (hby : by' ≤ 1000) :
    ∃ v' w', (Builtin.append_ #[t, t] ty #[v, .slice (some ⟨b, 0, none⟩) 1 c]).run P w = .ok v' w' ∧ w'.ownsRow base e 1 v' (n + 1) (xs ++ [u]) ∧ w.grownBy w' v.ownBlock ∧ Fresh w v.ownBlock v'.ownBlock := by
  have hmax : n + 1 ≤ maxLen := by unfold maxLen; omega
  have hbytes : (n + 1) * by' ≤ 140737488355328 := Nat.le_trans (Nat.mul_le_mul hn hby) (by decide)
  have hl : [u].length = 1 * 1 := rfl
  have hnews : ∀ j x, [u][j]? = some x → w.cell? ((⟨b, 0, none⟩ : Addr).add j) = some x := by
    intro j x hj
    cases j with
    | zero => cases hj; exact hu
    | succ j => cases hj
  have h1 : ∀ x ∈ [u], x.oneCell' = true := by
    intro x hx
    have : x = u := by simpa using hx
    subst this; exact h1u
  have hown' := hown
  obtain ⟨h1', ⟨rfl, h0⟩ | ⟨g, cap, cur, rfl, hg, hh, hle, hm, hs, ht⟩⟩ := hown
  · subst h0
    have hx0 : xs = [] := List.eq_nil_of_length_eq_zero (by simpa using h1')
    subst hx0
    obtain ⟨v', w', r1, r2, r3, r4⟩ := run_append_own (P := P) w w.heap.size t ty e i z 1 by' I.sl I.info I.zero I.size I.bytes I.one (by decide) (.slice none 0 0) 0 [] (World.ownsRow_nil w _ e 1) ⟨b, 0, none⟩ 1 c [u] hl hnews h1 (by simpa using hmax) (by simpa using hbytes) (Nat.le_refl _)
    have hw2 : w'.ownsRow base e 1 v' (0 + 1) ([] ++ [u]) := by
      obtain ⟨q1, q2 | ⟨g, cap, cur, hv, hg, hr⟩⟩ := r2
      · exact ⟨q1, .inl q2⟩
      · exact ⟨q1, .inr ⟨g, cap, cur, hv, Nat.le_trans hbase hg, hr⟩⟩
    refine ⟨v', w', r1, hw2, r3, ?_⟩
    cases hb : v'.ownBlock with
    | none => exact .inl rfl
    | some k => exact .inr ⟨k, rfl, (World.ownsRow.lt r2 k hb).1⟩
  · by_cases hroom : n + 1 ≤ cap
    · obtain ⟨w', r1, r2, r3⟩ := run_append_fits (P := P) w base t ty e i 1 I.sl I.info I.size g n cap _ hown' ⟨b, 0, none⟩ 1 c [u] hl hnews h1 hroom
      exact ⟨_, w', r1, r2, r3, .inl rfl⟩
    · have holds : ∀ j x, xs[j]? = some x → w.cell? ((⟨g, 0, none⟩ : Addr).add j) = some x := by
        intro j x hj
        have hlt : j < n := by
          have h := (List.getElem?_eq_some_iff.1 hj).1
          omega
        rw [Addr.add_lit, Nat.zero_add]
        rw [← ht, List.getElem?_take, if_pos (by omega)] at hj
        simpa [World.cell?, hh] using hj
      obtain ⟨v', w', r1, r2, r3⟩ := run_append_arg_grows (P := P) w t ty e i z 1 by' I.sl I.info I.zero I.size I.bytes I.one (by decide) ⟨g, 0, none⟩ n cap xs h1' holds ⟨b, 0, none⟩ 1 c [u] hl hnews (by omega) hmax (by simpa using hbytes)
      have hw2 : w'.ownsRow base e 1 v' (n + 1) (xs ++ [u]) := by
        obtain ⟨q1, q2 | ⟨g, cap, cur, hv, hg, hr⟩⟩ := r2
        · exact ⟨q1, .inl q2⟩
        · exact ⟨q1, .inr ⟨g, cap, cur, hv, Nat.le_trans hbase hg, hr⟩⟩
      refine ⟨v', w', r1, hw2, ⟨r3.os, r3.tape, r3.output, r3.size, fun k hk _ => r3.block k hk (by intro e; cases e)⟩, ?_⟩
      cases hb : v'.ownBlock with
      | none =>
        exfalso
        obtain ⟨q1, ⟨rfl, q2⟩ | ⟨g, cap, cur, rfl, _⟩⟩ := r2
        · omega
        · cases hb
      | some k => exact .inr ⟨k, rfl, (World.ownsRow.lt r2 k hb).1⟩

theorem wp_append_one {P : Program} {o : Oper} {a : Act} {w : World} {K : Act → World → Prop} {Q : Exit → Act → World → Prop} {t e : TypeId} {i : TypeInfo} {z : Value} {by' : Nat} (I : RowInfo P t e i z by') (base : Nat) (s x : Operand)
    (ho : o.op = .call { callee := .builtin .append, args := #[s, x], argTypes := #[t, t] })
    (v : Value) (n : Nat) (xs : List Value) (hs : a.eval s = v) (hown : w.ownsRow base e 1 v n xs) (hbase : base ≤ w.heap.size)
    (b c : Nat) (u : Value) (hx : a.eval x = .slice (some ⟨b, 0, none⟩) 1 c) (hu : w.cell? ⟨b, 0, none⟩ = some u) (h1u : u.oneCell' = true) (hn : n + 1 ≤ 1000000) (hby : by' ≤ 1000)
    (h : ∀ v' w', w'.ownsRow base e 1 v' (n + 1) (xs ++ [u]) → w.grownBy w' v.ownBlock → Fresh w v.ownBlock v'.ownBlock → K (a.put o.dst v') w') : o.wp P a w K Q := by
  obtain ⟨v', w', hr, h2, h3, h4⟩ := run_append_one (P := P) I base o.type v n xs hown hbase b c u hu h1u hn hby
  unfold Oper.wp execOp
  simp only [ho, resolve, invoke, builtin, Sem.run_bind, Sem.run_pure, Result.andThen_ok, List.map_toArray, List.map_cons, List.map_nil, hs, hx, hr]
  exact h v' w' h2 h3 h4

theorem wpList_append_one {P : Program} {ops : Array Oper} {rest : List Oper} {o : Oper} {a : Act} {w : World} {Q : Exit → Act → World → Prop} {t e : TypeId} {i : TypeInfo} {z : Value} {by' : Nat} (hgd : o.guard = none) (I : RowInfo P t e i z by') (base : Nat) (s x : Operand)
    (ho : o.op = .call { callee := .builtin .append, args := #[s, x], argTypes := #[t, t] })
    (v : Value) (n : Nat) (xs : List Value) (hs : a.eval s = v) (hown : w.ownsRow base e 1 v n xs) (hbase : base ≤ w.heap.size)
    (b c : Nat) (u : Value) (hx : a.eval x = .slice (some ⟨b, 0, none⟩) 1 c) (hu : w.cell? ⟨b, 0, none⟩ = some u) (h1u : u.oneCell' = true) (hn : n + 1 ≤ 1000000) (hby : by' ≤ 1000)
    (h : ∀ v' w', w'.ownsRow base e 1 v' (n + 1) (xs ++ [u]) → w.grownBy w' v.ownBlock → Fresh w v.ownBlock v'.ownBlock → wpList P ops Q rest (a.put o.dst v') w') : wpList P ops Q (o :: rest) a w :=
  wpList_plain hgd fun _ hK => wp_append_one I base s x ho v n xs hs hown hbase b c u hx hu h1u hn hby fun v' w' a b c => hK _ _ (h v' w' a b c)
theorem step_append_one {P : Program} {ops : Array Oper} {o : Oper} {a : Act} {w : World} {K : Act → World → Prop} {Q : Exit → Act → World → Prop} {E : Prop} {t e : TypeId} {i : TypeInfo} {z : Value} {by' : Nat} (hgd : o.guard = none) (I : RowInfo P t e i z by') (base : Nat) (s x : Operand)
    (ho : o.op = .call { callee := .builtin .append, args := #[s, x], argTypes := #[t, t] })
    (v : Value) (n : Nat) (xs : List Value) (hs : a.eval s = v) (hown : w.ownsRow base e 1 v n xs) (hbase : base ≤ w.heap.size)
    (b c : Nat) (u : Value) (hx : a.eval x = .slice (some ⟨b, 0, none⟩) 1 c) (hu : w.cell? ⟨b, 0, none⟩ = some u) (h1u : u.oneCell' = true) (hn : n + 1 ≤ 1000000) (hby : by' ≤ 1000)
    (h : ∀ v' w', w'.ownsRow base e 1 v' (n + 1) (xs ++ [u]) → w.grownBy w' v.ownBlock → Fresh w v.ownBlock v'.ownBlock → K (a.put o.dst v') w') :
    if Region.wanted o (yielded ops a.tmps) = true then Oper.wp P o a w K Q else E := by
  rw [if_pos (by simp [Region.wanted, hgd])]
  exact wp_append_one I base s x ho v n xs hs hown hbase b c u hx hu h1u hn hby h
end Go.Proofs.Ytbjndmmelngbdaa
