/- Rows of strings; the contract of slices.Concat. Conditions: as the theorems name them. -/
import Derived.Test.YtgpidbdgodgefaaDoorShelf3
import Derived.Test.YtgpidbdgodgefaaDoorTree1
namespace Go.Proofs.YtgpidbdgodgefaaDoor
open Go.RowKit

theorem strV_one : ∀ (bs : List (List UInt8)), ∀ u ∈ bs.map strV, u.oneCell' = true := by
  intro bs u hu
  obtain ⟨_, _, rfl⟩ := List.mem_map.1 hu
  rfl
/-- The strings bs lie from the address a on. -/
def SegS (w : World) (a : Option Addr) (bs : List (List UInt8)) : Prop :=
  ∀ i (h : i < bs.length), ∃ b off, a = some ⟨b, off, none⟩ ∧ w.cell? ⟨b, off + i, none⟩ = some (strV bs[i])
/-- A slice of strings. -/
structure Ss (w : World) (v : Value) (a : Option Addr) (c : Nat) (bs : List (List UInt8)) : Prop where
  eq : v = .slice a bs.length c
  le : bs.length ≤ c
  max : c ≤ maxLen
  nocap : a = none → c = 0
  seg : SegS w a bs

theorem SegS.keep {w w' : World} {a : Option Addr} {bs : List (List UInt8)} {S : Nat → Prop} (h : SegS w a bs) (k : Kp S w w') (hn : ∀ b, blk a = some b → ¬ S b) : SegS w' a bs := by
  intro i hi
  obtain ⟨b, off, rfl, hc⟩ := h i hi
  exact ⟨b, off, rfl, k.cell hc (hn b rfl)⟩
theorem Ss.keep {w w' : World} {v : Value} {a : Option Addr} {c : Nat} {bs : List (List UInt8)} {S : Nat → Prop} (h : Ss w v a c bs) (k : Kp S w w') (hn : ∀ b, blk a = some b → ¬ S b) : Ss w' v a c bs :=
  ⟨h.eq, h.le, h.max, h.nocap, h.seg.keep k hn⟩
theorem Ss.nil (w : World) : Ss w (.slice none 0 0) none 0 [] := ⟨rfl, Nat.le_refl _, Nat.zero_le _, fun _ => rfl, fun i h => absurd h (Nat.not_lt_zero i)⟩

/-- What a call owns reads as a slice. -/
theorem ss_of_owns {w : World} {base : Nat} {e : TypeId} {v : Value} {bs : List (List UInt8)} (h : w.ownsRow base e 1 v bs.length (bs.map strV)) : ∃ a c, Ss w v a c bs ∧ v.ownBlock = blk a ∧ ∀ k, blk a = some k → base ≤ k ∧ k < w.heap.size := by
  obtain ⟨h1, h2 | ⟨g, cap, cur, rfl, hg, hh, hl, hm, hs, ht⟩⟩ := h
  · obtain ⟨rfl, h0⟩ := h2
    have : bs = [] := List.eq_nil_of_length_eq_zero h0
    subst this
    exact ⟨none, 0, Ss.nil w, rfl, fun k hk => by cases hk⟩
  · refine ⟨some ⟨g, 0, none⟩, cap, ⟨rfl, hl, hm, fun h => (by cases h), fun i hi => ⟨g, 0, rfl, ?_⟩⟩, rfl, fun k hk => ?_⟩
    · have e : (bs.map strV)[i]? = some (strV bs[i]) := by simp [hi]
      rw [← ht, List.getElem?_take] at e
      simp only [Nat.mul_one, hi, if_true] at e
      simpa [World.cell?, hh] using e
    · cases hk
      exact ⟨hg, hp_lt hh⟩

/-- The row of the type of strings. -/
structure StrInfo (P : Program) (t e : TypeId) (i : TypeInfo) : Prop where
  sl : P.underlying t = some (.slice e)
  info : P.info? e = some i
  zero : i.zero = some (.string ByteArray.empty)
  size : i.size = 1
  bytes : i.bytes = 16

theorem SegS.cells {w : World} {a : Addr} {bs : List (List UInt8)} (h : SegS w (some a) bs) : ∀ j u, (bs.map strV)[j]? = some u → w.cell? (a.add j) = some u := by
  intro j u hj
  have hlt : j < bs.length := by
    have := (List.getElem?_eq_some_iff.1 hj).1
    simpa using this
  obtain ⟨b, off, e, hc⟩ := h j hlt
  cases e
  rw [Addr.add_lit, hc]
  simpa [hlt] using hj

theorem run_append_ss {P : Program} {w : World} {t e : TypeId} {i : TypeInfo} (I : StrInfo P t e i) (base : Nat) (ty : TypeId) (v : Value) (bs : List (List UInt8)) (hown : w.ownsRow base e 1 v bs.length (bs.map strV)) (hbase : base ≤ w.heap.size)
    (x : Value) (a : Option Addr) (c : Nat) (news : List (List UInt8)) (hx : Ss w x a c news) (hbytes : bs.length + news.length ≤ 1000000) :
    ∃ v' w', (Builtin.append_ #[t, t] ty #[v, x]).run P w = .ok v' w' ∧ w'.ownsRow base e 1 v' (bs ++ news).length ((bs ++ news).map strV) ∧ w.grownBy w' v.ownBlock ∧ Fresh w v.ownBlock v'.ownBlock := by
  have hmax : bs.length + news.length ≤ maxLen := by unfold maxLen; omega
  have hl : (news.map strV).length = news.length * 1 := by simp
  cases a with
  | none =>
    have hc := hx.nocap rfl
    have hle := hx.le
    have hn : news = [] := List.eq_nil_of_length_eq_zero (by omega)
    subst hn
    have := hx.eq
    subst hc
    subst this
    refine ⟨v, w, run_append_owned_none (P := P) w base t ty e i 1 I.sl I.info v bs.length _ hown, by simpa using hown, World.grownBy.refl _ _, .inl rfl⟩
  | some ad =>
    rw [hx.eq]
    have hnews := SegS.cells hx.seg
    have hlen : (bs ++ news).length = bs.length + news.length := List.length_append
    have hmap : (bs ++ news).map strV = bs.map strV ++ news.map strV := List.map_append
    rw [hlen, hmap]
    have hown' := hown
    obtain ⟨h1, ⟨rfl, h0⟩ | ⟨g, cap, cur, rfl, hg, hh, hle, hm, hs, ht⟩⟩ := hown
    · have hb0 : bs = [] := List.eq_nil_of_length_eq_zero h0
      subst hb0
      obtain ⟨v', w', r1, r2, r3, r4⟩ := run_append_own (P := P) w w.heap.size t ty e i (.string ByteArray.empty) 1 16 I.sl I.info I.zero I.size I.bytes rfl (by decide) (.slice none 0 0) 0 [] (World.ownsRow_nil w _ e 1) ad news.length c (news.map strV) hl hnews (strV_one news) (by simpa using hmax) (by omega) (Nat.le_refl _)
      have hw2 : w'.ownsRow base e 1 v' (0 + news.length) ([] ++ news.map strV) := by
        obtain ⟨q1, q2 | ⟨g, cap, cur, hv, hg, hr⟩⟩ := r2
        · exact ⟨q1, .inl q2⟩
        · exact ⟨q1, .inr ⟨g, cap, cur, hv, Nat.le_trans hbase hg, hr⟩⟩
      refine ⟨v', w', r1, hw2, r3, ?_⟩
      cases hb : v'.ownBlock with
      | none => exact .inl rfl
      | some k => exact .inr ⟨k, rfl, (World.ownsRow.lt r2 k hb).1⟩
    · by_cases hroom : bs.length + news.length ≤ cap
      · obtain ⟨w', r1, r2, r3⟩ := run_append_fits (P := P) w base t ty e i 1 I.sl I.info I.size g bs.length cap _ hown' ad news.length c (news.map strV) hl hnews (strV_one news) hroom
        exact ⟨_, w', r1, r2, r3, .inl rfl⟩
      · have holds : ∀ j u, (bs.map strV)[j]? = some u → w.cell? ((⟨g, 0, none⟩ : Addr).add j) = some u := by
          intro j u hj
          have hlt : j < bs.length := by
            have := (List.getElem?_eq_some_iff.1 hj).1
            simpa using this
          rw [Addr.add_lit, Nat.zero_add]
          rw [← ht, List.getElem?_take, if_pos (by omega)] at hj
          simpa [World.cell?, hh] using hj
        obtain ⟨v', w', r1, r2, r3⟩ := run_append_arg_grows (P := P) w t ty e i (.string ByteArray.empty) 1 16 I.sl I.info I.zero I.size I.bytes rfl (by decide) ⟨g, 0, none⟩ bs.length cap (bs.map strV) (by simp) holds ad news.length c (news.map strV) hl hnews (by omega) hmax (by omega)
        have hw2 : w'.ownsRow base e 1 v' (bs.length + news.length) (bs.map strV ++ news.map strV) := by
          obtain ⟨q1, q2 | ⟨g, cap, cur, hv, hg, hr⟩⟩ := r2
          · exact ⟨q1, .inl q2⟩
          · exact ⟨q1, .inr ⟨g, cap, cur, hv, Nat.le_trans hbase hg, hr⟩⟩
        refine ⟨v', w', r1, hw2, ⟨r3.os, r3.tape, r3.output, r3.size, fun k hk _ => r3.block k hk (by intro e; cases e)⟩, ?_⟩
        cases hb : v'.ownBlock with
        | none =>
          exfalso
          obtain ⟨q1, ⟨rfl, q2⟩ | ⟨g, cap, cur, rfl, _⟩⟩ := r2
          · omega
          · cases hb
        | some k => exact .inr ⟨k, rfl, (World.ownsRow.lt r2 k hb).1⟩

/-- As an operation. -/
theorem wp_append_ss {P : Program} {o : Oper} {a : Act} {w : World} {K : Act → World → Prop} {Q : Exit → Act → World → Prop} {t e : TypeId} {i : TypeInfo} (I : StrInfo P t e i) (base : Nat) (s x : Operand)
    (ho : o.op = .call { callee := .builtin .append, args := #[s, x], argTypes := #[t, t] })
    (v : Value) (bs : List (List UInt8)) (hs : a.eval s = v) (hown : w.ownsRow base e 1 v bs.length (bs.map strV)) (hbase : base ≤ w.heap.size)
    (xv : Value) (ao : Option Addr) (c : Nat) (news : List (List UInt8)) (hxv : a.eval x = xv) (hx : Ss w xv ao c news) (hbytes : bs.length + news.length ≤ 1000000)
    (h : ∀ v' w', w'.ownsRow base e 1 v' (bs ++ news).length ((bs ++ news).map strV) → w.grownBy w' v.ownBlock → Fresh w v.ownBlock v'.ownBlock → K (a.put o.dst v') w') : o.wp P a w K Q := by
  obtain ⟨v', w', hr, h2, h3, h4⟩ := run_append_ss (P := P) I base o.type v bs hown hbase xv ao c news hx hbytes
  unfold Oper.wp execOp
  simp only [ho, resolve, invoke, builtin, Sem.run_bind, Sem.run_pure, Result.andThen_ok, List.map_toArray, List.map_cons, List.map_nil, hs, hxv, hr]
  exact h v' w' h2 h3 h4

theorem wpList_append_ss {P : Program} {ops : Array Oper} {rest : List Oper} {o : Oper} {a : Act} {w : World} {Q : Exit → Act → World → Prop} {t e : TypeId} {i : TypeInfo} (hgd : o.guard = none) (I : StrInfo P t e i) (base : Nat) (s x : Operand)
    (ho : o.op = .call { callee := .builtin .append, args := #[s, x], argTypes := #[t, t] })
    (v : Value) (bs : List (List UInt8)) (hs : a.eval s = v) (hown : w.ownsRow base e 1 v bs.length (bs.map strV)) (hbase : base ≤ w.heap.size)
    (xv : Value) (ao : Option Addr) (c : Nat) (news : List (List UInt8)) (hxv : a.eval x = xv) (hx : Ss w xv ao c news) (hbytes : bs.length + news.length ≤ 1000000)
    (h : ∀ v' w', w'.ownsRow base e 1 v' (bs ++ news).length ((bs ++ news).map strV) → w.grownBy w' v.ownBlock → Fresh w v.ownBlock v'.ownBlock → wpList P ops Q rest (a.put o.dst v') w') : wpList P ops Q (o :: rest) a w :=
  wpList_plain hgd fun _ hK => wp_append_ss I base s x ho v bs hs hown hbase xv ao c news hxv hx hbytes fun v' w' a b c => hK _ _ (h v' w' a b c)

theorem strInfo : ∃ i, StrInfo Tryd.prog 28 9 i := by
  obtain ⟨i, h1, h2, h3, h4⟩ := info_parts infoStr
  exact ⟨i, Tryd.underlying28, h1, h2, h3, h4⟩

/-- What Concat comes to. -/
def ConcEnd (w : World) (l : List (List UInt8)) (e : Ending) (w' : World) : Prop :=
  ∃ v a c, e = .returned v ∧ Ss w' v a c l ∧ (∀ b, blk a = some b → w.heap.size ≤ b) ∧ Kp (fun _ => False) w w'

set_option maxHeartbeats 2000000 in
set_option maxRecDepth 100000 in
theorem concat_any (b : Nat) (a1 a2 : Option Addr) (c1 c2 : Nat) (l1 l2 : List (List UInt8)) (w : World) (hl : l1.length + l2.length ≤ 1000000)
    (h1 : w.cell? ⟨b, 0, none⟩ = some (.slice a1 l1.length c1)) (h2 : w.cell? ⟨b, 1, none⟩ = some (.slice a2 l2.length c2)) (s1 : Ss w (.slice a1 l1.length c1) a1 c1 l1) (s2 : Ss w (.slice a2 l2.length c2) a2 c2 l2) :
    Calls Tryd.prog 102 #[.slice (some ⟨b, 0, none⟩) 2 2] w (ConcEnd w (l1 ++ l2)) := by
  have H1 := Lib.hid s1
  have H2 := Lib.hid s2
  clear s1 s2
  have hg := grow_any (l1.length + l2.length) w hl
  have HG := Lib.hid hg
  clear hg
  obtain ⟨ti, I⟩ := strInfo
  go_enter Tryd.func102, Tryd.ntmps102
  go_wp2_with fail
  go_loopw [11, 3] (fun i z wr => ∃ k : Nat, i = .int .i64 k ∧ k ≤ 2 ∧ z = .int .i64 ((if k = 0 then 0 else if k = 1 then l1.length else l1.length + l2.length : Nat) : Int) ∧ w = wr) (fun i _ _ => 2 - (intOf i).toNat)
  case atStart => exact ⟨0, rfl, by omega, rfl, rfl⟩
  case round =>
    obtain ⟨k, rfl, hk, rfl, rfl⟩ := hrel
    have hk3 : k = 0 ∨ k = 1 ∨ k = 2 := by omega
    rcases hk3 with rfl | rfl | rfl
    · go_wp2_with fail
      exact ⟨⟨1, rfl, by omega, by simp, trivial⟩, by simp [intOf]⟩
    · go_wp2_with fail
      exact ⟨⟨2, rfl, by omega, by simp, trivial⟩, by simp [intOf]⟩
    · go_wp2_with fail
      rw [show ((l1.length : Int) + (l2.length : Int)) = ((l1.length + l2.length : Nat) : Int) from by omega]
      refine HG.out.mono ?_
      rintro e w1 ⟨v, rfl, ho, hk⟩
      have G1 := Lib.hid h1
      have G2 := Lib.hid h2
      have HO := Lib.hid ho
      have HK := Lib.hid hk
      clear ho hk h1 h2 HG
      go_wp2_with fail
      go_loopw [27, 6] (fun i z w2 => ∃ k : Nat, i = .int .i64 k ∧ k ≤ 2 ∧ Hid (w2.ownsRow w.heap.size 9 1 z (if k = 0 then [] else if k = 1 then l1 else l1 ++ l2).length ((if k = 0 then [] else if k = 1 then l1 else l1 ++ l2).map strV)) ∧ Hid (Kp (fun _ => False) w w2)) (fun i _ _ => 2 - (intOf i).toNat)
      case atStart => exact ⟨0, rfl, by omega, HO, HK⟩
      case round =>
        obtain ⟨k, rfl, hk, HO2, HK2⟩ := hrel
        have hk3 : k = 0 ∨ k = 1 ∨ k = 2 := by omega
        have hsz := HK2.out.size
        rcases hk3 with rfl | rfl | rfl
        · have hc := HK2.out.cell G1.out id
          have HS := Lib.hid (H1.out.keep HK2.out (fun _ _ => id))
          go_wp2_with (at_builtin; refine wpList_append_ss rfl I w.heap.size (.tmp 31) (.tmp 32) rfl _ [] rfl HO2.out hsz _ a1 c1 l1 rfl HS.out (by simp; omega) ?_)
          intro v' w' ho hg hf
          have HO3 := Lib.hid ho
          have HK3 := Lib.hid (HK2.out.grown hg (fun b hb => .inr (World.ownsRow.lt HO2.out b hb).1))
          clear ho hg hf hc
          go_wp2_with fail
          exact ⟨⟨1, rfl, by omega, HO3, HK3⟩, by simp [intOf]⟩
        · have hc := HK2.out.cell G2.out id
          have HS := Lib.hid (H2.out.keep HK2.out (fun _ _ => id))
          go_wp2_with (at_builtin; refine wpList_append_ss rfl I w.heap.size (.tmp 31) (.tmp 32) rfl _ l1 rfl HO2.out hsz _ a2 c2 l2 rfl HS.out (by omega) ?_)
          intro v' w' ho hg hf
          have HO3 := Lib.hid ho
          have HK3 := Lib.hid (HK2.out.grown hg (fun b hb => .inr (World.ownsRow.lt HO2.out b hb).1))
          clear ho hg hf hc
          go_wp2_with fail
          exact ⟨⟨2, rfl, by omega, Lib.hid (by have := HO3.out; simpa using this), HK3⟩, by simp [intOf]⟩
        · obtain ⟨a, c, hs, _, hfr⟩ := ss_of_owns HO2.out
          have HE := Lib.hid (show ConcEnd w (l1 ++ l2) _ _ from ⟨_, a, c, rfl, hs, fun b hb => (hfr b hb).1, HK2.out⟩)
          clear hs hfr
          go_wp2
          go_ret
          exact HE.out
end Go.Proofs.YtgpidbdgodgefaaDoor
