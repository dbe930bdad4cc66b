/- Arguments that came in: raw items, raw turns, rows of numbers, opened to cells. Conditions: as the theorems name them. -/
import Derived.Test.YtgpidbdgodgefaaDoorHTree
import Derived.Deep.Fields
import Derived.Deep.Matrix
namespace Go.Proofs.YtgpidbdgodgefaaDoor
open Go.RowKit Go.ChangeShapes Go.WideShapes Go.ChangeAt Go.Deep

/-- A raw turn. -/
structure TurnV where
  wh : Int
  at_ : Int
  tp : Int
  k : Int
  m : Int
  t : Int
  x : Nat
  d : List UInt8
structure TurnAt (w : World) (b off : Nat) (r : TurnV) (ad : Option Addr) (cp : Nat) : Prop where
  c0 : w.cell? ⟨b, off, none⟩ = some (.int .i64 r.wh)
  c1 : w.cell? ⟨b, off + 1, none⟩ = some (.int .i64 r.at_)
  c2 : w.cell? ⟨b, off + 2, none⟩ = some (.int .i64 r.tp)
  c3 : w.cell? ⟨b, off + 3, none⟩ = some (.int .i64 r.k)
  c4 : w.cell? ⟨b, off + 4, none⟩ = some (.int .i64 r.m)
  c5 : w.cell? ⟨b, off + 5, none⟩ = some (.int .i64 r.t)
  c6 : w.cell? ⟨b, off + 6, none⟩ = some (.float .f64 r.x)
  c7 : w.cell? ⟨b, off + 7, none⟩ = some (.slice ad r.d.length cp)
  sl : Sl w (.slice ad r.d.length cp) ad cp r.d
  time : r.x < 18446744073709551616
  len : r.d.length ≤ 140737488355328
  ints : inI r.wh ∧ inI r.at_ ∧ inI r.tp ∧ inI r.k ∧ inI r.m ∧ inI r.t
theorem TurnAt.keep {w w' : World} {b off : Nat} {r : TurnV} {ad : Option Addr} {cp : Nat} (h : TurnAt w b off r ad cp) (k : Kp (fun _ => False) w w') : TurnAt w' b off r ad cp :=
  ⟨k.cell h.c0 id, k.cell h.c1 id, k.cell h.c2 id, k.cell h.c3 id, k.cell h.c4 id, k.cell h.c5 id, k.cell h.c6 id, k.cell h.c7 id, h.sl.keep k (fun _ _ => id), h.time, h.len, h.ints⟩
def TurnsAt (w : World) (a : Option Addr) (l : List TurnV) : Prop := ∀ i (h : i < l.length), ∃ b off ad cp, a = some ⟨b, off, none⟩ ∧ TurnAt w b (off + i * 8) l[i] ad cp
theorem TurnsAt.keep {w w' : World} {a : Option Addr} {l : List TurnV} (h : TurnsAt w a l) (k : Kp (fun _ => False) w w') : TurnsAt w' a l := fun i hi => by
  obtain ⟨b, off, ad, cp, e, hx⟩ := h i hi
  exact ⟨b, off, ad, cp, e, hx.keep k⟩
theorem RawsAt.keep {w w' : World} {a : Option Addr} {l : List RawV} (h : RawsAt w a l) (k : Kp (fun _ => False) w w') : RawsAt w' a l := fun i hi => by
  obtain ⟨b, off, ad, cp, e, hx⟩ := h i hi
  exact ⟨b, off, ad, cp, e, hx.keep k⟩

section
variable {H : Type} {enc : TypeId × Value → H} {P : Program} {W : World}

/-- Cells that read as y; what y weighs is weighed in the whole. -/
def CellsAt (enc : TypeId × Value → H) (P : Program) (W : World) (all : List Nat) (t : TypeId) (cs : List Value) : Prop :=
  ∃ n y, DataW.trod enc P W 0 (fun _ => true) true n t cs = some y ∧ ∀ k ∈ y.1.weights P t, k ∈ all

theorem weightsAll_mem {e : TypeId} : ∀ {ds : List (DataW H)} {d : DataW H}, d ∈ ds → ∀ k ∈ d.weights P e, k ∈ DataW.weightsAll P e ds
  | d0 :: ds, d, hd, k, hk => by
    simp only [DataW.weightsAll, List.mem_append]
    rcases List.mem_cons.1 hd with rfl | hd
    · exact .inl hk
    · exact .inr (weightsAll_mem hd k hk)
theorem CellsAt.fields {all : List Nat} {t : TypeId} {fs : Array Field} {cs : List Value} (ht : P.underlying t = some (.struct fs)) (h : CellsAt enc P W all t cs) :
    cs.length = P.cellsOf t ∧ ∀ (i : Nat) (f : Field), fs[i]? = some f → CellsAt enc P W all f.type ((cs.drop f.offset).take (P.cellsOf f.type)) := by
  obtain ⟨n, y, h1, hw⟩ := h
  obtain ⟨ys, n', _, hy, hl, hyl, hfl⟩ := DataW.trod_struct ht h1
  have hd : y.1 = .agg (ys.map (·.1)) := (Prod.ext_iff.1 hy).1
  refine ⟨hl, fun i f hf => ?_⟩
  have hil : i < fs.size := (Array.getElem?_eq_some_iff.1 hf).1
  have hys : ys[i]? = some (ys[i]'(by omega)) := List.getElem?_eq_getElem (by omega)
  refine ⟨n', _, (hfl i f hf).trans hys, fun k hk => hw k ?_⟩
  rw [hd]
  simp only [DataW.weights, ht]
  refine DataW.weights_mem_each (j := i) (t := f.type) (d := (ys[i]'(by omega)).1) ?_ ?_ k hk
  · rw [List.getElem?_map]
    have : fs.toList[i]? = some f := by simpa using hf
    rw [this]; rfl
  · rw [List.getElem?_map, hys]; rfl
theorem field_at {all : List Nat} {fs : Array Field} {cs : List Value} (hf : ∀ (i : Nat) (f : Field), fs[i]? = some f → CellsAt enc P W all f.type ((cs.drop f.offset).take (P.cellsOf f.type))) (i o n : Nat) (T : TypeId) {f : Field} (hi : fs[i]? = some f) (ho : f.offset = o) (hT : f.type = T) (hn : P.cellsOf T = n) :
    CellsAt enc P W all T ((cs.drop o).take n) := by
  subst ho hT hn
  exact hf i f hi
theorem CellsAt.int {all : List Nat} {t : TypeId} {cv : Value} (ht : P.underlying t = some (.int .i64)) (h : CellsAt enc P W all t [cv]) : ∃ z : Int, cv = .int .i64 z ∧ inI z := by
  obtain ⟨n, y, h1, _⟩ := h
  obtain ⟨z, e, _, hw⟩ := DataW.trod_int ht h1
  exact ⟨z, by simpa using e, wf_i64 hw⟩
theorem CellsAt.float {all : List Nat} {t : TypeId} {cv : Value} (ht : P.underlying t = some (.float .f64)) (h : CellsAt enc P W all t [cv]) : ∃ b : Nat, cv = .float .f64 b ∧ b < 18446744073709551616 := by
  obtain ⟨n, y, h1, _⟩ := h
  cases n with
  | zero => simp [DataW.trod] at h1
  | succ n =>
    unfold DataW.trod at h1
    rw [ht] at h1
    cases cv <;> simp at h1
    rename_i k b
    obtain ⟨h1, _⟩ := h1
    have hk := h1.1
    subst hk
    exact ⟨b, rfl, by simpa [Lit.wf] using h1.2⟩
theorem CellsAt.bytes {all : List Nat} {t e : TypeId} {cv : Value} (ht : P.underlying t = some (.slice e)) (he : P.underlying e = some (.int .u8)) (hc : P.cellsOf e = 1) (hb : P.bytesOf e = 1) (hall : all.all (· ≤ reachBytes) = true) (h : CellsAt enc P W all t [cv]) :
    ∃ (a : Option Addr) (c : Nat) (bs : List UInt8), Sl W cv a c bs ∧ bs.length ≤ 140737488355328 := by
  obtain ⟨n, y, h1, hm⟩ := h
  rcases open_ints ht he hc h1 with ⟨hcs, _⟩ | ⟨a, len, cap, zs, hcs, _, hl, hmx, hz, hdat, hcell, hw⟩
  · obtain rfl : cv = .slice none 0 0 := by simpa using hcs
    exact ⟨none, 0, [], Sl.nil W, Nat.zero_le _⟩
  · obtain rfl : cv = .slice (some a) len cap := by simpa using hcs
    simp only [if_true] at hz
    have hlen : ((zs.take len).map fun n => UInt8.ofNat n.toNat).length = len := by simp; omega
    have hseg : Seg W (some a) ((zs.take len).map fun n => UInt8.ofNat n.toNat) := by
      intro i hi
      rw [hlen] at hi
      obtain ⟨b, off, rfl, h⟩ := cells_at (f := fun i => .int .u8 (zs.getD i 0)) hcell i (by omega)
      refine ⟨b, off, rfl, ?_⟩
      have hi2 : i < zs.length := by omega
      have e : zs.getD i 0 = zs[i] := by rw [List.getD, List.getElem?_eq_getElem hi2]; rfl
      have hr := wf_u8 (hw zs[i] (List.getElem_mem hi2))
      rw [h, e]
      simp only [byteV, List.getElem_map, List.getElem_take, UInt8.toNat_ofNat']
      congr 2
      omega
    refine ⟨some a, cap, (zs.take len).map fun n => UInt8.ofNat n.toNat, ⟨by rw [hlen], by omega, by omega, fun h => (by cases h), hseg⟩, ?_⟩
    have h2 : cap * P.bytesOf e ∈ y.1.weights P t := by
      rw [hdat]
      simp only [DataW.weights, ht, List.mem_cons]
      left
      have e : (lits (H := H) .u8 (zs.take len)).length + (lits (H := H) .u8 (zs.drop len)).length = cap := by simp [lits]; omega
      rw [e]
    have h3 := List.all_eq_true.1 hall _ (hm _ h2)
    rw [hb] at h3
    have h4 : cap ≤ 140737488351232 := by simpa [reachBytes] using h3
    omega

/-- A slice of structs, whatever their fields. -/
theorem open_rows {base : Nat} {t e : TypeId} {C : Nat} {v : Value} {d : DataW H} {p : List MemPlace} (ht : P.underlying t = some (.slice e)) (hC : P.cellsOf e = C) (hpos : 0 < C)
    (hv : Value.okWide P W .any base t v) (h : DataW.Trod enc P W 0 (fun _ => true) true t v d p) :
    ∃ (a : Option Addr) (len cap : Nat), v = .slice a len cap ∧ len ≤ maxLen ∧
      ∀ i, i < len → ∃ b off cs, a = some ⟨b, off, none⟩ ∧ (∀ j, j < C → W.cell? ⟨b, off + i * C + j, none⟩ = cs[j]?) ∧ CellsAt enc P W (d.weights P t) e cs := by
  obtain ⟨a0, len, cap, rfl⟩ := okWide_slice ht hv
  obtain ⟨fuel, hf⟩ := h
  rcases open_slice ht hf with ⟨hcs, _⟩ | ⟨a, len', cap', m, n, D, Pl, hcs, _, hl, hm, hmm, hx, hi⟩
  · simp only [Value.cells, List.cons.injEq, Value.slice.injEq, and_true] at hcs
    obtain ⟨rfl, rfl, rfl⟩ := hcs
    exact ⟨none, 0, 0, rfl, Nat.zero_le _, fun i hi => by omega⟩
  · simp only [Value.cells, List.cons.injEq, Value.slice.injEq, and_true] at hcs
    obtain ⟨rfl, rfl, rfl⟩ := hcs
    simp only [if_true] at hmm
    subst hmm
    have hd : d = .slice ((List.range len).map D) ((List.range (m - len)).map fun j => D (len + j)) := (Prod.mk.inj hx).1
    refine ⟨some a, len, m, rfl, by omega, fun i hil => ?_⟩
    obtain ⟨cs', hcc, htr⟩ := hi i (by omega)
    rw [hC] at hcc
    obtain ⟨_, hcl, hat⟩ := World.cells?_some hcc
    have hplain : ∃ b off, a = ⟨b, off, none⟩ := by
      have h0 := hi 0 (by omega)
      obtain ⟨cs0, hc0, _⟩ := h0
      rw [hC] at hc0
      obtain ⟨_, hcl0, hat0⟩ := World.cells?_some hc0
      have h00 := hat0 0 hpos
      rw [Nat.zero_mul] at h00
      have : ∃ v, W.cell? ((a.add 0).add 0) = some v := by
        rw [h00, List.getElem?_eq_getElem (by omega)]
        exact ⟨_, rfl⟩
      obtain ⟨v, hv⟩ := this
      obtain ⟨b, off, sp⟩ := a
      cases sp with
      | none => exact ⟨b, off, rfl⟩
      | some s =>
        exfalso
        simp only [Addr.add, if_true, World.cell?] at hv
        split at hv <;> simp at hv
    obtain ⟨b, off, rfl⟩ := hplain
    refine ⟨b, off, cs', rfl, fun j hj => ?_, n, _, htr, fun k hk => ?_⟩
    · have hcell := hat j hj
      rw [Addr.add_lit, Addr.add_lit] at hcell
      exact hcell
    · rw [hd]
      simp only [DataW.weights, ht, List.mem_cons, List.mem_append]
      exact .inr (.inl (weightsAll_mem (d := D i) (by simp; exact ⟨i, hil, rfl⟩) k hk))
end

set_option maxRecDepth 100000 in
/-- A raw node's cells. -/
theorem open_node5 {H : Type} {enc : TypeId × Value → H} {W : World} {all : List Nat} {cs : List Value} (hall : all.all (· ≤ reachBytes) = true) (h : CellsAt enc Tryd.prog W all 93 cs) :
    ∃ (k m t : Int) (x : Nat) (d : List UInt8) (ad : Option Addr) (cp : Nat), cs = [.int .i64 k, .int .i64 m, .int .i64 t, .float .f64 x, .slice ad d.length cp] ∧ Sl W (.slice ad d.length cp) ad cp d ∧ x < 18446744073709551616 ∧ d.length ≤ 140737488355328 ∧ inI k ∧ inI m ∧ inI t := by
  obtain ⟨hl, hf⟩ := h.fields Tryd.underlying93
  rw [show Tryd.prog.cellsOf 93 = 5 by kernel_rfl] at hl
  match cs, hl with
  | [c0, c1, c2, c3, c4], _ =>
    have h0 : CellsAt enc Tryd.prog W all 3 [c0] := field_at hf 0 0 1 3 rfl rfl rfl (by kernel_rfl)
    have h1 : CellsAt enc Tryd.prog W all 3 [c1] := field_at hf 1 1 1 3 rfl rfl rfl (by kernel_rfl)
    have h2 : CellsAt enc Tryd.prog W all 3 [c2] := field_at hf 2 2 1 3 rfl rfl rfl (by kernel_rfl)
    have h3 : CellsAt enc Tryd.prog W all 39 [c3] := field_at hf 3 3 1 39 rfl rfl rfl (by kernel_rfl)
    have h4 : CellsAt enc Tryd.prog W all 40 [c4] := field_at hf 4 4 1 40 rfl rfl rfl (by kernel_rfl)
    obtain ⟨k, rfl, r0⟩ := h0.int Tryd.underlying3
    obtain ⟨m, rfl, r1⟩ := h1.int Tryd.underlying3
    obtain ⟨t, rfl, r2⟩ := h2.int Tryd.underlying3
    obtain ⟨x, rfl, r3⟩ := h3.float Tryd.underlying39
    obtain ⟨ad, cp, d, hs, hd⟩ := h4.bytes Tryd.underlying40 Tryd.underlying5 (by kernel_rfl) (by kernel_rfl) hall
    have he := hs.eq
    subst he
    exact ⟨k, m, t, x, d, ad, cp, rfl, hs, r3, hd, r0, r1, r2⟩
theorem list_of {α : Type} (len : Nat) (Q : Nat → α → Prop) (d : α) (h : ∀ i, i < len → ∃ x, Q i x) : ∃ l : List α, l.length = len ∧ ∀ i (hi : i < l.length), Q i l[i] := by
  have h2 : ∀ i, ∃ x, i < len → Q i x := fun i => by
    by_cases hi : i < len
    · obtain ⟨x, hx⟩ := h i hi
      exact ⟨x, fun _ => hx⟩
    · exact ⟨d, fun h => absurd h hi⟩
  obtain ⟨f, hf⟩ := Classical.axiomOfChoice h2
  refine ⟨(List.range len).map f, by simp, fun i hi => ?_⟩
  rw [List.getElem_map, List.getElem_range]
  exact hf i (by simpa using hi)
set_option maxRecDepth 100000 in
theorem open_raws {H : Type} {enc : TypeId × Value → H} {W : World} {base : Nat} {v : Value} {d : DataW H} {p : List MemPlace} (hv : Value.okWide Tryd.prog W .any base 59 v) (h : DataW.Trod enc Tryd.prog W 0 (fun _ => true) true 59 v d p)
    (hall : (d.weights Tryd.prog 59).all (· ≤ reachBytes) = true) :
    ∃ (a : Option Addr) (l : List RawV) (cap : Nat), v = .slice a l.length cap ∧ l.length ≤ 9223372036854775807 ∧ RawsAt W a l := by
  obtain ⟨a, len, cap, rfl, hl, hst⟩ := open_rows Tryd.underlying59 (show Tryd.prog.cellsOf 95 = 6 by kernel_rfl) (by decide) hv h
  obtain ⟨l, e, hq⟩ := list_of len (fun i (r : RawV) => ∃ b off ad cp, a = some ⟨b, off, none⟩ ∧ RawAt W b (off + i * 6) r ad cp) ⟨0, 0, 0, 0, 0, []⟩ fun i hi => by
    obtain ⟨b, off, cs, rfl, hc, hcs⟩ := hst i hi
    obtain ⟨hlen, hf⟩ := hcs.fields Tryd.underlying95
    rw [show Tryd.prog.cellsOf 95 = 6 by kernel_rfl] at hlen
    match cs, hlen, hc, hf with
    | [c0, c1, c2, c3, c4, c5], _, hc, hf =>
      have h0 : CellsAt enc Tryd.prog W (d.weights Tryd.prog 59) 3 [c0] := field_at hf 0 0 1 3 rfl rfl rfl (by kernel_rfl)
      have h1 : CellsAt enc Tryd.prog W (d.weights Tryd.prog 59) 93 [c1, c2, c3, c4, c5] := field_at hf 1 1 5 93 rfl rfl rfl (by kernel_rfl)
      obtain ⟨p, rfl, r0⟩ := h0.int Tryd.underlying3
      obtain ⟨k, m, t, x, dd, ad, cp, he, hs, hx, hd, r1, r2, r3⟩ := open_node5 hall h1
      simp only [List.cons.injEq, and_true] at he
      obtain ⟨rfl, rfl, rfl, rfl, rfl⟩ := he
      exact ⟨⟨p, k, m, t, x, dd⟩, b, off, ad, cp, rfl, ⟨hc 0 (by decide), hc 1 (by decide), hc 2 (by decide), hc 3 (by decide), hc 4 (by decide), hc 5 (by decide), hs, hx, hd, r0, r1, r2, r3⟩⟩
  subst e
  exact ⟨a, l, cap, rfl, hl, hq⟩
set_option maxRecDepth 100000 in
theorem open_turns {H : Type} {enc : TypeId × Value → H} {W : World} {base : Nat} {v : Value} {d : DataW H} {p : List MemPlace} (hv : Value.okWide Tryd.prog W .any base 71 v) (h : DataW.Trod enc Tryd.prog W 0 (fun _ => true) true 71 v d p)
    (hall : (d.weights Tryd.prog 71).all (· ≤ reachBytes) = true) :
    ∃ (a : Option Addr) (l : List TurnV) (cap : Nat), v = .slice a l.length cap ∧ l.length ≤ 9223372036854775807 ∧ TurnsAt W a l := by
  obtain ⟨a, len, cap, rfl, hl, hst⟩ := open_rows Tryd.underlying71 (show Tryd.prog.cellsOf 102 = 8 by kernel_rfl) (by decide) hv h
  obtain ⟨l, e, hq⟩ := list_of len (fun i (r : TurnV) => ∃ b off ad cp, a = some ⟨b, off, none⟩ ∧ TurnAt W b (off + i * 8) r ad cp) ⟨0, 0, 0, 0, 0, 0, 0, []⟩ fun i hi => by
    obtain ⟨b, off, cs, rfl, hc, hcs⟩ := hst i hi
    obtain ⟨hlen, hf⟩ := hcs.fields Tryd.underlying102
    rw [show Tryd.prog.cellsOf 102 = 8 by kernel_rfl] at hlen
    match cs, hlen, hc, hf with
    | [c0, c1, c2, c3, c4, c5, c6, c7], _, hc, hf =>
      have h0 : CellsAt enc Tryd.prog W (d.weights Tryd.prog 71) 3 [c0] := field_at hf 0 0 1 3 rfl rfl rfl (by kernel_rfl)
      have h1 : CellsAt enc Tryd.prog W (d.weights Tryd.prog 71) 3 [c1] := field_at hf 1 1 1 3 rfl rfl rfl (by kernel_rfl)
      have h2 : CellsAt enc Tryd.prog W (d.weights Tryd.prog 71) 3 [c2] := field_at hf 2 2 1 3 rfl rfl rfl (by kernel_rfl)
      have h3 : CellsAt enc Tryd.prog W (d.weights Tryd.prog 71) 93 [c3, c4, c5, c6, c7] := field_at hf 3 3 5 93 rfl rfl rfl (by kernel_rfl)
      obtain ⟨p, rfl, r0⟩ := h0.int Tryd.underlying3
      obtain ⟨q, rfl, r4⟩ := h1.int Tryd.underlying3
      obtain ⟨s, rfl, r5⟩ := h2.int Tryd.underlying3
      obtain ⟨k, m, t, x, dd, ad, cp, he, hs, hx, hd, r1, r2, r3⟩ := open_node5 hall h3
      simp only [List.cons.injEq, and_true] at he
      obtain ⟨rfl, rfl, rfl, rfl, rfl⟩ := he
      exact ⟨⟨p, q, s, k, m, t, x, dd⟩, b, off, ad, cp, rfl, ⟨hc 0 (by decide), hc 1 (by decide), hc 2 (by decide), hc 3 (by decide), hc 4 (by decide), hc 5 (by decide), hc 6 (by decide), hc 7 (by decide), hs, hx, hd, r0, r4, r5, r1, r2, r3⟩⟩
  subst e
  exact ⟨a, l, cap, rfl, hl, hq⟩
/-- Rows of numbers. -/
def IntsAt (w : World) (v : Value) (z : List Int) : Prop := ∃ a c, v = .slice a z.length c ∧ z.length ≤ maxLen ∧ (∀ x ∈ z, inI x) ∧ ∀ i (h : i < z.length), ∃ b off, a = some ⟨b, off, none⟩ ∧ w.cell? ⟨b, off + i, none⟩ = some (.int .i64 z[i])
theorem IntsAt.keep {w w' : World} {v : Value} {z : List Int} (h : IntsAt w v z) (k : Kp (fun _ => False) w w') : IntsAt w' v z := by
  obtain ⟨a, c, e, hl, hz, h⟩ := h
  refine ⟨a, c, e, hl, hz, fun i hi => ?_⟩
  obtain ⟨b, off, e2, hc⟩ := h i hi
  exact ⟨b, off, e2, k.cell hc id⟩
def IntRows (w : World) (a : Option Addr) (n : Nat) (Z : Nat → List Int) : Prop := ∀ r, r < n → ∃ b off v, a = some ⟨b, off, none⟩ ∧ w.cell? ⟨b, off + r, none⟩ = some v ∧ IntsAt w v (Z r)
theorem IntRows.keep {w w' : World} {a : Option Addr} {n : Nat} {Z : Nat → List Int} (h : IntRows w a n Z) (k : Kp (fun _ => False) w w') : IntRows w' a n Z := fun r hr => by
  obtain ⟨b, off, v, e, hc, hi⟩ := h r hr
  exact ⟨b, off, v, e, k.cell hc id, hi.keep k⟩
theorem addr_plain {w : World} {a : Addr} {v : Value} (h : w.cell? (a.add 0) = some v) : ∃ b off, a = ⟨b, off, none⟩ := by
  obtain ⟨b, off, sp⟩ := a
  cases sp with
  | none => exact ⟨b, off, rfl⟩
  | some s =>
    exfalso
    simp only [Addr.add, if_true, World.cell?] at h
    split at h <;> simp at h
theorem open_introws {H : Type} {enc : TypeId × Value → H} {P : Program} {W : World} {base : Nat} {t e q : TypeId} {v : Value} {d : DataW H} {p : List MemPlace} (ht : P.underlying t = some (.slice e)) (he : P.underlying e = some (.slice q)) (hq : P.underlying q = some (.int .i64))
    (ce : P.cellsOf e = 1) (cq : P.cellsOf q = 1) (hv : Value.okWide P W .any base t v) (h : DataW.Trod enc P W 0 (fun _ => true) true t v d p) :
    ∃ (a : Option Addr) (n cap : Nat) (Z : Nat → List Int), v = .slice a n cap ∧ n ≤ 9223372036854775807 ∧ IntRows W a n Z := by
  obtain ⟨a0, len0, cap0, rfl⟩ := okWide_slice ht hv
  obtain ⟨fuel, hf⟩ := h
  rcases open_int_rows ht he hq ce cq hf with ⟨hcs, _⟩ | ⟨a, len, cap, A, L, C, Z, hcs, _, hl, hm, _, hr⟩
  · simp only [Value.cells, List.cons.injEq, Value.slice.injEq, and_true] at hcs
    obtain ⟨rfl, rfl, rfl⟩ := hcs
    exact ⟨none, 0, 0, fun _ => [], rfl, Nat.zero_le _, fun r hr => absurd hr (Nat.not_lt_zero _)⟩
  · simp only [Value.cells, List.cons.injEq, Value.slice.injEq, and_true] at hcs
    obtain ⟨rfl, rfl, rfl⟩ := hcs
    refine ⟨some a, len0, cap0, fun r => (Z r).take (L r), rfl, by unfold maxLen at hm; omega, fun r hrl => ?_⟩
    obtain ⟨h1, h2, h3, h4, h5, h6, h7⟩ := hr r (by omega)
    obtain ⟨b, off, rfl⟩ := addr_plain (hr 0 (by omega)).1
    rw [Addr.add_lit] at h1
    have hlen : ((Z r).take (L r)).length = L r := by simp; omega
    refine ⟨b, off, _, rfl, h1, A r, C r, by rw [hlen], by rw [hlen]; omega, fun x hx => wf_i64 (h5 x (List.mem_of_mem_take hx)), fun i hi => ?_⟩
    rw [hlen] at hi
    cases hA : A r with
    | none => have := h6 hA; omega
    | some a' =>
      obtain ⟨_, hc⟩ := h7 a' hA
      have hci := hc i (by omega)
      obtain ⟨b', off', rfl⟩ := addr_plain (hc 0 (by omega))
      rw [Addr.add_lit] at hci
      refine ⟨b', off', rfl, ?_⟩
      rw [hci, List.getElem_take, List.getD, List.getElem?_eq_getElem (by omega)]
      rfl
end Go.Proofs.YtgpidbdgodgefaaDoor
