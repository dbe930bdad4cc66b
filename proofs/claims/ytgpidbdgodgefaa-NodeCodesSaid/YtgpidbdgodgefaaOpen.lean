/- Arguments that are structs, or slices of structs, of fields of one cell, opened to cells; the form's own reach of their fields. Whatever the program. Conditions: as the theorems name them. -/
import Derived.Test.YtgpidbdgodgefaaApp
import Derived.Deep.Fields
namespace Go.Proofs.Ytgpidbdgodgefaa
open Go.RowKit Go.ChangeShapes Go.WideShapes Go.ChangeAt Go.Deep

section
variable {H : Type} {enc : TypeId × Value → H} {P : Program} {W : World}

/-- One field's reading: its cell reads as y, and what y weighs is weighed in the whole. -/
def FieldAt (enc : TypeId × Value → H) (P : Program) (W : World) (all : List Nat) (t : TypeId) (cv : Value) : Prop :=
  ∃ n y, DataW.trod enc P W 0 (fun _ => true) true n t [cv] = some y ∧ ∀ k ∈ y.1.weights P t, k ∈ all

theorem weightsAll_mem {e : TypeId} : ∀ {ds : List (DataW H)} {d : DataW H}, d ∈ ds → ∀ k ∈ d.weights P e, k ∈ DataW.weightsAll P e ds
  | d0 :: ds, d, hd, k, hk => by
    simp only [DataW.weightsAll, List.mem_append]
    rcases List.mem_cons.1 hd with rfl | hd
    · exact .inl hk
    · exact .inr (weightsAll_mem hd k hk)

theorem fieldInt {all : List Nat} {t : TypeId} {cv : Value} (ht : P.underlying t = some (.int .i64)) (h : FieldAt enc P W all t cv) : ∃ z : Int, cv = .int .i64 z ∧ -9223372036854775808 ≤ z ∧ z ≤ 9223372036854775807 := by
  obtain ⟨n, y, h1, _⟩ := h
  obtain ⟨z, e, _, hw⟩ := DataW.trod_int ht h1
  exact ⟨z, by simpa using e, wf_i64 hw⟩
theorem fieldBool {all : List Nat} {t : TypeId} {cv : Value} (ht : P.underlying t = some .bool) (h : FieldAt enc P W all t cv) : ∃ b : Bool, cv = .bool b := by
  obtain ⟨n, y, h1, _⟩ := h
  obtain ⟨z, e, _⟩ := DataW.trod_bool ht h1
  exact ⟨z, by simpa using e⟩
theorem fieldFloat {all : List Nat} {t : TypeId} {cv : Value} (ht : P.underlying t = some (.float .f64)) (h : FieldAt enc P W all t cv) : ∃ b : Nat, cv = .float .f64 b ∧ b < 18446744073709551616 := by
  obtain ⟨n, y, h1, _⟩ := h
  cases n with
  | zero => simp [DataW.trod] at h1
  | succ n =>
    unfold DataW.trod at h1
    rw [ht] at h1
    cases cv <;> simp at h1
    rename_i k b
    obtain ⟨h1, _⟩ := h1
    have hk := h1.1
    subst hk
    exact ⟨b, rfl, by simpa [Lit.wf] using h1.2⟩
theorem fieldBytes {all : List Nat} {t e : TypeId} {cv : Value} (ht : P.underlying t = some (.slice e)) (he : P.underlying e = some (.int .u8)) (hc : P.cellsOf e = 1) (hb : P.bytesOf e = 1) (hall : all.all (· ≤ reachBytes) = true) (h : FieldAt enc P W all t cv) :
    ∃ (a : Option Addr) (c : Nat) (bs : List UInt8), Sl W cv a c bs ∧ (∀ b, blk a = some b → 0 < bs.length → b < W.heap.size) ∧ c ≤ 140737488351232 := by
  obtain ⟨n, y, h1, hm⟩ := h
  rcases open_ints ht he hc h1 with ⟨hcs, _⟩ | ⟨a, len, cap, zs, hcs, _, hl, hmx, hz, hdat, hcell, hw⟩
  · obtain rfl : cv = .slice none 0 0 := by simpa using hcs
    exact ⟨none, 0, [], Sl.nil W, fun b hb => (by cases hb), Nat.zero_le _⟩
  · obtain rfl : cv = .slice (some a) len cap := by simpa using hcs
    simp only [if_true] at hz
    have hlen : ((zs.take len).map fun n => UInt8.ofNat n.toNat).length = len := by simp; omega
    have hseg : Seg W (some a) ((zs.take len).map fun n => UInt8.ofNat n.toNat) := by
      intro i hi
      rw [hlen] at hi
      obtain ⟨b, off, rfl, h⟩ := cells_at (f := fun i => .int .u8 (zs.getD i 0)) hcell i (by omega)
      refine ⟨b, off, rfl, ?_⟩
      have hi2 : i < zs.length := by omega
      have e : zs.getD i 0 = zs[i] := by rw [List.getD, List.getElem?_eq_getElem hi2]; rfl
      have hr := wf_u8 (hw zs[i] (List.getElem_mem hi2))
      rw [h, e]
      simp only [byteV, List.getElem_map, List.getElem_take, UInt8.toNat_ofNat']
      congr 2
      omega
    refine ⟨some a, cap, (zs.take len).map fun n => UInt8.ofNat n.toNat, ⟨by rw [hlen], by omega, by omega, fun h => (by cases h), hseg⟩, fun b hb hpos => ?_, ?_⟩
    · obtain ⟨b', off, e, hcl⟩ := hseg 0 hpos
      cases e
      cases hb
      exact World.block_lt_of_cell? _ _ hcl
    · have h2 : cap * P.bytesOf e ∈ y.1.weights P t := by
        rw [hdat]
        simp only [DataW.weights, ht, List.mem_cons]
        left
        have e : (lits (H := H) .u8 (zs.take len)).length + (lits (H := H) .u8 (zs.drop len)).length = cap := by simp [lits]; omega
        rw [e]
      have h3 := List.all_eq_true.1 hall _ (hm _ h2)
      rw [hb] at h3
      simpa [reachBytes] using h3

/-- A slice of structs. -/
theorem open_structsAt {base : Nat} {t e : TypeId} {fs : Array Field} {v : Value} {d : DataW H} {p : List MemPlace} (ht : P.underlying t = some (.slice e)) (he : P.underlying e = some (.struct fs))
    (hone : oneCellFields P fs = true) (hC : P.cellsOf e = fs.size) (hv : Value.okWide P W .any base t v) (h : DataW.Trod enc P W 0 (fun _ => true) true t v d p) (hpos : 0 < fs.size) :
    ∃ (a : Option Addr) (len cap : Nat), v = .slice a len cap ∧ len ≤ maxLen ∧
      ∀ i, i < len → ∃ b off, a = some ⟨b, off, none⟩ ∧ ∀ j f, fs[j]? = some f → ∃ cv, W.cell? ⟨b, off + (i * fs.size + j), none⟩ = some cv ∧ FieldAt enc P W (d.weights P t) f.type cv := by
  obtain ⟨a0, len, cap, rfl⟩ := okWide_slice ht hv
  obtain ⟨fuel, hf⟩ := h
  rcases open_slice ht hf with ⟨hcs, _⟩ | ⟨a, len', cap', m, n, D, Pl, hcs, _, hl, hm, hmm, hx, hi⟩
  · simp only [Value.cells, List.cons.injEq, Value.slice.injEq, and_true] at hcs
    obtain ⟨rfl, rfl, rfl⟩ := hcs
    exact ⟨none, 0, 0, rfl, Nat.zero_le _, fun i hi => by omega⟩
  · simp only [Value.cells, List.cons.injEq, Value.slice.injEq, and_true] at hcs
    obtain ⟨rfl, rfl, rfl⟩ := hcs
    simp only [if_true] at hmm
    subst hmm
    have hd : d = .slice ((List.range len).map D) ((List.range (m - len)).map fun j => D (len + j)) := (Prod.mk.inj hx).1
    refine ⟨some a, len, m, rfl, by omega, fun i hil => ?_⟩
    obtain ⟨cs', hcc, htr⟩ := hi i (by omega)
    rw [hC] at hcc
    obtain ⟨_, hcl, hat⟩ := World.cells?_some hcc
    obtain ⟨ys, n', _, hy, _, hyl, hfl⟩ := DataW.trod_struct he htr
    have hD : D i = .agg (ys.map (·.1)) := (Prod.mk.inj hy).1
    -- the address is plain
    have hplain : ∃ b off, a = ⟨b, off, none⟩ := by
      have h0 := hi 0 (by omega)
      obtain ⟨cs0, hc0, _⟩ := h0
      rw [hC] at hc0
      obtain ⟨_, hcl0, hat0⟩ := World.cells?_some hc0
      have h00 := hat0 0 hpos
      rw [Nat.zero_mul] at h00
      have : ∃ v, W.cell? ((a.add 0).add 0) = some v := by
        rw [h00, List.getElem?_eq_getElem (by omega)]
        exact ⟨_, rfl⟩
      obtain ⟨v, hv⟩ := this
      obtain ⟨b, off, sp⟩ := a
      cases sp with
      | none => exact ⟨b, off, rfl⟩
      | some s =>
        exfalso
        simp only [Addr.add, if_true, World.cell?] at hv
        split at hv <;> simp at hv
    obtain ⟨b, off, rfl⟩ := hplain
    refine ⟨b, off, rfl, fun j f hj => ?_⟩
    obtain ⟨ho, hk⟩ := hone_of hone j f hj
    have hjl : j < fs.size := (Array.getElem?_eq_some_iff.1 hj).1
    have hcell := hat j hjl
    rw [add_add, Addr.add_lit, List.getElem?_eq_getElem (by omega)] at hcell
    have hff := hfl j f hj
    rw [ho, hk] at hff
    have hone' : (cs'.drop j).take 1 = [cs'[j]'(by omega)] := by
      rw [List.drop_eq_getElem_cons (by omega)]; rfl
    rw [hone'] at hff
    have hys : ys[j]? = some (ys[j]'(by omega)) := List.getElem?_eq_getElem (by omega)
    refine ⟨_, hcell, n', _, hff.trans hys, fun k hkk => ?_⟩
    rw [hd]
    simp only [DataW.weights, ht, List.mem_cons, List.mem_append]
    right; left
    refine weightsAll_mem (d := D i) (by simp; exact ⟨i, hil, rfl⟩) k ?_
    rw [hD]
    simp only [DataW.weights, he]
    refine DataW.weights_mem_each (j := j) (t := f.type) (d := (ys[j]'(by omega)).1) ?_ ?_ k hkk
    · rw [List.getElem?_map]
      have : fs.toList[j]? = some f := by simpa using hj
      rw [this]; rfl
    · rw [List.getElem?_map, hys]; rfl
end
end Go.Proofs.Ytgpidbdgodgefaa
