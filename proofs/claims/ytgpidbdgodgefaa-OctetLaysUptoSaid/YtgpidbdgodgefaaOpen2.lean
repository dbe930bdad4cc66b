/- A slice of steps that came in, opened, with the bulk of each field. Conditions: as the theorems name them. -/
import Derived.Test.YtgpidbdgodgefaaSteps
namespace Go.Proofs.Ytgpidbdgodgefaa
open Go.RowKit Go.ChangeShapes Go.WideShapes Go.ChangeAt Go.Deep

section
variable {H : Type} {enc : TypeId × Value → H} {P : Program} {W : World}

theorem bulk_one {H : Type} (d : DataW H) : 1 ≤ Rows.uptoBulk d := by
  cases d with
  | lit l => cases l <;> simp [Rows.uptoBulk]
  | _ => simp [Rows.uptoBulk]
theorem part_le {H : Type} {d : DataW H} {l : List (DataW H)} (h : d ∈ l) : Rows.uptoBulk d ≤ Rows.uptoBulkAll l := by
  induction l with
  | nil => cases h
  | cons x r ih =>
    simp only [Rows.uptoBulkAll]
    rcases List.mem_cons.1 h with rfl | h
    · omega
    · have := ih h
      omega
theorem bulk_length {H : Type} (l : List (DataW H)) : l.length ≤ Rows.uptoBulkAll l := by
  induction l with
  | nil => simp [Rows.uptoBulkAll]
  | cons x r ih => have := bulk_one x; simp only [Rows.uptoBulkAll, List.length_cons]; omega

theorem fieldBytesUp {all : List Nat} {t e : TypeId} {cv : Value} (ht : P.underlying t = some (.slice e)) (he : P.underlying e = some (.int .u8)) (hc : P.cellsOf e = 1) (hb : P.bytesOf e = 1) (hall : all.all (· ≤ reachBytes) = true) {K : Nat} (h : ∃ n y, DataW.trod enc P W 0 (fun _ => true) true n t [cv] = some y ∧ (∀ k ∈ y.1.weights P t, k ∈ all) ∧ Rows.uptoBulk y.1 ≤ K) :
    ∃ (a : Option Addr) (c : Nat) (bs : List UInt8), Sl W cv a c bs ∧ (∀ b, blk a = some b → 0 < bs.length → b < W.heap.size) ∧ c ≤ 140737488351232 ∧ bs.length ≤ K := by
  obtain ⟨n, y, h1, hm, hbk⟩ := h
  rcases open_ints ht he hc h1 with ⟨hcs, _⟩ | ⟨a, len, cap, zs, hcs, _, hl, hmx, hz, hdat, hcell, hw⟩
  · obtain rfl : cv = .slice none 0 0 := by simpa using hcs
    exact ⟨none, 0, [], Sl.nil W, fun b hb => (by cases hb), Nat.zero_le _, Nat.zero_le _⟩
  · obtain rfl : cv = .slice (some a) len cap := by simpa using hcs
    simp only [if_true] at hz
    have hlen : ((zs.take len).map fun n => UInt8.ofNat n.toNat).length = len := by simp; omega
    have hseg : Seg W (some a) ((zs.take len).map fun n => UInt8.ofNat n.toNat) := by
      intro i hi
      rw [hlen] at hi
      obtain ⟨b, off, rfl, h⟩ := cells_at (f := fun i => .int .u8 (zs.getD i 0)) hcell i (by omega)
      refine ⟨b, off, rfl, ?_⟩
      have hi2 : i < zs.length := by omega
      have e : zs.getD i 0 = zs[i] := by rw [List.getD, List.getElem?_eq_getElem hi2]; rfl
      have hr := wf_u8 (hw zs[i] (List.getElem_mem hi2))
      rw [h, e]
      simp only [byteV, List.getElem_map, List.getElem_take, UInt8.toNat_ofNat']
      congr 2
      omega
    refine ⟨some a, cap, (zs.take len).map fun n => UInt8.ofNat n.toNat, ⟨by rw [hlen], by omega, by omega, fun h => (by cases h), hseg⟩, fun b hb hpos => ?_, ?_, ?_⟩
    · obtain ⟨b', off, e, hcl⟩ := hseg 0 hpos
      cases e
      cases hb
      exact World.block_lt_of_cell? _ _ hcl
    · have h2 : cap * P.bytesOf e ∈ y.1.weights P t := by
        rw [hdat]
        simp only [DataW.weights, ht, List.mem_cons]
        left
        have e : (lits (H := H) .u8 (zs.take len)).length + (lits (H := H) .u8 (zs.drop len)).length = cap := by simp [lits]; omega
        rw [e]
      have h3 := List.all_eq_true.1 hall _ (hm _ h2)
      rw [hb] at h3
      simpa [reachBytes] using h3
    · rw [hdat] at hbk
      have b1 := bulk_length (lits (H := H) .u8 (zs.take len))
      simp only [Rows.uptoBulk] at hbk
      have e : (lits (H := H) .u8 (zs.take len)).length = len := by simp [lits]; omega
      rw [hlen]
      omega

/-- A slice of structs, with the bulk of each field. -/
theorem open_structsUp {base : Nat} {t e : TypeId} {fs : Array Field} {v : Value} {d : DataW H} {p : List MemPlace} (ht : P.underlying t = some (.slice e)) (he : P.underlying e = some (.struct fs))
    (hone : oneCellFields P fs = true) (hC : P.cellsOf e = fs.size) (hv : Value.okWide P W .any base t v) (h : DataW.Trod enc P W 0 (fun _ => true) true t v d p) (hpos : 0 < fs.size) :
    ∃ (a : Option Addr) (len cap : Nat), v = .slice a len cap ∧ len ≤ maxLen ∧
      ∀ i, i < len → ∃ b off, a = some ⟨b, off, none⟩ ∧ ∀ j f, fs[j]? = some f → ∃ cv, W.cell? ⟨b, off + (i * fs.size + j), none⟩ = some cv ∧ ∃ n y, DataW.trod enc P W 0 (fun _ => true) true n f.type [cv] = some y ∧ (∀ k ∈ y.1.weights P f.type, k ∈ d.weights P t) ∧ Rows.uptoBulk y.1 ≤ Rows.uptoBulk d := by
  obtain ⟨a0, len, cap, rfl⟩ := okWide_slice ht hv
  obtain ⟨fuel, hf⟩ := h
  rcases open_slice ht hf with ⟨hcs, _⟩ | ⟨a, len', cap', m, n, D, Pl, hcs, _, hl, hm, hmm, hx, hi⟩
  · simp only [Value.cells, List.cons.injEq, Value.slice.injEq, and_true] at hcs
    obtain ⟨rfl, rfl, rfl⟩ := hcs
    exact ⟨none, 0, 0, rfl, Nat.zero_le _, fun i hi => by omega⟩
  · simp only [Value.cells, List.cons.injEq, Value.slice.injEq, and_true] at hcs
    obtain ⟨rfl, rfl, rfl⟩ := hcs
    simp only [if_true] at hmm
    subst hmm
    have hd : d = .slice ((List.range len).map D) ((List.range (m - len)).map fun j => D (len + j)) := (Prod.mk.inj hx).1
    refine ⟨some a, len, m, rfl, by omega, fun i hil => ?_⟩
    obtain ⟨cs', hcc, htr⟩ := hi i (by omega)
    rw [hC] at hcc
    obtain ⟨_, hcl, hat⟩ := World.cells?_some hcc
    obtain ⟨ys, n', _, hy, _, hyl, hfl⟩ := DataW.trod_struct he htr
    have hD : D i = .agg (ys.map (·.1)) := (Prod.mk.inj hy).1
    -- the address is plain
    have hplain : ∃ b off, a = ⟨b, off, none⟩ := by
      have h0 := hi 0 (by omega)
      obtain ⟨cs0, hc0, _⟩ := h0
      rw [hC] at hc0
      obtain ⟨_, hcl0, hat0⟩ := World.cells?_some hc0
      have h00 := hat0 0 hpos
      rw [Nat.zero_mul] at h00
      have : ∃ v, W.cell? ((a.add 0).add 0) = some v := by
        rw [h00, List.getElem?_eq_getElem (by omega)]
        exact ⟨_, rfl⟩
      obtain ⟨v, hv⟩ := this
      obtain ⟨b, off, sp⟩ := a
      cases sp with
      | none => exact ⟨b, off, rfl⟩
      | some s =>
        exfalso
        simp only [Addr.add, if_true, World.cell?] at hv
        split at hv <;> simp at hv
    obtain ⟨b, off, rfl⟩ := hplain
    refine ⟨b, off, rfl, fun j f hj => ?_⟩
    obtain ⟨ho, hk⟩ := hone_of hone j f hj
    have hjl : j < fs.size := (Array.getElem?_eq_some_iff.1 hj).1
    have hcell := hat j hjl
    rw [add_add, Addr.add_lit, List.getElem?_eq_getElem (by omega)] at hcell
    have hff := hfl j f hj
    rw [ho, hk] at hff
    have hone' : (cs'.drop j).take 1 = [cs'[j]'(by omega)] := by
      rw [List.drop_eq_getElem_cons (by omega)]; rfl
    rw [hone'] at hff
    have hys : ys[j]? = some (ys[j]'(by omega)) := List.getElem?_eq_getElem (by omega)
    refine ⟨_, hcell, n', _, hff.trans hys, fun k hkk => ?_, ?_⟩
    rotate_left
    · have b1 : Rows.uptoBulk (ys[j]'(by omega)).1 ≤ Rows.uptoBulkAll (ys.map (·.1)) := part_le (List.mem_map.2 ⟨_, List.getElem_mem (by omega), rfl⟩)
      have b2 : Rows.uptoBulk (D i) ≤ Rows.uptoBulkAll ((List.range len).map D) := part_le (by simp; exact ⟨i, hil, rfl⟩)
      rw [hD] at b2
      rw [hd]
      simp only [Rows.uptoBulk] at b2 ⊢
      omega
    rw [hd]
    simp only [DataW.weights, ht, List.mem_cons, List.mem_append]
    right; left
    refine weightsAll_mem (d := D i) (by simp; exact ⟨i, hil, rfl⟩) k ?_
    rw [hD]
    simp only [DataW.weights, he]
    refine DataW.weights_mem_each (j := j) (t := f.type) (d := (ys[j]'(by omega)).1) ?_ ?_ k hkk
    · rw [List.getElem?_map]
      have : fs.toList[j]? = some f := by simpa using hj
      rw [this]; rfl
    · rw [List.getElem?_map, hys]; rfl
end
theorem open_stepsUp {H : Type} {enc : TypeId × Value → H} {W : World} {base : Nat} {v : Value} {d : DataW H} {p : List MemPlace} (hv : Value.okWide Try.prog W .any base 22 v) (h : DataW.Trod enc Try.prog W 0 (fun _ => true) true 22 v d p)
    (hall : (d.weights Try.prog 22).all (· ≤ reachBytes) = true) :
    ∃ (a : Option Addr) (len cap : Nat) (f : Nat → BStep), v = .slice a len cap ∧ len ≤ maxLen ∧ ∀ i, i < len → ∃ b off, a = some ⟨b, off, none⟩ ∧ StepAt W b (off + i * 4) (f i) ∧ (f i).bs.length ≤ Rows.uptoBulk d := by
  obtain ⟨a, len, cap, rfl, hl, hst⟩ := open_structsUp Try.underlying22 Try.underlying32 (by kernel_rfl) (by kernel_rfl) hv h (by decide)
  have hex : ∀ i, ∃ s : BStep, i < len → ∃ b off, a = some ⟨b, off, none⟩ ∧ StepAt W b (off + i * 4) s ∧ s.bs.length ≤ Rows.uptoBulk d := by
    intro i
    by_cases hi : i < len
    · obtain ⟨b, off, e, hf⟩ := hst i hi
      obtain ⟨c0, e0, h0⟩ := hf 0 _ rfl
      obtain ⟨c1, e1, h1⟩ := hf 1 _ rfl
      obtain ⟨c2, e2, h2⟩ := hf 2 _ rfl
      obtain ⟨c3, e3, h3⟩ := hf 3 _ rfl
      obtain ⟨z0, rfl, r0, r0'⟩ := fieldInt (all := d.weights Try.prog 22) Try.underlying3 (by obtain ⟨n, y, g1, g2, _⟩ := h0; exact ⟨n, y, g1, g2⟩)
      obtain ⟨z1, rfl, r1, r1'⟩ := fieldInt (all := d.weights Try.prog 22) Try.underlying3 (by obtain ⟨n, y, g1, g2, _⟩ := h1; exact ⟨n, y, g1, g2⟩)
      obtain ⟨x2, rfl, r2⟩ := fieldFloat (all := d.weights Try.prog 22) Try.underlying30 (by obtain ⟨n, y, g1, g2, _⟩ := h2; exact ⟨n, y, g1, g2⟩)
      obtain ⟨a3, k3, bs, hs, hnb, hc, hbk⟩ := fieldBytesUp Try.underlying27 Try.underlying5 (by kernel_rfl) (by kernel_rfl) hall h3
      have he := hs.eq
      subst he
      exact ⟨⟨z0, z1, x2, a3, k3, bs⟩, fun _ => ⟨b, off, e, ⟨e0, e1, e2, e3, hs, ⟨r0, r0'⟩, ⟨r1, r1'⟩, r2, hc⟩, hbk⟩⟩
    · exact ⟨⟨0, 0, 0, none, 0, []⟩, fun h => absurd h hi⟩
  obtain ⟨f, hf⟩ := Classical.axiomOfChoice hex
  exact ⟨a, len, cap, f, rfl, hl, hf⟩
end Go.Proofs.Ytgpidbdgodgefaa
