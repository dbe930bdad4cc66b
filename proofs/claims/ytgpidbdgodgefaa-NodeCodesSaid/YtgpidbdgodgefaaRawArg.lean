/- A raw node that came in, opened. Conditions: as the theorems name them. -/
import Derived.Test.YtgpidbdgodgefaaOpen
import Derived.Test.YtgpidbdgodgefaaSameW
import Derived.Test.YtgpidbdgodgefaaRows
namespace Go.Proofs.Ytgpidbdgodgefaa
open Go.ChangeShapes Go.WideShapes Go.ChangeAt Go.RowKit Go.Deep

section
variable {H : Type} {enc : TypeId × Value → H} {P : Program} {W : World}

/-- A struct of fields of one cell. -/
theorem open_structAt {base : Nat} {t : TypeId} {fs : Array Field} {v : Value} {d : DataW H} {p : List MemPlace} (ht : P.underlying t = some (.struct fs))
    (hone : oneCellFields P fs = true) (hC : P.cellsOf t = fs.size) (hv : Value.okWide P W .any base t v) (h : DataW.Trod enc P W 0 (fun _ => true) true t v d p) :
    ∃ cs : Array Value, v = .agg cs ∧ cs.size = fs.size ∧ ∀ (j : Nat) (f : Field), fs[j]? = some f → ∃ cv, cs[j]? = some cv ∧ FieldAt enc P W (d.weights P t) f.type cv := by
  obtain ⟨cs, rfl, hcs⟩ := okWide_struct ht hv
  obtain ⟨fuel, hf⟩ := h
  rw [hC] at hcs
  refine ⟨cs, rfl, hcs, fun j f hj => ?_⟩
  obtain ⟨ys, n', _, hy, _, hyl, hfl⟩ := DataW.trod_struct ht hf
  have hd : d = .agg (ys.map (·.1)) := (Prod.mk.inj hy).1
  obtain ⟨ho, hk⟩ := hone_of hone j f hj
  have hjl : j < fs.size := (Array.getElem?_eq_some_iff.1 hj).1
  have hff := hfl j f hj
  rw [ho, hk] at hff
  have hcells : (Value.agg cs).cells = cs := rfl
  have hone' : ((cs.toList).drop j).take 1 = [cs[j]'(by omega)] := by
    rw [List.drop_eq_getElem_cons (by simpa using (by omega : j < cs.size))]
    simp
  have hff2 : DataW.trod enc P W 0 (fun _ => true) true n' f.type [cs[j]'(by omega)] = ys[j]? := by
    rw [← hone']
    exact hff
  have hys : ys[j]? = some (ys[j]'(by omega)) := List.getElem?_eq_getElem (by omega)
  refine ⟨_, Array.getElem?_eq_getElem (by omega), n', _, hff2.trans hys, fun k hkk => ?_⟩
  rw [hd]
  simp only [DataW.weights, ht]
  refine DataW.weights_mem_each (j := j) (t := f.type) (d := (ys[j]'(by omega)).1) ?_ ?_ k hkk
  · rw [List.getElem?_map]
    have : fs.toList[j]? = some f := by simpa using hj
    rw [this]; rfl
  · rw [List.getElem?_map, hys]; rfl
end

theorem open_raw {H : Type} {enc : TypeId × Value → H} {W : World} {base : Nat} {v : Value} {d : DataW H} {p : List MemPlace} (hv : Value.okWide Try.prog W .any base 55 v) (h : DataW.Trod enc Try.prog W 0 (fun _ => true) true 55 v d p)
    (hall : (d.weights Try.prog 55).all (· ≤ reachBytes) = true) :
    ∃ (r : RawV) (a : Option Addr) (c : Nat), v = rawVal r a c ∧ RawOk W r a c := by
  obtain ⟨cs, rfl, hsz, hf⟩ := open_structAt Try.underlying55 (by kernel_rfl) (by kernel_rfl) hv h
  obtain ⟨c0, e0, h0⟩ := hf 0 _ rfl
  obtain ⟨c1, e1, h1⟩ := hf 1 _ rfl
  obtain ⟨c2, e2, h2⟩ := hf 2 _ rfl
  obtain ⟨c3, e3, h3⟩ := hf 3 _ rfl
  obtain ⟨c4, e4, h4⟩ := hf 4 _ rfl
  obtain ⟨z0, rfl, r0, r0'⟩ := fieldInt Try.underlying3 h0
  obtain ⟨z1, rfl, r1, r1'⟩ := fieldInt Try.underlying3 h1
  obtain ⟨z2, rfl, r2, r2'⟩ := fieldInt Try.underlying3 h2
  obtain ⟨x3, rfl, r3⟩ := fieldFloat Try.underlying30 h3
  obtain ⟨a4, k4, bs, hs, _, hc⟩ := fieldBytes Try.underlying27 Try.underlying5 (by kernel_rfl) (by kernel_rfl) hall h4
  have he := hs.eq
  subst he
  have hsz5 : cs.size = 5 := hsz
  have hcs : cs = #[.int .i64 z0, .int .i64 z1, .int .i64 z2, .float .f64 x3, .slice a4 bs.length k4] := by
    apply Array.ext_getElem?
    intro i
    match i with
    | 0 => exact e0
    | 1 => exact e1
    | 2 => exact e2
    | 3 => exact e3
    | 4 => exact e4
    | i + 5 =>
      rw [Array.getElem?_eq_none (by omega), Array.getElem?_eq_none (by simp)]
  subst hcs
  have hle := hs.le
  exact ⟨⟨z0, z1, z2, x3, bs⟩, a4, k4, rfl, ⟨hs, by show bs.length ≤ _; omega, r3, ⟨r0, r0'⟩, ⟨r1, r1'⟩, ⟨r2, r2'⟩⟩⟩
end Go.Proofs.Ytgpidbdgodgefaa
