/- A slice of steps that came in, opened. Conditions: as the theorem names them. -/
import Derived.Test.YtgpidbdgodgefaaOpen
import Derived.Test.YtgpidbdgodgefaaRows
namespace Go.Proofs.Ytgpidbdgodgefaa
open Go.ChangeShapes Go.WideShapes Go.ChangeAt Go.RowKit Go.Deep

/-- One step that came in. -/
structure BStep where
  what : Int
  n : Int
  x : Nat
  a : Option Addr
  c : Nat
  bs : List UInt8

/-- A step lies at a place. -/
structure StepAt (w : World) (b o : Nat) (s : BStep) : Prop where
  what : w.cell? ⟨b, o, none⟩ = some (.int .i64 s.what)
  n : w.cell? ⟨b, o + 1, none⟩ = some (.int .i64 s.n)
  x : w.cell? ⟨b, o + 2, none⟩ = some (.float .f64 s.x)
  bs : w.cell? ⟨b, o + 3, none⟩ = some (.slice s.a s.bs.length s.c)
  sl : Sl w (.slice s.a s.bs.length s.c) s.a s.c s.bs
  rw : -9223372036854775808 ≤ s.what ∧ s.what ≤ 9223372036854775807
  rn : -9223372036854775808 ≤ s.n ∧ s.n ≤ 9223372036854775807
  rx : s.x < 18446744073709551616
  rc : s.c ≤ 140737488351232

theorem StepAt.keep {w w' : World} {b o : Nat} {s : BStep} (h : StepAt w b o s) (k : Kp (fun _ => False) w w') : StepAt w' b o s :=
  ⟨k.cell h.what id, k.cell h.n id, k.cell h.x id, k.cell h.bs id, h.sl.keep k (fun _ _ => id), h.rw, h.rn, h.rx, h.rc⟩

theorem open_steps {H : Type} {enc : TypeId × Value → H} {W : World} {base : Nat} {v : Value} {d : DataW H} {p : List MemPlace} (hv : Value.okWide Try.prog W .any base 22 v) (h : DataW.Trod enc Try.prog W 0 (fun _ => true) true 22 v d p)
    (hall : (d.weights Try.prog 22).all (· ≤ reachBytes) = true) :
    ∃ (a : Option Addr) (len cap : Nat) (f : Nat → BStep), v = .slice a len cap ∧ len ≤ maxLen ∧ ∀ i, i < len → ∃ b off, a = some ⟨b, off, none⟩ ∧ StepAt W b (off + i * 4) (f i) := by
  obtain ⟨a, len, cap, rfl, hl, hst⟩ := open_structsAt Try.underlying22 Try.underlying32 (by kernel_rfl) (by kernel_rfl) hv h (by decide)
  have hex : ∀ i, ∃ s : BStep, i < len → ∃ b off, a = some ⟨b, off, none⟩ ∧ StepAt W b (off + i * 4) s := by
    intro i
    by_cases hi : i < len
    · obtain ⟨b, off, e, hf⟩ := hst i hi
      obtain ⟨c0, e0, h0⟩ := hf 0 _ rfl
      obtain ⟨c1, e1, h1⟩ := hf 1 _ rfl
      obtain ⟨c2, e2, h2⟩ := hf 2 _ rfl
      obtain ⟨c3, e3, h3⟩ := hf 3 _ rfl
      obtain ⟨z0, rfl, r0, r0'⟩ := fieldInt Try.underlying3 h0
      obtain ⟨z1, rfl, r1, r1'⟩ := fieldInt Try.underlying3 h1
      obtain ⟨x2, rfl, r2⟩ := fieldFloat Try.underlying30 h2
      obtain ⟨a3, k3, bs, hs, _, hc⟩ := fieldBytes Try.underlying27 Try.underlying5 (by kernel_rfl) (by kernel_rfl) hall h3
      have he := hs.eq
      subst he
      exact ⟨⟨z0, z1, x2, a3, k3, bs⟩, fun _ => ⟨b, off, e, e0, e1, e2, e3, hs, ⟨r0, r0'⟩, ⟨r1, r1'⟩, r2, hc⟩⟩
    · exact ⟨⟨0, 0, 0, none, 0, []⟩, fun h => absurd h hi⟩
  obtain ⟨f, hf⟩ := Classical.axiomOfChoice hex
  exact ⟨a, len, cap, f, rfl, hl, hf⟩
end Go.Proofs.Ytgpidbdgodgefaa
