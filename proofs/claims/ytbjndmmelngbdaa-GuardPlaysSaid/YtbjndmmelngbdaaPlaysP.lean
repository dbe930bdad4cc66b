/- Proved: pentimentolaw3.GuardPlays answers true at every input and leaves its input as it was. No condition. -/
import Derived.Test.YtbjndmmelngbdaaOpenG
import Derived.Test.YtbjndmmelngbdaaPlaysW
namespace Go.Proofs.Ytbjndmmelngbdaa
open Go.ChangeShapes Go.WideShapes Go.ChangeAt Go.RowKit Go.Deep

theorem open_gsteps {H : Type} {enc : TypeId × Value → H} {W : World} {base : Nat} {v : Value} {d : DataW H} {p : List MemPlace} (hv : Value.okWide Try.prog W .any base 34 v) (h : DataW.Trod enc Try.prog W 0 (fun _ => true) true 34 v d p) :
    ∃ (a : Option Addr) (cap : Nat) (s : GSteps), v = .slice a s.ll cap ∧ Nums s ∧ StepsAt W W.heap.size a s := by
  obtain ⟨a, len, cap, rfl, hl, hst⟩ := open_structsAt Try.underlying34 Try.underlying51 (by kernel_rfl) (by kernel_rfl) hv h (by decide)
  have hex : ∀ i, ∃ s : (Int × Int) × Bool, ((-9223372036854775808 ≤ s.1.1 ∧ s.1.1 ≤ 9223372036854775807) ∧ (-9223372036854775808 ≤ s.1.2 ∧ s.1.2 ≤ 9223372036854775807)) ∧
      (i < len → ∃ b off, a = some ⟨b, off, none⟩ ∧ b < W.heap.size ∧ W.cell? ⟨b, off + i * 3, none⟩ = some (.int .i64 s.1.1) ∧ W.cell? ⟨b, off + i * 3 + 1, none⟩ = some (.int .i64 s.1.2) ∧ W.cell? ⟨b, off + i * 3 + 2, none⟩ = some (.bool s.2)) := by
    intro i
    by_cases hi : i < len
    · obtain ⟨b, off, e, hf⟩ := hst i hi
      obtain ⟨c0, e0, h0⟩ := hf 0 _ rfl
      obtain ⟨c1, e1, h1⟩ := hf 1 _ rfl
      obtain ⟨c2, e2, h2⟩ := hf 2 _ rfl
      obtain ⟨z0, rfl, r0, r0'⟩ := fieldInt Try.underlying3 h0
      obtain ⟨z1, rfl, r1, r1'⟩ := fieldInt Try.underlying3 h1
      obtain ⟨x2, rfl⟩ := fieldBool Try.underlying4 h2
      exact ⟨⟨⟨z0, z1⟩, x2⟩, ⟨⟨r0, r0'⟩, ⟨r1, r1'⟩⟩, fun _ => ⟨b, off, e, World.block_lt_of_cell? _ _ e0, e0, e1, e2⟩⟩
    · exact ⟨⟨⟨0, 0⟩, false⟩, by simp, fun h => absurd h hi⟩
  obtain ⟨f, hf⟩ := Classical.axiomOfChoice hex
  exact ⟨a, cap, ⟨len, fun i => (f i).1.1, fun i => (f i).1.2, fun i => (f i).2⟩, rfl, ⟨hl, fun i => (hf i).1⟩, fun i hi => (hf i).2 hi⟩

set_option maxRecDepth 100000 in
theorem plays_lifted (os : Os) (started : os.Started) (H : Type) (enc : TypeId × Value → H) :
    ReturnsInHanded {} Try.checked os 5 .any (Rows.guardPlaysSpec.pre6 enc Try.prog Try.f5 Rows.guardPlaysRow.domain false) (Rows.guardPlaysSpec.post enc Try.prog Try.f5 false true false false) := by
  refine returnsInHanded_of_change (C := Try.checked) LawKit.own started (by kernel_rfl) Try.func5
    (ChangeSpec.witness6 (enc := enc) (C := Try.checked) false ⟨#[], #[.slice none 0 0], []⟩ 8 (by kernel_rfl) (by kernel_rfl) (by kernel_rfl) (by kernel_rfl)) ?_
  intro W base args ds gs before hval0 hW hcnd _
  have hval : ∀ (j : Nat) t v, Try.f5.params[j]? = some t → args[j]? = some v → Value.okWide Try.prog W .any base t v := hval0
  have hW' := hW
  obtain ⟨p, q, hA0, hV, rfl, hfz, hnd⟩ := hW
  have hA : DataW.TrodAll enc Try.prog W 0 (fun _ => true) true Try.f5.params.toList args.toList ds p := hA0
  rw [Try.params5] at hA hval
  obtain ⟨v0, vs0, d0, ds0, _, _, ea0, ed0, h0, hA0'⟩ := trodAll_step hA
  obtain ⟨rfl, rfl⟩ := trodAll_none hA0'
  have hargs : args = #[v0] := by
    rw [← Array.toArray_toList (xs := args), ea0]
  subst hargs ed0
  obtain ⟨a, cap, s, rfl, hs, hla⟩ := open_gsteps (hval 0 34 v0 rfl rfl) h0
  refine (guardPlays_any a cap s W hs hla).mono fun e W' ⟨he, hk⟩ => ?_
  subst he
  exact ⟨_, rfl, LawKit.post_law LawKit.laidOut (by kernel_rfl) rfl rfl Try.underlying4 hW' (fun ds hd => by
    match ds, hd with
    | [d0], _ => rfl) rfl hk.below⟩

theorem guardPlays_holds : Rows.GuardPlaysSaid :=
  OpenClaim.holds_of_wide 5 Try.f5 rfl rfl rfl rfl rfl rfl rfl ⟨rfl, rfl, rfl, rfl, rfl⟩ rfl rfl rfl rfl rfl (by kernel_rfl) Try.func5 (by kernel_rfl)
    (of_decide_eq_true (by kernel_rfl)) (by unfold Func.isWrapper; rw [if_neg (by decide +kernel)]; exact ⟨rfl, rfl⟩)
    (fun os started H enc _ => plays_lifted os started H enc)

#print axioms guardPlays_holds
end Go.Proofs.Ytbjndmmelngbdaa
