/- Proved: pentimentolaw1.OctetLays answers true at every input of bulk at most the Rows text's bound, and leaves its input as it was (the Upto form). -/
import Derived.Test.YtgpidbdgodgefaaLaysW
import Derived.Deep.CondSized
import Derived.JoinedCond
namespace Go.Proofs.Ytgpidbdgodgefaa
open Go.ChangeShapes Go.WideShapes Go.ChangeAt Go.RowKit Go.Deep

set_option maxRecDepth 100000 in
theorem octetLays_lifted (os : Os) (started : os.Started) (H : Type) (enc : TypeId × Value → H) (F : Stop.Interp) :
    ReturnsInHanded {} Try.checked os 3 .any ((Rows.OpenSpec.upto Rows.octetLaysSpec).pre6 enc Try.prog Try.f3 Rows.octetLaysUptoRow.domain false) (((Rows.OpenSpec.upto Rows.octetLaysSpec).at F).post enc Try.prog Try.f3 false true false false) := by
  refine returnsInHanded_of_cond_sized (C := Try.checked) (s := Rows.OpenSpec.upto Rows.octetLaysSpec) (k := Rows.uptoSmall) rfl (by kernel_rfl) started (by kernel_rfl) Try.func3
    (OpenSpec.witness (enc := enc) (C := Try.checked) (s := Rows.OpenSpec.upto Rows.octetLaysSpec) (k := Rows.uptoSmall) rfl false ⟨#[], #[.slice none 0 0], []⟩ 8 (by kernel_rfl) (by kernel_rfl) (by kernel_rfl)
      (x := ([.nil], [], [])) (by kernel_rfl) rfl (by kernel_rfl)) ?_
  intro W base args ds gs before hval0 hW hcnd hk0 hsz0 _
  have hval : ∀ (j : Nat) t v, Try.f3.params[j]? = some t → args[j]? = some v → Value.okWide Try.prog W .any base t v := hval0
  have hW' := hW
  obtain ⟨p, q, hA0, hV, rfl, hfz, hnd⟩ := hW
  have hgs : gs = [] := by
    cases gs with
    | nil => rfl
    | cons a b => exact hV.elim
  subst hgs
  have hsz : (DataW.weightsEach Try.prog Try.f3.params.toList (ds ++ [])).all (· ≤ reachBytes) = true := hsz0
  rw [List.append_nil, Try.params3] at hsz
  have hA : DataW.TrodAll enc Try.prog W 0 (fun _ => true) true Try.f3.params.toList args.toList ds p := hA0
  rw [Try.params3] at hA hval
  clear hA0 hval0 hsz0 hV hfz hnd hcnd
  obtain ⟨v0, vs0, d0, ds0, _, _, ea0, ed0, h0, hA0⟩ := LawKit.trodAll_step hA
  obtain ⟨rfl, rfl⟩ := LawKit.trodAll_none hA0
  have hargs : args = #[v0] := by
    rw [← Array.toArray_toList (xs := args), ea0]
  subst hargs ed0
  have hbulk : Rows.uptoBulkAll ([d0] ++ []) ≤ 1048576 := of_decide_eq_true hk0
  simp only [List.append_nil, Rows.uptoBulkAll] at hbulk
  obtain ⟨a0, l0, c0, f0, rfl, hl0, hf0⟩ := open_stepsUp (hval 0 22 v0 rfl rfl) h0 (List.all_eq_true.2 fun k hk => List.all_eq_true.1 hsz k (DataW.weights_mem_each (j := 0) rfl rfl k hk))
  refine (lays_any a0 l0 c0 f0 W hl0 fun i hi => ?_).mono fun e W' ⟨he, hk⟩ => ?_
  · obtain ⟨b, off, g1, g2, g3⟩ := hf0 i hi
    exact ⟨b, off, g1, g2, by omega⟩
  subst he
  exact ⟨_, rfl, LawKit.post_law (by kernel_rfl) (by kernel_rfl) rfl rfl Try.underlying4 hW' (fun ds hd => by
    match ds, hd with
    | [d0], _ => rfl) rfl hk.below⟩

theorem octetLays_holds : Rows.OctetLaysUptoSaid :=
  OpenClaim.holds_of_cond 3 Try.f3 rfl rfl rfl rfl rfl rfl rfl ⟨rfl, rfl, rfl, rfl, rfl⟩ rfl rfl rfl rfl rfl (by kernel_rfl) Try.func3 (by kernel_rfl)
    (of_decide_eq_true (by kernel_rfl)) (by unfold Func.isWrapper; rw [if_neg (by decide +kernel)]; exact ⟨rfl, rfl⟩)
    (fun os started H enc _ F => octetLays_lifted os started H enc F)

#print axioms octetLays_holds
end Go.Proofs.Ytgpidbdgodgefaa
