/- Proved: pentimentolaw1.OctetBack answers true at every input and leaves its input as it was. No condition. -/
import Derived.Test.YtgpidbdgodgefaaBackW
namespace Go.Proofs.Ytgpidbdgodgefaa
open Go.ChangeShapes Go.WideShapes Go.ChangeAt Go.RowKit Go.Deep

set_option maxRecDepth 100000 in
theorem octetBack_lifted (os : Os) (started : os.Started) (H : Type) (enc : TypeId × Value → H) :
    ReturnsInHanded {} Try.checked os 7 .any (Rows.octetBackSpec.pre6 enc Try.prog Try.f7 Rows.octetBackRow.domain false) (Rows.octetBackSpec.post enc Try.prog Try.f7 false true false false) := by
  refine returnsInHanded_of_change_sized (C := Try.checked) (by kernel_rfl) started (by kernel_rfl) Try.func7
    (ChangeSpec.witness6 (enc := enc) (C := Try.checked) false ⟨#[], #[.slice none 0 0], []⟩ 8 (by kernel_rfl) (by kernel_rfl) (by kernel_rfl) (by kernel_rfl)) ?_
  intro W base args ds gs before hval0 hW hcnd hsz0 _
  have hval : ∀ (j : Nat) t v, Try.f7.params[j]? = some t → args[j]? = some v → Value.okWide Try.prog W .any base t v := hval0
  have hW' := hW
  obtain ⟨p, q, hA0, hV, rfl, hfz, hnd⟩ := hW
  have hgs : gs = [] := by
    cases gs with
    | nil => rfl
    | cons a b => exact hV.elim
  subst hgs
  have hsz : (DataW.weightsEach Try.prog Try.f7.params.toList (ds ++ [])).all (· ≤ reachBytes) = true := hsz0
  rw [List.append_nil, Try.params7] at hsz
  have hA : DataW.TrodAll enc Try.prog W 0 (fun _ => true) true Try.f7.params.toList args.toList ds p := hA0
  rw [Try.params7] at hA hval
  clear hA0 hval0 hsz0 hV hfz hnd hcnd
  obtain ⟨v0, vs0, d0, ds0, _, _, ea0, ed0, h0, hA0⟩ := LawKit.trodAll_step hA
  obtain ⟨rfl, rfl⟩ := LawKit.trodAll_none hA0
  have hargs : args = #[v0] := by
    rw [← Array.toArray_toList (xs := args), ea0]
  subst hargs ed0
  obtain ⟨a0, l0, c0, f0, rfl, hl0, hf0⟩ := open_steps (hval 0 22 v0 rfl rfl) h0 (List.all_eq_true.2 fun k hk => List.all_eq_true.1 hsz k (DataW.weights_mem_each (j := 0) rfl rfl k hk))
  refine (back_lays a0 l0 c0 f0 W hl0 hf0).mono fun e W' ⟨he, hk⟩ => ?_
  subst he
  exact ⟨_, rfl, LawKit.post_law (by kernel_rfl) (by kernel_rfl) rfl rfl Try.underlying4 hW' (fun ds hd => by
    match ds, hd with
    | [d0], _ => rfl) rfl hk.below⟩

theorem octetBack_holds : Rows.OctetBackSaid :=
  OpenClaim.holds_of_wide 7 Try.f7 rfl rfl rfl rfl rfl rfl rfl ⟨rfl, rfl, rfl, rfl, rfl⟩ rfl rfl rfl rfl rfl (by kernel_rfl) Try.func7 (by kernel_rfl)
    (of_decide_eq_true (by kernel_rfl)) (by unfold Func.isWrapper; rw [if_neg (by decide +kernel)]; exact ⟨rfl, rfl⟩)
    (fun os started H enc _ => octetBack_lifted os started H enc)

#print axioms octetBack_holds
end Go.Proofs.Ytgpidbdgodgefaa
