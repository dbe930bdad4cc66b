/- Proved: pentimentolaw1.OctetSizes answers true at every input and leaves its input as it was. No condition. -/
import Derived.Test.YtgpidbdgodgefaaSizesW
namespace Go.Proofs.Ytgpidbdgodgefaa
open Go.ChangeShapes Go.WideShapes Go.ChangeAt Go.RowKit Go.Deep

set_option maxRecDepth 100000 in
theorem octetSizes_lifted (os : Os) (started : os.Started) (H : Type) (enc : TypeId × Value → H) :
    ReturnsInHanded {} Try.checked os 6 .any (Rows.octetSizesSpec.pre6 enc Try.prog Try.f6 Rows.octetSizesRow.domain false) (Rows.octetSizesSpec.post enc Try.prog Try.f6 false true false false) := by
  refine returnsInHanded_of_change_sized (C := Try.checked) (by kernel_rfl) started (by kernel_rfl) Try.func6
    (ChangeSpec.witness6 (enc := enc) (C := Try.checked) false ⟨#[], #[.int .i64 0, .int .i64 0, .int .i64 0, .float .f64 0, .slice none 0 0, .int .i64 0], []⟩ 8 (by kernel_rfl) (by kernel_rfl) (by kernel_rfl) (by kernel_rfl)) ?_
  intro W base args ds gs before hval0 hW hcnd hsz0 _
  have hval : ∀ (j : Nat) t v, Try.f6.params[j]? = some t → args[j]? = some v → Value.okWide Try.prog W .any base t v := hval0
  have hW' := hW
  obtain ⟨p, q, hA0, hV, rfl, hfz, hnd⟩ := hW
  have hgs : gs = [] := by
    cases gs with
    | nil => rfl
    | cons a b => exact hV.elim
  subst hgs
  have hsz : (DataW.weightsEach Try.prog Try.f6.params.toList (ds ++ [])).all (· ≤ reachBytes) = true := hsz0
  rw [List.append_nil, Try.params6] at hsz
  have hA : DataW.TrodAll enc Try.prog W 0 (fun _ => true) true Try.f6.params.toList args.toList ds p := hA0
  rw [Try.params6] at hA hval
  clear hA0 hval0 hsz0 hV hfz hnd hcnd
  obtain ⟨v0, vs0, d0, ds0, _, _, ea0, ed0, h0, hA0⟩ := LawKit.trodAll_step hA
  obtain ⟨v1, vs1, d1, ds1, _, _, ea1, ed1, h1, hA1⟩ := LawKit.trodAll_step hA0
  obtain ⟨v2, vs2, d2, ds2, _, _, ea2, ed2, h2, hA2⟩ := LawKit.trodAll_step hA1
  obtain ⟨v3, vs3, d3, ds3, _, _, ea3, ed3, h3, hA3⟩ := LawKit.trodAll_step hA2
  obtain ⟨v4, vs4, d4, ds4, _, _, ea4, ed4, h4, hA4⟩ := LawKit.trodAll_step hA3
  obtain ⟨v5, vs5, d5, ds5, _, _, ea5, ed5, h5, hA5⟩ := LawKit.trodAll_step hA4
  obtain ⟨rfl, rfl⟩ := LawKit.trodAll_none hA5
  subst ea5 ed5
  subst ea4 ed4
  subst ea3 ed3
  subst ea2 ed2
  subst ea1 ed1
  have hargs : args = #[v0, v1, v2, v3, v4, v5] := by
    rw [← Array.toArray_toList (xs := args), ea0]
  subst hargs ed0
  obtain ⟨x0, rfl, _, _, wf0⟩ := open_int Try.underlying3 (hval 0 3 v0 rfl rfl) h0
  have hx0 := wf_i64 wf0
  obtain ⟨x1, rfl, _, _, wf1⟩ := open_int Try.underlying3 (hval 1 3 v1 rfl rfl) h1
  have hx1 := wf_i64 wf1
  obtain ⟨x2, rfl, _, _, wf2⟩ := open_int Try.underlying3 (hval 2 3 v2 rfl rfl) h2
  have hx2 := wf_i64 wf2
  obtain ⟨x3, rfl, hx3⟩ := open_f64 Try.underlying30 (hval 3 30 v3 rfl rfl) h3
  obtain ⟨a4, c4, x4, hs4, hb4, hc4⟩ := open_bytesAt Try.underlying27 Try.underlying5 (by kernel_rfl) (hval 4 27 v4 rfl rfl) h4
  have hr4 := bytes_reach hsz (j := 4) rfl rfl Try.underlying27 (by kernel_rfl) hc4
  have hl4 := hs4.le
  obtain ⟨x5, rfl, _, _, wf5⟩ := open_int Try.underlying3 (hval 5 3 v5 rfl rfl) h5
  have hx5 := wf_i64 wf5
  refine (sizes_any x0 x1 x2 x5 x3 v4 a4 c4 x4 W hx3 hs4 (by omega) hx5.1 hx5.2 hb4).mono fun e W' ⟨he, hk⟩ => ?_
  subst he
  exact ⟨_, rfl, LawKit.post_law (by kernel_rfl) (by kernel_rfl) rfl rfl Try.underlying4 hW' (fun ds hd => by
    match ds, hd with
    | [d0, d1, d2, d3, d4, d5], _ => rfl) rfl hk.below⟩

theorem octetSizes_holds : Rows.OctetSizesSaid :=
  OpenClaim.holds_of_wide 6 Try.f6 rfl rfl rfl rfl rfl rfl rfl ⟨rfl, rfl, rfl, rfl, rfl⟩ rfl rfl rfl rfl rfl (by kernel_rfl) Try.func6 (by kernel_rfl)
    (of_decide_eq_true (by kernel_rfl)) (by unfold Func.isWrapper; rw [if_neg (by decide +kernel)]; exact ⟨rfl, rfl⟩)
    (fun os started H enc _ => octetSizes_lifted os started H enc)

#print axioms octetSizes_holds
end Go.Proofs.Ytgpidbdgodgefaa
