/- Proved: pentimentolaw10.NodeCodes answers true at every input and leaves its input as it was. No condition. -/
import Derived.Test.YtgpidbdgodgefaaCodesW
import Derived.Test.YtgpidbdgodgefaaRawArg
namespace Go.Proofs.Ytgpidbdgodgefaa
open Go.ChangeShapes Go.WideShapes Go.ChangeAt Go.RowKit Go.Deep

set_option maxRecDepth 100000 in
theorem nodeCodes_lifted (os : Os) (started : os.Started) (H : Type) (enc : TypeId × Value → H) :
    ReturnsInHanded {} Try.checked os 9 .any (Rows.nodeCodesSpec.pre6 enc Try.prog Try.f9 Rows.nodeCodesRow.domain false) (Rows.nodeCodesSpec.post enc Try.prog Try.f9 false true false false) := by
  refine returnsInHanded_of_change_sized (C := Try.checked) (by kernel_rfl) started (by kernel_rfl) Try.func9
    (ChangeSpec.witness6 (enc := enc) (C := Try.checked) false ⟨#[], #[.agg #[.int .i64 0, .int .i64 0, .int .i64 0, .float .f64 0, .slice none 0 0], .int .i64 0, .slice none 0 0, .slice none 0 0, .int .i64 0, .slice none 0 0, .int .u8 0], []⟩ 8 (by kernel_rfl) (by kernel_rfl) (by kernel_rfl) (by kernel_rfl)) ?_
  intro W base args ds gs before hval0 hW hcnd hsz0 _
  have hval : ∀ (j : Nat) t v, Try.f9.params[j]? = some t → args[j]? = some v → Value.okWide Try.prog W .any base t v := hval0
  have hW' := hW
  obtain ⟨p, q, hA0, hV, rfl, hfz, hnd⟩ := hW
  have hgs : gs = [] := by
    cases gs with
    | nil => rfl
    | cons a b => exact hV.elim
  subst hgs
  have hsz : (DataW.weightsEach Try.prog Try.f9.params.toList (ds ++ [])).all (· ≤ reachBytes) = true := hsz0
  rw [List.append_nil, Try.params9] at hsz
  have hA : DataW.TrodAll enc Try.prog W 0 (fun _ => true) true Try.f9.params.toList args.toList ds p := hA0
  rw [Try.params9] at hA hval
  clear hA0 hval0 hsz0 hV hfz hnd hcnd
  obtain ⟨v0, vs0, d0, ds0, _, _, ea0, ed0, h0, hA0⟩ := LawKit.trodAll_step hA
  obtain ⟨v1, vs1, d1, ds1, _, _, ea1, ed1, h1, hA1⟩ := LawKit.trodAll_step hA0
  obtain ⟨v2, vs2, d2, ds2, _, _, ea2, ed2, h2, hA2⟩ := LawKit.trodAll_step hA1
  obtain ⟨v3, vs3, d3, ds3, _, _, ea3, ed3, h3, hA3⟩ := LawKit.trodAll_step hA2
  obtain ⟨v4, vs4, d4, ds4, _, _, ea4, ed4, h4, hA4⟩ := LawKit.trodAll_step hA3
  obtain ⟨v5, vs5, d5, ds5, _, _, ea5, ed5, h5, hA5⟩ := LawKit.trodAll_step hA4
  obtain ⟨v6, vs6, d6, ds6, _, _, ea6, ed6, h6, hA6⟩ := LawKit.trodAll_step hA5
  obtain ⟨rfl, rfl⟩ := LawKit.trodAll_none hA6
  subst ea6 ed6
  subst ea5 ed5
  subst ea4 ed4
  subst ea3 ed3
  subst ea2 ed2
  subst ea1 ed1
  have hargs : args = #[v0, v1, v2, v3, v4, v5, v6] := by
    rw [← Array.toArray_toList (xs := args), ea0]
  subst hargs ed0
  obtain ⟨r0, a0, c0, rfl, hr0⟩ := open_raw (hval 0 55 v0 rfl rfl) h0 (List.all_eq_true.2 fun k hk => List.all_eq_true.1 hsz k (DataW.weights_mem_each (j := 0) rfl rfl k hk))
  obtain ⟨x1, rfl, _, _, wf1⟩ := open_int Try.underlying3 (hval 1 3 v1 rfl rfl) h1
  have hx1 := wf_i64 wf1
  obtain ⟨a2, c2, x2, hs2, hb2, hc2⟩ := open_bytesAt Try.underlying27 Try.underlying5 (by kernel_rfl) (hval 2 27 v2 rfl rfl) h2
  have hr2 := bytes_reach hsz (j := 2) rfl rfl Try.underlying27 (by kernel_rfl) hc2
  have hl2 := hs2.le
  obtain ⟨a3, c3, x3, hs3, hb3, hc3⟩ := open_bytesAt Try.underlying27 Try.underlying5 (by kernel_rfl) (hval 3 27 v3 rfl rfl) h3
  have hr3 := bytes_reach hsz (j := 3) rfl rfl Try.underlying27 (by kernel_rfl) hc3
  have hl3 := hs3.le
  obtain ⟨x4, rfl, _, _, wf4⟩ := open_int Try.underlying3 (hval 4 3 v4 rfl rfl) h4
  have hx4 := wf_i64 wf4
  obtain ⟨a5, l5, c5, x5, rfl, hl5, hx5, hz5⟩ := open_intsAt Try.underlying61 Try.underlying3 (by kernel_rfl) (hval 5 61 v5 rfl rfl) h5
  obtain ⟨x6, rfl, _, _, wf6⟩ := open_int Try.underlying5 (hval 6 5 v6 rfl rfl) h6
  have hx6 := wf_u8 wf6
  refine (nodeCodes_any r0 a0 c0 x1 _ a2 c2 x2 _ a3 c3 x3 x4 a5 l5 c5 x5 x6 W hr0 hx1 hs2 (by omega) hs3 (by omega) hl5 hx5 hz5).mono fun e W' ⟨he, hk⟩ => ?_
  subst he
  exact ⟨_, rfl, LawKit.post_law (by kernel_rfl) (by kernel_rfl) rfl rfl Try.underlying4 hW' (fun ds hd => by
    match ds, hd with
    | [d0, d1, d2, d3, d4, d5, d6], _ => rfl) rfl hk.below⟩

theorem nodeCodes_holds : Rows.NodeCodesSaid :=
  OpenClaim.holds_of_wide 9 Try.f9 rfl rfl rfl rfl rfl rfl rfl ⟨rfl, rfl, rfl, rfl, rfl⟩ rfl rfl rfl rfl rfl (by kernel_rfl) Try.func9 (by kernel_rfl)
    (of_decide_eq_true (by kernel_rfl)) (by unfold Func.isWrapper; rw [if_neg (by decide +kernel)]; exact ⟨rfl, rfl⟩)
    (fun os started H enc _ => nodeCodes_lifted os started H enc)

#print axioms nodeCodes_holds
end Go.Proofs.Ytgpidbdgodgefaa
