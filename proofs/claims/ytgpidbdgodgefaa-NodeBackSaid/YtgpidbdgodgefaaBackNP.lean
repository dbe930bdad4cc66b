/- Proved: pentimentolaw10.NodeBack answers true at every input and leaves its input as it was. No condition. -/
import Derived.Test.YtgpidbdgodgefaaBackNW
import Derived.Test.YtgpidbdgodgefaaRawArg
namespace Go.Proofs.Ytgpidbdgodgefaa
open Go.ChangeShapes Go.WideShapes Go.ChangeAt Go.RowKit Go.Deep

set_option maxRecDepth 100000 in
theorem nodeBack_lifted (os : Os) (started : os.Started) (H : Type) (enc : TypeId × Value → H) :
    ReturnsInHanded {} Try.checked os 10 .any (Rows.nodeBackSpec.pre6 enc Try.prog Try.f10 Rows.nodeBackRow.domain false) (Rows.nodeBackSpec.post enc Try.prog Try.f10 false true false false) := by
  refine returnsInHanded_of_change_sized (C := Try.checked) (by kernel_rfl) started (by kernel_rfl) Try.func10
    (ChangeSpec.witness6 (enc := enc) (C := Try.checked) false ⟨#[], #[.agg #[.int .i64 0, .int .i64 0, .int .i64 0, .float .f64 0, .slice none 0 0], .agg #[.int .i64 0, .int .i64 0, .int .i64 0, .float .f64 0, .slice none 0 0], .slice none 0 0], []⟩ 8 (by kernel_rfl) (by kernel_rfl) (by kernel_rfl) (by kernel_rfl)) ?_
  intro W base args ds gs before hval0 hW hcnd hsz0 _
  have hval : ∀ (j : Nat) t v, Try.f10.params[j]? = some t → args[j]? = some v → Value.okWide Try.prog W .any base t v := hval0
  have hW' := hW
  obtain ⟨p, q, hA0, hV, rfl, hfz, hnd⟩ := hW
  have hgs : gs = [] := by
    cases gs with
    | nil => rfl
    | cons a b => exact hV.elim
  subst hgs
  have hsz : (DataW.weightsEach Try.prog Try.f10.params.toList (ds ++ [])).all (· ≤ reachBytes) = true := hsz0
  rw [List.append_nil, Try.params10] at hsz
  have hA : DataW.TrodAll enc Try.prog W 0 (fun _ => true) true Try.f10.params.toList args.toList ds p := hA0
  rw [Try.params10] at hA hval
  clear hA0 hval0 hsz0 hV hfz hnd hcnd
  obtain ⟨v0, vs0, d0, ds0, _, _, ea0, ed0, h0, hA0⟩ := LawKit.trodAll_step hA
  obtain ⟨v1, vs1, d1, ds1, _, _, ea1, ed1, h1, hA1⟩ := LawKit.trodAll_step hA0
  obtain ⟨v2, vs2, d2, ds2, _, _, ea2, ed2, h2, hA2⟩ := LawKit.trodAll_step hA1
  obtain ⟨rfl, rfl⟩ := LawKit.trodAll_none hA2
  subst ea2 ed2
  subst ea1 ed1
  have hargs : args = #[v0, v1, v2] := by
    rw [← Array.toArray_toList (xs := args), ea0]
  subst hargs ed0
  obtain ⟨r0, a0, c0, rfl, hr0⟩ := open_raw (hval 0 55 v0 rfl rfl) h0 (List.all_eq_true.2 fun k hk => List.all_eq_true.1 hsz k (DataW.weights_mem_each (j := 0) rfl rfl k hk))
  obtain ⟨r1, a1, c1, rfl, hr1⟩ := open_raw (hval 1 55 v1 rfl rfl) h1 (List.all_eq_true.2 fun k hk => List.all_eq_true.1 hsz k (DataW.weights_mem_each (j := 1) rfl rfl k hk))
  obtain ⟨a2, c2, x2, hs2, hb2, hc2⟩ := open_bytesAt Try.underlying27 Try.underlying5 (by kernel_rfl) (hval 2 27 v2 rfl rfl) h2
  have hr2 := bytes_reach hsz (j := 2) rfl rfl Try.underlying27 (by kernel_rfl) hc2
  have hl2 := hs2.le
  refine (nodeBack_any r0 r1 a0 a1 c0 c1 _ a2 c2 x2 W hr0 hr1 hs2 (by omega)).mono fun e W' ⟨he, hk⟩ => ?_
  subst he
  exact ⟨_, rfl, LawKit.post_law (by kernel_rfl) (by kernel_rfl) rfl rfl Try.underlying4 hW' (fun ds hd => by
    match ds, hd with
    | [d0, d1, d2], _ => rfl) rfl hk.below⟩

theorem nodeBack_holds : Rows.NodeBackSaid :=
  OpenClaim.holds_of_wide 10 Try.f10 rfl rfl rfl rfl rfl rfl rfl ⟨rfl, rfl, rfl, rfl, rfl⟩ rfl rfl rfl rfl rfl (by kernel_rfl) Try.func10 (by kernel_rfl)
    (of_decide_eq_true (by kernel_rfl)) (by unfold Func.isWrapper; rw [if_neg (by decide +kernel)]; exact ⟨rfl, rfl⟩)
    (fun os started H enc _ => nodeBack_lifted os started H enc)

#print axioms nodeBack_holds
end Go.Proofs.Ytgpidbdgodgefaa
