/- Proved: pentimentolaw18.RenameTells answers true at every input and leaves its input as it was; the listed variables of Go's library are tied to the program's text (the tie is given; it speaks of the pruned copy). No condition. -/
import Derived.Test.YtgpidbdgodgefaaDoorRtW
import Derived.Test.YtgpidbdgodgefaaDoorOpenD
import Derived.Test.YtgpidbdgodgefaaDoorLiftD
import Derived.Test.YtgpidbdgodgefaaDoorTie
import Derived.Test.YtgpidbdgodgefaaDoorCards
namespace Go.Proofs.YtgpidbdgodgefaaDoor
open Go.ChangeShapes Go.WideShapes Go.ChangeAt Go.RowKit Go.Deep

set_option maxRecDepth 100000 in
theorem renameTells_lifted (os : Os) (started : os.Started) (H : Type) (enc : TypeId × Value → H) :
    ReturnsInHanded {} Tryd.checked os 14 .any (fun w args => (Rows.renameTellsSpec.pre enc Tryd.prog Tryd.f14 [] false w args ∧ laidMetH Tryd.prog Rows.renameTellsRow.laid w) ∧ sizedMet enc Tryd.prog Tryd.f14 (OpenSpec.ofChange Rows.renameTellsSpec) false w args)
      (Rows.renameTellsSpec.post enc Tryd.prog Tryd.f14 false true false false) := by
  refine returns_laid_shaped (C := Tryd.checked) (X := fun w _ => laidMetH Tryd.prog Rows.renameTellsRow.laid w) (fun _ _ _ hh h => h.of_heap hh) (by kernel_rfl) started (by kernel_rfl) Tryd.func14
    (ChangeSpec.witness_shaped (enc := enc) (C := Tryd.checked) (os := os) (X := fun w _ => laidMetH Tryd.prog Rows.renameTellsRow.laid w) false (World.laidAll Tryd.prog os Rows.renameTellsRow.laid) #[.slice none 0 0, .slice none 0 0, .bool false, .bool false, .int .i64 0] 8 (World.laidAll_os _ _ _)
      (World.shaped_of_ZipB (by kernel_rfl) (by kernel_rfl)) (by kernel_rfl) (by kernel_rfl) (by kernel_rfl)
      (by rw [MakeChecks.laidMetH_plain _ _ _ (by kernel_rfl)]; exact laidMet_laidAll _ (by kernel_rfl) (by kernel_rfl))) ?_
  intro W base args ds gs before hval0 hW hcnd hsz0 _ hsh _
  obtain ⟨m, hm⟩ := maxLen_cell W hsh
  have hval : ∀ (j : Nat) t v, Tryd.f14.params[j]? = some t → args[j]? = some v → Value.okWide Tryd.prog W .any base t v := hval0
  have hW' := hW
  obtain ⟨p, q, hA0, hV, rfl, hfz, hnd⟩ := hW
  have hgs : gs = [] := by
    cases gs with
    | nil => rfl
    | cons a b => exact hV.elim
  subst hgs
  have hsz : (DataW.weightsEach Tryd.prog Tryd.f14.params.toList (ds ++ [])).all (· ≤ reachBytes) = true := hsz0
  rw [List.append_nil, Tryd.params14] at hsz
  have hA : DataW.TrodAll enc Tryd.prog W 0 (fun _ => true) true Tryd.f14.params.toList args.toList ds p := hA0
  rw [Tryd.params14] at hA hval
  clear hA0 hval0 hsz0 hV hfz hnd hcnd hsh
  obtain ⟨v0, vs0, d0, ds0, _, _, ea0, ed0, h0, hA0⟩ := LawKit.trodAll_step hA
  obtain ⟨v1, vs1, d1, ds1, _, _, ea1, ed1, h1, hA1⟩ := LawKit.trodAll_step hA0
  obtain ⟨v2, vs2, d2, ds2, _, _, ea2, ed2, h2, hA2⟩ := LawKit.trodAll_step hA1
  obtain ⟨v3, vs3, d3, ds3, _, _, ea3, ed3, h3, hA3⟩ := LawKit.trodAll_step hA2
  obtain ⟨v4, vs4, d4, ds4, _, _, ea4, ed4, h4, hA4⟩ := LawKit.trodAll_step hA3
  obtain ⟨rfl, rfl⟩ := LawKit.trodAll_none hA4
  subst ea4 ed4
  subst ea3 ed3
  subst ea2 ed2
  subst ea1 ed1
  have hargs : args = #[v0, v1, v2, v3, v4] := by
    rw [← Array.toArray_toList (xs := args), ea0]
  subst hargs ed0
  obtain ⟨a0, l0, c0, rfl, hl0, hx0⟩ := open_raws (hval 0 59 v0 rfl rfl) h0 (List.all_eq_true.2 fun k hk => List.all_eq_true.1 hsz k (DataW.weights_mem_each (j := 0) rfl rfl k hk))
  obtain ⟨a1, l1, c1, rfl, hl1, hx1⟩ := open_turns (hval 1 71 v1 rfl rfl) h1 (List.all_eq_true.2 fun k hk => List.all_eq_true.1 hsz k (DataW.weights_mem_each (j := 1) rfl rfl k hk))
  obtain ⟨x2, rfl, _, _⟩ := open_bool Tryd.underlying4 (hval 2 4 v2 rfl rfl) h2
  obtain ⟨x3, rfl, _, _⟩ := open_bool Tryd.underlying4 (hval 3 4 v3 rfl rfl) h3
  obtain ⟨x4, rfl, _, _, wf4⟩ := open_int Tryd.underlying3 (hval 4 3 v4 rfl rfl) h4
  have hx4 := wf_i64 wf4
  refine (renameTells_any a0 c0 l0 a1 c1 l1 x2 x3 x4 m W hx0 hl0 hx1 hl1 hx4 hm).mono fun e W' ⟨he, hk⟩ => ?_
  subst he
  exact ⟨_, rfl, LawKit.post_law (by kernel_rfl) (by kernel_rfl) rfl rfl Tryd.underlying4 hW' (fun ds hd => by
    match ds, hd with
    | [d0, d1, d2, d3, d4], _ => rfl) rfl hk.below⟩

theorem renameTells_row_holds : Rows.RenameTellsSaid :=
  OpenClaim.holds_of_wide 14 Tryd.f14 rfl rfl rfl rfl rfl rfl rfl ⟨rfl, rfl, rfl, rfl, rfl⟩ rfl rfl rfl rfl rfl (by kernel_rfl) Tryd.func14 (by kernel_rfl)
    (of_decide_eq_true (by kernel_rfl)) (by unfold Func.isWrapper; first | (rw [if_pos (by decide +kernel)]; kernel_rfl) | (rw [if_neg (by decide +kernel)]; exact ⟨rfl, rfl⟩))
    (fun os started H enc _ => renameTells_lifted os started H enc)

theorem renameTells_card_holds : Rows.RenameTellsCardSaid :=
  Claim7.holds_tied_plain_at .later [] [.data, .pinned] true Rows.renameTellsCard.stood.harness false renameTells_row_holds (fun _ h => by cases h) (by kernel_rfl) (fun _ h => by cases h) renameTells_row_tie rfl ⟨rfl, rfl⟩ (by kernel_rfl) rfl
    (fun f fn hf hfn => by
      obtain rfl : f = 14 := Option.some.inj ((show Tryd.prog.funcNamed Rows.renameTellsRow.func = some 14 by kernel_rfl).symm.trans hf) |>.symm
      obtain rfl : fn = Tryd.f14 := (Option.some.inj (Tryd.func14.symm.trans hfn)).symm
      exact ⟨by kernel_rfl, fun j t ht => by
        rw [Tryd.params14] at ht
        have hm : t ∈ ([59, 71, 4, 4, 3] : List TypeId) := by simpa using Array.mem_of_getElem? ht
        have hall : (([59, 71, 4, 4, 3] : List TypeId).all fun u => !Tryd.prog.wantsStandIn u) = true := by kernel_rfl
        exact (show Tryd.prog.wantsStandIn t = false by simpa using List.all_eq_true.1 hall t hm)⟩)
    (by kernel_rfl)
#print axioms renameTells_card_holds
end Go.Proofs.YtgpidbdgodgefaaDoor
