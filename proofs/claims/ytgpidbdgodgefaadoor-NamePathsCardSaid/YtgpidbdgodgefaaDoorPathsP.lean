/- Proved: pentimentolaw9.NamePaths answers true at every input and leaves its input as it was; the listed variables of Go's library are tied to the program's text (the tie is given; it speaks of the pruned copy). No condition. -/
import Derived.Test.YtgpidbdgodgefaaDoorPathsW
import Derived.Test.YtgpidbdgodgefaaDoorLiftD
import Derived.Test.YtgpidbdgodgefaaDoorTie
import Derived.Test.YtgpidbdgodgefaaDoorCards
namespace Go.Proofs.YtgpidbdgodgefaaDoor
open Go.ChangeShapes Go.WideShapes Go.ChangeAt Go.RowKit Go.Deep

set_option maxRecDepth 100000 in
theorem namePaths_lifted (os : Os) (started : os.Started) (H : Type) (enc : TypeId × Value → H) :
    ReturnsInHanded {} Tryd.checked os 6 .any (fun w args => (Rows.namePathsSpec.pre enc Tryd.prog Tryd.f6 [] false w args ∧ laidMetH Tryd.prog Rows.namePathsRow.laid w) ∧ sizedMet enc Tryd.prog Tryd.f6 (OpenSpec.ofChange Rows.namePathsSpec) false w args)
      (Rows.namePathsSpec.post enc Tryd.prog Tryd.f6 false true false false) := by
  refine returns_laid_shaped (C := Tryd.checked) (X := fun w _ => laidMetH Tryd.prog Rows.namePathsRow.laid w) (fun _ _ _ hh h => h.of_heap hh) (by kernel_rfl) started (by kernel_rfl) Tryd.func6
    (ChangeSpec.witness_shaped (enc := enc) (C := Tryd.checked) (os := os) (X := fun w _ => laidMetH Tryd.prog Rows.namePathsRow.laid w) false (World.laidAll Tryd.prog os Rows.namePathsRow.laid) #[.slice none 0 0, .string ⟨#[]⟩] 8 (World.laidAll_os _ _ _)
      (World.shaped_of_ZipB (by kernel_rfl) (by kernel_rfl)) (by kernel_rfl) (by kernel_rfl) (by kernel_rfl)
      (by rw [MakeChecks.laidMetH_plain _ _ _ (by kernel_rfl)]; exact laidMet_laidAll _ (by kernel_rfl) (by kernel_rfl))) ?_
  intro W base args ds gs before hval0 hW hcnd hsz0 _ hsh _
  obtain ⟨m, hm⟩ := maxLen_cell W hsh
  have hval : ∀ (j : Nat) t v, Tryd.f6.params[j]? = some t → args[j]? = some v → Value.okWide Tryd.prog W .any base t v := hval0
  have hW' := hW
  obtain ⟨p, q, hA0, hV, rfl, hfz, hnd⟩ := hW
  have hgs : gs = [] := by
    cases gs with
    | nil => rfl
    | cons a b => exact hV.elim
  subst hgs
  have hsz : (DataW.weightsEach Tryd.prog Tryd.f6.params.toList (ds ++ [])).all (· ≤ reachBytes) = true := hsz0
  rw [List.append_nil, Tryd.params6] at hsz
  have hA : DataW.TrodAll enc Tryd.prog W 0 (fun _ => true) true Tryd.f6.params.toList args.toList ds p := hA0
  rw [Tryd.params6] at hA hval
  clear hA0 hval0 hsz0 hV hfz hnd hcnd hsh
  obtain ⟨v0, vs0, d0, ds0, _, _, ea0, ed0, h0, hA0⟩ := LawKit.trodAll_step hA
  obtain ⟨v1, vs1, d1, ds1, _, _, ea1, ed1, h1, hA1⟩ := LawKit.trodAll_step hA0
  obtain ⟨rfl, rfl⟩ := LawKit.trodAll_none hA1
  subst ea1 ed1
  have hargs : args = #[v0, v1] := by
    rw [← Array.toArray_toList (xs := args), ea0]
  subst hargs ed0
  obtain ⟨a0, l0, c0, x0, rfl, hl0, hx0, hz0⟩ := open_intsAt Tryd.underlying33 Tryd.underlying3 (by kernel_rfl) (hval 0 33 v0 rfl rfl) h0
  obtain ⟨y1, rfl, _, _, hx1⟩ := Go.ChangeMaps.open_string Tryd.underlying9 (hval 1 9 v1 rfl rfl) h1
  obtain ⟨x1, rfl⟩ : ∃ l : List UInt8, y1 = ⟨l.toArray⟩ := ⟨y1.data.toList, by simp⟩
  refine (namePaths_any a0 l0 c0 x0 x1 m W hx0 (by simpa [ByteArray.size, maxLen] using hx1) (by unfold maxLen at hl0; omega) hz0 hm).mono fun e W' ⟨he, hk⟩ => ?_
  subst he
  exact ⟨_, rfl, LawKit.post_law (by kernel_rfl) (by kernel_rfl) rfl rfl Tryd.underlying4 hW' (fun ds hd => by
    match ds, hd with
    | [d0, d1], _ => rfl) rfl hk.below⟩

theorem namePaths_row_holds : Rows.NamePathsSaid :=
  OpenClaim.holds_of_wide 6 Tryd.f6 rfl rfl rfl rfl rfl rfl rfl ⟨rfl, rfl, rfl, rfl, rfl⟩ rfl rfl rfl rfl rfl (by kernel_rfl) Tryd.func6 (by kernel_rfl)
    (of_decide_eq_true (by kernel_rfl)) (by unfold Func.isWrapper; first | (rw [if_pos (by decide +kernel)]; kernel_rfl) | (rw [if_neg (by decide +kernel)]; exact ⟨rfl, rfl⟩))
    (fun os started H enc _ => namePaths_lifted os started H enc)

theorem namePaths_card_holds : Rows.NamePathsCardSaid :=
  Claim7.holds_tied_plain_at .later [] [.data, .pinned] true Rows.namePathsCard.stood.harness false namePaths_row_holds (fun _ h => by cases h) (by kernel_rfl) (fun _ h => by cases h) namePaths_row_tie rfl ⟨rfl, rfl⟩ (by kernel_rfl) rfl
    (fun f fn hf hfn => by
      obtain rfl : f = 6 := Option.some.inj ((show Tryd.prog.funcNamed Rows.namePathsRow.func = some 6 by kernel_rfl).symm.trans hf) |>.symm
      obtain rfl : fn = Tryd.f6 := (Option.some.inj (Tryd.func6.symm.trans hfn)).symm
      exact ⟨by kernel_rfl, fun j t ht => by
        rw [Tryd.params6] at ht
        have hm : t ∈ ([33, 9] : List TypeId) := by simpa using Array.mem_of_getElem? ht
        have hall : (([33, 9] : List TypeId).all fun u => !Tryd.prog.wantsStandIn u) = true := by kernel_rfl
        exact (show Tryd.prog.wantsStandIn t = false by simpa using List.all_eq_true.1 hall t hm)⟩)
    (by kernel_rfl)
#print axioms namePaths_card_holds
end Go.Proofs.YtgpidbdgodgefaaDoor
