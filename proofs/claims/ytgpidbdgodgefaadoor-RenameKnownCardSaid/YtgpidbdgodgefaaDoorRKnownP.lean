/- Proved: pentimentolaw18.RenameKnown answers true at every input and leaves its input as it was; the listed variables of Go's library are tied to the program's text (the tie is given; it speaks of the pruned copy). No condition. -/
import Derived.Test.YtgpidbdgodgefaaDoorRKnownW
import Derived.Test.YtgpidbdgodgefaaDoorLiftD
import Derived.Test.YtgpidbdgodgefaaDoorTie
import Derived.Test.YtgpidbdgodgefaaDoorCards
namespace Go.Proofs.YtgpidbdgodgefaaDoor
open Go.ChangeShapes Go.WideShapes Go.ChangeAt Go.RowKit Go.Deep

set_option maxRecDepth 100000 in
theorem renameKnown_lifted (os : Os) (started : os.Started) (H : Type) (enc : TypeId × Value → H) :
    ReturnsInHanded {} Tryd.checked os 9 .any (fun w args => (Rows.renameKnownSpec.pre enc Tryd.prog Tryd.f9 [] false w args ∧ laidMetH Tryd.prog Rows.renameKnownRow.laid w) ∧ sizedMet enc Tryd.prog Tryd.f9 (OpenSpec.ofChange Rows.renameKnownSpec) false w args)
      (Rows.renameKnownSpec.post enc Tryd.prog Tryd.f9 false true false false) := by
  refine returns_laid_shaped (C := Tryd.checked) (X := fun w _ => laidMetH Tryd.prog Rows.renameKnownRow.laid w) (fun _ _ _ hh h => h.of_heap hh) (by kernel_rfl) started (by kernel_rfl) Tryd.func9
    (ChangeSpec.witness_shaped (enc := enc) (C := Tryd.checked) (os := os) (X := fun w _ => laidMetH Tryd.prog Rows.renameKnownRow.laid w) false (World.laidAll Tryd.prog os Rows.renameKnownRow.laid) #[] 8 (World.laidAll_os _ _ _)
      (World.shaped_of_ZipB (by kernel_rfl) (by kernel_rfl)) (by kernel_rfl) (by kernel_rfl) (by kernel_rfl)
      (by rw [MakeChecks.laidMetH_plain _ _ _ (by kernel_rfl)]; exact laidMet_laidAll _ (by kernel_rfl) (by kernel_rfl))) ?_
  intro W base args ds gs before hval0 hW hcnd hsz0 _ hsh _
  obtain ⟨m, hm⟩ := maxLen_cell W hsh
  have hval : ∀ (j : Nat) t v, Tryd.f9.params[j]? = some t → args[j]? = some v → Value.okWide Tryd.prog W .any base t v := hval0
  have hW' := hW
  obtain ⟨p, q, hA0, hV, rfl, hfz, hnd⟩ := hW
  have hgs : gs = [] := by
    cases gs with
    | nil => rfl
    | cons a b => exact hV.elim
  subst hgs
  have hsz : (DataW.weightsEach Tryd.prog Tryd.f9.params.toList (ds ++ [])).all (· ≤ reachBytes) = true := hsz0
  rw [List.append_nil, Tryd.params9] at hsz
  have hA : DataW.TrodAll enc Tryd.prog W 0 (fun _ => true) true Tryd.f9.params.toList args.toList ds p := hA0
  rw [Tryd.params9] at hA hval
  clear hA0 hval0 hsz0 hV hfz hnd hcnd hsh
  obtain ⟨ea, ed⟩ := LawKit.trodAll_none hA
  have hargs : args = #[] := Array.toList_eq_nil_iff.1 ea
  subst hargs ed
  refine (renameKnown_any m W hm).mono fun e W' ⟨he, hk⟩ => ?_
  subst he
  exact ⟨_, rfl, LawKit.post_law (by kernel_rfl) (by kernel_rfl) rfl rfl Tryd.underlying4 hW' (fun ds hd => by
    match ds, hd with
    | [], _ => rfl) rfl hk.below⟩

theorem renameKnown_row_holds : Rows.RenameKnownSaid :=
  OpenClaim.holds_of_wide 9 Tryd.f9 rfl rfl rfl rfl rfl rfl rfl ⟨rfl, rfl, rfl, rfl, rfl⟩ rfl rfl rfl rfl rfl (by kernel_rfl) Tryd.func9 (by kernel_rfl)
    (of_decide_eq_true (by kernel_rfl)) (by unfold Func.isWrapper; first | (rw [if_pos (by decide +kernel)]; kernel_rfl) | (rw [if_neg (by decide +kernel)]; exact ⟨rfl, rfl⟩))
    (fun os started H enc _ => renameKnown_lifted os started H enc)

theorem renameKnown_card_holds : Rows.RenameKnownCardSaid :=
  Claim7.holds_tied_plain_at .later [] [.data, .pinned] true Rows.renameKnownCard.stood.harness false renameKnown_row_holds (fun _ h => by cases h) (by kernel_rfl) (fun _ h => by cases h) renameKnown_row_tie rfl ⟨rfl, rfl⟩ (by kernel_rfl) rfl
    (fun f fn hf hfn => by
      obtain rfl : f = 9 := Option.some.inj ((show Tryd.prog.funcNamed Rows.renameKnownRow.func = some 9 by kernel_rfl).symm.trans hf) |>.symm
      obtain rfl : fn = Tryd.f9 := (Option.some.inj (Tryd.func9.symm.trans hfn)).symm
      exact ⟨by kernel_rfl, fun j t ht => by
        rw [Tryd.params9] at ht
        have hm : t ∈ ([] : List TypeId) := by simpa using Array.mem_of_getElem? ht
        have hall : (([] : List TypeId).all fun u => !Tryd.prog.wantsStandIn u) = true := by kernel_rfl
        exact (show Tryd.prog.wantsStandIn t = false by simpa using List.all_eq_true.1 hall t hm)⟩)
    (by kernel_rfl)
#print axioms renameKnown_card_holds
end Go.Proofs.YtgpidbdgodgefaaDoor
