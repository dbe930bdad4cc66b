/- Proved: pentimentolaw9.NameTells answers true at every input of bulk at most the Rows text's bound (the Upto form) and leaves its input as it was; the listed variables of Go's library are tied to the program's text (the tie is given; it speaks of the pruned copy). No condition. -/
import Derived.Test.YtgpidbdgodgefaaDoorTellsW
import Derived.Test.YtgpidbdgodgefaaDoorLiftU
import Derived.Test.YtgpidbdgodgefaaDoorTie
import Derived.Test.YtgpidbdgodgefaaDoorCards
namespace Go.Proofs.YtgpidbdgodgefaaDoor
open Go.ChangeShapes Go.WideShapes Go.ChangeAt Go.RowKit Go.Deep

theorem nameTells_reads (os : Os) {H : Type} (enc : TypeId × Value → H) : ∃ places, DataW.whole enc Tryd.prog ((World.laidAll Tryd.prog os Rows.nameTellsUptoRow.laid).forCall (fun _ _ => 0) ⟨#[], #[.slice none 0 0, .string ⟨#[]⟩, .bool false, .slice none 0 0], []⟩).memory Tryd.f5.params.toList Rows.nameTellsSpec.vars false (#[.slice none 0 0, .string ⟨#[]⟩, .bool false, .slice none 0 0] : Array Value).toList 8 = some ([.nil, .lit (.string []), .lit (.bool false), .nil], [], places) :=
  ⟨[], by kernel_rfl⟩
set_option maxRecDepth 100000 in
theorem nameTells_lifted (os : Os) (started : os.Started) (H : Type) (enc : TypeId × Value → H) (F : Stop.Interp) :
    ReturnsInHanded {} Tryd.checked os 5 .any ((Rows.OpenSpec.upto Rows.nameTellsSpec).preRow enc Tryd.prog Tryd.f5 Rows.nameTellsUptoRow.domain false Rows.nameTellsUptoRow.laid) (((Rows.OpenSpec.upto Rows.nameTellsSpec).at F).post enc Tryd.prog Tryd.f5 false true false false) := by
  obtain ⟨places, hx⟩ := nameTells_reads os enc
  refine returnsInHanded_of_row (C := Tryd.checked) (s := Rows.OpenSpec.upto Rows.nameTellsSpec) (by kernel_rfl) started (by kernel_rfl) Tryd.func5
    (witness_row_sh (enc := enc) (C := Tryd.checked) (World.laidAll Tryd.prog os Rows.nameTellsUptoRow.laid) #[.slice none 0 0, .string ⟨#[]⟩, .bool false, .slice none 0 0] (World.laidAll_os _ _ _) (World.shaped_of_ZipB (by kernel_rfl) (by kernel_rfl)) (by kernel_rfl)
      (OpenSpec.preRow_of_cond 8 hx (by kernel_rfl) (fun k hk => by cases hk; kernel_rfl) (by kernel_rfl) (by rw [MakeChecks.laidMetH_plain _ _ _ (by kernel_rfl)]; exact laidMet_laidAll _ (by kernel_rfl) (by kernel_rfl)))) ?_
  intro W base args ds gs before hval0 hW hcnd hcond hsz0 _ hsh _
  have hk0 := hcond _ rfl
  obtain ⟨m, hm⟩ := maxLen_cell W hsh
  have hval : ∀ (j : Nat) t v, Tryd.f5.params[j]? = some t → args[j]? = some v → Value.okWide Tryd.prog W .any base t v := hval0
  have hW' := hW
  obtain ⟨p, q, hA0, hV, rfl, hfz, hnd⟩ := hW
  have hgs : gs = [] := by
    cases gs with
    | nil => rfl
    | cons a b => exact hV.elim
  subst hgs
  have hsz : (DataW.weightsEach Tryd.prog Tryd.f5.params.toList (ds ++ [])).all (· ≤ reachBytes) = true := hsz0
  rw [List.append_nil, Tryd.params5] at hsz
  have hA : DataW.TrodAll enc Tryd.prog W 0 (fun _ => true) true Tryd.f5.params.toList args.toList ds p := hA0
  rw [Tryd.params5] at hA hval
  clear hA0 hval0 hsz0 hV hfz hnd hcnd hcond hsh
  obtain ⟨v0, vs0, d0, ds0, _, _, ea0, ed0, h0, hA0⟩ := LawKit.trodAll_step hA
  obtain ⟨v1, vs1, d1, ds1, _, _, ea1, ed1, h1, hA1⟩ := LawKit.trodAll_step hA0
  obtain ⟨v2, vs2, d2, ds2, _, _, ea2, ed2, h2, hA2⟩ := LawKit.trodAll_step hA1
  obtain ⟨v3, vs3, d3, ds3, _, _, ea3, ed3, h3, hA3⟩ := LawKit.trodAll_step hA2
  obtain ⟨rfl, rfl⟩ := LawKit.trodAll_none hA3
  subst ea3 ed3
  subst ea2 ed2
  subst ea1 ed1
  have hargs : args = #[v0, v1, v2, v3] := by
    rw [← Array.toArray_toList (xs := args), ea0]
  subst hargs ed0
  have hbulk : Rows.uptoBulkAll ([d0, d1, d2, d3] ++ []) ≤ 1048576 := of_decide_eq_true hk0
  simp only [List.append_nil, Rows.uptoBulkAll] at hbulk
  obtain ⟨a0, l0, c0, x0, rfl, hl0, hx0, hz0⟩ := open_intsAt Tryd.underlying33 Tryd.underlying3 (by kernel_rfl) (hval 0 33 v0 rfl rfl) h0
  obtain ⟨y1, rfl, rfl, _, hx1⟩ := Go.ChangeMaps.open_string Tryd.underlying9 (hval 1 9 v1 rfl rfl) h1
  obtain ⟨x1, rfl⟩ : ∃ l : List UInt8, y1 = ⟨l.toArray⟩ := ⟨y1.data.toList, by simp⟩
  have hb1 : x1.length ≤ 1048576 := by simp only [Rows.uptoBulk] at hbulk; omega
  obtain ⟨x2, rfl, _, _⟩ := open_bool Tryd.underlying4 (hval 2 4 v2 rfl rfl) h2
  obtain ⟨a3, l3, c3, x3, rfl, hl3, hx3, hz3⟩ := open_intsAt Tryd.underlying33 Tryd.underlying3 (by kernel_rfl) (hval 3 33 v3 rfl rfl) h3
  refine (nameTells_any a0 l0 c0 x0 x1 x2 a3 l3 c3 x3 m W hx0 (by unfold maxLen at hl0; omega) hz0 hb1 hx3 (by unfold maxLen at hl3; omega) hz3 hm).mono fun e W' ⟨he, hk⟩ => ?_
  subst he
  exact ⟨_, rfl, LawKit.post_law (by kernel_rfl) (by kernel_rfl) rfl rfl Tryd.underlying4 hW' (fun ds hd => by
    match ds, hd with
    | [d0, d1, d2, d3], _ => rfl) rfl hk.below⟩

theorem nameTells_row_holds : Rows.NameTellsUptoSaid :=
  OpenClaim.holds_of_cond 5 Tryd.f5 rfl rfl rfl rfl rfl rfl rfl ⟨rfl, rfl, rfl, rfl, rfl⟩ rfl rfl rfl rfl rfl (by kernel_rfl) Tryd.func5 (by kernel_rfl)
    (of_decide_eq_true (by kernel_rfl)) (by unfold Func.isWrapper; first | (rw [if_pos (by decide +kernel)]; kernel_rfl) | (rw [if_neg (by decide +kernel)]; exact ⟨rfl, rfl⟩))
    (fun os started H enc _ F => by rw [OpenClaim.pre_eq_preRow]; exact nameTells_lifted os started H enc F)

theorem nameTells_card_holds : Rows.NameTellsUptoCardSaid :=
  Claim7.holds_tied_plain_at .later [] [.data, .pinned] true Rows.nameTellsUptoCard.stood.harness false nameTells_row_holds (fun _ h => by cases h) (by kernel_rfl) (fun _ h => by cases h) nameTellsUpto_row_tie rfl ⟨rfl, rfl⟩ (by kernel_rfl) rfl
    (fun f fn hf hfn => by
      obtain rfl : f = 5 := Option.some.inj ((show Tryd.prog.funcNamed Rows.nameTellsUptoRow.func = some 5 by kernel_rfl).symm.trans hf) |>.symm
      obtain rfl : fn = Tryd.f5 := (Option.some.inj (Tryd.func5.symm.trans hfn)).symm
      exact ⟨by kernel_rfl, fun j t ht => by
        rw [Tryd.params5] at ht
        have hm : t ∈ ([33, 9, 4, 33] : List TypeId) := by simpa using Array.mem_of_getElem? ht
        have hall : (([33, 9, 4, 33] : List TypeId).all fun u => !Tryd.prog.wantsStandIn u) = true := by kernel_rfl
        exact (show Tryd.prog.wantsStandIn t = false by simpa using List.all_eq_true.1 hall t hm)⟩)
    (by kernel_rfl)
#print axioms nameTells_card_holds
end Go.Proofs.YtgpidbdgodgefaaDoor
