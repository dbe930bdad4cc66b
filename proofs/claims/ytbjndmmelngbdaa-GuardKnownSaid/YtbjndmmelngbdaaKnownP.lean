/- Proved: pentimentolaw3.GuardKnown answers true at every input and leaves its input as it was. No condition. -/
import Derived.Test.YtbjndmmelngbdaaLaw
import Derived.Test.YtbjndmmelngbdaaKnownW
namespace Go.Proofs.Ytbjndmmelngbdaa
open Go.ChangeShapes Go.WideShapes Go.ChangeAt Go.RowKit

set_option maxRecDepth 100000 in
theorem known_lifted (os : Os) (started : os.Started) (H : Type) (enc : TypeId × Value → H) :
    ReturnsInHanded {} Try.checked os 4 .any (Rows.guardKnownSpec.pre6 enc Try.prog Try.f4 Rows.guardKnownRow.domain false) (Rows.guardKnownSpec.post enc Try.prog Try.f4 false true false false) := by
  refine returnsInHanded_of_change (C := Try.checked) LawKit.own started (by kernel_rfl) Try.func4
    (ChangeSpec.witness6 (enc := enc) (C := Try.checked) false ⟨#[], #[], []⟩ 8 (by kernel_rfl) (by kernel_rfl) (by kernel_rfl) (by kernel_rfl)) ?_
  intro W base args ds gs before hval0 hW hcnd _
  have hval : ∀ (j : Nat) t v, Try.f4.params[j]? = some t → args[j]? = some v → Value.okWide Try.prog W .any base t v := hval0
  have hW' := hW
  obtain ⟨p, q, hA0, hV, rfl, hfz, hnd⟩ := hW
  have hA : DataW.TrodAll enc Try.prog W 0 (fun _ => true) true Try.f4.params.toList args.toList ds p := hA0
  rw [Try.params4] at hA hval
  have hd : ds = [] := by
    cases ds with
    | nil => rfl
    | cons a b =>
      exfalso
      revert hA
      generalize args.toList = l
      cases l <;> exact id
  have hargs : args = #[] := by
    subst hd
    have : args.toList = [] := by
      revert hA
      generalize args.toList = l
      cases l with
      | nil => intro _; rfl
      | cons a b => exact fun h => h.elim
    exact Array.toList_eq_nil_iff.1 this
  subst hd
  subst hargs
  refine (guardKnown_any W).mono fun e W' ⟨he, hk⟩ => ?_
  subst he
  exact ⟨_, rfl, LawKit.post_law LawKit.laidOut (by kernel_rfl) rfl rfl Try.underlying4 hW' (fun ds hd => by
    match ds, hd with
    | [], _ => rfl) rfl hk.below⟩

theorem guardKnown_holds : Rows.GuardKnownSaid :=
  OpenClaim.holds_of_wide 4 Try.f4 rfl rfl rfl rfl rfl rfl rfl ⟨rfl, rfl, rfl, rfl, rfl⟩ rfl rfl rfl rfl rfl (by kernel_rfl) Try.func4 (by kernel_rfl)
    (of_decide_eq_true (by kernel_rfl)) (by unfold Func.isWrapper; rw [if_neg (by decide +kernel)]; exact ⟨rfl, rfl⟩)
    (fun os started H enc _ => known_lifted os started H enc)

#print axioms guardKnown_holds
end Go.Proofs.Ytbjndmmelngbdaa
