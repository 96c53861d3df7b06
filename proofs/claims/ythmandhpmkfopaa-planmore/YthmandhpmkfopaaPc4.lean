/-
  PlanMore: with one bad piece more the chance is not greater; with no bad piece it is 1 or 0, as the Reject of the first stage is above 0 or not; with bad ones alone it is 0, if each Accept is less than the pieces taken by then. No condition beyond the statement's own.
-/
import Derived.Test.YthmandhpmkfopaaLc
set_option linter.unusedVariables false
set_option maxRecDepth 100000
namespace Go.Proofs.Ythmandhpmkfopaa
open Go.Ev Go.Ev.Ythmandhpmkfopaa
theorem more_of_args (args : List D) (h : OkA tb 6 [24] args) : Pure Try.prog 7 args (dB true) := by
  obtain ⟨d, r, rfl, h1, rfl⟩ := h
  obtain ⟨lot, l, rfl, _, hl, hr⟩ := okV_plan h1
  exact more_pure lot l hl hr
theorem more_lifted (os : Os) (started : os.Started) (H : Type) (enc : TypeId × Value → H) :
    ReturnsInHanded {} Try.checked os 7 .any (Rows.planMoreSpec.pre6 enc Try.prog Try.f7 Rows.planMoreRow.domain false) (Rows.planMoreSpec.post enc Try.prog Try.f7 false true false false) := by
  refine returnsInHanded_of_change (C := Try.checked) law_own started (by kernel_rfl) Try.func7
    (ChangeSpec.witness6 (enc := enc) (C := Try.checked) false ⟨#[], #[.agg #[.int .i64 0, .slice none 0 0]], []⟩ 8 (by kernel_rfl) (by kernel_rfl) (by kernel_rfl) (by kernel_rfl)) ?_
  intro W base args ds gs before hval hW _ _
  exact law_contract pg law_laid 6 rfl rfl Try.underlying4 (by kernel_rfl) (fun H ds hl => by match ds, hl with | [a], _ => exact ⟨rfl, rfl, rfl⟩) more_of_args hval hW
theorem more_holds : Rows.PlanMoreSaid :=
  OpenClaim.holds_of_wide 7 Try.f7 rfl rfl rfl rfl rfl rfl rfl ⟨rfl, rfl, rfl, rfl, rfl⟩ rfl rfl rfl rfl rfl (by kernel_rfl) Try.func7 (by kernel_rfl)
    (of_decide_eq_true (by kernel_rfl)) (by unfold Func.isWrapper; first | (rw [if_pos (by decide +kernel)]; kernel_rfl) | (rw [if_neg (by decide +kernel)]; exact ⟨rfl, rfl⟩))
    (fun os started H enc _ => more_lifted os started H enc)
end Go.Proofs.Ythmandhpmkfopaa
