/-
  PlanMeans: the mean of any plan, for any bad pieces, is as the reference says, or the error is. No condition beyond the statement's own.
-/
import Derived.Test.YthmandhpmkfopaaLa
set_option linter.unusedVariables false
set_option maxRecDepth 100000
namespace Go.Proofs.Ythmandhpmkfopaa
open Go.Ev Go.Ev.Ythmandhpmkfopaa
theorem means_of_args (args : List D) (h : OkA tb 6 [24, 3] args) : Pure Try.prog 4 args (dB true) := by
  obtain ⟨d, r, rfl, h1, d2, r2, rfl, h2, rfl⟩ := h
  obtain ⟨lot, l, rfl, _, hl, hr⟩ := okV_plan h1
  obtain ⟨bad, rfl, _⟩ := okV_int rfl h2
  exact means_pure lot l hl hr bad
theorem means_lifted (os : Os) (started : os.Started) (H : Type) (enc : TypeId × Value → H) :
    ReturnsInHanded {} Try.checked os 4 .any (Rows.planMeansSpec.pre6 enc Try.prog Try.f4 Rows.planMeansRow.domain false) (Rows.planMeansSpec.post enc Try.prog Try.f4 false true false false) := by
  refine returnsInHanded_of_change (C := Try.checked) law_own started (by kernel_rfl) Try.func4
    (ChangeSpec.witness6 (enc := enc) (C := Try.checked) false ⟨#[], #[.agg #[.int .i64 0, .slice none 0 0], .int .i64 0], []⟩ 8 (by kernel_rfl) (by kernel_rfl) (by kernel_rfl) (by kernel_rfl)) ?_
  intro W base args ds gs before hval hW _ _
  exact law_contract pg law_laid 6 rfl rfl Try.underlying4 (by kernel_rfl) (fun H ds hl => by match ds, hl with | [a, b], _ => exact ⟨rfl, rfl, rfl⟩) means_of_args hval hW
theorem means_holds : Rows.PlanMeansSaid :=
  OpenClaim.holds_of_wide 4 Try.f4 rfl rfl rfl rfl rfl rfl rfl ⟨rfl, rfl, rfl, rfl, rfl⟩ rfl rfl rfl rfl rfl (by kernel_rfl) Try.func4 (by kernel_rfl)
    (of_decide_eq_true (by kernel_rfl)) (by unfold Func.isWrapper; first | (rw [if_pos (by decide +kernel)]; kernel_rfl) | (rw [if_neg (by decide +kernel)]; exact ⟨rfl, rfl⟩))
    (fun os started H enc _ => means_lifted os started H enc)
end Go.Proofs.Ythmandhpmkfopaa
