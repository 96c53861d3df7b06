/-
  Of all draws of a lot just as many accept it as the chance says, if the bad pieces are any ones; by the mean they take just as many pieces. No condition beyond the statement's own.
-/
import Derived.Test.YthmandhpmkfopaaLf
set_option linter.unusedVariables false
set_option maxRecDepth 100000
namespace Go.Proofs.Ythmandhpmkfopaa
open Go.Ev Go.Ev.Ythmandhpmkfopaa
theorem draws_of_args (args : List D) (h : OkA tb 6 [24, 5] args) : Pure Try.prog 6 args (dB true) := by
  obtain ⟨d1, r1, rfl, h1, d2, r2, rfl, h2, rfl⟩ := h
  obtain ⟨lot, l, rfl, _, hl, hr⟩ := okV_plan h1
  obtain ⟨w, rfl, hw⟩ := okV_int rfl h2
  exact planDraws_pure lot l hl hr w (bounds_u8 hw)
theorem draws_lifted (os : Os) (started : os.Started) (H : Type) (enc : TypeId × Value → H) :
    ReturnsInHanded {} Try.checked os 6 .any (Rows.planDrawsSpec.pre6 enc Try.prog Try.f6 Rows.planDrawsRow.domain false) (Rows.planDrawsSpec.post enc Try.prog Try.f6 false true false false) := by
  refine returnsInHanded_of_change (C := Try.checked) law_own started (by kernel_rfl) Try.func6
    (ChangeSpec.witness6 (enc := enc) (C := Try.checked) false ⟨#[], #[.agg #[.int .i64 0, .slice none 0 0], .int .u8 0], []⟩ 8 (by kernel_rfl) (by kernel_rfl) (by kernel_rfl) (by kernel_rfl)) ?_
  intro W base args ds gs before hval hW _ _
  exact law_contract pg law_laid 6 rfl rfl Try.underlying4 (by kernel_rfl) (fun H ds hl => by match ds, hl with | [a, b], _ => exact ⟨rfl, rfl, rfl⟩) draws_of_args hval hW
theorem draws_holds : Rows.PlanDrawsSaid :=
  OpenClaim.holds_of_wide 6 Try.f6 rfl rfl rfl rfl rfl rfl rfl ⟨rfl, rfl, rfl, rfl, rfl⟩ rfl rfl rfl rfl rfl (by kernel_rfl) Try.func6 (by kernel_rfl)
    (of_decide_eq_true (by kernel_rfl)) (by unfold Func.isWrapper; first | (rw [if_pos (by decide +kernel)]; kernel_rfl) | (rw [if_neg (by decide +kernel)]; exact ⟨rfl, rfl⟩))
    (fun os started H enc _ => draws_lifted os started H enc)
end Go.Proofs.Ythmandhpmkfopaa
