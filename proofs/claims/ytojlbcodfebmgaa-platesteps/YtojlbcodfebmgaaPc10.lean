/-
  PlateSteps: behind each cut there is one piece more at most that is not cut, and the chips are more by the saw times the other side of the piece; no other piece changes. (Valid plates; cuts by words.) No condition beyond the statement's own.
-/
import Derived.Test.YtojlbcodfebmgaaLh
set_option linter.unusedVariables false
set_option maxRecDepth 100000
namespace Go.Proofs.Ytojlbcodfebmgaa
open Go.Ev Go.Ev.Ytojlbcodfebmgaa
theorem steps_of_args (args : List D) (h : OkA tb 6 [24, 77] args) : Pure Try.prog 14 args (dB true) := by
  obtain ⟨d1, r1, rfl, h1, d2, r2, rfl, h2, rfl⟩ := h
  obtain ⟨p, rfl, _⟩ := okV_plate h1
  obtain ⟨ws, rfl, hl, hw⟩ := okV_words h2
  exact plateSteps_pure p hl hw
theorem steps_lifted (os : Os) (started : os.Started) (H : Type) (enc : TypeId × Value → H) :
    ReturnsInHanded {} Try.checked os 14 .any (Rows.plateStepsSpec.pre6 enc Try.prog Try.f14 Rows.plateStepsRow.domain false) (Rows.plateStepsSpec.post enc Try.prog Try.f14 false true false false) := by
  refine returnsInHanded_of_change (C := Try.checked) law_own started (by kernel_rfl) Try.func14
    (ChangeSpec.witness6 (enc := enc) (C := Try.checked) false ⟨#[], #[.agg #[.int .i64 0, .int .i64 0, .int .i64 0, .slice none 0 0], .slice none 0 0], []⟩ 8 (by kernel_rfl) (by kernel_rfl) (by kernel_rfl) (by kernel_rfl)) ?_
  intro W base args ds gs before hval hW _ _
  exact law_contract pg law_laid 6 rfl rfl Try.underlying4 (by kernel_rfl) (fun H ds hl => by match ds, hl with | [a, b], _ => exact ⟨rfl, rfl, rfl⟩) steps_of_args hval hW
theorem steps_holds : Rows.PlateStepsSaid :=
  OpenClaim.holds_of_wide 14 Try.f14 rfl rfl rfl rfl rfl rfl rfl ⟨rfl, rfl, rfl, rfl, rfl⟩ rfl rfl rfl rfl rfl (by kernel_rfl) Try.func14 (by kernel_rfl)
    (of_decide_eq_true (by kernel_rfl)) (by unfold Func.isWrapper; first | (rw [if_pos (by decide +kernel)]; kernel_rfl) | (rw [if_neg (by decide +kernel)]; exact ⟨rfl, rfl⟩))
    (fun os started H enc _ => steps_lifted os started H enc)
end Go.Proofs.Ytojlbcodfebmgaa
