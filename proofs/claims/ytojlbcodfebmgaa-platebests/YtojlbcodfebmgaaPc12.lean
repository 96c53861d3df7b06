/-
  PlateBests: a best plan of any plate is worth what the document says, with as few cuts, and is right, or the error is. (As PlateCuts; valid plates of at most 30 units with 3 specimens, or of 20.) No condition beyond the statement's own.
-/
import Derived.Test.YtojlbcodfebmgaaLi
set_option linter.unusedVariables false
set_option maxRecDepth 100000
namespace Go.Proofs.Ytojlbcodfebmgaa
open Go.Ev Go.Ev.Ytojlbcodfebmgaa
theorem bests_of_args (args : List D) (h : OkA tb 6 [24] args) : Pure Try.prog 5 args (dB true) := by
  obtain ⟨d1, r1, rfl, h1, rfl⟩ := h
  obtain ⟨p, rfl, _⟩ := okV_plate h1
  exact plateBests_pure p
theorem bests_lifted (os : Os) (started : os.Started) (H : Type) (enc : TypeId × Value → H) :
    ReturnsInHanded {} Try.checked os 5 .any (Rows.plateBestsSpec.pre6 enc Try.prog Try.f5 Rows.plateBestsRow.domain false) (Rows.plateBestsSpec.post enc Try.prog Try.f5 false true false false) := by
  refine returnsInHanded_of_change (C := Try.checked) law_own started (by kernel_rfl) Try.func5
    (ChangeSpec.witness6 (enc := enc) (C := Try.checked) false ⟨#[], #[.agg #[.int .i64 0, .int .i64 0, .int .i64 0, .slice none 0 0]], []⟩ 8 (by kernel_rfl) (by kernel_rfl) (by kernel_rfl) (by kernel_rfl)) ?_
  intro W base args ds gs before hval hW _ _
  exact law_contract pg law_laid 6 rfl rfl Try.underlying4 (by kernel_rfl) (fun H ds hl => by match ds, hl with | [a], _ => exact ⟨rfl, rfl, rfl⟩) bests_of_args hval hW
theorem bests_holds : Rows.PlateBestsSaid :=
  OpenClaim.holds_of_wide 5 Try.f5 rfl rfl rfl rfl rfl rfl rfl ⟨rfl, rfl, rfl, rfl, rfl⟩ rfl rfl rfl rfl rfl (by kernel_rfl) Try.func5 (by kernel_rfl)
    (of_decide_eq_true (by kernel_rfl)) (by unfold Func.isWrapper; first | (rw [if_pos (by decide +kernel)]; kernel_rfl) | (rw [if_neg (by decide +kernel)]; exact ⟨rfl, rfl⟩))
    (fun os started H enc _ => bests_lifted os started H enc)
end Go.Proofs.Ytojlbcodfebmgaa
