/-
  PlateProves: whether any plan is right, is worth any number, and has at most any number of cuts, is as the reference has it. (At most 6 specimens, 45 cuts, 6 uses.) No condition beyond the statement's own.
-/
import Derived.Test.YtojlbcodfebmgaaLg
set_option linter.unusedVariables false
set_option maxRecDepth 100000
namespace Go.Proofs.Ytojlbcodfebmgaa
open Go.Ev Go.Ev.Ytojlbcodfebmgaa
theorem proves_of_args (args : List D) (h : OkA tb 6 [24, 28, 3, 3] args) : Pure Try.prog 10 args (dB true) := by
  obtain ⟨d1, r1, rfl, h1, d2, r2, rfl, h2, d3, r3, rfl, h3, d4, r4, rfl, h4, rfl⟩ := h
  obtain ⟨p, rfl, _⟩ := okV_plate h1
  obtain ⟨x, rfl, _, _, hi, _⟩ := okV_plan h2
  obtain ⟨i, rfl, hx⟩ := okV_int h3
  obtain ⟨j, rfl, hy⟩ := okV_int h4
  exact plateProves_pure p x hi i j
theorem proves_lifted (os : Os) (started : os.Started) (H : Type) (enc : TypeId × Value → H) :
    ReturnsInHanded {} Try.checked os 10 .any (Rows.plateProvesSpec.pre6 enc Try.prog Try.f10 Rows.plateProvesRow.domain false) (Rows.plateProvesSpec.post enc Try.prog Try.f10 false true false false) := by
  refine returnsInHanded_of_change (C := Try.checked) law_own started (by kernel_rfl) Try.func10
    (ChangeSpec.witness6 (enc := enc) (C := Try.checked) false ⟨#[], #[.agg #[.int .i64 0, .int .i64 0, .int .i64 0, .slice none 0 0], .agg #[.slice none 0 0, .slice none 0 0], .int .i64 0, .int .i64 0], []⟩ 8 (by kernel_rfl) (by kernel_rfl) (by kernel_rfl) (by kernel_rfl)) ?_
  intro W base args ds gs before hval hW _ _
  exact law_contract pg law_laid 6 rfl rfl Try.underlying4 (by kernel_rfl) (fun H ds hl => by match ds, hl with | [a, b, c, d], _ => exact ⟨rfl, rfl, rfl⟩) proves_of_args hval hW
theorem proves_holds : Rows.PlateProvesSaid :=
  OpenClaim.holds_of_wide 10 Try.f10 rfl rfl rfl rfl rfl rfl rfl ⟨rfl, rfl, rfl, rfl, rfl⟩ rfl rfl rfl rfl rfl (by kernel_rfl) Try.func10 (by kernel_rfl)
    (of_decide_eq_true (by kernel_rfl)) (by unfold Func.isWrapper; first | (rw [if_pos (by decide +kernel)]; kernel_rfl) | (rw [if_neg (by decide +kernel)]; exact ⟨rfl, rfl⟩))
    (fun os started H enc _ => proves_lifted os started H enc)
end Go.Proofs.Ytojlbcodfebmgaa
