/-
  CurveReads: whether any curve is valid, and what is read in any truth, is as the document says, or the error is. (At most 25 points, 30 loads.) No condition beyond the statement's own.
-/
import Derived.Test.YtdgjogeddogbdaaLc
set_option linter.unusedVariables false
set_option maxRecDepth 100000
namespace Go.Proofs.Ytdgjogeddogbdaa
open Go.Ev Go.Ev.Ytdgjogeddogbdaa
theorem reads_of_args (args : List D) (h : OkA tb 6 [24, 26, 27] args) : Pure Try.prog 3 args (dB true) := by
  obtain ⟨d1, r1, rfl, h1, d2, r2, rfl, h2, d3, r3, rfl, h3, rfl⟩ := h
  obtain ⟨l, rfl, _⟩ := okV_curve h1
  obtain ⟨r, rfl, _⟩ := okV_rule h2
  obtain ⟨t, rfl, _⟩ := okV_ints h3
  exact reads_pure l r t
theorem reads_lifted (os : Os) (started : os.Started) (H : Type) (enc : TypeId × Value → H) :
    ReturnsInHanded {} Try.checked os 3 .any (Rows.curveReadsSpec.pre6 enc Try.prog Try.f3 Rows.curveReadsRow.domain false) (Rows.curveReadsSpec.post enc Try.prog Try.f3 false true false false) := by
  refine returnsInHanded_of_change (C := Try.checked) law_own started (by kernel_rfl) Try.func3
    (ChangeSpec.witness6 (enc := enc) (C := Try.checked) false ⟨#[], #[.agg #[.slice none 0 0], .agg #[.int .i64 0, .int .i64 0, .int .i64 0], .slice none 0 0], []⟩ 8 (by kernel_rfl) (by kernel_rfl) (by kernel_rfl) (by kernel_rfl)) ?_
  intro W base args ds gs before hval hW _ _
  exact law_contract pg law_laid 6 rfl rfl Try.underlying4 (by kernel_rfl) (fun H ds hl => by match ds, hl with | [a, b, c], _ => exact ⟨rfl, rfl, rfl⟩) reads_of_args hval hW
theorem reads_holds : Rows.CurveReadsSaid :=
  OpenClaim.holds_of_wide 3 Try.f3 rfl rfl rfl rfl rfl rfl rfl ⟨rfl, rfl, rfl, rfl, rfl⟩ rfl rfl rfl rfl rfl (by kernel_rfl) Try.func3 (by kernel_rfl)
    (of_decide_eq_true (by kernel_rfl)) (by unfold Func.isWrapper; first | (rw [if_pos (by decide +kernel)]; kernel_rfl) | (rw [if_neg (by decide +kernel)]; exact ⟨rfl, rfl⟩))
    (fun os started H enc _ => reads_lifted os started H enc)
end Go.Proofs.Ytdgjogeddogbdaa
