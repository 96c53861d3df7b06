/-
  CurveUnits: with all loads, Drop and Slope as many times as great, strength, yield and work are as many times as great, and all points are the same; with all stretches and the Offset as much greater all is the same; without the reference, apart from what is valid. (At most 25 points; the truth by words.) No condition beyond the statement's own.
-/
import Derived.Test.YtdgjogeddogbdaaLf
set_option linter.unusedVariables false
set_option maxRecDepth 100000
namespace Go.Proofs.Ytdgjogeddogbdaa
open Go.Ev Go.Ev.Ytdgjogeddogbdaa
theorem units_of_args (args : List D) (h : OkA tb 6 [24, 26, 60, 5, 5] args) : Pure Try.prog 6 args (dB true) := by
  obtain ⟨d1, r1, rfl, h1, d2, r2, rfl, h2, d3, r3, rfl, h3, d4, r4, rfl, h4, d5, r5, rfl, h5, rfl⟩ := h
  obtain ⟨l, rfl, _⟩ := okV_curve h1
  obtain ⟨r, rfl, _⟩ := okV_rule h2
  obtain ⟨ws, rfl, hwl, hw⟩ := okV_words h3
  obtain ⟨n, rfl, hn⟩ := okV_u8 h4
  obtain ⟨m, rfl, hm⟩ := okV_u8 h5
  exact units_pure l r ws hw hwl n m hn hm
theorem units_lifted (os : Os) (started : os.Started) (H : Type) (enc : TypeId × Value → H) :
    ReturnsInHanded {} Try.checked os 6 .any (Rows.curveUnitsSpec.pre6 enc Try.prog Try.f6 Rows.curveUnitsRow.domain false) (Rows.curveUnitsSpec.post enc Try.prog Try.f6 false true false false) := by
  refine returnsInHanded_of_change (C := Try.checked) law_own started (by kernel_rfl) Try.func6
    (ChangeSpec.witness6 (enc := enc) (C := Try.checked) false ⟨#[], #[.agg #[.slice none 0 0], .agg #[.int .i64 0, .int .i64 0, .int .i64 0], .slice none 0 0, .int .u8 0, .int .u8 0], []⟩ 8 (by kernel_rfl) (by kernel_rfl) (by kernel_rfl) (by kernel_rfl)) ?_
  intro W base args ds gs before hval hW _ _
  exact law_contract pg law_laid 6 rfl rfl Try.underlying4 (by kernel_rfl) (fun H ds hl => by match ds, hl with | [a, b, c, d, e], _ => exact ⟨rfl, rfl, rfl⟩) units_of_args hval hW
theorem units_holds : Rows.CurveUnitsSaid :=
  OpenClaim.holds_of_wide 6 Try.f6 rfl rfl rfl rfl rfl rfl rfl ⟨rfl, rfl, rfl, rfl, rfl⟩ rfl rfl rfl rfl rfl (by kernel_rfl) Try.func6 (by kernel_rfl)
    (of_decide_eq_true (by kernel_rfl)) (by unfold Func.isWrapper; first | (rw [if_pos (by decide +kernel)]; kernel_rfl) | (rw [if_neg (by decide +kernel)]; exact ⟨rfl, rfl⟩))
    (fun os started H enc _ => units_lifted os started H enc)
end Go.Proofs.Ytdgjogeddogbdaa
