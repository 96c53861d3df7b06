/-
  CurvePulled: with one more point at the end, in each truth, the yield point and the meeting point are as they were, if there were any; the strength is not less, nor the work; the peak is as it was, or the new point; without the reference, apart from what is valid. (At most 25 points; the truth by words.) No condition beyond the statement's own.
-/
import Derived.Test.YtdgjogeddogbdaaLf
set_option linter.unusedVariables false
set_option maxRecDepth 100000
namespace Go.Proofs.Ytdgjogeddogbdaa
open Go.Ev Go.Ev.Ytdgjogeddogbdaa
theorem pulled_of_args (args : List D) (h : OkA tb 6 [24, 26, 60, 66, 67] args) (hs : SzA tb [24, 26, 60, 66, 67] args) : Pure Try.prog 7 args (dB true) := by
  obtain ⟨d1, r1, rfl, h1, d2, r2, rfl, h2, d3, r3, rfl, h3, d4, r4, rfl, h4, d5, r5, rfl, h5, rfl⟩ := h
  obtain ⟨l, rfl, _⟩ := okV_curve h1
  obtain ⟨r, rfl, _⟩ := okV_rule h2
  obtain ⟨ws, rfl, hwl, hw⟩ := okV_words h3
  obtain ⟨x, rfl, _⟩ := okV_point h4
  obtain ⟨n, rfl, hn⟩ := okV_u16 h5
  have hz : (l.map ptD).length * 24 ≤ 140737488351232 := hs.1 (l.map ptD) [] rfl _ rfl
  rw [List.length_map] at hz
  exact pulled_pure' l hz r ws hw hwl x n hn
theorem pulled_lifted (os : Os) (started : os.Started) (H : Type) (enc : TypeId × Value → H) :
    ReturnsInHanded {} Try.checked os 7 .any (Rows.curvePulledSpec.pre6 enc Try.prog Try.f7 Rows.curvePulledRow.domain false) (Rows.curvePulledSpec.post enc Try.prog Try.f7 false true false false) := by
  refine returnsInHanded_of_change_sized (C := Try.checked) law_own started (by kernel_rfl) Try.func7
    (ChangeSpec.witness6 (enc := enc) (C := Try.checked) false ⟨#[], #[.agg #[.slice none 0 0], .agg #[.int .i64 0, .int .i64 0, .int .i64 0], .slice none 0 0, .agg #[.int .i64 0, .int .i64 0, .int .i64 0], .int .u16 0], []⟩ 8 (by kernel_rfl) (by kernel_rfl) (by kernel_rfl) (by kernel_rfl)) ?_
  intro W base args ds gs before hval hW _ hsz _
  exact law_contractS pg law_laid 6 rfl rfl Try.underlying4 (by kernel_rfl) (fun H ds hl => by match ds, hl with | [a, b, c, d, e], _ => exact ⟨rfl, rfl, rfl⟩) pulled_of_args hval hW hsz
theorem pulled_holds : Rows.CurvePulledSaid :=
  OpenClaim.holds_of_wide 7 Try.f7 rfl rfl rfl rfl rfl rfl rfl ⟨rfl, rfl, rfl, rfl, rfl⟩ rfl rfl rfl rfl rfl (by kernel_rfl) Try.func7 (by kernel_rfl)
    (of_decide_eq_true (by kernel_rfl)) (by unfold Func.isWrapper; first | (rw [if_pos (by decide +kernel)]; kernel_rfl) | (rw [if_neg (by decide +kernel)]; exact ⟨rfl, rfl⟩))
    (fun os started H enc _ => pulled_lifted os started H enc)
end Go.Proofs.Ytdgjogeddogbdaa
