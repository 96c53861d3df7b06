/-
  PlateBest: no right plan (any one is tried, and one by words) is worth more than a best one, nor as much with fewer cuts. (Valid plates of at most 30 units and 3 specimens; at most 45 cuts and 6 uses.) No condition beyond the statement's own.
-/
import Derived.Test.YtojlbcodfebmgaaLh
set_option linter.unusedVariables false
set_option maxRecDepth 100000
namespace Go.Proofs.Ytojlbcodfebmgaa
open Go.Ev Go.Ev.Ytojlbcodfebmgaa
theorem best_of_args (args : List D) (h : OkA tb 6 [24, 28, 77] args) : Pure Try.prog 11 args (dB true) := by
  obtain ⟨d1, r1, rfl, h1, d2, r2, rfl, h2, d3, r3, rfl, h3, rfl⟩ := h
  obtain ⟨p, rfl, _⟩ := okV_plate h1
  obtain ⟨o, rfl, _, _, ho, _⟩ := okV_plan h2
  obtain ⟨ws, rfl, hl, hw⟩ := okV_words h3
  exact plateBest_pure p o ho hl hw
theorem best_lifted (os : Os) (started : os.Started) (H : Type) (enc : TypeId × Value → H) :
    ReturnsInHanded {} Try.checked os 11 .any (Rows.plateBestSpec.pre6 enc Try.prog Try.f11 Rows.plateBestRow.domain false) (Rows.plateBestSpec.post enc Try.prog Try.f11 false true false false) := by
  refine returnsInHanded_of_change (C := Try.checked) law_own started (by kernel_rfl) Try.func11
    (ChangeSpec.witness6 (enc := enc) (C := Try.checked) false ⟨#[], #[.agg #[.int .i64 0, .int .i64 0, .int .i64 0, .slice none 0 0], .agg #[.slice none 0 0, .slice none 0 0], .slice none 0 0], []⟩ 8 (by kernel_rfl) (by kernel_rfl) (by kernel_rfl) (by kernel_rfl)) ?_
  intro W base args ds gs before hval hW _ _
  exact law_contract pg law_laid 6 rfl rfl Try.underlying4 (by kernel_rfl) (fun H ds hl => by match ds, hl with | [a, b, c], _ => exact ⟨rfl, rfl, rfl⟩) best_of_args hval hW
theorem best_holds : Rows.PlateBestSaid :=
  OpenClaim.holds_of_wide 11 Try.f11 rfl rfl rfl rfl rfl rfl rfl ⟨rfl, rfl, rfl, rfl, rfl⟩ rfl rfl rfl rfl rfl (by kernel_rfl) Try.func11 (by kernel_rfl)
    (of_decide_eq_true (by kernel_rfl)) (by unfold Func.isWrapper; first | (rw [if_pos (by decide +kernel)]; kernel_rfl) | (rw [if_neg (by decide +kernel)]; exact ⟨rfl, rfl⟩))
    (fun os started H enc _ => best_lifted os started H enc)
end Go.Proofs.Ytojlbcodfebmgaa
