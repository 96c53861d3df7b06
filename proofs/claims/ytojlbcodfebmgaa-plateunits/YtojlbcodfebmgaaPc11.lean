/-
  PlateUnits: by a right plan each unit of the plate is of just one piece that is not cut, or has become chips; specimens, remnants and chips together are all units; each specimen that is used has all units of its piece, which lie in its zone. (Valid plates; the best plan of those of at most 30 units and 3 specimens, and one by words.) No condition beyond the statement's own.
-/
import Derived.Test.YtojlbcodfebmgaaLh
set_option linter.unusedVariables false
set_option maxRecDepth 100000
namespace Go.Proofs.Ytojlbcodfebmgaa
open Go.Ev Go.Ev.Ytojlbcodfebmgaa
theorem units_of_args (args : List D) (h : OkA tb 6 [24, 77] args) : Pure Try.prog 13 args (dB true) := by
  obtain ⟨d1, r1, rfl, h1, d2, r2, rfl, h2, rfl⟩ := h
  obtain ⟨p, rfl, _⟩ := okV_plate h1
  obtain ⟨ws, rfl, hl, hw⟩ := okV_words h2
  exact plateUnits_pure p hl hw
theorem units_lifted (os : Os) (started : os.Started) (H : Type) (enc : TypeId × Value → H) :
    ReturnsInHanded {} Try.checked os 13 .any (Rows.plateUnitsSpec.pre6 enc Try.prog Try.f13 Rows.plateUnitsRow.domain false) (Rows.plateUnitsSpec.post enc Try.prog Try.f13 false true false false) := by
  refine returnsInHanded_of_change (C := Try.checked) law_own started (by kernel_rfl) Try.func13
    (ChangeSpec.witness6 (enc := enc) (C := Try.checked) false ⟨#[], #[.agg #[.int .i64 0, .int .i64 0, .int .i64 0, .slice none 0 0], .slice none 0 0], []⟩ 8 (by kernel_rfl) (by kernel_rfl) (by kernel_rfl) (by kernel_rfl)) ?_
  intro W base args ds gs before hval hW _ _
  exact law_contract pg law_laid 6 rfl rfl Try.underlying4 (by kernel_rfl) (fun H ds hl => by match ds, hl with | [a, b], _ => exact ⟨rfl, rfl, rfl⟩) units_of_args hval hW
theorem units_holds : Rows.PlateUnitsSaid :=
  OpenClaim.holds_of_wide 13 Try.f13 rfl rfl rfl rfl rfl rfl rfl ⟨rfl, rfl, rfl, rfl, rfl⟩ rfl rfl rfl rfl rfl (by kernel_rfl) Try.func13 (by kernel_rfl)
    (of_decide_eq_true (by kernel_rfl)) (by unfold Func.isWrapper; first | (rw [if_pos (by decide +kernel)]; kernel_rfl) | (rw [if_neg (by decide +kernel)]; exact ⟨rfl, rfl⟩))
    (fun os started H enc _ => units_lifted os started H enc)
end Go.Proofs.Ytojlbcodfebmgaa
