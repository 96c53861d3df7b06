/-
  PlateEasier: with a narrower saw, a wider zone, a specimen that may be turned, a greater Worth, or one specimen more, a best plan is not worth less; nor with a plate that is wider, or longer, by as much as the saw (by 1, if that is 0). (Valid plates of at most 30 units and 3 specimens; one change.) No condition beyond the statement's own.
-/
import Derived.Test.YtojlbcodfebmgaaLg
set_option linter.unusedVariables false
set_option maxRecDepth 100000
namespace Go.Proofs.Ytojlbcodfebmgaa
open Go.Ev Go.Ev.Ytojlbcodfebmgaa
theorem easier_of_args (args : List D) (h : OkA tb 6 [24, 5, 5, 5, 65] args) : Pure Try.prog 6 args (dB true) := by
  obtain ⟨d1, r1, rfl, h1, d2, r2, rfl, h2, d3, r3, rfl, h3, d4, r4, rfl, h4, d5, r5, rfl, h5, rfl⟩ := h
  obtain ⟨p, rfl, _⟩ := okV_plate h1
  obtain ⟨k, rfl, hk⟩ := okV_u8 h2
  obtain ⟨a, rfl, ha⟩ := okV_u8 h3
  obtain ⟨b, rfl, hb⟩ := okV_u8 h4
  obtain ⟨m, rfl, _⟩ := okV_wanted h5
  exact plateEasier_pure p m hk.1 ha hb
theorem easier_lifted (os : Os) (started : os.Started) (H : Type) (enc : TypeId × Value → H) :
    ReturnsInHanded {} Try.checked os 6 .any (Rows.plateEasierSpec.pre6 enc Try.prog Try.f6 Rows.plateEasierRow.domain false) (Rows.plateEasierSpec.post enc Try.prog Try.f6 false true false false) := by
  refine returnsInHanded_of_change (C := Try.checked) law_own started (by kernel_rfl) Try.func6
    (ChangeSpec.witness6 (enc := enc) (C := Try.checked) false ⟨#[], #[.agg #[.int .i64 0, .int .i64 0, .int .i64 0, .slice none 0 0], .int .u8 0, .int .u8 0, .int .u8 0, .agg #[.int .i64 0, .int .i64 0, .bool false, .int .i64 0, .int .i64 0, .int .i64 0, .int .i64 0, .int .i64 0]], []⟩ 8 (by kernel_rfl) (by kernel_rfl) (by kernel_rfl) (by kernel_rfl)) ?_
  intro W base args ds gs before hval hW _ _
  exact law_contract pg law_laid 6 rfl rfl Try.underlying4 (by kernel_rfl) (fun H ds hl => by match ds, hl with | [a, b, c, d, e], _ => exact ⟨rfl, rfl, rfl⟩) easier_of_args hval hW
theorem easier_holds : Rows.PlateEasierSaid :=
  OpenClaim.holds_of_wide 6 Try.f6 rfl rfl rfl rfl rfl rfl rfl ⟨rfl, rfl, rfl, rfl, rfl⟩ rfl rfl rfl rfl rfl (by kernel_rfl) Try.func6 (by kernel_rfl)
    (of_decide_eq_true (by kernel_rfl)) (by unfold Func.isWrapper; first | (rw [if_pos (by decide +kernel)]; kernel_rfl) | (rw [if_neg (by decide +kernel)]; exact ⟨rfl, rfl⟩))
    (fun os started H enc _ => easier_lifted os started H enc)
end Go.Proofs.Ytojlbcodfebmgaa
