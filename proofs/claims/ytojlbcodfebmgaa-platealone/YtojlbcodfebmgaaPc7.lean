/-
  PlateAlone: a specimen alone, whose Worth is above 0, is used just if some place in its zone is left free of the plate's sides by 0, or by at least the saw (by 1, if that is 0). (Valid plates; their first specimen.) No condition beyond the statement's own.
-/
import Derived.Test.YtojlbcodfebmgaaLg
set_option linter.unusedVariables false
set_option maxRecDepth 100000
namespace Go.Proofs.Ytojlbcodfebmgaa
open Go.Ev Go.Ev.Ytojlbcodfebmgaa
theorem alone_of_args (args : List D) (h : OkA tb 6 [24] args) : Pure Try.prog 8 args (dB true) := by
  obtain ⟨d1, r1, rfl, h1, rfl⟩ := h
  obtain ⟨p, rfl, _⟩ := okV_plate h1
  exact plateAlone_pure p
theorem alone_lifted (os : Os) (started : os.Started) (H : Type) (enc : TypeId × Value → H) :
    ReturnsInHanded {} Try.checked os 8 .any (Rows.plateAloneSpec.pre6 enc Try.prog Try.f8 Rows.plateAloneRow.domain false) (Rows.plateAloneSpec.post enc Try.prog Try.f8 false true false false) := by
  refine returnsInHanded_of_change (C := Try.checked) law_own started (by kernel_rfl) Try.func8
    (ChangeSpec.witness6 (enc := enc) (C := Try.checked) false ⟨#[], #[.agg #[.int .i64 0, .int .i64 0, .int .i64 0, .slice none 0 0]], []⟩ 8 (by kernel_rfl) (by kernel_rfl) (by kernel_rfl) (by kernel_rfl)) ?_
  intro W base args ds gs before hval hW _ _
  exact law_contract pg law_laid 6 rfl rfl Try.underlying4 (by kernel_rfl) (fun H ds hl => by match ds, hl with | [a], _ => exact ⟨rfl, rfl, rfl⟩) alone_of_args hval hW
theorem alone_holds : Rows.PlateAloneSaid :=
  OpenClaim.holds_of_wide 8 Try.f8 rfl rfl rfl rfl rfl rfl rfl ⟨rfl, rfl, rfl, rfl, rfl⟩ rfl rfl rfl rfl rfl (by kernel_rfl) Try.func8 (by kernel_rfl)
    (of_decide_eq_true (by kernel_rfl)) (by unfold Func.isWrapper; first | (rw [if_pos (by decide +kernel)]; kernel_rfl) | (rw [if_neg (by decide +kernel)]; exact ⟨rfl, rfl⟩))
    (fun os started H enc _ => alone_lifted os started H enc)
end Go.Proofs.Ytojlbcodfebmgaa
