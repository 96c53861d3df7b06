/-
  PlanSplit: a plan of one stage has the same chance as the one of two stages, of which the first takes some of its pieces and decides nothing for itself, and the second one the others. No condition beyond the statement's own.
-/
import Derived.Test.YthmandhpmkfopaaLd
set_option linter.unusedVariables false
set_option maxRecDepth 100000
namespace Go.Proofs.Ythmandhpmkfopaa
open Go.Ev Go.Ev.Ythmandhpmkfopaa
theorem split_of_args (args : List D) (h : OkA tb 6 [5, 5, 5, 5, 5] args) : Pure Try.prog 10 args (dB true) := by
  obtain ⟨d, r, rfl, h1, d2, r2, rfl, h2, d3, r3, rfl, h3, d4, r4, rfl, h4, d5, r5, rfl, h5, rfl⟩ := h
  obtain ⟨a, rfl, ha⟩ := okV_int rfl h1
  obtain ⟨b, rfl, hb⟩ := okV_int rfl h2
  obtain ⟨c, rfl, hc⟩ := okV_int rfl h3
  obtain ⟨e, rfl, he⟩ := okV_int rfl h4
  obtain ⟨f, rfl, hf⟩ := okV_int rfl h5
  exact split_pure a b c e f (bounds_u8 ha) (bounds_u8 hb) (bounds_u8 hc) (bounds_u8 he) (bounds_u8 hf)
theorem split_lifted (os : Os) (started : os.Started) (H : Type) (enc : TypeId × Value → H) :
    ReturnsInHanded {} Try.checked os 10 .any (Rows.planSplitSpec.pre6 enc Try.prog Try.f10 Rows.planSplitRow.domain false) (Rows.planSplitSpec.post enc Try.prog Try.f10 false true false false) := by
  refine returnsInHanded_of_change (C := Try.checked) law_own started (by kernel_rfl) Try.func10
    (ChangeSpec.witness6 (enc := enc) (C := Try.checked) false ⟨#[], #[.int .u8 0, .int .u8 0, .int .u8 0, .int .u8 0, .int .u8 0], []⟩ 8 (by kernel_rfl) (by kernel_rfl) (by kernel_rfl) (by kernel_rfl)) ?_
  intro W base args ds gs before hval hW _ _
  exact law_contract pg law_laid 6 rfl rfl Try.underlying4 (by kernel_rfl) (fun H ds hl => by match ds, hl with | [a, b, c, d, e], _ => exact ⟨rfl, rfl, rfl⟩) split_of_args hval hW
theorem split_holds : Rows.PlanSplitSaid :=
  OpenClaim.holds_of_wide 10 Try.f10 rfl rfl rfl rfl rfl rfl rfl ⟨rfl, rfl, rfl, rfl, rfl⟩ rfl rfl rfl rfl rfl (by kernel_rfl) Try.func10 (by kernel_rfl)
    (of_decide_eq_true (by kernel_rfl)) (by unfold Func.isWrapper; first | (rw [if_pos (by decide +kernel)]; kernel_rfl) | (rw [if_neg (by decide +kernel)]; exact ⟨rfl, rfl⟩))
    (fun os started H enc _ => split_lifted os started H enc)
end Go.Proofs.Ythmandhpmkfopaa
