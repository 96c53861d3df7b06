/-
  TopTimed: the runs of a plan's pieces, laid into the queue's hours as they come, end no later than all of them, and no earlier with each stage; what Play says asks for just the next stage's pieces, until it says it is done. No condition beyond the statement's own.
-/
import Derived.Test.YtijidghjiaiccaaLb
set_option linter.unusedVariables false
set_option linter.unusedSimpArgs false
set_option linter.unusedVariables false
set_option maxRecDepth 100000
namespace Go.Proofs.Ytijidghjiaiccaa
open Go.Ev Go.Ev.Ytijidghjiaiccaa
theorem timed_of_args (args : List D) (h : OkA tb 6 [24, 5, 25] args) : Pure Try.prog 3 args (dB true) := by
 obtain ⟨d1, r1, rfl, h1, d2, r2, rfl, h2, d3, r3, rfl, h3, rfl⟩ := h
 obtain ⟨lot, l, rfl, _, hl, hr⟩ := okV_plan h1
 obtain ⟨w, rfl, hw⟩ := okV_u8 h2
 obtain ⟨ws, rfl, hwl, hws⟩ := okV_us h3
 exact timed_start lot l hl hr w hw ws hwl hws
theorem timed_lifted (os : Os) (started : os.Started) (H : Type) (enc : TypeId × Value → H) :
  ReturnsInHanded {} Try.checked os 3 .any (Rows.topTimedSpec.pre6 enc Try.prog Try.f3 Rows.topTimedRow.domain false) (Rows.topTimedSpec.post enc Try.prog Try.f3 false true false false) := by
 refine returnsInHanded_of_change (C := Try.checked) law_own started (by kernel_rfl) Try.func3
  (ChangeSpec.witness6 (enc := enc) (C := Try.checked) false ⟨#[], #[.agg #[.int .i64 0, .slice none 0 0], .int .u8 0, .slice none 0 0], []⟩ 8 (by kernel_rfl) (by kernel_rfl) (by kernel_rfl) (by kernel_rfl)) ?_
 intro W base args ds gs before hval hW _ _
 exact law_contract pg law_laid 6 rfl rfl Try.underlying4 (by kernel_rfl) (fun H ds hl => by match ds, hl with | [a, b, c], _ => exact ⟨rfl, rfl, rfl⟩) timed_of_args hval hW
theorem timed_holds : Rows.TopTimedSaid :=
 OpenClaim.holds_of_wide 3 Try.f3 rfl rfl rfl rfl rfl rfl rfl ⟨rfl, rfl, rfl, rfl, rfl⟩ rfl rfl rfl rfl rfl (by kernel_rfl) Try.func3 (by kernel_rfl)
  (of_decide_eq_true (by kernel_rfl)) (by unfold Func.isWrapper; first | (rw [if_pos (by decide +kernel)]; kernel_rfl) | (rw [if_neg (by decide +kernel)]; exact ⟨rfl, rfl⟩))
  (fun os started H enc _ => timed_lifted os started H enc)
end Go.Proofs.Ytijidghjiaiccaa

