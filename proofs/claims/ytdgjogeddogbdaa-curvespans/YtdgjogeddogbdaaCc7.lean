/-
  The span of what any kind of a curve names is as the document says, or the error is, for curves of at most 25 points and valid curves with at most 800 truths. No condition beyond the statement's own.
-/
import Derived.Test.YtdgjogeddogbdaaLi
set_option linter.unusedVariables false
set_option maxRecDepth 100000
namespace Go.Proofs.Ytdgjogeddogbdaa
open Go.Ev Go.Ev.Ytdgjogeddogbdaa
theorem spans_of_args (args : List D) (h : OkA tb 6 [24, 26, 5] args) : Pure Try.prog 4 args (dB true) := by
  obtain ⟨d1, r1, rfl, h1, d2, r2, rfl, h2, d4, r4, rfl, h4, rfl⟩ := h
  obtain ⟨l, rfl, _⟩ := okV_curve h1
  obtain ⟨r, rfl, _⟩ := okV_rule h2
  obtain ⟨n, rfl, hn⟩ := okV_u8 h4
  obtain ⟨k, rfl⟩ : ∃ k : Nat, n = (k : Int) := ⟨n.toNat, by omega⟩
  exact spans_pure l r k (by omega)
theorem spans_lifted (os : Os) (started : os.Started) (H : Type) (enc : TypeId × Value → H) :
    ReturnsInHanded {} Try.checked os 4 .any (Rows.curveSpansSpec.pre6 enc Try.prog Try.f4 Rows.curveSpansRow.domain false) (Rows.curveSpansSpec.post enc Try.prog Try.f4 false true false false) := by
  refine returnsInHanded_of_change (C := Try.checked) law_own started (by kernel_rfl) Try.func4
    (ChangeSpec.witness6 (enc := enc) (C := Try.checked) false ⟨#[], #[.agg #[.slice none 0 0], .agg #[.int .i64 0, .int .i64 0, .int .i64 0], .int .u8 0], []⟩ 8 (by kernel_rfl) (by kernel_rfl) (by kernel_rfl) (by kernel_rfl)) ?_
  intro W base args ds gs before hval hW _ _
  exact law_contract pg law_laid 6 rfl rfl Try.underlying4 (by kernel_rfl) (fun H ds hl => by match ds, hl with | [a, b, c], _ => exact ⟨rfl, rfl, rfl⟩) spans_of_args hval hW
theorem spans_holds : Rows.CurveSpansSaid :=
  OpenClaim.holds_of_wide 4 Try.f4 rfl rfl rfl rfl rfl rfl rfl ⟨rfl, rfl, rfl, rfl, rfl⟩ rfl rfl rfl rfl rfl (by kernel_rfl) Try.func4 (by kernel_rfl)
    (of_decide_eq_true (by kernel_rfl)) (by unfold Func.isWrapper; first | (rw [if_pos (by decide +kernel)]; kernel_rfl) | (rw [if_neg (by decide +kernel)]; exact ⟨rfl, rfl⟩))
    (fun os started H enc _ => spans_lifted os started H enc)
end Go.Proofs.Ytdgjogeddogbdaa
