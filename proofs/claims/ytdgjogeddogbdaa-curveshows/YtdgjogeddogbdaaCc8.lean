/-
  The truth that Shows returns has the end of the span that the document says, or the error is, and whether any truth has any number is as it says. No condition beyond the statement's own.
-/
import Derived.Test.YtdgjogeddogbdaaLj
set_option linter.unusedVariables false
set_option maxRecDepth 100000
namespace Go.Proofs.Ytdgjogeddogbdaa
open Go.Ev Go.Ev.Ytdgjogeddogbdaa
theorem shows_of_args (args : List D) (h : OkA tb 6 [24, 26, 5, 4, 27, 3] args) : Pure Try.prog 9 args (dB true) := by
  obtain ⟨d1, r1, rfl, h1, d2, r2, rfl, h2, d3, r3, rfl, h3, d4, r4, rfl, h4, d5, r5, rfl, h5, d6, r6, rfl, h6, rfl⟩ := h
  obtain ⟨l, rfl, _⟩ := okV_curve h1
  obtain ⟨r, rfl, _⟩ := okV_rule h2
  obtain ⟨n, rfl, hn⟩ := okV_u8 h3
  obtain ⟨k, rfl⟩ : ∃ k : Nat, n = (k : Int) := ⟨n.toNat, by omega⟩
  obtain ⟨b, rfl⟩ := okV_bool h4
  obtain ⟨t, rfl, _⟩ := okV_ints h5
  obtain ⟨m, rfl⟩ := okV_int h6
  exact showsS_pure l r k (by omega) b t m
theorem shows_lifted (os : Os) (started : os.Started) (H : Type) (enc : TypeId × Value → H) :
    ReturnsInHanded {} Try.checked os 9 .any (Rows.curveShowsSpec.pre6 enc Try.prog Try.f9 Rows.curveShowsRow.domain false) (Rows.curveShowsSpec.post enc Try.prog Try.f9 false true false false) := by
  refine returnsInHanded_of_change (C := Try.checked) law_own started (by kernel_rfl) Try.func9
    (ChangeSpec.witness6 (enc := enc) (C := Try.checked) false ⟨#[], #[.agg #[.slice none 0 0], .agg #[.int .i64 0, .int .i64 0, .int .i64 0], .int .u8 0, .bool false, .slice none 0 0, .int .i64 0], []⟩ 8 (by kernel_rfl) (by kernel_rfl) (by kernel_rfl) (by kernel_rfl)) ?_
  intro W base args ds gs before hval hW _ _
  exact law_contract pg law_laid 6 rfl rfl Try.underlying4 (by kernel_rfl) (fun H ds hl => by match ds, hl with | [a, b, c, d, e, f], _ => exact ⟨rfl, rfl, rfl⟩) shows_of_args hval hW
theorem shows_holds : Rows.CurveShowsSaid :=
  OpenClaim.holds_of_wide 9 Try.f9 rfl rfl rfl rfl rfl rfl rfl ⟨rfl, rfl, rfl, rfl, rfl⟩ rfl rfl rfl rfl rfl (by kernel_rfl) Try.func9 (by kernel_rfl)
    (of_decide_eq_true (by kernel_rfl)) (by unfold Func.isWrapper; first | (rw [if_pos (by decide +kernel)]; kernel_rfl) | (rw [if_neg (by decide +kernel)]; exact ⟨rfl, rfl⟩))
    (fun os started H enc _ => shows_lifted os started H enc)
end Go.Proofs.Ytdgjogeddogbdaa
