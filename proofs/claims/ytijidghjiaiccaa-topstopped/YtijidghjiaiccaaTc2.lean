/-
  TopStopped: specimens of a staircase are shaken for an hour each, one after the other, on one machine; just the runs of the hours that are lost are stopped; what is left is an hour of each of them, and it ends as many hours later; and the staircase of what they did has just one history. No condition is laid on the arguments. No condition beyond the statement's own.
-/
import Derived.Test.YtijidghjiaiccaaLb
set_option linter.unusedVariables false
set_option linter.unusedSimpArgs false
set_option linter.unusedVariables false
set_option maxRecDepth 100000
namespace Go.Proofs.Ytijidghjiaiccaa
open Go.Ev Go.Ev.Ytijidghjiaiccaa
theorem okV_u16 {d : D} (h : OkV tb 6 53 d) : ∃ w : Int, d = .v (.int .u16 w) ∧ 0 ≤ w ∧ w ≤ 65535 := by
 obtain ⟨y, ds, hy, hd, rfl⟩ := h
 cases hy
 obtain ⟨i, rfl, hw⟩ := hd
 have hw : IntKind.u16.min ≤ i ∧ i ≤ IntKind.u16.max := by simpa [Lit.wf] using hw
 have h1 : IntKind.u16.min = 0 := rfl
 have h2 : IntKind.u16.max = 65535 := rfl
 exact ⟨i, rfl, by omega, by omega⟩
theorem stopped_of_args (args : List D) (h : OkA tb 6 [5, 5, 25, 53] args) : Pure Try.prog 4 args (dB true) := by
 obtain ⟨d1, r1, rfl, h1, d2, r2, rfl, h2, d3, r3, rfl, h3, d4, r4, rfl, h4, rfl⟩ := h
 obtain ⟨b0, rfl, hb0⟩ := okV_u8 h1
 obtain ⟨b1, rfl, hb1⟩ := okV_u8 h2
 obtain ⟨ls, rfl, hll, hls⟩ := okV_us h3
 obtain ⟨w, rfl, hw⟩ := okV_u16 h4
 exact stopped_pure b0 b1 hb0 hb1 ls hll hls w hw
theorem stopped_lifted (os : Os) (started : os.Started) (H : Type) (enc : TypeId × Value → H) :
  ReturnsInHanded {} Try.checked os 4 .any (Rows.topStoppedSpec.pre6 enc Try.prog Try.f4 Rows.topStoppedRow.domain false) (Rows.topStoppedSpec.post enc Try.prog Try.f4 false true false false) := by
 refine returnsInHanded_of_change (C := Try.checked) law_own started (by kernel_rfl) Try.func4
  (ChangeSpec.witness6 (enc := enc) (C := Try.checked) false ⟨#[], #[.int .u8 0, .int .u8 0, .slice none 0 0, .int .u16 0], []⟩ 8 (by kernel_rfl) (by kernel_rfl) (by kernel_rfl) (by kernel_rfl)) ?_
 intro W base args ds gs before hval hW _ _
 exact law_contract pg law_laid 6 rfl rfl Try.underlying4 (by kernel_rfl) (fun H ds hl => by match ds, hl with | [a, b, c, d], _ => exact ⟨rfl, rfl, rfl⟩) stopped_of_args hval hW
theorem stopped_holds : Rows.TopStoppedSaid :=
 OpenClaim.holds_of_wide 4 Try.f4 rfl rfl rfl rfl rfl rfl rfl ⟨rfl, rfl, rfl, rfl, rfl⟩ rfl rfl rfl rfl rfl (by kernel_rfl) Try.func4 (by kernel_rfl)
  (of_decide_eq_true (by kernel_rfl)) (by unfold Func.isWrapper; first | (rw [if_pos (by decide +kernel)]; kernel_rfl) | (rw [if_neg (by decide +kernel)]; exact ⟨rfl, rfl⟩))
  (fun os started H enc _ => stopped_lifted os started H enc)
end Go.Proofs.Ytijidghjiaiccaa

