/-
  Contracts of functions, and plain laws, that lead to the statement. Written by an agent.
-/
import Derived.Test.YtdgjogeddogbdaaRows
import Derived.Test.YtdgjogeddogbdaaLi
set_option linter.unusedVariables false
set_option linter.unusedSimpArgs false
namespace Go.Ev.Ytdgjogeddogbdaa
open Go.Proofs
def InR (n : Int) : Prop := -9223372036854775808 ≤ n ∧ n < 9223372036854775808
def InP (x : P3) : Prop := InR x.1 ∧ InR x.2.1 ∧ InR x.2.2
theorem map_of {α β : Type} {f : α → β} {q : α → Prop} : ∀ {es : List β}, (∀ el ∈ es, ∃ x, el = f x ∧ q x) → ∃ l : List α, es = l.map f ∧ ∀ x ∈ l, q x
  | [], _ => ⟨[], rfl, fun x hx => by cases hx⟩
  | e :: es, h => by
    obtain ⟨x, rfl, hq⟩ := h e (by simp)
    obtain ⟨l, rfl, hl⟩ := map_of (es := es) fun el he => h el (by simp [he])
    exact ⟨x :: l, rfl, fun y hy => by
      rcases List.mem_cons.1 hy with rfl | hy
      · exact hq
      · exact hl y hy⟩
theorem inR_of {n : Int} (h : (Lit.int .i64 n).wf = true) : InR n := by
  have := bounds_i64 h
  unfold InR; omega
theorem okV_curve {d : D} (h : OkV tb 6 24 d) : ∃ l, d = crD l ∧ l.length ≤ 9223372036854775807 ∧ ∀ x ∈ l, InP x := by
  obtain ⟨y, ds, hy, hd, rfl⟩ := h
  cases hy
  obtain ⟨d1, d2, rfl, ⟨es, rfl, hlen, hel⟩, rfl⟩ := hd
  obtain ⟨l, rfl, hl⟩ := map_of (f := ptD) (q := InP) (es := es) fun el he => by
    obtain ⟨a1, r1, rfl, ⟨i1, rfl, w1⟩, a2, r2, rfl, ⟨b1, s1, rfl, ⟨i2, rfl, w2⟩, b2, s2, rfl, ⟨i3, rfl, w3⟩, rfl⟩, rfl⟩ := hel el he
    exact ⟨(i1, i2, i3), rfl, inR_of w1, inR_of w2, inR_of w3⟩
  exact ⟨l, rfl, by simpa [maxLen] using hlen, hl⟩
theorem okV_rule {d : D} (h : OkV tb 6 26 d) : ∃ r, d = ruD r ∧ InP r := by
  obtain ⟨y, ds, hy, hd, rfl⟩ := h
  cases hy
  obtain ⟨a1, r1, rfl, ⟨i1, rfl, w1⟩, a2, r2, rfl, ⟨i2, rfl, w2⟩, a3, r3, rfl, ⟨i3, rfl, w3⟩, rfl⟩ := hd
  exact ⟨(i1, i2, i3), rfl, inR_of w1, inR_of w2, inR_of w3⟩
theorem okV_point {d : D} (h : OkV tb 6 66 d) : ∃ x, d = .agg (ptD x) ∧ InP x := by
  obtain ⟨y, ds, hy, hd, rfl⟩ := h
  cases hy
  obtain ⟨a1, r1, rfl, ⟨i1, rfl, w1⟩, a2, r2, rfl, ⟨b1, s1, rfl, ⟨i2, rfl, w2⟩, b2, s2, rfl, ⟨i3, rfl, w3⟩, rfl⟩, rfl⟩ := hd
  exact ⟨(i1, i2, i3), rfl, inR_of w1, inR_of w2, inR_of w3⟩
theorem okV_ints {d : D} (h : OkV tb 6 27 d) : ∃ t : List Int, d = isD t ∧ t.length ≤ 9223372036854775807 ∧ ∀ x ∈ t, InR x := by
  obtain ⟨y, ds, hy, hd, rfl⟩ := h
  cases hy
  obtain ⟨es, rfl, hlen, hel⟩ := hd
  obtain ⟨l, rfl, hl⟩ := map_of (f := fun n : Int => [dI n]) (q := InR) (es := es) fun el he => by
    obtain ⟨i, rfl, hw⟩ := hel el he
    exact ⟨i, rfl, inR_of hw⟩
  exact ⟨l, rfl, by simpa [maxLen] using hlen, hl⟩
theorem law_own : ownKnob Try.prog.godebug = none := by kernel_rfl
theorem law_laid : laidOutB Try.prog = true := by kernel_rfl
end Go.Ev.Ytdgjogeddogbdaa

set_option linter.unusedVariables false
set_option linter.unusedSimpArgs false
namespace Go.Ev.Ytdgjogeddogbdaa
open Go.Proofs
theorem bounds_u16 {n : Int} (h : (Lit.int .u16 n).wf = true) : 0 ≤ n ∧ n ≤ 65535 := by
  have h1 : IntKind.u16.min ≤ n ∧ n ≤ IntKind.u16.max := by simpa [Lit.wf] using h
  have h2 : IntKind.u16.min = 0 := by decide
  have h3 : IntKind.u16.max = 65535 := by decide
  omega
theorem okV_words {d : D} (h : OkV tb 6 60 d) : ∃ ws : List Int, d = wsD ws ∧ ws.length ≤ 9223372036854775807 ∧ ∀ x ∈ ws, 0 ≤ x ∧ x ≤ 65535 := by
  obtain ⟨y, ds, hy, hd, rfl⟩ := h
  cases hy
  obtain ⟨es, rfl, hlen, hel⟩ := hd
  obtain ⟨l, rfl, hl⟩ := map_of (f := fun w : Int => [dW w]) (q := fun x => 0 ≤ x ∧ x ≤ 65535) (es := es) fun el he => by
    obtain ⟨i, rfl, hw⟩ := hel el he
    exact ⟨i, rfl, bounds_u16 hw⟩
  exact ⟨l, rfl, by simpa [maxLen] using hlen, hl⟩
theorem okV_u8 {d : D} (h : OkV tb 6 5 d) : ∃ i, d = dU i ∧ 0 ≤ i ∧ i ≤ 255 := by
  obtain ⟨y, ds, hy, hd, rfl⟩ := h
  cases hy
  obtain ⟨i, rfl, hw⟩ := hd
  have := bounds_u8 hw
  exact ⟨i, rfl, this.1, this.2⟩
theorem okV_u16 {d : D} (h : OkV tb 6 67 d) : ∃ i, d = dW i ∧ 0 ≤ i ∧ i ≤ 65535 := by
  obtain ⟨y, ds, hy, hd, rfl⟩ := h
  cases hy
  obtain ⟨i, rfl, hw⟩ := hd
  have := bounds_u16 hw
  exact ⟨i, rfl, this.1, this.2⟩
end Go.Ev.Ytdgjogeddogbdaa

set_option linter.unusedVariables false
set_option linter.unusedSimpArgs false
namespace Go.Ev.Ytdgjogeddogbdaa
open Go.Proofs
theorem okV_bool {d : D} (h : OkV tb 6 4 d) : ∃ b, d = dB b := by
  obtain ⟨y, ds, hy, hd, rfl⟩ := h
  cases hy
  obtain ⟨b, rfl⟩ := hd
  exact ⟨b, rfl⟩
theorem okV_int {d : D} (h : OkV tb 6 3 d) : ∃ i, d = dI i := by
  obtain ⟨y, ds, hy, hd, rfl⟩ := h
  cases hy
  obtain ⟨i, rfl, hw⟩ := hd
  exact ⟨i, rfl⟩
end Go.Ev.Ytdgjogeddogbdaa
