/-
  Contracts of functions, and plain laws, that lead to the statement. Written by an agent.
-/
import Derived.Test.YtdgjogeddogbdaaLe
set_option linter.unusedVariables false
set_option linter.unusedSimpArgs false
set_option maxRecDepth 100000
namespace Go.Ev.Ytdgjogeddogbdaa
open Go.Proofs
def shT (kind : Nat) (l : List P3) (r : P3) (high : Bool) : List Int := if askE kind l r = 0 then (if high = true then lsI l.length (endsF kind l r).2 else lsI l.length (endsF kind l r).1) else []
def prB (kind : Nat) (l : List P3) (r : P3) (t : List Int) (n : Int) : Bool := erC l r == 0 && truB l t && decide (kind < 4) && hasT kind l r t && (resQ kind l r t).1 == n
theorem askE_zero {kind : Nat} {l : List P3} {r : P3} : askE kind l r = 0 ↔ VC l r ∧ kind < 4 ∧ 0 < (emK kind l r).length := by
  unfold askE
  constructor
  · intro he
    split at he
    · rename_i hv
      split at he
      · cases he
      · split at he
        · cases he
        · exact ⟨erC_iff.1 hv, by omega, by omega⟩
    · rename_i hx; exact absurd he hx
  · rintro ⟨h1, h2, h3⟩
    rw [if_pos (erC_iff.2 h1), if_neg (by omega), if_neg (by omega)]
theorem has_iff {kind : Nat} (hk : kind < 4) {l : List P3} {r : P3} {t : List Int} (hT : TB l t) (h0 : 0 < t.length) : ((resQ kind l r t).2 != -1) = hasT kind l r t := by
  match kind, hk with
  | 0, _ =>
    obtain ⟨p, p1, _⟩ := max_spec hT t.length (Nat.le_refl _) h0
    show ((maxN t t.length).2 != -1) = true
    rw [p1, bne_iff_ne]; omega
  | 1, _ =>
    show (fstN (yP t r) t.length != -1) = decide (0 ≤ fstN (yP t r) t.length)
    have := fstN_ge (P := yP t r) (k := t.length)
    rw [Bool.eq_iff_iff, bne_iff_ne, decide_eq_true_eq]; omega
  | 2, _ =>
    show (fstN (mP l r t) t.length != -1) = decide (0 ≤ fstN (mP l r t) t.length)
    have := fstN_ge (P := mP l r t) (k := t.length)
    rw [Bool.eq_iff_iff, bne_iff_ne, decide_eq_true_eq]; omega
  | 3, _ => rfl
theorem number_pure {kind : Nat} (hk : kind < 4) (l : List P3) (r : P3) (t : List Int) : Pure Try.prog 35 [resD l r t, dU kind] (.tup [dI (resQ kind l r t).1, dB (hasT kind l r t)]) := by
  unfold resD resL7
  match kind, hk with
  | 0, _ =>
    refine pure_of pg Try.func35 (by kernel_rfl) ?_
    conv => whnf
    (repeat' (first | (apply kT (by with_reducible first | rfl | assumption); conv => whnf) | (apply kF (by with_reducible first | rfl | assumption); conv => whnf) | (apply kT (by decide); conv => whnf) | (apply kF (by decide); conv => whnf) | (apply kB <;> intro _ <;> conv => whnf) | fail))
    rfl
  | 1, _ =>
    refine pure_of pg Try.func35 (by kernel_rfl) ?_
    conv => whnf
    (repeat' (first | (apply kT (by with_reducible first | rfl | assumption); conv => whnf) | (apply kF (by with_reducible first | rfl | assumption); conv => whnf) | (apply kT (by decide); conv => whnf) | (apply kF (by decide); conv => whnf) | (apply kB <;> intro _ <;> conv => whnf) | fail))
    rfl
  | 2, _ =>
    refine pure_of pg Try.func35 (by kernel_rfl) ?_
    conv => whnf
    (repeat' (first | (apply kT (by with_reducible first | rfl | assumption); conv => whnf) | (apply kF (by with_reducible first | rfl | assumption); conv => whnf) | (apply kT (by decide); conv => whnf) | (apply kF (by decide); conv => whnf) | (apply kB <;> intro _ <;> conv => whnf) | fail))
    rfl
  | 3, _ =>
    refine pure_of pg Try.func35 (by kernel_rfl) ?_
    conv => whnf
    (repeat' (first | (apply kT (by with_reducible first | rfl | assumption); conv => whnf) | (apply kF (by with_reducible first | rfl | assumption); conv => whnf) | (apply kT (by decide); conv => whnf) | (apply kF (by decide); conv => whnf) | (apply kB <;> intro _ <;> conv => whnf) | fail))
    rfl
attribute [local irreducible] Pure Bor Iter inB ptB ruB okL goodB lineI ckC truB maxN fstN yvN mvN wkN metI tA pAt erC cF tv lsI resQ qs lstI knL bkN numQ bkF lowF highF mEm mEm1 yEm emK endsN endsF askE hasT
theorem shows_pure (l : List P3) (hl : l.length ≤ 1000) (r : P3) (kind : Nat) (hk : kind ≤ 255) (high : Bool) : Pure Try.prog 31 [crD l, ruD r, dU kind, dB high] (.tup [isD (shT kind l r high), dI (askE kind l r)]) := by
  have c := asked_pure l hl r kind hk
  by_cases he : askE kind l r = 0
  · obtain ⟨hv, hk4, hn⟩ := askE_zero.1 he
    have ed : askF kind l r = endsF kind l r := by unfold askF; rw [if_pos he]
    have hb : (askE kind l r != 0) = false := by rw [he]; rfl
    rw [ed] at c
    have es : shT kind l r high = if high = true then lsI l.length (endsF kind l r).2 else lsI l.length (endsF kind l r).1 := by unfold shT; rw [if_pos he]
    rw [es]
    generalize endsF kind l r = x at *
    have q1 := llist_pure hv.len hv.pos r x.1
    have q2 := llist_pure hv.len hv.pos r x.2
    cases high with
    | true =>
      rw [if_pos rfl]
      refine pure_of_n pg Try.func31 (by kernel_rfl) ?_
      conv => whnf
      (repeat' (first | (apply kT (by with_reducible first | rfl | assumption); conv => whnf) | (apply kF (by with_reducible first | rfl | assumption); conv => whnf) | (apply kT (by decide); conv => whnf) | (apply kF (by decide); conv => whnf) | (apply kB <;> intro _ <;> conv => whnf) | (refine .inl ⟨_, c, ?_⟩; conv => whnf) | fail))
      (refine ⟨(tv x.1 x.2).map A.d, rfl, tv_lenA, by simp only [tv_lenA]; decide, tv_one, ?_⟩; conv => whnf)
      (repeat' (first | (apply kT (by with_reducible first | rfl | assumption); conv => whnf) | (apply kF (by with_reducible first | rfl | assumption); conv => whnf) | (apply kT (by decide); conv => whnf) | (apply kF (by decide); conv => whnf) | (apply kB <;> intro _ <;> conv => whnf) | fail))
      (refine ⟨cF 20 x.2, by rw [zput40]; exact tv_snd, cF_len, ?_⟩; conv => whnf)
      (refine .inl ⟨_, q2, ?_⟩; conv => whnf)
      rw [he]
      rfl
    | false =>
      rw [if_neg (by decide)]
      refine pure_of_n pg Try.func31 (by kernel_rfl) ?_
      conv => whnf
      (repeat' (first | (apply kT (by with_reducible first | rfl | assumption); conv => whnf) | (apply kF (by with_reducible first | rfl | assumption); conv => whnf) | (apply kT (by decide); conv => whnf) | (apply kF (by decide); conv => whnf) | (apply kB <;> intro _ <;> conv => whnf) | (refine .inl ⟨_, c, ?_⟩; conv => whnf) | fail))
      (refine ⟨(tv x.1 x.2).map A.d, rfl, tv_lenA, by simp only [tv_lenA]; decide, tv_one, ?_⟩; conv => whnf)
      (repeat' (first | (apply kT (by with_reducible first | rfl | assumption); conv => whnf) | (apply kF (by with_reducible first | rfl | assumption); conv => whnf) | (apply kT (by decide); conv => whnf) | (apply kF (by decide); conv => whnf) | (apply kB <;> intro _ <;> conv => whnf) | fail))
      (refine ⟨cF 20 x.1, by rw [zput40]; exact tv_fst, cF_len, ?_⟩; conv => whnf)
      (refine .inl ⟨_, q1, ?_⟩; conv => whnf)
      rw [he]
      rfl
  · have ed : askF kind l r = (fun _ => 0, fun _ => 0) := by unfold askF; rw [if_neg he]
    have hb : (askE kind l r != 0) = true := by rw [bne_iff_ne]; exact he
    have es : shT kind l r high = [] := by unfold shT; rw [if_neg he]
    rw [ed] at c
    rw [es]
    refine pure_of_n pg Try.func31 (by kernel_rfl) ?_
    conv => whnf
    (repeat' (first | (apply kT (by with_reducible first | rfl | assumption); conv => whnf) | (apply kF (by with_reducible first | rfl | assumption); conv => whnf) | (apply kT (by decide); conv => whnf) | (apply kF (by decide); conv => whnf) | (apply kB <;> intro _ <;> conv => whnf) | (refine .inl ⟨_, c, ?_⟩; conv => whnf) | fail))
    (refine ⟨(tv (fun _ => 0) (fun _ => 0)).map A.d, rfl, tv_lenA, by simp only [tv_lenA]; decide, tv_one, ?_⟩; conv => whnf)
    (repeat' (first | (apply kT (by with_reducible first | rfl | assumption); conv => whnf) | (apply kF (by with_reducible first | rfl | assumption); conv => whnf) | (apply kT (by decide); conv => whnf) | (apply kF (by decide); conv => whnf) | (apply kB <;> intro _ <;> conv => whnf) | fail))
    rfl
theorem prove_pure (l : List P3) (hl : l.length ≤ 1000) (r : P3) (t : List Int) (kind : Nat) (hk : kind ≤ 255) (n : Int) : Pure Try.prog 32 [crD l, ruD r, isD t, dU kind, dI n] (dB (prB kind l r t n)) := by
  have c1 := read_pure l hl r
  have c2 := truth_pure l hl r t
  by_cases he : erC l r = 0
  · have hb : (erC l r != 0) = false := by rw [he]; rfl
    have hv := erC_iff.1 he
    by_cases ht : truB l t = true
    · have hT := TB.of hv ht
      have ht' : (!truB l t) = false := by rw [ht]; rfl
      have hpos := hv.pos
      by_cases h3 : kind < 4
      · have hk3 : decide ((kind : Int) > 3) = false := by rw [decide_eq_false_iff_not]; omega
        have s1 := q_pure kind h3 l r t
        have hh := has_iff (r := r) h3 hT (by have := hT.1; omega)
        have e : prB kind l r t n = (((resQ kind l r t).2 != -1) && (resQ kind l r t).1 == n) := by
          unfold prB
          rw [he, ht, decide_eq_true h3, hh]
          rfl
        have cr := result_pure hv hT
        rw [e]
        generalize resQ kind l r t = q at *
        obtain ⟨q1, q2⟩ := q
        dsimp only at s1 ⊢
        by_cases hq : (q2 != -1) = true
        · rw [hq, Bool.true_and]
          refine pure_of pg Try.func32 (by kernel_rfl) ?_
          conv => whnf
          (repeat' (first | (apply kT (by with_reducible first | rfl | assumption); conv => whnf) | (apply kF (by with_reducible first | rfl | assumption); conv => whnf) | (apply kT (by decide); conv => whnf) | (apply kF (by decide); conv => whnf) | (apply kB <;> intro _ <;> conv => whnf) | (refine .inl ⟨_, c1, ?_⟩; conv => whnf) | (refine .inl ⟨_, c2, ?_⟩; conv => whnf) | fail))
          (refine .inl ⟨_, quants_pure, ?_⟩; conv => whnf)
          (refine ⟨kind, _, rfl, qs_at h3, rfl, ?_⟩; conv => whnf)
          (refine .inl ⟨_, cr, ?_⟩; conv => whnf)
          (refine .inl ⟨_, s1, ?_⟩; conv => whnf)
          (repeat' (first | (apply kT (by with_reducible first | rfl | assumption); conv => whnf) | (apply kF (by with_reducible first | rfl | assumption); conv => whnf) | (apply kT (by decide); conv => whnf) | (apply kF (by decide); conv => whnf) | (apply kB <;> intro _ <;> conv => whnf) | fail))
          rfl
        · have hq : (q2 != -1) = false := by simpa using hq
          rw [hq, Bool.false_and]
          refine pure_of pg Try.func32 (by kernel_rfl) ?_
          conv => whnf
          (repeat' (first | (apply kT (by with_reducible first | rfl | assumption); conv => whnf) | (apply kF (by with_reducible first | rfl | assumption); conv => whnf) | (apply kT (by decide); conv => whnf) | (apply kF (by decide); conv => whnf) | (apply kB <;> intro _ <;> conv => whnf) | (refine .inl ⟨_, c1, ?_⟩; conv => whnf) | (refine .inl ⟨_, c2, ?_⟩; conv => whnf) | fail))
          (refine .inl ⟨_, quants_pure, ?_⟩; conv => whnf)
          (refine ⟨kind, _, rfl, qs_at h3, rfl, ?_⟩; conv => whnf)
          (refine .inl ⟨_, cr, ?_⟩; conv => whnf)
          (refine .inl ⟨_, s1, ?_⟩; conv => whnf)
          (repeat' (first | (apply kT (by with_reducible first | rfl | assumption); conv => whnf) | (apply kF (by with_reducible first | rfl | assumption); conv => whnf) | (apply kT (by decide); conv => whnf) | (apply kF (by decide); conv => whnf) | (apply kB <;> intro _ <;> conv => whnf) | fail))
          rfl
      · have hk3 : decide ((kind : Int) > 3) = true := by rw [decide_eq_true_eq]; omega
        have e : prB kind l r t n = false := by unfold prB; rw [decide_eq_false h3]; simp
        rw [e]
        refine pure_of pg Try.func32 (by kernel_rfl) ?_
        conv => whnf
        (repeat' (first | (apply kT (by with_reducible first | rfl | assumption); conv => whnf) | (apply kF (by with_reducible first | rfl | assumption); conv => whnf) | (apply kT (by decide); conv => whnf) | (apply kF (by decide); conv => whnf) | (apply kB <;> intro _ <;> conv => whnf) | (refine .inl ⟨_, c1, ?_⟩; conv => whnf) | (refine .inl ⟨_, c2, ?_⟩; conv => whnf) | fail))
        rfl
    · have ht' : (!truB l t) = true := by simpa using ht
      have e : prB kind l r t n = false := by unfold prB; rw [Bool.not_eq_true _ |>.mp ht]; simp
      rw [e]
      refine pure_of pg Try.func32 (by kernel_rfl) ?_
      conv => whnf
      (repeat' (first | (apply kT (by with_reducible first | rfl | assumption); conv => whnf) | (apply kF (by with_reducible first | rfl | assumption); conv => whnf) | (apply kT (by decide); conv => whnf) | (apply kF (by decide); conv => whnf) | (apply kB <;> intro _ <;> conv => whnf) | (refine .inl ⟨_, c1, ?_⟩; conv => whnf) | (refine .inl ⟨_, c2, ?_⟩; conv => whnf) | fail))
      rfl
  · have hb : (erC l r != 0) = true := by rw [bne_iff_ne]; exact he
    have e : prB kind l r t n = false := by unfold prB; rw [beq_false_of_ne he]; simp
    rw [e]
    refine pure_of pg Try.func32 (by kernel_rfl) ?_
    conv => whnf
    (repeat' (first | (apply kT (by with_reducible first | rfl | assumption); conv => whnf) | (apply kF (by with_reducible first | rfl | assumption); conv => whnf) | (apply kT (by decide); conv => whnf) | (apply kF (by decide); conv => whnf) | (apply kB <;> intro _ <;> conv => whnf) | (refine .inl ⟨_, c1, ?_⟩; conv => whnf) | (refine .inl ⟨_, c2, ?_⟩; conv => whnf) | fail))
    rfl
end Go.Ev.Ytdgjogeddogbdaa
