/-
  Contracts of functions, and plain laws, that lead to the statement. Written by an agent.
-/
import Derived.Test.YtdgjogeddogbdaaLc
set_option linter.unusedVariables false
set_option linter.unusedSimpArgs false
set_option maxRecDepth 100000
namespace Go.Ev.Ytdgjogeddogbdaa
open Go.Proofs
/-- a rule with a greater drop, and a greater offset -/
def sR (r : P3) (d o : Int) : P3 := (min 100000 (IntKind.i64.wrap (r.1 + IntKind.i64.wrap d)), r.2.1, min 1000 (IntKind.i64.wrap (r.2.2 + IntKind.i64.wrap o)))
attribute [local irreducible] Pure Bor Iter inB ptB ruB okL goodB lineI ckC truB maxN fstN yvN mvN wkN metI tA pAt erC pkI wdI reE reD pkL laterB
theorem rules_pure (l : List P3) (r : P3) (ws : List Int) (hw : ∀ x ∈ ws, 0 ≤ x ∧ x ≤ 65535) (hwl : ws.length ≤ 9223372036854775807) (d o : Int) (hd : 0 ≤ d ∧ d ≤ 255) (ho : 0 ≤ o ∧ o ≤ 255) :
    Pure Try.prog 5 [crD l, ruD r, wsD ws, dU d, dU o] (dB true) := by
  have c1 := ready_pure l (by omega) r
  have c2 := ready_pure l (by omega) (sR r d o)
  by_cases h1 : readyB l r = true
  · have h1' : (!readyB l r) = false := by rw [h1]; rfl
    by_cases h2 : readyB l (sR r d o) = true
    · have h2' : (!readyB l (sR r d o)) = false := by rw [h2]; rfl
      have v1 := ready_iff.1 h1
      have v2 := ready_iff.1 h2
      have hl : l.length ≤ 1000 := by have := v1.len; omega
      have ht := pkL_tru v1 hw
      obtain ⟨e1, e2⟩ := re_ok (erC_iff.2 v1) ht
      obtain ⟨e3, e4⟩ := re_ok (erC_iff.2 v2) ht
      have cR := Read_pure l hl r (pkL l ws)
      have cS := Read_pure l hl (sR r d o) (pkL l ws)
      have cp := picked_pure v1 hw hwl
      have hdr := v1.drop
      have hof := v1.off
      have hsl := v1.slope
      have q1 : r.1 ≤ (sR r d o).1 := by
        unfold sR; dsimp only
        rw [wrapI (n := d) (by omega) (by omega), wrapI (n := r.1 + d) (by omega) (by omega)]; omega
      have q2 : r.2.2 ≤ (sR r d o).2.2 := by
        unfold sR; dsimp only
        rw [wrapI (n := o) (by omega) (by omega), wrapI (n := r.2.2 + o) (by omega) (by omega)]; omega
      have cy := later_pure (fstN (yP (pkL l ws) (sR r d o)) (pkL l ws).length) (fstN (yP (pkL l ws) r) (pkL l ws).length)
      have cm := later_pure (fstN (mP l (sR r d o) (pkL l ws)) (pkL l ws).length) (fstN (mP l r (pkL l ws)) (pkL l ws).length)
      rw [later_y q1] at cy
      rw [later_m (r := r) (s := sR r d o) rfl hsl.1 q2] at cm
      rw [e1, e2] at cR
      rw [e3, e4] at cS
      have cr := rule_pure r
      have cs := rule_pure (sR r d o)
      unfold resD resL7 at cR cS
      generalize hS : maxN (pkL l ws) (pkL l ws).length = mx at cR cS
      generalize hW : wkN l (pkL l ws) (pkL l ws).length = wk at cR cS
      unfold sR at c2 cS cs cy cm h2 h2'
      refine pure_of pg Try.func5 (by kernel_rfl) ?_
      conv => whnf
      (refine .inl ⟨_, c1, ?_⟩; conv => whnf)
      (repeat' (first | (apply kT (by with_reducible first | rfl | assumption); conv => whnf) | (apply kF (by with_reducible first | rfl | assumption); conv => whnf) | (apply kT (by decide); conv => whnf) | (apply kF (by decide); conv => whnf) | (apply kB <;> intro _ <;> conv => whnf) | (refine .inl ⟨_, c2, ?_⟩; conv => whnf) | fail))
      (refine .inl ⟨_, curve_pure l hl, ?_⟩; conv => whnf)
      (refine .inl ⟨_, cr, ?_⟩; conv => whnf)
      (refine .inl ⟨_, cp, ?_⟩; conv => whnf)
      (refine .inl ⟨_, cR, ?_⟩; conv => whnf)
      (refine .inl ⟨_, curve_pure l hl, ?_⟩; conv => whnf)
      (refine .inl ⟨_, cs, ?_⟩; conv => whnf)
      (refine .inl ⟨_, cp, ?_⟩; conv => whnf)
      (refine .inl ⟨_, cS, ?_⟩; conv => whnf)
      (repeat' (first | (apply kT (by with_reducible first | rfl | assumption); conv => whnf) | (apply kF (by with_reducible first | rfl | assumption); conv => whnf) | (apply kT (by decide); conv => whnf) | (apply kF (by decide); conv => whnf) | (apply kB <;> intro _ <;> conv => whnf) | (refine .inl ⟨_, cy, ?_⟩; conv => whnf) | (refine .inl ⟨_, cm, ?_⟩; conv => whnf) | (refine .inl ⟨_, awake_pure, ?_⟩; conv => whnf) | fail))
      all_goals first | rfl | (rename_i hx; simp at hx)
    · have h2' : (!readyB l (sR r d o)) = true := by simpa using h2
      unfold sR at c2 h2'
      refine pure_of pg Try.func5 (by kernel_rfl) ?_
      conv => whnf
      (refine .inl ⟨_, c1, ?_⟩; conv => whnf)
      (repeat' (first | (apply kT (by with_reducible first | rfl | assumption); conv => whnf) | (apply kF (by with_reducible first | rfl | assumption); conv => whnf) | (apply kT (by decide); conv => whnf) | (apply kF (by decide); conv => whnf) | (apply kB <;> intro _ <;> conv => whnf) | (refine .inl ⟨_, c2, ?_⟩; conv => whnf) | (refine .inl ⟨_, awake_pure, ?_⟩; conv => whnf) | fail))
      rfl
  · have h1' : (!readyB l r) = true := by simpa using h1
    refine pure_of pg Try.func5 (by kernel_rfl) ?_
    conv => whnf
    (refine .inl ⟨_, c1, ?_⟩; conv => whnf)
    (repeat' (first | (apply kT (by with_reducible first | rfl | assumption); conv => whnf) | (apply kF (by with_reducible first | rfl | assumption); conv => whnf) | (apply kT (by decide); conv => whnf) | (apply kF (by decide); conv => whnf) | (apply kB <;> intro _ <;> conv => whnf) | (refine .inl ⟨_, awake_pure, ?_⟩; conv => whnf) | fail))
    rfl
end Go.Ev.Ytdgjogeddogbdaa
