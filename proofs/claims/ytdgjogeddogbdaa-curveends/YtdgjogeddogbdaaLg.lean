/-
  Contracts of functions, and plain laws, that lead to the statement. Written by an agent.
-/
import Derived.Test.YtdgjogeddogbdaaLf
set_option linter.unusedVariables false
set_option linter.unusedSimpArgs false
set_option maxRecDepth 100000
namespace Go.Ev.Ytdgjogeddogbdaa
open Go.Proofs
theorem emK_pos {kind : Nat} {l : List P3} {r : P3} (h : (emK kind l r).length = 0) : kind = 1 ∨ kind = 2 := by
  unfold emK at h
  split at h
  · exact .inl rfl
  · exact .inr rfl
  · cases h
theorem prB_true {kind : Nat} {l : List P3} {r : P3} {f : Nat → Int} (hv : VC l r) (hk : kind < 4) (hg : Good kind l r f) : prB kind l r (lsI l.length f) (numQ kind l r f) = true := by
  unfold prB
  rw [erC_iff.2 hv, bx_tru hg.1, decide_eq_true hk, hg.2, numQ_eq]
  simp
attribute [local irreducible] Pure Bor Iter inB ptB ruB okL goodB lineI ckC truB maxN fstN yvN mvN wkN metI tA pAt erC cF tv lsI resQ qs lstI knL bkN numQ bkF lowF highF mEm mEm1 yEm emK endsN endsF askE hasT spanI shT prB reE reD
set_option maxHeartbeats 4000000 in
theorem endsS_pure (l : List P3) (r : P3) (k0 : Int) (h0 : 0 ≤ k0 ∧ k0 ≤ 255) : Pure Try.prog 10 [crD l, ruD r, dU k0] (dB true) := by
  have c1 := ready_pure l (by omega) r
  by_cases h1 : readyB l r = true
  · have h1' : (!readyB l r) = false := by rw [h1]; rfl
    have hv := ready_iff.1 h1
    have hlen := hv.len
    have hl : l.length ≤ 1000 := by omega
    obtain ⟨k, hk, hk4⟩ : ∃ k : Nat, k0.tmod 4 = k ∧ k < 4 := ⟨(k0 % 4).toNat, by rw [Int.tmod_eq_emod_of_nonneg h0.1]; omega, by omega⟩
    have cc := curve_pure l hl
    have cr := rule_pure r
    have cs := span_pure l hl r k (by omega)
    have cf := shows_pure l hl r k (by omega) false
    have cg := shows_pure l hl r k (by omega) true
    by_cases he : askE k l r = 0
    · obtain ⟨_, _, hn⟩ := askE_zero.1 he
      obtain ⟨g1, g2, _⟩ := span_law hv hk4 hn
      have es : spanI k l r = (numQ k l r (endsF k l r).1, numQ k l r (endsF k l r).2) := by unfold spanI; rw [if_pos he]
      have e1 : shT k l r false = lsI l.length (endsF k l r).1 := by unfold shT; rw [if_pos he, if_neg (by decide)]
      have e2 : shT k l r true = lsI l.length (endsF k l r).2 := by unfold shT; rw [if_pos he, if_pos rfl]
      rw [es, he] at cs
      rw [e1, he] at cf
      rw [e2, he] at cg
      generalize endsF k l r = F at *
      have t1 := rtruth_pure l hl (lsI l.length F.1)
      have t2 := rtruth_pure l hl (lsI l.length F.2)
      rw [bx_tru g1.1] at t1
      rw [bx_tru g2.1] at t2
      have l1 := list_pure (lsI l.length F.1) (by rw [lsI_len]; exact hl)
      have l2 := list_pure (lsI l.length F.2) (by rw [lsI_len]; exact hl)
      obtain ⟨a1, a2⟩ := re_ok (erC_iff.2 hv) (bx_tru g1.1)
      obtain ⟨b1, b2⟩ := re_ok (erC_iff.2 hv) (bx_tru g2.1)
      have r1 := Read_pure l hl r (lsI l.length F.1)
      have r2 := Read_pure l hl r (lsI l.length F.2)
      rw [a1, a2] at r1
      rw [b1, b2] at r2
      have n1 := number_pure hk4 l r (lsI l.length F.1)
      have n2 := number_pure hk4 l r (lsI l.length F.2)
      rw [← numQ_eq, g1.2] at n1
      rw [← numQ_eq, g2.2] at n2
      have p1 := prove_pure l hl r (lsI l.length F.1) k (by omega) (numQ k l r F.1)
      have p2 := prove_pure l hl r (lsI l.length F.2) k (by omega) (numQ k l r F.2)
      rw [prB_true hv hk4 g1] at p1
      rw [prB_true hv hk4 g2] at p2
      unfold resD resL7 at r1 r2 n1 n2
      have bb : ∀ x : Int, (x == x) = true := fun x => by rw [beq_iff_eq]
      have f1 := bb (numQ k l r F.1)
      have f2 := bb (numQ k l r F.2)
      generalize numQ k l r F.1 = m1 at *
      generalize numQ k l r F.2 = m2 at *
      generalize lsI l.length F.1 = u1 at *
      generalize lsI l.length F.2 = u2 at *
      refine pure_of pg Try.func10 (by kernel_rfl) ?_
      conv => whnf
      (refine .inl ⟨_, c1, ?_⟩; conv => whnf)
      (repeat' (first | (apply kT (by with_reducible first | rfl | assumption); conv => whnf) | (apply kF (by with_reducible first | rfl | assumption); conv => whnf) | (apply kT (by decide); conv => whnf) | (apply kF (by decide); conv => whnf) | (apply kB <;> intro _ <;> conv => whnf) | fail))
      (refine ⟨by decide, ?_⟩; conv => whnf)
      rw [hk]
      (repeat' (first | (apply kT (by with_reducible first | rfl | assumption); conv => whnf) | (apply kF (by with_reducible first | rfl | assumption); conv => whnf) | (apply kT (by decide); conv => whnf) | (apply kF (by decide); conv => whnf) | (apply kB <;> intro _ <;> conv => whnf) | (refine .inl ⟨_, cc, ?_⟩; conv => whnf) | (refine .inl ⟨_, cr, ?_⟩; conv => whnf) | (refine .inl ⟨_, cs, ?_⟩; conv => whnf) | (refine .inl ⟨_, cf, ?_⟩; conv => whnf) | (refine .inl ⟨_, cg, ?_⟩; conv => whnf) | (refine .inl ⟨_, t1, ?_⟩; conv => whnf) | (refine .inl ⟨_, t2, ?_⟩; conv => whnf) | (refine .inl ⟨_, l1, ?_⟩; conv => whnf) | (refine .inl ⟨_, l2, ?_⟩; conv => whnf) | (refine .inl ⟨_, r1, ?_⟩; conv => whnf) | (refine .inl ⟨_, r2, ?_⟩; conv => whnf) | (refine .inl ⟨_, n1, ?_⟩; conv => whnf) | (refine .inl ⟨_, n2, ?_⟩; conv => whnf) | (refine .inl ⟨_, p1, ?_⟩; conv => whnf) | (refine .inl ⟨_, p2, ?_⟩; conv => whnf) | (refine .inl ⟨_, awake_pure, ?_⟩; conv => whnf) | fail))
      all_goals rfl
    · have hn : (emK k l r).length = 0 := by
        rcases Nat.eq_zero_or_pos (emK k l r).length with h | h
        · exact h
        · exact absurd (askE_zero.2 ⟨hv, hk4, h⟩) he
      have e7 : askE k l r = 7 := by unfold askE; rw [if_pos (erC_iff.2 hv), if_neg (by omega), if_pos hn]
      rw [e7] at cs cf cg
      rcases emK_pos hn with rfl | rfl
      all_goals (refine pure_of pg Try.func10 (by kernel_rfl) ?_)
      all_goals (conv => whnf)
      all_goals (refine .inl ⟨_, c1, ?_⟩; conv => whnf)
      all_goals (repeat' (first | (apply kT (by with_reducible first | rfl | assumption); conv => whnf) | (apply kF (by with_reducible first | rfl | assumption); conv => whnf) | (apply kT (by decide); conv => whnf) | (apply kF (by decide); conv => whnf) | (apply kB <;> intro _ <;> conv => whnf) | fail))
      all_goals (refine ⟨by decide, ?_⟩; conv => whnf)
      all_goals rw [hk]
      all_goals (repeat' (first | (apply kT (by with_reducible first | rfl | assumption); conv => whnf) | (apply kF (by with_reducible first | rfl | assumption); conv => whnf) | (apply kT (by decide); conv => whnf) | (apply kF (by decide); conv => whnf) | (apply kB <;> intro _ <;> conv => whnf) | (refine .inl ⟨_, cc, ?_⟩; conv => whnf) | (refine .inl ⟨_, cr, ?_⟩; conv => whnf) | (refine .inl ⟨_, cs, ?_⟩; conv => whnf) | (refine .inl ⟨_, cf, ?_⟩; conv => whnf) | (refine .inl ⟨_, cg, ?_⟩; conv => whnf) | (refine .inl ⟨_, awake_pure, ?_⟩; conv => whnf) | fail))
      all_goals rfl
  · have h1' : (!readyB l r) = true := by simpa using h1
    refine pure_of pg Try.func10 (by kernel_rfl) ?_
    conv => whnf
    (refine .inl ⟨_, c1, ?_⟩; conv => whnf)
    (repeat' (first | (apply kT (by with_reducible first | rfl | assumption); conv => whnf) | (apply kF (by with_reducible first | rfl | assumption); conv => whnf) | (apply kT (by decide); conv => whnf) | (apply kF (by decide); conv => whnf) | (apply kB <;> intro _ <;> conv => whnf) | (refine .inl ⟨_, awake_pure, ?_⟩; conv => whnf) | fail))
    all_goals first | rfl | (exfalso; rename_i hx; first | (rw [h1'] at hx; exact Bool.noConfusion hx) | exact Bool.noConfusion hx)
end Go.Ev.Ytdgjogeddogbdaa
