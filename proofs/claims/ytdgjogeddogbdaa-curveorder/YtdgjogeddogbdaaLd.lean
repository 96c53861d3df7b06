/-
  Contracts of functions, and plain laws, that lead to the statement. Written by an agent.
-/
import Derived.Test.YtdgjogeddogbdaaLc
set_option linter.unusedVariables false
set_option linter.unusedSimpArgs false
set_option maxRecDepth 100000
namespace Go.Ev.Ytdgjogeddogbdaa
open Go.Proofs
theorem yv_at {t : List Int} {r : P3} {k m : Nat} (h : fstN (yP t r) k = m) : yvN t r k = tA t m := by
  unfold yvN; rw [h, if_neg (by omega), Int.toNat_natCast]
theorem mv_at {l : List P3} {r : P3} {t : List Int} {k m : Nat} (h : fstN (mP l r t) k = m) (h0 : 0 < m) : mvN l r t k = metI l r t m := by
  unfold mvN mv; rw [h, if_neg (by omega), if_neg (by omega), Int.toNat_natCast]
theorem mv_first {l : List P3} {r : P3} {t : List Int} {k : Nat} (h : fstN (mP l r t) k = 0) : mvN l r t k = tA t 0 := by
  unfold mvN mv; rw [h, if_neg (by omega), if_pos rfl]
attribute [local irreducible] Pure Bor Iter inB ptB ruB okL goodB lineI ckC truB maxN fstN yvN mvN wkN metI tA pAt erC pkI wdI reE reD pkL
set_option maxHeartbeats 2000000 in
theorem order_pure (l : List P3) (r : P3) (ws : List Int) (hw : ∀ x ∈ ws, 0 ≤ x ∧ x ≤ 65535) (hwl : ws.length ≤ 9223372036854775807) : Pure Try.prog 8 [crD l, ruD r, wsD ws] (dB true) := by
  have c1 := ready_pure l (by omega) r
  by_cases h1 : readyB l r = true
  · have h1' : (!readyB l r) = false := by rw [h1]; rfl
    have v1 := ready_iff.1 h1
    have hlen := v1.len
    have hpos := v1.pos
    have hl : l.length ≤ 1000 := by omega
    have ht := pkL_tru v1 hw
    have hT := TB.of v1 ht
    obtain ⟨e1, e2⟩ := re_ok (erC_iff.2 v1) ht
    have cR := Read_pure l hl r (pkL l ws)
    have cp := picked_pure v1 hw hwl
    have cl := list_pure (pkL l ws) (by rw [pkL_len]; exact hl)
    rw [e1, e2] at cR
    unfold resD resL7 at cR
    have htl : (pkL l ws).length = l.length := pkL_len
    generalize pkL l ws = t at *
    have hm2 : ((List.map (fun n => [dI n]) t).length : Int) = (t.length : Int) := by rw [List.length_map]
    obtain ⟨p, p1, p2, p3, p4⟩ := max_spec hT t.length (Nat.le_refl _) (by omega)
    have wl : IntKind.i64.wrap (((List.map (fun n => [dI n]) t).length : Int) - 1) = (t.length : Int) - 1 := by rw [hm2, wrapI (by omega) (by omega)]
    have ci := in_pure (p : Int) 0 (IntKind.i64.wrap (((List.map (fun n => [dI n]) t).length : Int) - 1))
    rw [show inB (p : Int) 0 (IntKind.i64.wrap (((List.map (fun n => [dI n]) t).length : Int) - 1)) = true by rw [wl, inB_iff]; omega] at ci
    have b0 := hT.2 p p2
    generalize hS : maxN t t.length = mx at *
    obtain ⟨mx1, mx2⟩ := mx
    dsimp only at p1 p3 p4 cR
    subst p1
    subst p3
    have hy : fstN (yP t r) t.length < t.length := fstN_lt
    have hm : fstN (mP l r t) t.length < t.length := fstN_lt
    have f1 : (tA t p != tA t p) = false := by rw [bne_eq_false_iff_eq]
    have f2 : decide (fstN (yP t r) t.length ≥ ((List.map (fun n => [dI n]) t).length : Int)) = false := by rw [decide_eq_false_iff_not, hm2]; omega
    have f3 : decide (fstN (mP l r t) t.length ≥ ((List.map (fun n => [dI n]) t).length : Int)) = false := by rw [decide_eq_false_iff_not, hm2]; omega
    have bm : ∀ x : Int, (x != x) = false := fun x => by rw [bne_eq_false_iff_eq]
    have wline : ∀ k, k < l.length → IntKind.i64.wrap (r.2.1 * IntKind.i64.wrap ((pAt l k).1 - r.2.2)) = lineI l r k := fun k hk => by have := line_w v1 hk; rwa [← pAt_eq hk] at this
    have hMM : (fstN (mP l r t) t.length = -1) ∨ (fstN (mP l r t) t.length = 0 ∧ mvN l r t t.length = tA t 0) ∨ (∃ mm : Nat, fstN (mP l r t) t.length = mm ∧ 0 < mm ∧ mm < t.length ∧ mvN l r t t.length = metI l r t mm ∧
        min (tA t (mm - 1)) (tA t mm) ≤ metI l r t mm ∧ metI l r t mm ≤ max (tA t (mm - 1)) (tA t mm) ∧ lineI l r (mm - 1) ≤ metI l r t mm) := by
      rcases fstN_spec (mP l r t) t.length with ⟨hM, _⟩ | ⟨mm, hM, m2, m3, m4⟩
      · exact .inl hM
      · rcases Nat.eq_zero_or_pos mm with h0 | h0
        · subst h0
          exact .inr (.inl ⟨hM, mv_first hM⟩)
        · have := metI_order v1 hT m2 h0 (m4 (mm - 1) (by omega)) m3
          exact .inr (.inr ⟨mm, hM, h0, m2, mv_at hM h0, this⟩)
    rcases fstN_spec (yP t r) t.length with ⟨hY, _⟩ | ⟨ym, hY, y2, y3, _⟩ <;> rcases hMM with hM | ⟨hM, hmv⟩ | ⟨mm, hM, m0, m2, hmv, q1, q2, q3⟩
    all_goals (try have hyv := yv_at hY)
    all_goals (try rw [hyv] at cR)
    all_goals (try rw [hmv] at cR)
    all_goals (rw [hY] at cR f2)
    all_goals (rw [hM] at cR f3)
    all_goals (try have g1 : decide (tA t ym > tA t p) = false := (by have := p4 ym y2; rw [decide_eq_false_iff_not]; omega))
    all_goals (try have g2 := bm (tA t ym))
    all_goals (try have g3 : decide ((ym : Int) ≥ 0) = true := (by rw [decide_eq_true_eq]; omega))
    all_goals (try have g4 := bm (tA t 0))
    all_goals (try have g5 : (((mm : Nat) : Int) == 0) = false := (by rw [beq_eq_false_iff_ne]; omega))
    all_goals (try have g6 : decide (((mm : Nat) : Int) > 0) = true := (by rw [decide_eq_true_eq]; omega))
    all_goals (try have wm : IntKind.i64.wrap ((mm : Int) - 1) = ((mm - 1 : Nat) : Int) := (by rw [wrapI (by omega) (by omega)]; omega))
    all_goals (try have a1 : decide (metI l r t mm < min (tA t (mm - 1)) (tA t mm)) = false := (by rw [decide_eq_false_iff_not]; omega))
    all_goals (try have a2 : decide (metI l r t mm > max (tA t (mm - 1)) (tA t mm)) = false := (by rw [decide_eq_false_iff_not]; omega))
    all_goals (try have a3 : decide (metI l r t mm < IntKind.i64.wrap (r.2.1 * IntKind.i64.wrap ((pAt l (mm - 1)).1 - r.2.2))) = false := (by rw [wline (mm - 1) (by omega), decide_eq_false_iff_not]; omega))
    all_goals (refine pure_of pg Try.func8 (by kernel_rfl) ?_)
    all_goals (conv => whnf)
    all_goals (refine .inl ⟨_, c1, ?_⟩; conv => whnf)
    all_goals (repeat' (first | (apply kT (by with_reducible first | rfl | assumption); conv => whnf) | (apply kF (by with_reducible first | rfl | assumption); conv => whnf) | (apply kT (by decide); conv => whnf) | (apply kF (by decide); conv => whnf) | (apply kB <;> intro _ <;> conv => whnf) | fail))
    all_goals (refine .inl ⟨_, cp, ?_⟩; conv => whnf)
    all_goals (refine .inl ⟨_, curve_pure l hl, ?_⟩; conv => whnf)
    all_goals (refine .inl ⟨_, rule_pure r, ?_⟩; conv => whnf)
    all_goals (refine .inl ⟨_, cl, ?_⟩; conv => whnf)
    all_goals (refine .inl ⟨_, cR, ?_⟩; conv => whnf)
    all_goals (repeat' (first | (apply kT (by with_reducible first | rfl | assumption); conv => whnf) | (apply kF (by with_reducible first | rfl | assumption); conv => whnf) | (apply kT (by decide); conv => whnf) | (apply kF (by decide); conv => whnf) | (apply kB <;> intro _ <;> conv => whnf) | (refine .inl ⟨_, ci, ?_⟩; conv => whnf) | (refine .inl ⟨_, awake_pure, ?_⟩; conv => whnf) | (refine ⟨p, [dI (tA t p)], rfl, geta t p p2, rfl, ?_⟩; conv => whnf) | (refine ⟨ym, [dI (tA t ym)], rfl, geta t ym y2, rfl, ?_⟩; conv => whnf) | (refine ⟨0, [dI (tA t 0)], rfl, geta t 0 (by omega), rfl, ?_⟩; conv => whnf) | (refine ⟨mm - 1, [dI (tA t (mm - 1))], wm, geta t (mm - 1) (by omega), rfl, ?_⟩; conv => whnf) | (refine ⟨mm, [dI (tA t mm)], rfl, geta t mm m2, rfl, ?_⟩; conv => whnf) | (refine ⟨mm - 1, ptD (pAt l (mm - 1)), wm, getpa l (mm - 1) (by omega), rfl, ?_⟩; conv => whnf) | fail))
    all_goals rfl
  · have h1' : (!readyB l r) = true := by simpa using h1
    refine pure_of pg Try.func8 (by kernel_rfl) ?_
    conv => whnf
    (refine .inl ⟨_, c1, ?_⟩; conv => whnf)
    (repeat' (first | (apply kT (by with_reducible first | rfl | assumption); conv => whnf) | (apply kF (by with_reducible first | rfl | assumption); conv => whnf) | (apply kT (by decide); conv => whnf) | (apply kF (by decide); conv => whnf) | (apply kB <;> intro _ <;> conv => whnf) | (refine .inl ⟨_, awake_pure, ?_⟩; conv => whnf) | fail))
    rfl
end Go.Ev.Ytdgjogeddogbdaa
