/-
  Contracts of functions, and plain laws, that lead to the statement. Written by an agent.
-/
import Derived.Test.YtdgjogeddogbdaaLd
set_option linter.unusedVariables false
set_option linter.unusedSimpArgs false
set_option maxRecDepth 100000
namespace Go.Ev.Ytdgjogeddogbdaa
open Go.Proofs
theorem wk_pull {l : List P3} {t : List Int} {r y : P3} {x : Int} (h : VC (l ++ [y]) r) (ht : TB (l ++ [y]) (t ++ [x])) (hl : t.length = l.length) (h0 : 0 < l.length) : wkN l t t.length ≤ wkN (l ++ [y]) (t ++ [x]) (t.length + 1) := by
  rw [wkN, if_neg (by omega), wk_app hl _ (by omega)]
  have h1 := ht.2 t.length (by simp)
  have h2 := ht.2 (t.length - 1) (by simp; omega)
  have h3 := h.up (t.length - 1) (by simp; omega)
  rw [Nat.sub_add_cancel (by omega)] at h3
  have := Int.mul_nonneg (show 0 ≤ tA (t ++ [x]) (t.length - 1) + tA (t ++ [x]) t.length by omega) (show 0 ≤ (pAt (l ++ [y]) t.length).1 - (pAt (l ++ [y]) (t.length - 1)).1 by omega)
  omega
theorem pAt_last {l : List P3} {y : P3} : pAt (l ++ [y]) l.length = y := by unfold pAt; simp
theorem tA_last {t : List Int} {x : Int} : tA (t ++ [x]) t.length = x := by unfold tA; simp
theorem tru_app {l : List P3} {t : List Int} {y : P3} {x : Int} (ht : truB l t = true) (hx : y.2.1 ≤ x ∧ x ≤ y.2.2) : truB (l ++ [y]) (t ++ [x]) = true := by
  obtain ⟨h1, h2⟩ := truB_iff.1 ht
  refine truB_iff.2 ⟨by simp [h1], fun i hi => ?_⟩
  have hi : i < t.length + 1 := by simpa using hi
  rcases Nat.lt_or_ge i t.length with h3 | h3
  · have e1 : (t ++ [x]).getD i 0 = t.getD i 0 := tA_app h3
    rw [e1, pAt_app (by omega)]
    exact h2 i h3
  · have : i = t.length := by omega
    subst this
    have e1 : (t ++ [x]).getD t.length 0 = x := tA_last
    have e2 : pAt (l ++ [y]) t.length = y := by rw [h1]; exact pAt_last
    rw [e1, e2, inB_iff]; exact hx
theorem list_own (t : List Int) (ht : t.length ≤ 1000) : Bor tb Try.prog 17 [.d (isD t)] [] 1 (.own 0) [(0, .arr 3 (t.map fun n => [dI n]))] := by
  refine bor_ofO pg Try.func17 (by kernel_rfl) ?_
  conv => whnf
  (refine ⟨by intro el he; obtain ⟨x, _, rfl⟩ := List.mem_map.1 he; rfl, by rw [List.length_map]; show t.length * 8 ≤ _; omega, ?_⟩; conv => whnf)
  refine ⟨[0], ?_⟩
  conv => whnf
  exact ⟨rfl, rfl⟩
attribute [local irreducible] Pure Bor Iter inB ptB ruB okL goodB lineI ckC truB maxN fstN yvN mvN wkN metI tA pAt erC pkI wdI reE reD pkL
set_option maxHeartbeats 4000000 in
theorem pulled_pure' (l : List P3) (hl : l.length * 24 ≤ 140737488351232) (r : P3) (ws : List Int) (hw : ∀ x ∈ ws, 0 ≤ x ∧ x ≤ 65535) (hwl : ws.length ≤ 9223372036854775807) (more : P3) (ld : Int) (hld : 0 ≤ ld ∧ ld ≤ 65535) :
    Pure Try.prog 7 [crD l, ruD r, wsD ws, .agg (ptD more), dW ld] (dB true) := by
  have c1 := ready_pure l (by omega) r
  have c2 := ready_pure (l ++ [more]) (by omega) r
  have e4 : crD (l ++ [more]) = .agg [.seq (l.map ptD ++ [ptD more])] := by unfold crD ptsD; rw [List.map_append]; rfl
  rw [e4] at c2
  have m1 : ∀ el ∈ l.map ptD, el.length = 3 := by intro el he; obtain ⟨x, _, rfl⟩ := List.mem_map.1 he; rfl
  have m2 : (([] : List (List D)).length + (l.map ptD).length) * 24 ≤ 140737488355328 := by rw [List.length_map, List.length_nil]; omega
  have m3 : (([] ++ l.map ptD).length + [ptD more].length) * 24 ≤ 140737488355328 := by rw [List.nil_append, List.length_map, List.length_singleton]; omega
  have m4 : ∀ el ∈ [ptD more], el.length = 3 := by intro el he; rw [List.mem_singleton] at he; rw [he]; rfl
  by_cases h1 : readyB l r = true
  · have h1' : (!readyB l r) = false := by rw [h1]; rfl
    by_cases h2 : readyB (l ++ [more]) r = true
    · have h2' : (!readyB (l ++ [more]) r) = false := by rw [h2]; rfl
      have v1 := ready_iff.1 h1
      have v2 := ready_iff.1 h2
      have hlen := v1.len
      have hpos := v1.pos
      have hl' : l.length ≤ 1000 := by omega
      have hxl : (l ++ [more]).length ≤ 1000 := by rw [List.length_append]; simp; omega
      have hpt := v2.pt l.length (by simp)
      rw [pAt_last] at hpt
      have ht := pkL_tru v1 hw
      have hT := TB.of v1 ht
      have htl : (pkL l ws).length = l.length := pkL_len
      have cp := picked_pure v1 hw hwl
      obtain ⟨n, hn⟩ : ∃ n, n = more.2.1 + ld % (more.2.2 - more.2.1 + 1) := ⟨_, rfl⟩
      have hn1 := Int.emod_nonneg ld (b := more.2.2 - more.2.1 + 1) (by omega)
      have hn2 := Int.emod_lt_of_pos ld (b := more.2.2 - more.2.1 + 1) (by omega)
      have eld : IntKind.i64.wrap ld = ld := wrapI (by omega) (by omega)
      have w1 : IntKind.i64.wrap (IntKind.i64.wrap (more.2.2 - more.2.1) + 1) = more.2.2 - more.2.1 + 1 := by
        rw [wrapI (n := more.2.2 - more.2.1) (by omega) (by omega), wrapI (by omega) (by omega)]
      have nz : IntKind.i64.wrap (IntKind.i64.wrap (more.2.2 - more.2.1) + 1) ≠ 0 := by rw [w1]; omega
      have eN : IntKind.i64.wrap (more.2.1 + (IntKind.i64.wrap ld).tmod (IntKind.i64.wrap (IntKind.i64.wrap (more.2.2 - more.2.1) + 1))) = n := by
        rw [w1, eld, Int.tmod_eq_emod_of_nonneg hld.1, hn]
        exact wrapI (by omega) (by omega)
      have hx' := tru_app (x := n) ht (y := more) (by omega)
      have hT' := TB.of v2 hx'
      obtain ⟨e1, e2⟩ := re_ok (erC_iff.2 v1) ht
      obtain ⟨e3, e4'⟩ := re_ok (erC_iff.2 v2) hx'
      have cR := Read_pure l hl' r (pkL l ws)
      have cS := Read_pure (l ++ [more]) hxl r (pkL l ws ++ [n])
      have cl := list_pure (pkL l ws) (by omega)
      have co := list_own (pkL l ws) (by omega)
      have hmx := max_pull (t := pkL l ws) (x := n)
      have hwk := wk_pull v2 hT' htl (by omega)
      have hY : fstN (yP (pkL l ws) r) (pkL l ws).length < 0 ∨ ∃ m : Nat, fstN (yP (pkL l ws) r) (pkL l ws).length = m := by
        rcases fstN_spec (yP (pkL l ws) r) (pkL l ws).length with ⟨q, _⟩ | ⟨m, q, _⟩
        · exact .inl (by omega)
        · exact .inr ⟨m, q⟩
      have hM : fstN (mP l r (pkL l ws)) (pkL l ws).length < 0 ∨ ∃ m : Nat, fstN (mP l r (pkL l ws)) (pkL l ws).length = m := by
        rcases fstN_spec (mP l r (pkL l ws)) (pkL l ws).length with ⟨q, _⟩ | ⟨m, q, _⟩
        · exact .inl (by omega)
        · exact .inr ⟨m, q⟩
      have hY2 : decide (fstN (yP (pkL l ws) r) (pkL l ws).length < 0) = true ∨ (fstN (yP (pkL l ws ++ [n]) r) ((pkL l ws).length + 1) = fstN (yP (pkL l ws) r) (pkL l ws).length ∧ yvN (pkL l ws ++ [n]) r ((pkL l ws).length + 1) = yvN (pkL l ws) r (pkL l ws).length) := by
        rcases hY with q | ⟨m, q⟩
        · exact .inl (decide_eq_true q)
        · rw [q]; exact .inr (y_pull q)
      have hM2 : decide (fstN (mP l r (pkL l ws)) (pkL l ws).length < 0) = true ∨ (fstN (mP (l ++ [more]) r (pkL l ws ++ [n])) ((pkL l ws).length + 1) = fstN (mP l r (pkL l ws)) (pkL l ws).length ∧ mvN (l ++ [more]) r (pkL l ws ++ [n]) ((pkL l ws).length + 1) = mvN l r (pkL l ws) (pkL l ws).length) := by
        rcases hM with q | ⟨m, q⟩
        · exact .inl (decide_eq_true q)
        · rw [q]; exact .inr (m_pull htl q)
      have eA : isD (pkL l ws ++ [n]) = .seq ((pkL l ws).map (fun n => [dI n]) ++ [[dI n]]) := by unfold isD; rw [List.map_append]; rfl
      rw [e1, e2] at cR
      rw [e3, e4', e4] at cS
      unfold resD resL7 at cR cS
      rw [List.length_append, List.length_singleton, eA] at cS
      have hlast : ((List.map ptD l).length : Int) = ((pkL l ws).length : Int) := by rw [List.length_map, htl]
      have bm : ∀ x : Int, (x != x) = false := fun x => by rw [bne_eq_false_iff_eq]
      have bb : ∀ x : Int, (x == x) = true := fun x => by rw [beq_iff_eq]
      have cc := curve_pure l hl'
      have cx := curve_pure (l ++ [more]) hxl
      rw [e4] at cx
      have cr := rule_pure r
      obtain ⟨⟨hs1, hs2⟩, hwk1⟩ := And.intro hmx hwk
      have g1 : decide ((maxN (pkL l ws ++ [n]) ((pkL l ws).length + 1)).1 < (maxN (pkL l ws) (pkL l ws).length).1) = false := by rw [decide_eq_false_iff_not]; omega
      have g2 : decide (wkN (l ++ [more]) (pkL l ws ++ [n]) ((pkL l ws).length + 1) < wkN l (pkL l ws) (pkL l ws).length) = false := by rw [decide_eq_false_iff_not]; omega
      have b8 : ((pkL l ws).map (fun n => [dI n])).length = (pkL l ws).length := List.length_map _
      have q1 : ∀ el ∈ [[dI n]], el.length = 1 := by intro el he; rw [List.mem_singleton] at he; rw [he]; rfl
      have q2 : (((pkL l ws).map (fun n => [dI n])).length + [[dI n]].length) * 8 ≤ 140737488355328 := by rw [b8, List.length_singleton]; omega
      generalize hA : pkL l ws = t at *
      generalize maxN t t.length = A at *
      generalize maxN (t ++ [n]) (t.length + 1) = B at *
      generalize fstN (yP t r) t.length = fy at *
      generalize fstN (yP (t ++ [n]) r) (t.length + 1) = fy' at *
      generalize yvN t r t.length = yv at *
      generalize yvN (t ++ [n]) r (t.length + 1) = yv' at *
      generalize fstN (mP l r t) t.length = fm at *
      generalize fstN (mP (l ++ [more]) r (t ++ [n])) (t.length + 1) = fm' at *
      generalize mvN l r t t.length = mv at *
      generalize mvN (l ++ [more]) r (t ++ [n]) (t.length + 1) = mv' at *
      generalize wkN l t t.length = wk at *
      generalize wkN (l ++ [more]) (t ++ [n]) (t.length + 1) = wk' at *
      obtain ⟨A1, A2⟩ := A
      obtain ⟨B1, B2⟩ := B
      dsimp only at hmx hs1 hs2 g1 cR cS
      refine pure_of pg Try.func7 (by kernel_rfl) ?_
      conv => whnf
      (refine ⟨m1, m2, ?_⟩; conv => whnf)
      (refine ⟨m4, m3, ?_⟩; conv => whnf)
      (refine .inl ⟨_, c1, ?_⟩; conv => whnf)
      (repeat' (first | (apply kT (by with_reducible first | rfl | assumption); conv => whnf) | (apply kF (by with_reducible first | rfl | assumption); conv => whnf) | (apply kT (by decide); conv => whnf) | (apply kF (by decide); conv => whnf) | (apply kB <;> intro _ <;> conv => whnf) | (refine .inl ⟨_, c2, ?_⟩; conv => whnf) | fail))
      (refine .inl ⟨_, cp, ?_⟩; conv => whnf)
      (refine ⟨nz, ?_⟩; conv => whnf)
      rw [eN]
      (refine .inl ⟨_, cc, ?_⟩; conv => whnf)
      (refine .inl ⟨_, cr, ?_⟩; conv => whnf)
      (refine .inl ⟨_, cl, ?_⟩; conv => whnf)
      (refine .inl ⟨_, cR, ?_⟩; conv => whnf)
      (refine .inl ⟨_, cx, ?_⟩; conv => whnf)
      (refine .inl ⟨_, cr, ?_⟩; conv => whnf)
      (refine .inr ⟨[], 1, _, _, co, ?_⟩; conv => whnf)
      (refine ⟨q1, q2, ?_⟩; conv => whnf)
      (refine .inl ⟨_, cS, ?_⟩; conv => whnf)
      have f1 := bm A2
      have f2 := bm ((List.map ptD l).length : Int)
      have f3 := bb fy
      have f4 := bb yv
      have f5 := bb fm
      have f6 := bb mv
      rw [← hlast] at hs2
      rcases hs2 with hs2 | hs2 <;> rcases hY2 with hY2 | ⟨hY2, hY3⟩ <;> rcases hM2 with hM2 | ⟨hM2, hM3⟩
      all_goals (try subst hs2)
      all_goals (try subst hY3)
      all_goals (try subst hM3)
      all_goals (try (subst hY2; skip))
      all_goals (try (subst hM2; skip))
      all_goals (repeat' (first | (apply kT (by with_reducible first | rfl | assumption); conv => whnf) | (apply kF (by with_reducible first | rfl | assumption); conv => whnf) | (apply kT (by decide); conv => whnf) | (apply kF (by decide); conv => whnf) | (apply kB <;> intro _ <;> conv => whnf) | (refine .inl ⟨_, awake_pure, ?_⟩; conv => whnf) | fail))
      all_goals rfl
    · have h2' : (!readyB (l ++ [more]) r) = true := by simpa using h2
      refine pure_of pg Try.func7 (by kernel_rfl) ?_
      conv => whnf
      (refine ⟨m1, m2, ?_⟩; conv => whnf)
      (refine ⟨m4, m3, ?_⟩; conv => whnf)
      (refine .inl ⟨_, c1, ?_⟩; conv => whnf)
      (repeat' (first | (apply kT (by with_reducible first | rfl | assumption); conv => whnf) | (apply kF (by with_reducible first | rfl | assumption); conv => whnf) | (apply kT (by decide); conv => whnf) | (apply kF (by decide); conv => whnf) | (apply kB <;> intro _ <;> conv => whnf) | (refine .inl ⟨_, c2, ?_⟩; conv => whnf) | (refine .inl ⟨_, awake_pure, ?_⟩; conv => whnf) | fail))
      all_goals first | rfl | (exfalso; rename_i hx; first | (rw [h1'] at hx; exact Bool.noConfusion hx) | (rw [h2'] at hx; exact Bool.noConfusion hx) | exact Bool.noConfusion hx)
  · have h1' : (!readyB l r) = true := by simpa using h1
    refine pure_of pg Try.func7 (by kernel_rfl) ?_
    conv => whnf
    (refine ⟨m1, m2, ?_⟩; conv => whnf)
    (refine ⟨m4, m3, ?_⟩; conv => whnf)
    (refine .inl ⟨_, c1, ?_⟩; conv => whnf)
    (repeat' (first | (apply kT (by with_reducible first | rfl | assumption); conv => whnf) | (apply kF (by with_reducible first | rfl | assumption); conv => whnf) | (apply kT (by decide); conv => whnf) | (apply kF (by decide); conv => whnf) | (apply kB <;> intro _ <;> conv => whnf) | (refine .inl ⟨_, awake_pure, ?_⟩; conv => whnf) | fail))
    all_goals first | rfl | (exfalso; rename_i hx; first | (rw [h1'] at hx; exact Bool.noConfusion hx) | exact Bool.noConfusion hx)
end Go.Ev.Ytdgjogeddogbdaa
