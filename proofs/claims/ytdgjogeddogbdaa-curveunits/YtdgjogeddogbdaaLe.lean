/-
  Contracts of functions, and plain laws, that lead to the statement. Written by an agent.
-/
import Derived.Test.YtdgjogeddogbdaaLd
set_option linter.unusedVariables false
set_option linter.unusedSimpArgs false
set_option maxRecDepth 100000
namespace Go.Ev.Ytdgjogeddogbdaa
open Go.Proofs
theorem tru_scale {l : List P3} {t : List Int} {k : Int} (hk : 0 < k) (ht : truB l t = true) : truB (scL k l) (scT k t) = true := by
  obtain ⟨h1, h2⟩ := truB_iff.1 ht
  refine truB_iff.2 ⟨by rw [List.length_map, List.length_map]; exact h1, fun i hi => ?_⟩
  rw [List.length_map] at hi
  have e1 : (scT k t).getD i 0 = k * t.getD i 0 := tA_map i
  have h := h2 i hi
  rw [inB_iff] at h
  rw [e1, pAt_map (by omega), inB_iff]
  exact ⟨(mul_le_iff hk).2 h.1, (mul_le_iff hk).2 h.2⟩
theorem tru_shift {l : List P3} {t : List Int} {n : Int} (ht : truB l t = true) : truB (nL n l) t = true := by
  obtain ⟨h1, h2⟩ := truB_iff.1 ht
  refine truB_iff.2 ⟨by rw [List.length_map]; exact h1, fun i hi => ?_⟩
  rw [pAt_map (by omega)]
  exact h2 i hi
/-- The truth's loads, the first ones multiplied. -/
def kI (k : Int) (t : List Int) (i : Nat) : List Int := (t.take i).map (fun x => k * x) ++ t.drop i
theorem kI_zero {k : Int} {t : List Int} : kI k t 0 = t := by simp [kI]
theorem kI_all {k : Int} {t : List Int} {i : Nat} (h : t.length ≤ i) : kI k t i = scT k t := by simp [kI, List.take_of_length_le h, List.drop_of_length_le h]
theorem kI_len {k : Int} {t : List Int} {i : Nat} : (kI k t i).length = t.length := by simp [kI]; omega
theorem kI_get {k : Int} {t : List Int} {i : Nat} (h : i < t.length) : ((kI k t i).map fun n => [dI n])[i]? = some [dI (tA t i)] := by
  have e : (kI k t i)[i]? = some (tA t i) := by
    unfold kI
    rw [List.getElem?_append_right (by rw [List.length_map]; exact List.length_take_le _ _), List.length_map, List.length_take, Nat.min_eq_left (by omega), Nat.sub_self, List.getElem?_drop, Nat.add_zero, List.getElem?_eq_getElem h, tA_eq h]
  rw [List.getElem?_map, e]; rfl
theorem kI_set {k : Int} {t : List Int} {i : Nat} (h : i < t.length) : ((kI k t i).map fun n => [dI n]).set i [dI (tA t i * k)] = (kI k t (i + 1)).map fun n => [dI n] := by
  have e : (kI k t i).set i (tA t i * k) = kI k t (i + 1) := by
    unfold kI
    have l1 : ((t.take i).map fun x => k * x).length = i := by rw [List.length_map, List.length_take]; omega
    rw [List.drop_eq_getElem_cons h, List.set_append_right _ _ (by omega), l1, Nat.sub_self, List.set_cons_zero, List.take_succ_eq_append_getElem h, List.map_append, List.append_assoc, tA_eq h, Int.mul_comm]
    rfl
  rw [← e, List.map_set]
theorem list_ownU (t : List Int) (ht : t.length ≤ 1000) : Bor tb Try.prog 17 [.d (isD t)] [] 1 (.own 0) [(0, .arr 3 (t.map fun n => [dI n]))] := by
  refine bor_ofO pg Try.func17 (by kernel_rfl) ?_
  conv => whnf
  (refine ⟨by intro el he; obtain ⟨x, _, rfl⟩ := List.mem_map.1 he; rfl, by rw [List.length_map]; show t.length * 8 ≤ _; omega, ?_⟩; conv => whnf)
  refine ⟨[0], ?_⟩
  conv => whnf
  exact ⟨rfl, rfl⟩
theorem is_flat (t : List Int) : ∀ el ∈ t.map (fun n => [dI n]), ∀ d ∈ el, flatD d = true := by
  intro el he d hd
  obtain ⟨x, _, rfl⟩ := List.mem_map.1 he
  rw [List.mem_singleton] at hd
  subst hd; rfl
attribute [local irreducible] Pure Bor Iter inB ptB ruB okL goodB lineI ckC truB maxN fstN yvN mvN wkN metI tA pAt erC pkI wdI reE reD
theorem picked_own {l : List P3} {r : P3} (h : VC l r) {ws : List Int} (hw : ∀ x ∈ ws, 0 ≤ x ∧ x ≤ 65535) (hwl : ws.length ≤ 9223372036854775807) : Bor tb Try.prog 28 [.d (crD l), .d (wsD ws)] [] 2 (.own 1) [(1, .arr 3 ((pkL l ws).map fun n => [dI n]))] := by
  have hm : ((List.map ptD l).length : Int) = (l.length : Int) := by rw [List.length_map]
  have hm2 : ((List.map (fun w => [dW w]) ws).length : Int) = (ws.length : Int) := by rw [List.length_map]
  have hlen := h.len
  refine bor_ofO pg Try.func28 (by kernel_rfl) ?_
  conv => whnf
  refine ⟨[.own 5 3], [1, 2, 5, 6], [0, 1], 2, fun m s => ∃ k : Nat, k + m = l.length ∧ s = ⟨[(1, .d (wsD ws)), (2, .ref 0 0), (5, .own 1), (6, .d (dI (k : Int)))], [(0, .var false 24 [.d (ptsD l)]), (1, .arr 3 (((List.range k).map (pkI l ws)).map fun n => [dI n]))], 2⟩, ?_, ?_⟩
  · conv => whnf
    exact ⟨l.length, 0, by omega, rfl⟩
  · rintro m _ ⟨k, hk, rfl⟩
    by_cases hlt : k < l.length
    · have hc : decide ((k : Int) < ((List.map ptD l).length : Int)) = true := by rw [decide_eq_true_eq, hm]; omega
      have hp := h.pt k hlt
      have hb := wdI_bd hw k
      have pe := pkI_eq l ws k
      have ek := w1 k (by omega)
      have fin : (List.range (k + 1)).map (pkI l ws) = (List.range k).map (pkI l ws) ++ [pkI l ws k] := by rw [List.range_succ, List.map_append]; rfl
      have bd : ((List.map (fun n => [dI n]) (List.map (pkI l ws) (List.range k))).length + [[dI (pkI l ws k)]].length) * 8 ≤ 140737488355328 := by
        simp only [List.length_map, List.length_range, List.length_singleton]; omega
      have cases3 : (wdI ws k % 3 = 0 ∧ (wdI ws k).tmod 3 = 0) ∨ (wdI ws k % 3 = 1 ∧ (wdI ws k).tmod 3 = 1) ∨ (wdI ws k % 3 = 2 ∧ (wdI ws k).tmod 3 = 2) := by
        rw [Int.tmod_eq_emod_of_nonneg hb.1]; omega
      have eN : IntKind.i64.wrap ((pAt l k).2.1 + (IntKind.i64.wrap ((wdI ws k).tdiv 3)).tmod (IntKind.i64.wrap (IntKind.i64.wrap ((pAt l k).2.2 - (pAt l k).2.1) + 1))) = (pAt l k).2.1 + wdI ws k / 3 % ((pAt l k).2.2 - (pAt l k).2.1 + 1) := by
        rw [wrapI (n := (pAt l k).2.2 - (pAt l k).2.1) (by omega) (by omega), wrapI (n := (pAt l k).2.2 - (pAt l k).2.1 + 1) (by omega) (by omega), Int.tdiv_eq_ediv_of_nonneg hb.1, wrapI (n := wdI ws k / 3) (by omega) (by omega),
          Int.tmod_eq_emod_of_nonneg (by omega)]
        have h1 := Int.emod_nonneg (wdI ws k / 3) (b := (pAt l k).2.2 - (pAt l k).2.1 + 1) (by omega)
        have h2 := Int.emod_lt_of_pos (wdI ws k / 3) (b := (pAt l k).2.2 - (pAt l k).2.1 + 1) (by omega)
        exact wrapI (by omega) (by omega)
      have nz : IntKind.i64.wrap (IntKind.i64.wrap ((pAt l k).2.2 - (pAt l k).2.1) + 1) ≠ 0 := by
        rw [wrapI (n := (pAt l k).2.2 - (pAt l k).2.1) (by omega) (by omega), wrapI (n := (pAt l k).2.2 - (pAt l k).2.1 + 1) (by omega) (by omega)]; omega
      by_cases hz : ws.length = 0
      · have hz' : decide (((List.map (fun w => [dW w]) ws).length : Int) > 0) = false := by rw [decide_eq_false_iff_not, hm2]; omega
        have hwd : wdI ws k = 1 := by unfold wdI; rw [if_pos hz]
        rw [if_neg (by omega), if_pos (by omega)] at pe
        conv => whnf
        (apply kT (hc); conv => whnf)
        (refine ⟨k, ptD (pAt l k), rfl, getpa l k hlt, rfl, ?_⟩; conv => whnf)
        (apply kF (hz'); conv => whnf)
        (refine ⟨by decide, ?_⟩; conv => whnf)
        (refine ⟨nz, ?_⟩; conv => whnf)
        (refine ⟨by decide, ?_⟩; conv => whnf)
        (apply kF (rfl); conv => whnf)
        (apply kT (rfl); conv => whnf)
        (refine ⟨by simp, by simp only [List.length_map, List.length_range, List.length_singleton]; omega, ?_⟩; conv => whnf)
        exact ⟨m - 1, by omega, k + 1, by omega, by rw [ek, fin, List.map_append, pe]; rfl⟩
      · have hz' : decide (((List.map (fun w => [dW w]) ws).length : Int) > 0) = true := by rw [decide_eq_true_eq, hm2]; omega
        have hi : k % ws.length < ws.length := Nat.mod_lt _ (by omega)
        have hwd : (ws.map fun w => [dW w])[k % ws.length]? = some [dW (wdI ws k)] := by
          have : wdI ws k = ws[k % ws.length] := by unfold wdI; rw [if_neg hz, List.getD_eq_getElem?_getD, List.getElem?_eq_getElem hi]; rfl
          rw [this]; simp [hi]
        have ew : IntKind.i64.wrap (wdI ws k) = wdI ws k := wrapI (by omega) (by omega)
        conv => whnf
        (apply kT (hc); conv => whnf)
        (refine ⟨k, ptD (pAt l k), rfl, getpa l k hlt, rfl, ?_⟩; conv => whnf)
        (apply kT (hz'); conv => whnf)
        (refine ⟨by rw [hm2]; omega, ?_⟩; conv => whnf)
        (refine ⟨k % ws.length, [dW (wdI ws k)], by rw [hm2]; rfl, hwd, rfl, ?_⟩; conv => whnf)
        rw [ew]
        (refine ⟨by decide, ?_⟩; conv => whnf)
        (refine ⟨nz, ?_⟩; conv => whnf)
        (refine ⟨by decide, ?_⟩; conv => whnf)
        rcases cases3 with ⟨g1, g2⟩ | ⟨g1, g2⟩ | ⟨g1, g2⟩
        · rw [if_pos g1] at pe
          (apply kT ((by rw [g2]; rfl)); conv => whnf)
          (refine ⟨by simp, by simp only [List.length_map, List.length_range, List.length_singleton]; omega, ?_⟩; conv => whnf)
          exact ⟨m - 1, by omega, k + 1, by omega, by rw [ek, fin, List.map_append, pe]; rfl⟩
        · rw [if_neg (by omega), if_pos g1] at pe
          (apply kF ((by rw [g2]; rfl)); conv => whnf)
          (apply kT ((by rw [g2]; rfl)); conv => whnf)
          (refine ⟨by simp, by simp only [List.length_map, List.length_range, List.length_singleton]; omega, ?_⟩; conv => whnf)
          exact ⟨m - 1, by omega, k + 1, by omega, by rw [ek, fin, List.map_append, pe]; rfl⟩
        · rw [if_neg (by omega), if_neg (by omega)] at pe
          (apply kF ((by rw [g2]; rfl)); conv => whnf)
          (apply kF ((by rw [g2]; rfl)); conv => whnf)
          (refine ⟨by simp, by simp only [List.length_map, List.length_range, List.length_singleton]; omega, ?_⟩; conv => whnf)
          exact ⟨m - 1, by omega, k + 1, by omega, by rw [ek, fin, List.map_append, pe, ← eN]; rfl⟩
    · have hc : decide ((k : Int) < ((List.map ptD l).length : Int)) = false := by rw [decide_eq_false_iff_not, hm]; omega
      have : k = l.length := by omega
      subst this
      conv => whnf
      (apply kF (hc); conv => whnf)
      refine ⟨[1], ?_⟩
      conv => whnf
      exact ⟨rfl, rfl⟩
end Go.Ev.Ytdgjogeddogbdaa

set_option linter.unusedVariables false
set_option linter.unusedSimpArgs false
set_option maxRecDepth 100000
namespace Go.Ev.Ytdgjogeddogbdaa
open Go.Proofs
attribute [local irreducible] Pure Bor Iter inB ptB ruB okL goodB lineI ckC truB maxN fstN yvN mvN wkN metI tA pAt erC pkI wdI reE reD pkL kI
set_option maxHeartbeats 4000000 in
theorem units_pure (l : List P3) (r : P3) (ws : List Int) (hw : ∀ x ∈ ws, 0 ≤ x ∧ x ≤ 65535) (hwl : ws.length ≤ 9223372036854775807) (ti by' : Int) (hti : 0 ≤ ti ∧ ti ≤ 255) (hby : 0 ≤ by' ∧ by' ≤ 255) :
    Pure Try.prog 6 [crD l, ruD r, wsD ws, dU ti, dU by'] (dB true) := by
  have c1 := ready_pure l (by omega) r
  by_cases h1 : readyB l r = true
  · have h1' : (!readyB l r) = false := by rw [h1]; rfl
    have v1 := ready_iff.1 h1
    have hlen := v1.len
    have hpos := v1.pos
    have hl' : l.length ≤ 1000 := by omega
    have hm : ((List.map ptD l).length : Int) = (l.length : Int) := by rw [List.length_map]
    obtain ⟨k, hk⟩ : ∃ k, k = 1 + ti % 4 := ⟨_, rfl⟩
    have hk0 : 0 < k := by omega
    have hk4 : k ≤ 4 := by omega
    have wt : IntKind.i64.wrap ti = ti := wrapI (by omega) (by omega)
    have wb : IntKind.i64.wrap by' = by' := wrapI (by omega) (by omega)
    have wk : IntKind.i64.wrap (1 + (IntKind.i64.wrap ti).tmod 4) = k := by
      rw [wt, Int.tmod_eq_emod_of_nonneg hti.1, hk]; exact wrapI (by omega) (by omega)
    have hdr := v1.drop
    have hsl := v1.slope
    have hof := v1.off
    have ht := pkL_tru v1 hw
    have hT := TB.of v1 ht
    have htl : (pkL l ws).length = l.length := pkL_len
    have co := picked_own v1 hw hwl
    have cc := curve_pure l hl'
    have cr := rule_pure r
    have cl := list_ownU (pkL l ws) (by omega)
    have cR := Read_pure l hl' r (pkL l ws)
    obtain ⟨e1, e2⟩ := re_ok (erC_iff.2 v1) ht
    rw [e1, e2] at cR
    have hnl : (nL by' l).length = l.length := List.length_map _
    have hsc : (scL k l).length = l.length := List.length_map _
    have wo : IntKind.i64.wrap (r.2.2 + by') = r.2.2 + by' := wrapI (by omega) (by omega)
    have hk1 : 0 ≤ k * r.1 ∧ k * r.1 ≤ 4 * r.1 := ⟨Int.mul_nonneg (by omega) (by omega), Int.mul_le_mul_of_nonneg_right hk4 (by omega)⟩
    have hk2 : 0 ≤ k * r.2.1 ∧ k * r.2.1 ≤ 4 * r.2.1 := ⟨Int.mul_nonneg (by omega) (by omega), Int.mul_le_mul_of_nonneg_right hk4 (by omega)⟩
    have wd : IntKind.i64.wrap (k * r.1) = k * r.1 := wrapI (by omega) (by omega)
    have wsl : IntKind.i64.wrap (k * r.2.1) = k * r.2.1 := wrapI (by omega) (by omega)
    have cy : Pure Try.prog 27 [crD (nL by' l), .agg [dI r.1, dI r.2.1, dI (IntKind.i64.wrap (r.2.2 + by'))]] (dB (readyB (nL by' l) (nR by' r))) := by rw [wo]; exact ready_pure (nL by' l) (by omega) (nR by' r)
    have cyc := curve_pure (nL by' l) (by omega)
    have cyr : Pure Try.prog 16 [.agg [dI r.1, dI r.2.1, dI (IntKind.i64.wrap (r.2.2 + by'))]] (ruD (nR by' r)) := by rw [wo]; exact rule_pure (nR by' r)
    have cx : Pure Try.prog 27 [crD (scL k l), .agg [dI (IntKind.i64.wrap (k * r.1)), dI (IntKind.i64.wrap (k * r.2.1)), dI r.2.2]] (dB (readyB (scL k l) (scR k r))) := by rw [wd, wsl]; exact ready_pure (scL k l) (by omega) (scR k r)
    have cxc := curve_pure (scL k l) (by omega)
    have cxr : Pure Try.prog 16 [.agg [dI (IntKind.i64.wrap (k * r.1)), dI (IntKind.i64.wrap (k * r.2.1)), dI r.2.2]] (ruD (scR k r)) := by rw [wd, wsl]; exact rule_pure (scR k r)
    have cRy : readyB (nL by' l) (nR by' r) = true → Pure Try.prog 15 [crD (nL by' l), ruD (nR by' r), isD (pkL l ws)] (.tup [.agg (resL7 l r (pkL l ws) (pkL l ws).length), dI 0]) := fun hy => by
      have vy := ready_iff.1 hy
      obtain ⟨q1, q2⟩ := re_ok (erC_iff.2 vy) (tru_shift (n := by') ht)
      have := Read_pure (nL by' l) (by omega) (nR by' r) (pkL l ws)
      rw [q1, q2] at this
      unfold resD at this
      rw [res_shift htl] at this
      exact this
    have hpl : 0 < (pkL l ws).length := by omega
    have cRx : readyB (scL k l) (scR k r) = true → Pure Try.prog 15 [crD (scL k l), ruD (scR k r), isD (scT k (pkL l ws))] (.tup [.agg [dI (k * (maxN (pkL l ws) (pkL l ws).length).1), dI (maxN (pkL l ws) (pkL l ws).length).2, dI (fstN (yP (pkL l ws) r) (pkL l ws).length), dI (k * yvN (pkL l ws) r (pkL l ws).length), dI (fstN (mP l r (pkL l ws)) (pkL l ws).length), dI (mvN (scL k l) (scR k r) (scT k (pkL l ws)) (pkL l ws).length), dI (k * wkN l (pkL l ws) (pkL l ws).length)], dI 0]) := fun hx => by
      have vx := ready_iff.1 hx
      obtain ⟨q1, q2⟩ := re_ok (erC_iff.2 vx) (tru_scale hk0 ht)
      have := Read_pure (scL k l) (by omega) (scR k r) (scT k (pkL l ws))
      rw [q1, q2] at this
      unfold resD resL7 at this
      have hmx := max_scale hk0 hT (pkL l ws).length (Nat.le_refl _) hpl
      have hyp : fstN (yP (scT k (pkL l ws)) (scR k r)) (pkL l ws).length = fstN (yP (pkL l ws) r) (pkL l ws).length := fst_congr fun j _ => y_scale hk0 j
      have hmp : fstN (mP (scL k l) (scR k r) (scT k (pkL l ws))) (pkL l ws).length = fstN (mP l r (pkL l ws)) (pkL l ws).length := fst_congr fun j hj => m_scale hk0 (by omega)
      rw [List.length_map, hmx.1, hmx.2, hyp, hmp, yv_scale hk0, wk_scale _ (by omega)] at this
      exact this
    obtain ⟨p, p1, p2, p3, p4⟩ := max_spec hT (pkL l ws).length (Nat.le_refl _) hpl
    have hbp := hT.2 p p2
    have hwb := wkN_bd v1 hT (pkL l ws).length (Nat.le_refl _)
    have hyb : 0 ≤ yvN (pkL l ws) r (pkL l ws).length ∧ yvN (pkL l ws) r (pkL l ws).length ≤ 100000 := by
      rcases fstN_spec (yP (pkL l ws) r) (pkL l ws).length with ⟨q, _⟩ | ⟨mm, q, q2, _⟩
      · unfold yvN; rw [if_pos q]; omega
      · unfold yvN; rw [q, if_neg (by omega), Int.toNat_natCast]; exact hT.2 mm q2
    rw [← p3] at hbp
    unfold resD resL7 at cR
    unfold resL7 at cRy
    have is_fl := is_flat (pkL l ws)
    have hgt : ∀ i, i < (pkL l ws).length → 0 ≤ tA (pkL l ws) i ∧ tA (pkL l ws) i ≤ 100000 := hT.2
    generalize pkL l ws = t at *
    generalize hMX : maxN t t.length = A at *
    obtain ⟨A1, A2⟩ := A
    dsimp only at cR cRy cRx hbp
    generalize fstN (yP t r) t.length = fy at *
    generalize yvN t r t.length = yv at *
    generalize fstN (mP l r t) t.length = fm at *
    generalize mvN l r t t.length = mv1 at *
    generalize mvN (scL k l) (scR k r) (scT k t) t.length = mv2 at *
    generalize wkN l t t.length = wk1 at *
    have mul4 : ∀ x : Int, 0 ≤ x → 0 ≤ k * x ∧ k * x ≤ 4 * x := fun x hx => ⟨Int.mul_nonneg (by omega) hx, Int.mul_le_mul_of_nonneg_right hk4 hx⟩
    have m1 := mul4 A1 hbp.1
    have m2 := mul4 yv hyb.1
    have m3 := mul4 wk1 hwb.1
    have z1 : (k * A1 == IntKind.i64.wrap (k * A1)) = true := by rw [wrapI (by omega) (by omega), beq_iff_eq]
    have z2 : (k * yv == IntKind.i64.wrap (k * yv)) = true := by rw [wrapI (by omega) (by omega), beq_iff_eq]
    have z3 : (k * wk1 == IntKind.i64.wrap (k * wk1)) = true := by rw [wrapI (by omega) (by omega), beq_iff_eq]
    have bb : ∀ x : Int, (x == x) = true := fun x => by rw [beq_iff_eq]
    have z4 := bb A2
    have z7 : (!(A1 == A1 && (A2 == A2 && (fy == fy && (yv == yv && (fm == fm && (mv1 == mv1 && (wk1 == wk1 && true)))))))) = false := by simp
    have z5 := bb fy
    have z6 := bb fm
    refine pure_of pg Try.func6 (by kernel_rfl) ?_
    conv => whnf
    (refine .inl ⟨_, c1, ?_⟩; conv => whnf)
    (repeat' (first | (apply kT (by with_reducible first | rfl | assumption); conv => whnf) | (apply kF (by with_reducible first | rfl | assumption); conv => whnf) | (apply kT (by decide); conv => whnf) | (apply kF (by decide); conv => whnf) | (apply kB <;> intro _ <;> conv => whnf) | fail))
    (refine ⟨by decide, ?_⟩; conv => whnf)
    rw [wk, wb]
    refine ⟨[.cown 2 0 66, .cown 3 0 66], [2, 5, 6, 10, 11, 12, 13, 14, 15], [0, 1, 2, 3, 4, 5], 6, fun m s => ∃ j : Nat, j + m = l.length ∧
      s = ⟨[(2, .d (wsD ws)), (5, .ref 0 0), (6, .ref 1 0), (10, .d (dB false)), (11, .d (dI k)), (12, .d (dI by')), (13, .ref 2 0), (14, .ref 3 0), (15, .d (dI j))],
        [(0, .var false 24 [.d (ptsD l)]), (1, .var false 26 [.d (dI r.1), .d (dI r.2.1), .d (dI r.2.2)]), (2, .var false 24 [.own 4]), (3, .var false 24 [.own 5]), (4, .arr 66 ((scL k (l.take j)).map ptD)), (5, .arr 66 ((nL by' (l.take j)).map ptD))], 6⟩, ?_, ?_⟩
    · conv => whnf
      exact ⟨l.length, 0, by simp, rfl⟩
    · rintro m _ ⟨j, hj, rfl⟩
      conv => whnf
      (apply kB <;> intro h <;> conv => whnf)
      · have hlt : j < l.length := by rw [decide_eq_true_eq, hm] at h; omega
        have htk : (l.take j).length ≤ j := List.length_take_le _ _
        have hp := v1.pt j hlt
        have hkl : 0 ≤ k * (pAt l j).2.1 ∧ k * (pAt l j).2.1 ≤ 4 * (pAt l j).2.1 := ⟨Int.mul_nonneg (by omega) (by omega), Int.mul_le_mul_of_nonneg_right hk4 (by omega)⟩
        have hkh : 0 ≤ k * (pAt l j).2.2 ∧ k * (pAt l j).2.2 ≤ 4 * (pAt l j).2.2 := ⟨Int.mul_nonneg (by omega) (by omega), Int.mul_le_mul_of_nonneg_right hk4 (by omega)⟩
        have u1 : IntKind.i64.wrap (k * (pAt l j).2.1) = k * (pAt l j).2.1 := wrapI (by omega) (by omega)
        have u2 : IntKind.i64.wrap (k * (pAt l j).2.2) = k * (pAt l j).2.2 := wrapI (by omega) (by omega)
        have u3 : IntKind.i64.wrap ((pAt l j).1 + by') = (pAt l j).1 + by' := wrapI (by omega) (by omega)
        have n1 : l.take (j + 1) = l.take j ++ [pAt l j] := by rw [List.take_succ_eq_append_getElem hlt, pAt_eq hlt]
        have b1 : ((List.map ptD (scL k (l.take j))).length + 1) * 24 ≤ 140737488355328 := by simp only [List.length_map]; omega
        have b2 : ((List.map ptD (nL by' (l.take j))).length + 1) * 24 ≤ 140737488355328 := by simp only [List.length_map]; omega
        (refine ⟨j, ptD (pAt l j), rfl, getpa l j hlt, rfl, ?_⟩; conv => whnf)
        (refine ⟨by simp, b1, ?_⟩; conv => whnf)
        (refine ⟨by simp, b2, ?_⟩; conv => whnf)
        refine ⟨m - 1, by omega, j + 1, by omega, ?_⟩
        have s1 : List.map ptD (scL k (l.take (j + 1))) = List.map ptD (scL k (l.take j)) ++ [[dI (pAt l j).1, dI (IntKind.i64.wrap (k * (pAt l j).2.1)), dI (IntKind.i64.wrap (k * (pAt l j).2.2))]] := by
          rw [n1, u1, u2]; simp only [scL, List.map_append]; rfl
        have s2 : List.map ptD (nL by' (l.take (j + 1))) = List.map ptD (nL by' (l.take j)) ++ [[dI (IntKind.i64.wrap ((pAt l j).1 + by')), dI (pAt l j).2.1, dI (pAt l j).2.2]] := by
          rw [n1, u3]; simp only [nL, List.map_append]; rfl
        rw [w1 j (by omega), s1, s2]
      · have : j = l.length := by rw [decide_eq_false_iff_not, hm] at h; omega
        subst this
        rw [List.take_length]
        (refine .inr ⟨[], 2, _, _, co, ?_⟩; conv => whnf)
        (refine .inl ⟨_, cc, ?_⟩; conv => whnf)
        (refine .inl ⟨_, cr, ?_⟩; conv => whnf)
        (refine .inr ⟨[], 1, _, _, cl, ?_⟩; conv => whnf)
        (refine ⟨is_fl, ?_⟩; conv => whnf)
        (refine .inl ⟨_, cR, ?_⟩; conv => whnf)
        (repeat' (first | (apply kT (by with_reducible first | rfl | assumption); conv => whnf) | (apply kF (by with_reducible first | rfl | assumption); conv => whnf) | (apply kT (by decide); conv => whnf) | (apply kF (by decide); conv => whnf) | (apply kB <;> intro _ <;> conv => whnf) | (refine .inl ⟨_, cy, ?_⟩; conv => whnf) | fail))
        · rename_i hy
          have cS := cRy hy
          (refine .inl ⟨_, cyc, ?_⟩; conv => whnf)
          (refine .inl ⟨_, cyr, ?_⟩; conv => whnf)
          (refine .inr ⟨[], 1, _, _, cl, ?_⟩; conv => whnf)
          (refine ⟨is_fl, ?_⟩; conv => whnf)
          (refine .inl ⟨_, cS, ?_⟩; conv => whnf)
          (repeat' (first | (apply kT (by with_reducible first | rfl | assumption); conv => whnf) | (apply kF (by with_reducible first | rfl | assumption); conv => whnf) | (apply kT (by decide); conv => whnf) | (apply kF (by decide); conv => whnf) | (apply kB <;> intro _ <;> conv => whnf) | (refine .inl ⟨_, cx, ?_⟩; conv => whnf) | (refine .inl ⟨_, awake_pure, ?_⟩; conv => whnf) | fail))
          all_goals first | rfl | (exfalso; rename_i hx; rw [z7] at hx; exact Bool.noConfusion hx) | skip
          rename_i hx
          have cT := cRx (by simpa using hx)
          refine ⟨[], [10, 11, 13, 17, 19, 20, 24], [2, 166, 199, 280], 281, fun m s => ∃ i : Nat, i + m = t.length ∧
            s = ⟨[(10, .d (dB false)), (11, .d (dI k)), (13, .ref 2 0), (17, .ref 166 0), (19, .own 199), (20, .ref 280 0), (24, .d (dI i))],
              [(2, .var false 24 [.d (ptsD (scL k l))]), (166, .var false 26 [.d (dI (IntKind.i64.wrap (k * r.1))), .d (dI (IntKind.i64.wrap (k * r.2.1))), .d (dI r.2.2)]), (199, .arr 3 ((kI k t i).map fun n => [dI n])), (280, .var false 37 [.d (dI A1), .d (dI A2), .d (dI fy), .d (dI yv), .d (dI fm), .d (dI mv1), .d (dI wk1)])], 281⟩, ?_, ?_⟩
          · conv => whnf
            exact ⟨t.length, 0, by simp, by rw [kI_zero]; rfl⟩
          · rintro m' _ ⟨i, hi, rfl⟩
            conv => whnf
            (apply kB <;> intro h <;> conv => whnf)
            · have hlt : i < t.length := by rw [decide_eq_true_eq, List.length_map, kI_len] at h; omega
              have hgi := hgt i hlt
              have mi := mul4 (tA t i) hgi.1
              have ui : IntKind.i64.wrap (tA t i * k) = tA t i * k := by rw [Int.mul_comm]; exact wrapI (by omega) (by omega)
              (refine ⟨i, rfl, by rw [List.length_map, kI_len]; exact hlt, ?_⟩; conv => whnf)
              (refine ⟨[dI (tA t i)], kI_get hlt, ?_⟩; conv => whnf)
              (refine ⟨dI (tA t i), rfl, ?_⟩; conv => whnf)
              (refine ⟨i, rfl, by rw [List.length_map, kI_len]; exact hlt, ?_⟩; conv => whnf)
              (refine ⟨[dI (tA t i)], kI_get hlt, ?_⟩; conv => whnf)
              (refine ⟨rfl, Nat.le_refl _, (kI k t (i + 1)).map fun n => [dI n], by rw [ui]; exact kI_set (k := k) hlt, ?_⟩; conv => whnf)
              refine ⟨m' - 1, by omega, i + 1, by omega, ?_⟩
              rw [w1 i (by omega)]
            · have : i = t.length := by rw [decide_eq_false_iff_not, List.length_map, kI_len] at h; omega
              subst this
              rw [kI_all (Nat.le_refl _)]
              (refine .inl ⟨_, cxc, ?_⟩; conv => whnf)
              (refine .inl ⟨_, cxr, ?_⟩; conv => whnf)
              (refine .inl ⟨_, cT, ?_⟩; conv => whnf)
              (repeat' (first | (apply kT (by with_reducible first | rfl | assumption); conv => whnf) | (apply kF (by with_reducible first | rfl | assumption); conv => whnf) | (apply kT (by decide); conv => whnf) | (apply kF (by decide); conv => whnf) | (apply kB <;> intro _ <;> conv => whnf) | (refine .inl ⟨_, awake_pure, ?_⟩; conv => whnf) | fail))
              all_goals rfl
        · (repeat' (first | (apply kT (by with_reducible first | rfl | assumption); conv => whnf) | (apply kF (by with_reducible first | rfl | assumption); conv => whnf) | (apply kT (by decide); conv => whnf) | (apply kF (by decide); conv => whnf) | (apply kB <;> intro _ <;> conv => whnf) | (refine .inl ⟨_, cx, ?_⟩; conv => whnf) | (refine .inl ⟨_, awake_pure, ?_⟩; conv => whnf) | fail))
          all_goals first | rfl | (exfalso; rename_i hx; rw [z7] at hx; exact Bool.noConfusion hx) | skip
          rename_i hx
          have cT := cRx (by simpa using hx)
          refine ⟨[], [10, 11, 13, 17, 19, 20, 24], [2, 166, 199, 280], 281, fun m s => ∃ i : Nat, i + m = t.length ∧
            s = ⟨[(10, .d (dB false)), (11, .d (dI k)), (13, .ref 2 0), (17, .ref 166 0), (19, .own 199), (20, .ref 280 0), (24, .d (dI i))],
              [(2, .var false 24 [.d (ptsD (scL k l))]), (166, .var false 26 [.d (dI (IntKind.i64.wrap (k * r.1))), .d (dI (IntKind.i64.wrap (k * r.2.1))), .d (dI r.2.2)]), (199, .arr 3 ((kI k t i).map fun n => [dI n])), (280, .var false 37 [.d (dI A1), .d (dI A2), .d (dI fy), .d (dI yv), .d (dI fm), .d (dI mv1), .d (dI wk1)])], 281⟩, ?_, ?_⟩
          · conv => whnf
            exact ⟨t.length, 0, by simp, by rw [kI_zero]; rfl⟩
          · rintro m' _ ⟨i, hi, rfl⟩
            conv => whnf
            (apply kB <;> intro h <;> conv => whnf)
            · have hlt : i < t.length := by rw [decide_eq_true_eq, List.length_map, kI_len] at h; omega
              have hgi := hgt i hlt
              have mi := mul4 (tA t i) hgi.1
              have ui : IntKind.i64.wrap (tA t i * k) = tA t i * k := by rw [Int.mul_comm]; exact wrapI (by omega) (by omega)
              (refine ⟨i, rfl, by rw [List.length_map, kI_len]; exact hlt, ?_⟩; conv => whnf)
              (refine ⟨[dI (tA t i)], kI_get hlt, ?_⟩; conv => whnf)
              (refine ⟨dI (tA t i), rfl, ?_⟩; conv => whnf)
              (refine ⟨i, rfl, by rw [List.length_map, kI_len]; exact hlt, ?_⟩; conv => whnf)
              (refine ⟨[dI (tA t i)], kI_get hlt, ?_⟩; conv => whnf)
              (refine ⟨rfl, Nat.le_refl _, (kI k t (i + 1)).map fun n => [dI n], by rw [ui]; exact kI_set (k := k) hlt, ?_⟩; conv => whnf)
              refine ⟨m' - 1, by omega, i + 1, by omega, ?_⟩
              rw [w1 i (by omega)]
            · have : i = t.length := by rw [decide_eq_false_iff_not, List.length_map, kI_len] at h; omega
              subst this
              rw [kI_all (Nat.le_refl _)]
              (refine .inl ⟨_, cxc, ?_⟩; conv => whnf)
              (refine .inl ⟨_, cxr, ?_⟩; conv => whnf)
              (refine .inl ⟨_, cT, ?_⟩; conv => whnf)
              (repeat' (first | (apply kT (by with_reducible first | rfl | assumption); conv => whnf) | (apply kF (by with_reducible first | rfl | assumption); conv => whnf) | (apply kT (by decide); conv => whnf) | (apply kF (by decide); conv => whnf) | (apply kB <;> intro _ <;> conv => whnf) | (refine .inl ⟨_, awake_pure, ?_⟩; conv => whnf) | fail))
              all_goals rfl
  · have h1' : (!readyB l r) = true := by simpa using h1
    refine pure_of pg Try.func6 (by kernel_rfl) ?_
    conv => whnf
    (refine .inl ⟨_, c1, ?_⟩; conv => whnf)
    (repeat' (first | (apply kT (by with_reducible first | rfl | assumption); conv => whnf) | (apply kF (by with_reducible first | rfl | assumption); conv => whnf) | (apply kT (by decide); conv => whnf) | (apply kF (by decide); conv => whnf) | (apply kB <;> intro _ <;> conv => whnf) | (refine .inl ⟨_, awake_pure, ?_⟩; conv => whnf) | fail))
    all_goals first | rfl | (exfalso; rename_i hx; first | (rw [h1'] at hx; exact Bool.noConfusion hx) | exact Bool.noConfusion hx)
end Go.Ev.Ytdgjogeddogbdaa
