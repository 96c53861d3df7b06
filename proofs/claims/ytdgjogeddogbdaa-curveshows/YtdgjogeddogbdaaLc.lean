/-
  Contracts of functions, and plain laws, that lead to the statement. Written by an agent.
-/
import Derived.Test.YtdgjogeddogbdaaLb
set_option linter.unusedVariables false
set_option linter.unusedSimpArgs false
namespace Go.Ev.Ytdgjogeddogbdaa
open Go.Proofs
theorem fst_eq_of {P : Nat → Bool} {k m : Nat} (h1 : m < k) (h2 : P m = true) (h3 : ∀ j, j < m → P j = false) : fstN P k = m := by
  rcases fstN_spec P k with ⟨q1, q2⟩ | ⟨m', q1, q2, q3, q4⟩
  · rw [q2 m h1] at h2; cases h2
  · rcases Nat.lt_trichotomy m m' with h | h | h
    · rw [q4 m h] at h2; cases h2
    · rw [q1, h]
    · rw [h3 m' h] at q3; cases q3
theorem fst_no_of {P : Nat → Bool} {k : Nat} (h : ∀ j, j < k → P j = false) : fstN P k = -1 := by
  rcases fstN_spec P k with ⟨q1, q2⟩ | ⟨m', q1, q2, q3, q4⟩
  · exact q1
  · rw [h m' q2] at q3; cases q3
theorem fst_congr {P Q : Nat → Bool} {k : Nat} (h : ∀ j, j < k → P j = Q j) : fstN P k = fstN Q k := by
  rcases fstN_spec Q k with ⟨q1, q2⟩ | ⟨m, q1, q2, q3, q4⟩
  · rw [q1]; exact fst_no_of fun j hj => by rw [h j hj]; exact q2 j hj
  · rw [q1]; exact fst_eq_of q2 (by rw [h m q2]; exact q3) fun j hj => by rw [h j (by omega)]; exact q4 j hj
def laterB (n m : Int) : Bool := decide (n < 0) || (decide (m ≥ 0) && decide (n ≥ m))
theorem later_fst {P Q : Nat → Bool} {k : Nat} (h : ∀ j, P j = true → Q j = true) : laterB (fstN P k) (fstN Q k) = true := by
  unfold laterB
  simp only [Bool.or_eq_true, Bool.and_eq_true, decide_eq_true_eq]
  rcases fstN_spec P k with ⟨q1, q2⟩ | ⟨m, q1, q2, q3, q4⟩
  · omega
  · rcases fstN_spec Q k with ⟨p1, p2⟩ | ⟨m', p1, p2, p3, p4⟩
    · have := p2 m q2; rw [h m q3] at this; cases this
    · right
      rw [q1, p1]
      rcases Nat.lt_or_ge m m' with hlt | hge
      · have := p4 m hlt; rw [h m q3] at this; cases this
      · omega
/-- a greater drop: the yield point is not earlier -/
theorem later_y {t : List Int} {r s : P3} (h : r.1 ≤ s.1) (k : Nat) : laterB (fstN (yP t s) k) (fstN (yP t r) k) = true := by
  refine later_fst fun j hj => ?_
  unfold yP at hj ⊢
  simp only [Bool.and_eq_true, decide_eq_true_eq] at hj ⊢
  exact ⟨hj.1, by omega⟩
theorem lineI_off {l : List P3} {r s : P3} (h1 : s.2.1 = r.2.1) (h0 : 1 ≤ r.2.1) (h : r.2.2 ≤ s.2.2) (i : Nat) : lineI l s i ≤ lineI l r i := by
  unfold lineI
  rw [h1]
  exact Int.mul_le_mul_of_nonneg_left (by omega) (by omega)
/-- a greater offset: the meeting point is not earlier -/
theorem later_m {l : List P3} {t : List Int} {r s : P3} (h1 : s.2.1 = r.2.1) (h0 : 1 ≤ r.2.1) (h : r.2.2 ≤ s.2.2) (k : Nat) : laterB (fstN (mP l s t) k) (fstN (mP l r t) k) = true := by
  refine later_fst fun j hj => ?_
  unfold mP at hj ⊢
  simp only [decide_eq_true_eq] at hj ⊢
  have := lineI_off (l := l) h1 h0 h j
  omega
/-- the word of a place -/
def wdI (ws : List Int) (i : Nat) : Int := if ws.length = 0 then 1 else ws.getD (i % ws.length) 0
/-- a load of a range, by a word -/
def pkI (l : List P3) (ws : List Int) (i : Nat) : Int :=
  if wdI ws i % 3 = 0 then (pAt l i).2.1 else if wdI ws i % 3 = 1 then (pAt l i).2.2 else (pAt l i).2.1 + wdI ws i / 3 % ((pAt l i).2.2 - (pAt l i).2.1 + 1)
def pkL (l : List P3) (ws : List Int) : List Int := (List.range l.length).map (pkI l ws)
theorem pkL_len {l : List P3} {ws : List Int} : (pkL l ws).length = l.length := by simp [pkL]
theorem pkL_at {l : List P3} {ws : List Int} {i : Nat} (h : i < l.length) : tA (pkL l ws) i = pkI l ws i := by unfold tA pkL; simp [h]
theorem pkI_in {l : List P3} {r : P3} (h : VC l r) {ws : List Int} (hw : ∀ x ∈ ws, 0 ≤ x ∧ x ≤ 65535) {i : Nat} (hi : i < l.length) : (pAt l i).2.1 ≤ pkI l ws i ∧ pkI l ws i ≤ (pAt l i).2.2 := by
  have hp := h.pt i hi
  unfold pkI
  split
  · omega
  · split
    · omega
    · have h1 := Int.emod_nonneg (wdI ws i / 3) (b := (pAt l i).2.2 - (pAt l i).2.1 + 1) (by omega)
      have h2 := Int.emod_lt_of_pos (wdI ws i / 3) (b := (pAt l i).2.2 - (pAt l i).2.1 + 1) (by omega)
      omega
theorem pkL_tru {l : List P3} {r : P3} (h : VC l r) {ws : List Int} (hw : ∀ x ∈ ws, 0 ≤ x ∧ x ≤ 65535) : truB l (pkL l ws) = true := by
  refine truB_iff.2 ⟨pkL_len, fun i hi => ?_⟩
  rw [pkL_len] at hi
  have := pkI_in h hw hi
  rw [inB_iff]
  have e : (pkL l ws).getD i 0 = pkI l ws i := pkL_at hi
  rw [e]; exact this
/-! ### the order of what is read -/
theorem max_spec {l : List P3} {t : List Int} (ht : TB l t) : ∀ k, k ≤ t.length → 0 < k → ∃ p : Nat, (maxN t k).2 = p ∧ p < k ∧ (maxN t k).1 = tA t p ∧ ∀ j, j < k → tA t j ≤ (maxN t k).1
  | 0, _, h => by omega
  | k + 1, hk, _ => by
    rcases Nat.eq_zero_or_pos k with h0 | h0
    · subst h0
      have := ht.2 0 (by omega)
      rw [maxN, maxN, if_pos (by omega)]
      exact ⟨0, rfl, by omega, rfl, fun j hj => by have : j = 0 := by omega
                                                   subst this; exact Int.le_refl _⟩
    · obtain ⟨p, h1, h2, h3, h4⟩ := max_spec ht k (by omega) h0
      rw [maxN]
      split
      · rename_i hg
        exact ⟨k, rfl, by omega, rfl, fun j hj => by
          rcases Nat.lt_or_ge j k with h5 | h5
          · have := h4 j h5; dsimp only; omega
          · have : j = k := by omega
            subst this; exact Int.le_refl _⟩
      · exact ⟨p, h1, by omega, h3, fun j hj => by
          rcases Nat.lt_or_ge j k with h5 | h5
          · exact h4 j h5
          · have : j = k := by omega
            subst this; omega⟩
theorem ediv_ge {n b q : Int} (hb : 0 < b) (h : q * b ≤ n) : q ≤ n / b := Int.le_ediv_of_mul_le hb h
theorem ediv_le' {n b q : Int} (hb : 0 < b) (h : n ≤ q * b) : n / b ≤ q := by
  have := Int.ediv_le_ediv hb h
  rwa [Int.mul_ediv_cancel _ (by omega)] at this
theorem metI_order {l : List P3} {r : P3} (h : VC l r) {t : List Int} (ht : TB l t) {i : Nat} (hi : i < t.length) (h0 : 0 < i) (hb : mP l r t (i - 1) = false) (hm : mP l r t i = true) :
    min (tA t (i - 1)) (tA t i) ≤ metI l r t i ∧ metI l r t i ≤ max (tA t (i - 1)) (tA t i) ∧ lineI l r (i - 1) ≤ metI l r t i := by
  have hl := ht.1
  have hup := h.up (i - 1) (by omega)
  rw [Nat.sub_add_cancel h0] at hup
  have hline : lineI l r (i - 1) ≤ lineI l r i := by
    unfold lineI
    exact Int.mul_le_mul_of_nonneg_left (by omega) (by have := h.slope; omega)
  unfold mP at hb hm
  rw [decide_eq_false_iff_not] at hb
  rw [decide_eq_true_eq] at hm
  unfold metI
  generalize tA t (i - 1) = a at *
  generalize tA t i = b at *
  generalize lineI l r (i - 1) = p at *
  generalize lineI l r i = q at *
  have hby : 0 < a - p + (q - b) := by omega
  have hov : 0 < a - p := by omega
  generalize hB : a - p + (q - b) = B at *
  generalize hO : a - p = O at *
  have hOB : O ≤ B := by omega
  rcases Int.le_total a b with hab | hab
  · have k1 : 0 ≤ (b - a) * O / B := ediv_ge hby (by rw [Int.zero_mul]; exact Int.mul_nonneg (by omega) (by omega))
    have k2 : (b - a) * O / B ≤ b - a := ediv_le' hby (Int.mul_le_mul_of_nonneg_left hOB (by omega))
    omega
  · have k1 : (b - a) * O / B ≤ 0 := ediv_le' hby (by
      rw [Int.zero_mul]
      have := Int.mul_nonneg (show 0 ≤ a - b by omega) (show 0 ≤ O by omega)
      have e : (b - a) * O = -((a - b) * O) := by rw [← Int.neg_mul]; congr 1; omega
      omega)
    have k2 : b - a ≤ (b - a) * O / B := ediv_ge hby (by
      have := Int.mul_le_mul_of_nonneg_left hOB (show 0 ≤ a - b by omega)
      have e : (b - a) * O = -((a - b) * O) := by rw [← Int.neg_mul]; congr 1; omega
      have e2 : (b - a) * B = -((a - b) * B) := by rw [← Int.neg_mul]; congr 1; omega
      omega)
    have k3 : -O ≤ (b - a) * O / B := ediv_ge hby (by
      have h1 : (a - b) * O ≤ B * O := Int.mul_le_mul_of_nonneg_right (by omega) (by omega)
      have e : (b - a) * O = -((a - b) * O) := by rw [← Int.neg_mul]; congr 1; omega
      have e2 : -O * B = -(B * O) := by rw [Int.neg_mul, Int.mul_comm]
      omega)
    omega
end Go.Ev.Ytdgjogeddogbdaa

set_option linter.unusedVariables false
set_option linter.unusedSimpArgs false
set_option maxRecDepth 100000
namespace Go.Ev.Ytdgjogeddogbdaa
open Go.Proofs
abbrev dW (w : Int) : D := .v (.int .u16 w)
abbrev wsD (ws : List Int) : D := .seq (ws.map fun w => [dW w])
theorem later_pure (n m : Int) : Pure Try.prog 29 [dI n, dI m] (dB (laterB n m)) := by
  refine pure_of pg Try.func29 (by kernel_rfl) ?_
  conv => whnf
  (repeat' (first | (apply kT (by with_reducible first | rfl | assumption); conv => whnf) | (apply kF (by with_reducible first | rfl | assumption); conv => whnf) | (apply kT (by decide); conv => whnf) | (apply kF (by decide); conv => whnf) | (apply kB <;> intro _ <;> conv => whnf) | fail))
  all_goals (unfold laterB; simp only [*, Bool.true_or, Bool.false_or, Bool.true_and, Bool.false_and]; rfl)
theorem pkI_eq (l : List P3) (ws : List Int) (i : Nat) : pkI l ws i = if wdI ws i % 3 = 0 then (pAt l i).2.1 else if wdI ws i % 3 = 1 then (pAt l i).2.2 else (pAt l i).2.1 + wdI ws i / 3 % ((pAt l i).2.2 - (pAt l i).2.1 + 1) := rfl
theorem wdI_bd {ws : List Int} (hw : ∀ x ∈ ws, 0 ≤ x ∧ x ≤ 65535) (i : Nat) : 0 ≤ wdI ws i ∧ wdI ws i ≤ 65535 := by
  unfold wdI
  split
  · omega
  · rename_i h
    have h1 : i % ws.length < ws.length := Nat.mod_lt _ (by omega)
    rw [List.getD_eq_getElem?_getD, List.getElem?_eq_getElem h1]
    exact hw _ (List.getElem_mem h1)
attribute [local irreducible] Pure Bor Iter inB ptB ruB okL goodB lineI ckC truB maxN fstN yvN mvN wkN metI tA pAt erC pkI wdI
theorem picked_pure {l : List P3} {r : P3} (h : VC l r) {ws : List Int} (hw : ∀ x ∈ ws, 0 ≤ x ∧ x ≤ 65535) (hwl : ws.length ≤ 9223372036854775807) : Pure Try.prog 28 [crD l, wsD ws] (isD (pkL l ws)) := by
  have hm : ((List.map ptD l).length : Int) = (l.length : Int) := by rw [List.length_map]
  have hm2 : ((List.map (fun w => [dW w]) ws).length : Int) = (ws.length : Int) := by rw [List.length_map]
  have hlen := h.len
  refine pure_of_n pg Try.func28 (by kernel_rfl) ?_
  conv => whnf
  refine ⟨[.own 5 3], [1, 2, 5, 6], [0, 1], 2, fun m s => ∃ k : Nat, k + m = l.length ∧ s = ⟨[(1, .d (wsD ws)), (2, .ref 0 0), (5, .own 1), (6, .d (dI (k : Int)))], [(0, .var false 24 [.d (ptsD l)]), (1, .arr 3 (((List.range k).map (pkI l ws)).map fun n => [dI n]))], 2⟩, ?_, ?_⟩
  · conv => whnf
    exact ⟨l.length, 0, by omega, rfl⟩
  · rintro m _ ⟨k, hk, rfl⟩
    by_cases hlt : k < l.length
    · have hc : decide ((k : Int) < ((List.map ptD l).length : Int)) = true := by rw [decide_eq_true_eq, hm]; omega
      have hp := h.pt k hlt
      have hb := wdI_bd hw k
      have pe := pkI_eq l ws k
      have ek := w1 k (by omega)
      have fin : (List.range (k + 1)).map (pkI l ws) = (List.range k).map (pkI l ws) ++ [pkI l ws k] := by rw [List.range_succ, List.map_append]; rfl
      have bd : ((List.map (fun n => [dI n]) (List.map (pkI l ws) (List.range k))).length + [[dI (pkI l ws k)]].length) * 8 ≤ 140737488355328 := by
        simp only [List.length_map, List.length_range, List.length_singleton]; omega
      have cases3 : (wdI ws k % 3 = 0 ∧ (wdI ws k).tmod 3 = 0) ∨ (wdI ws k % 3 = 1 ∧ (wdI ws k).tmod 3 = 1) ∨ (wdI ws k % 3 = 2 ∧ (wdI ws k).tmod 3 = 2) := by
        rw [Int.tmod_eq_emod_of_nonneg hb.1]; omega
      have eN : IntKind.i64.wrap ((pAt l k).2.1 + (IntKind.i64.wrap ((wdI ws k).tdiv 3)).tmod (IntKind.i64.wrap (IntKind.i64.wrap ((pAt l k).2.2 - (pAt l k).2.1) + 1))) = (pAt l k).2.1 + wdI ws k / 3 % ((pAt l k).2.2 - (pAt l k).2.1 + 1) := by
        rw [wrapI (n := (pAt l k).2.2 - (pAt l k).2.1) (by omega) (by omega), wrapI (n := (pAt l k).2.2 - (pAt l k).2.1 + 1) (by omega) (by omega), Int.tdiv_eq_ediv_of_nonneg hb.1, wrapI (n := wdI ws k / 3) (by omega) (by omega),
          Int.tmod_eq_emod_of_nonneg (by omega)]
        have h1 := Int.emod_nonneg (wdI ws k / 3) (b := (pAt l k).2.2 - (pAt l k).2.1 + 1) (by omega)
        have h2 := Int.emod_lt_of_pos (wdI ws k / 3) (b := (pAt l k).2.2 - (pAt l k).2.1 + 1) (by omega)
        exact wrapI (by omega) (by omega)
      have nz : IntKind.i64.wrap (IntKind.i64.wrap ((pAt l k).2.2 - (pAt l k).2.1) + 1) ≠ 0 := by
        rw [wrapI (n := (pAt l k).2.2 - (pAt l k).2.1) (by omega) (by omega), wrapI (n := (pAt l k).2.2 - (pAt l k).2.1 + 1) (by omega) (by omega)]; omega
      by_cases hz : ws.length = 0
      · have hz' : decide (((List.map (fun w => [dW w]) ws).length : Int) > 0) = false := by rw [decide_eq_false_iff_not, hm2]; omega
        have hwd : wdI ws k = 1 := by unfold wdI; rw [if_pos hz]
        rw [if_neg (by omega), if_pos (by omega)] at pe
        conv => whnf
        (apply kT (hc); conv => whnf)
        (refine ⟨k, ptD (pAt l k), rfl, getpa l k hlt, rfl, ?_⟩; conv => whnf)
        (apply kF (hz'); conv => whnf)
        (refine ⟨by decide, ?_⟩; conv => whnf)
        (refine ⟨nz, ?_⟩; conv => whnf)
        (refine ⟨by decide, ?_⟩; conv => whnf)
        (apply kF (rfl); conv => whnf)
        (apply kT (rfl); conv => whnf)
        (refine ⟨by simp, by simp only [List.length_map, List.length_range, List.length_singleton]; omega, ?_⟩; conv => whnf)
        exact ⟨m - 1, by omega, k + 1, by omega, by rw [ek, fin, List.map_append, pe]; rfl⟩
      · have hz' : decide (((List.map (fun w => [dW w]) ws).length : Int) > 0) = true := by rw [decide_eq_true_eq, hm2]; omega
        have hi : k % ws.length < ws.length := Nat.mod_lt _ (by omega)
        have hwd : (ws.map fun w => [dW w])[k % ws.length]? = some [dW (wdI ws k)] := by
          have : wdI ws k = ws[k % ws.length] := by unfold wdI; rw [if_neg hz, List.getD_eq_getElem?_getD, List.getElem?_eq_getElem hi]; rfl
          rw [this]; simp [hi]
        have ew : IntKind.i64.wrap (wdI ws k) = wdI ws k := wrapI (by omega) (by omega)
        conv => whnf
        (apply kT (hc); conv => whnf)
        (refine ⟨k, ptD (pAt l k), rfl, getpa l k hlt, rfl, ?_⟩; conv => whnf)
        (apply kT (hz'); conv => whnf)
        (refine ⟨by rw [hm2]; omega, ?_⟩; conv => whnf)
        (refine ⟨k % ws.length, [dW (wdI ws k)], by rw [hm2]; rfl, hwd, rfl, ?_⟩; conv => whnf)
        rw [ew]
        (refine ⟨by decide, ?_⟩; conv => whnf)
        (refine ⟨nz, ?_⟩; conv => whnf)
        (refine ⟨by decide, ?_⟩; conv => whnf)
        rcases cases3 with ⟨g1, g2⟩ | ⟨g1, g2⟩ | ⟨g1, g2⟩
        · rw [if_pos g1] at pe
          (apply kT ((by rw [g2]; rfl)); conv => whnf)
          (refine ⟨by simp, by simp only [List.length_map, List.length_range, List.length_singleton]; omega, ?_⟩; conv => whnf)
          exact ⟨m - 1, by omega, k + 1, by omega, by rw [ek, fin, List.map_append, pe]; rfl⟩
        · rw [if_neg (by omega), if_pos g1] at pe
          (apply kF ((by rw [g2]; rfl)); conv => whnf)
          (apply kT ((by rw [g2]; rfl)); conv => whnf)
          (refine ⟨by simp, by simp only [List.length_map, List.length_range, List.length_singleton]; omega, ?_⟩; conv => whnf)
          exact ⟨m - 1, by omega, k + 1, by omega, by rw [ek, fin, List.map_append, pe]; rfl⟩
        · rw [if_neg (by omega), if_neg (by omega)] at pe
          (apply kF ((by rw [g2]; rfl)); conv => whnf)
          (apply kF ((by rw [g2]; rfl)); conv => whnf)
          (refine ⟨by simp, by simp only [List.length_map, List.length_range, List.length_singleton]; omega, ?_⟩; conv => whnf)
          exact ⟨m - 1, by omega, k + 1, by omega, by rw [ek, fin, List.map_append, pe, ← eN]; rfl⟩
    · have hc : decide ((k : Int) < ((List.map ptD l).length : Int)) = false := by rw [decide_eq_false_iff_not, hm]; omega
      have : k = l.length := by omega
      subst this
      conv => whnf
      (apply kF (hc); conv => whnf)
      rfl
end Go.Ev.Ytdgjogeddogbdaa
