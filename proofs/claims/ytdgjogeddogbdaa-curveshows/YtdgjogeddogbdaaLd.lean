/-
  Contracts of functions, and plain laws, that lead to the statement. Written by an agent.
-/
import Derived.Test.YtdgjogeddogbdaaLc
set_option linter.unusedVariables false
set_option linter.unusedSimpArgs false
namespace Go.Ev.Ytdgjogeddogbdaa
open Go.Proofs
theorem pAt_map {l : List P3} {f : P3 → P3} {i : Nat} (h : i < l.length) : pAt (l.map f) i = f (pAt l i) := by
  rw [pAt_eq (by rw [List.length_map]; exact h), List.getElem_map, pAt_eq h]
theorem tA_map {t : List Int} {k : Int} (i : Nat) : tA (t.map fun x => k * x) i = k * tA t i := by
  unfold tA
  rw [List.getD_eq_getElem?_getD, List.getD_eq_getElem?_getD, List.getElem?_map]
  cases t[i]? with
  | none => simp
  | some v => rfl
/-! ### loads as many times as great -/
abbrev scL (k : Int) (l : List P3) : List P3 := l.map fun p => (p.1, k * p.2.1, k * p.2.2)
abbrev scT (k : Int) (t : List Int) : List Int := t.map fun x => k * x
abbrev scR (k : Int) (r : P3) : P3 := (k * r.1, k * r.2.1, r.2.2)
theorem mul_le_iff {k a b : Int} (hk : 0 < k) : k * a ≤ k * b ↔ a ≤ b := by
  constructor
  · intro h
    rcases Int.lt_or_le b a with h1 | h1
    · have : k * (b + 1) ≤ k * a := Int.mul_le_mul_of_nonneg_left (by omega) (by omega)
      rw [Int.mul_add, Int.mul_one] at this
      omega
    · exact h1
  · exact fun h => Int.mul_le_mul_of_nonneg_left h (by omega)
theorem max_scale {l : List P3} {t : List Int} {k : Int} (hk : 0 < k) (ht : TB l t) : ∀ j, j ≤ t.length → 0 < j → (maxN (scT k t) j).1 = k * (maxN t j).1 ∧ (maxN (scT k t) j).2 = (maxN t j).2
  | 0, _, h => by omega
  | j + 1, hj, _ => by
    rw [maxN, maxN, tA_map]
    rcases Nat.eq_zero_or_pos j with h0 | h0
    · subst h0
      have h1 := ht.2 0 (by omega)
      have h2 : 0 ≤ k * tA t 0 := Int.mul_nonneg (by omega) h1.1
      rw [maxN, maxN]
      rw [if_pos (by dsimp only; omega), if_pos (by dsimp only; omega)]
      exact ⟨rfl, rfl⟩
    · obtain ⟨h1, h2⟩ := max_scale hk ht j (by omega) h0
      rw [h1]
      by_cases hc : tA t j > (maxN t j).1
      · rw [if_pos hc, if_pos (by
          have := (mul_le_iff hk (a := (maxN t j).1 + 1) (b := tA t j)).2 (by omega)
          rw [Int.mul_add, Int.mul_one] at this; omega)]
        exact ⟨rfl, rfl⟩
      · rw [if_neg hc, if_neg (by have := (mul_le_iff hk (a := tA t j) (b := (maxN t j).1)).2 (by omega); omega)]
        exact ⟨h1, h2⟩
theorem y_scale {t : List Int} {r : P3} {k : Int} (hk : 0 < k) (i : Nat) : yP (scT k t) (scR k r) i = yP t r i := by
  unfold yP
  rw [tA_map, tA_map, List.length_map, ← Int.mul_sub]
  congr 1
  rw [decide_eq_decide]
  exact mul_le_iff hk
theorem line_scale {l : List P3} {r : P3} {k : Int} {i : Nat} (hi : i < l.length) : lineI (scL k l) (scR k r) i = k * lineI l r i := by
  unfold lineI
  rw [pAt_map hi, Int.mul_assoc]
theorem m_scale {l : List P3} {t : List Int} {r : P3} {k : Int} (hk : 0 < k) {i : Nat} (hi : i < l.length) : mP (scL k l) (scR k r) (scT k t) i = mP l r t i := by
  unfold mP
  rw [tA_map, line_scale hi, decide_eq_decide]
  exact mul_le_iff hk
theorem yv_scale {t : List Int} {r : P3} {k : Int} (hk : 0 < k) (n : Nat) : yvN (scT k t) (scR k r) n = k * yvN t r n := by
  unfold yvN
  rw [fst_congr (P := yP (scT k t) (scR k r)) (Q := yP t r) fun j _ => y_scale hk j]
  split
  · simp
  · exact tA_map _
theorem wk_scale {l : List P3} {t : List Int} {k : Int} : ∀ j, j ≤ l.length → wkN (scL k l) (scT k t) j = k * wkN l t j
  | 0, _ => by rw [wkN, wkN, Int.mul_zero]
  | j + 1, hj => by
    rw [wkN, wkN]
    split
    · rw [Int.mul_zero]
    · rw [wk_scale j (by omega), tA_map, tA_map, pAt_map (by omega), pAt_map (by omega), Int.mul_add, ← Int.mul_add, Int.mul_assoc]
/-! ### stretches as much greater -/
abbrev nL (n : Int) (l : List P3) : List P3 := l.map fun p => (p.1 + n, p.2.1, p.2.2)
abbrev nR (n : Int) (r : P3) : P3 := (r.1, r.2.1, r.2.2 + n)
theorem line_shift {l : List P3} {r : P3} {n : Int} {i : Nat} (hi : i < l.length) : lineI (nL n l) (nR n r) i = lineI l r i := by
  unfold lineI
  rw [pAt_map hi]
  dsimp only
  congr 1
  omega
theorem m_shift {l : List P3} {t : List Int} {r : P3} {n : Int} {i : Nat} (hi : i < l.length) : mP (nL n l) (nR n r) t i = mP l r t i := by
  unfold mP
  rw [line_shift hi]
theorem wk_shift {l : List P3} {t : List Int} {n : Int} : ∀ j, j ≤ l.length → wkN (nL n l) t j = wkN l t j
  | 0, _ => rfl
  | j + 1, hj => by
    rw [wkN, wkN]
    split
    · rfl
    · rw [wk_shift j (by omega), pAt_map (by omega), pAt_map (by omega)]
      dsimp only
      congr 2
      omega
theorem mv_of {l l' : List P3} {r r' : P3} {t t' : List Int} {n : Nat} (hl : ∀ i, i < n → lineI l' r' i = lineI l r i) (ht : ∀ i, i < n → tA t' i = tA t i) {m : Nat} (hm : m < n) : mv l' r' t' m = mv l r t m := by
  unfold mv
  rw [Int.toNat_natCast]
  split
  · rfl
  · split
    · rename_i h0
      exact ht 0 (by omega)
    · rename_i h1 h0
      have : 0 < m := by
        rcases Nat.eq_zero_or_pos m with h | h
        · subst h; exact absurd rfl h0
        · exact h
      unfold metI
      rw [ht m hm, ht (m - 1) (by omega), hl m hm, hl (m - 1) (by omega)]
theorem res_shift {l : List P3} {t : List Int} {r : P3} {n : Int} (h : t.length = l.length) : resL7 (nL n l) (nR n r) t t.length = resL7 l r t t.length := by
  have hy : yP t (nR n r) = yP t r := rfl
  have hm : fstN (mP (nL n l) (nR n r) t) t.length = fstN (mP l r t) t.length := fst_congr fun j hj => m_shift (by omega)
  unfold resL7 mvN yvN
  rw [hy, hm, wk_shift _ (by omega)]
  have : mv (nL n l) (nR n r) t (fstN (mP l r t) t.length) = mv l r t (fstN (mP l r t) t.length) := by
    rcases fstN_spec (mP l r t) t.length with ⟨q, _⟩ | ⟨m, q, q2, _⟩
    · rw [q]; rfl
    · rw [q]; exact mv_of (n := l.length) (fun i hi => line_shift hi) (fun _ _ => rfl) (by omega)
  rw [this]
/-! ### one more point -/
theorem pAt_app {l : List P3} {x : P3} {i : Nat} (h : i < l.length) : pAt (l ++ [x]) i = pAt l i := by
  unfold pAt; rw [List.getD_eq_getElem?_getD, List.getD_eq_getElem?_getD, List.getElem?_append_left h]
theorem tA_app {t : List Int} {x : Int} {i : Nat} (h : i < t.length) : tA (t ++ [x]) i = tA t i := by
  unfold tA; rw [List.getD_eq_getElem?_getD, List.getD_eq_getElem?_getD, List.getElem?_append_left h]
theorem max_app {t : List Int} {x : Int} : ∀ j, j ≤ t.length → maxN (t ++ [x]) j = maxN t j
  | 0, _ => rfl
  | j + 1, hj => by rw [maxN, maxN, max_app j (by omega), tA_app (by omega)]
theorem max_pull {t : List Int} {x : Int} : (maxN t t.length).1 ≤ (maxN (t ++ [x]) (t.length + 1)).1 ∧ ((maxN (t ++ [x]) (t.length + 1)).2 = (maxN t t.length).2 ∨ (maxN (t ++ [x]) (t.length + 1)).2 = t.length) := by
  rw [maxN, max_app _ (Nat.le_refl _)]
  split
  · exact ⟨by dsimp only; omega, .inr rfl⟩
  · exact ⟨Int.le_refl _, .inl rfl⟩
theorem y_app {t : List Int} {r : P3} {x : Int} {i : Nat} (h : i + 1 < t.length) : yP (t ++ [x]) r i = yP t r i := by
  unfold yP
  rw [tA_app h, tA_app (by omega)]
  simp [h, show i + 1 < t.length + 1 by omega]
theorem y_pull {t : List Int} {r : P3} {x : Int} {m : Nat} (h : fstN (yP t r) t.length = m) : fstN (yP (t ++ [x]) r) (t.length + 1) = m ∧ yvN (t ++ [x]) r (t.length + 1) = yvN t r t.length := by
  rcases fstN_spec (yP t r) t.length with ⟨q, _⟩ | ⟨m', q1, q2, q3, q4⟩
  · omega
  · have : m' = m := by omega
    subst this
    have hm : m' + 1 < t.length := by unfold yP at q3; simp only [Bool.and_eq_true, decide_eq_true_eq] at q3; exact q3.1
    have e : fstN (yP (t ++ [x]) r) (t.length + 1) = m' := fst_eq_of (by omega) (by rw [y_app hm]; exact q3) fun j hj => by rw [y_app (by omega)]; exact q4 j hj
    refine ⟨e, ?_⟩
    unfold yvN
    rw [e, h, if_neg (by omega), if_neg (by omega), Int.toNat_natCast, tA_app (by omega)]
theorem line_app {l : List P3} {r x : P3} {i : Nat} (h : i < l.length) : lineI (l ++ [x]) r i = lineI l r i := by unfold lineI; rw [pAt_app h]
theorem m_app {l : List P3} {t : List Int} {r y : P3} {x : Int} (hl : t.length = l.length) {i : Nat} (h : i < l.length) : mP (l ++ [y]) r (t ++ [x]) i = mP l r t i := by
  unfold mP
  rw [tA_app (by omega), line_app h]
theorem m_pull {l : List P3} {t : List Int} {r y : P3} {x : Int} (hl : t.length = l.length) {m : Nat} (h : fstN (mP l r t) t.length = m) :
    fstN (mP (l ++ [y]) r (t ++ [x])) (t.length + 1) = m ∧ mvN (l ++ [y]) r (t ++ [x]) (t.length + 1) = mvN l r t t.length := by
  rcases fstN_spec (mP l r t) t.length with ⟨q, _⟩ | ⟨m', q1, q2, q3, q4⟩
  · omega
  · have : m' = m := by omega
    subst this
    have e : fstN (mP (l ++ [y]) r (t ++ [x])) (t.length + 1) = m' := fst_eq_of (by omega) (by rw [m_app hl (by omega)]; exact q3) fun j hj => by rw [m_app hl (by omega)]; exact q4 j hj
    refine ⟨e, ?_⟩
    unfold mvN
    rw [e, h]
    exact mv_of (n := l.length) (fun i hi => line_app hi) (fun i hi => tA_app (by omega)) (by omega)
theorem wk_app {l : List P3} {t : List Int} {y : P3} {x : Int} (hl : t.length = l.length) : ∀ j, j ≤ l.length → wkN (l ++ [y]) (t ++ [x]) j = wkN l t j
  | 0, _ => rfl
  | j + 1, hj => by
    rw [wkN, wkN]
    split
    · rfl
    · rw [wk_app hl j (by omega), tA_app (by omega), tA_app (by omega), pAt_app (by omega), pAt_app (by omega)]
end Go.Ev.Ytdgjogeddogbdaa
