/-
  Contracts of functions, and plain laws, that lead to the statement. Written by an agent.
-/
import Derived.Test.YtdgjogeddogbdaaLf
set_option linter.unusedVariables false
set_option linter.unusedSimpArgs false
namespace Go.Ev.Ytdgjogeddogbdaa
open Go.Proofs
/-- how many loads a point may have -/
def szI (l : List P3) (i : Nat) : Int := (pAt l i).2.2 - (pAt l i).2.1 + 1
def manyN (l : List P3) : Nat → Int
  | 0 => 1
  | k + 1 => min 10000 (manyN l k * szI l k)
/-- how many truths so many points have, from one on -/
def cntN (l : List P3) : Nat → Nat → Nat
  | _, 0 => 1
  | i, k + 1 => (szI l i).toNat * cntN l (i + 1) k
theorem many_bd {l : List P3} (h : ∀ i, i < l.length → 1 ≤ szI l i) : ∀ k, k ≤ l.length → 1 ≤ manyN l k ∧ manyN l k ≤ 10000
  | 0, _ => by rw [manyN]; omega
  | k + 1, hk => by
    have ih := many_bd h k (by omega)
    have h1 := h k (by omega)
    have := Int.mul_le_mul (show (1 : Int) ≤ manyN l k by omega) h1 (by omega) (by omega)
    rw [manyN]; omega
theorem many_mono {l : List P3} (h : ∀ i, i < l.length → 1 ≤ szI l i) {k : Nat} (hk : k + 1 ≤ l.length) : manyN l k ≤ manyN l (k + 1) := by
  have ih := many_bd h k (by omega)
  have h1 := h k (by omega)
  have := Int.mul_le_mul_of_nonneg_left h1 (show 0 ≤ manyN l k by omega)
  rw [manyN]; omega
theorem cnt_succ {l : List P3} : ∀ k i, cntN l i (k + 1) = cntN l i k * (szI l (i + k)).toNat
  | 0, i => by simp [cntN]
  | k + 1, i => by
    rw [cntN, cnt_succ k (i + 1), cntN, Nat.mul_assoc, show i + 1 + k = i + (k + 1) by omega]
/-- few truths are counted exactly -/
theorem many_cnt {l : List P3} (h : ∀ i, i < l.length → 1 ≤ szI l i) : ∀ k, k ≤ l.length → manyN l k ≤ 800 → manyN l k = (cntN l 0 k : Int)
  | 0, _, _ => rfl
  | k + 1, hk, hm => by
    have h0 := many_mono h hk
    have ih := many_cnt h k (by omega) (by omega)
    have h1 := h k (by omega)
    rw [manyN] at hm ⊢
    rw [cnt_succ, Nat.zero_add, Int.natCast_mul, ← ih, Int.toNat_of_nonneg (by omega)]
    omega
theorem cnt_pos {l : List P3} (h : ∀ i, i < l.length → 1 ≤ szI l i) : ∀ k i, i + k ≤ l.length → 1 ≤ cntN l i k
  | 0, _, _ => by rw [cntN]; exact Nat.le_refl _
  | k + 1, i, hi => by
    rw [cntN]
    have h1 := h i (by omega)
    have h2 := cnt_pos h k (i + 1) (by omega)
    exact Nat.mul_le_mul (show 1 ≤ (szI l i).toNat by omega) h2
theorem cnt_tail {l : List P3} (h : ∀ i, i < l.length → 1 ≤ szI l i) {k i : Nat} (hi : i + (k + 1) ≤ l.length) : cntN l (i + 1) k ≤ cntN l i (k + 1) := by
  rw [cntN]
  have h1 := h i (by omega)
  have := Nat.mul_le_mul_right (cntN l (i + 1) k) (show 1 ≤ (szI l i).toNat by omega)
  omega
/-- the truths that begin so; so many points are left -/
def trN (l : List P3) : List Int → Nat → List (List Int)
  | b, 0 => [b]
  | b, k + 1 => (List.range (szI l b.length).toNat).flatMap fun i : Nat => trN l (b ++ [(pAt l b.length).2.1 + (i : Int)]) k
theorem trN_len {l : List P3} : ∀ (k : Nat) (b : List Int), (trN l b k).length = cntN l b.length k
  | 0, _ => rfl
  | k + 1, b => by
    rw [trN, cntN]
    have : ∀ n, ((List.range n).flatMap fun i : Nat => trN l (b ++ [(pAt l b.length).2.1 + (i : Int)]) k).length = n * cntN l (b.length + 1) k := by
      intro n
      induction n with
      | zero => simp
      | succ n ih =>
        rw [List.range_succ, List.flatMap_append, List.length_append, ih, List.flatMap_singleton, trN_len k, List.length_append, List.length_singleton, Nat.succ_mul]
    exact this _
theorem trN_mem {l : List P3} : ∀ (k : Nat) (b t : List Int), t ∈ trN l b k ↔ ∃ s : List Int, t = b ++ s ∧ s.length = k ∧ ∀ j, j < k → (pAt l (b.length + j)).2.1 ≤ s.getD j 0 ∧ s.getD j 0 ≤ (pAt l (b.length + j)).2.2
  | 0, b, t => by
    rw [trN, List.mem_singleton]
    constructor
    · rintro rfl; exact ⟨[], by simp, rfl, fun j hj => by omega⟩
    · rintro ⟨s, rfl, hs, _⟩
      rw [List.length_eq_zero_iff.1 hs, List.append_nil]
  | k + 1, b, t => by
    rw [trN, List.mem_flatMap]
    constructor
    · rintro ⟨i, hi, h⟩
      rw [List.mem_range] at hi
      obtain ⟨s, rfl, hs, hb⟩ := (trN_mem k _ _).1 h
      refine ⟨((pAt l b.length).2.1 + (i : Int)) :: s, by simp, by simp [hs], fun j hj => ?_⟩
      rcases j with _ | j
      · simp only [List.getD_cons_zero, Nat.add_zero]
        unfold szI at hi
        omega
      · have := hb j (by omega)
        rw [List.length_append, List.length_singleton] at this
        rw [List.getD_cons_succ, show b.length + (j + 1) = b.length + 1 + j by omega]
        exact this
    · rintro ⟨s, rfl, hs, hb⟩
      cases s with
      | nil => cases hs
      | cons a s =>
        have h0 := hb 0 (by omega)
        simp only [List.getD_cons_zero, Nat.add_zero] at h0
        refine ⟨(a - (pAt l b.length).2.1).toNat, List.mem_range.2 (by unfold szI; omega), (trN_mem k _ _).2 ⟨s, ?_, by simpa using hs, fun j hj => ?_⟩⟩
        · rw [Int.toNat_of_nonneg (by omega), show (pAt l b.length).2.1 + (a - (pAt l b.length).2.1) = a by omega]; simp
        · have := hb (j + 1) (by omega)
          rw [List.getD_cons_succ, show b.length + (j + 1) = b.length + 1 + j by omega] at this
          rw [List.length_append, List.length_singleton]
          exact this
theorem tr_all {l : List P3} {t : List Int} : t ∈ trN l [] l.length ↔ truB l t = true := by
  rw [trN_mem, truB_iff]
  constructor
  · rintro ⟨s, rfl, hs, hb⟩
    refine ⟨by simpa using hs, fun i hi => ?_⟩
    rw [inB_iff]
    have := hb i (by omega)
    simpa using this
  · rintro ⟨h1, h2⟩
    refine ⟨t, rfl, h1, fun j hj => ?_⟩
    have := h2 j (by omega)
    rw [inB_iff] at this
    simpa using this
/-! ### the span of all truths -/
/-- the least and the greatest of what is named, of the first truths -/
def spK (kind : Nat) (l : List P3) (r : P3) (ts : List (List Int)) : Nat → Bool × Int × Int
  | 0 => (false, 0, 0)
  | k + 1 => match ts[k]? with
    | some t => if hasT kind l r t = true then
        (true, min (if (spK kind l r ts k).1 = true then (spK kind l r ts k).2.1 else (resQ kind l r t).1) (resQ kind l r t).1,
          max (if (spK kind l r ts k).1 = true then (spK kind l r ts k).2.2 else (resQ kind l r t).1) (resQ kind l r t).1)
      else spK kind l r ts k
    | none => spK kind l r ts k
theorem spK_succ {kind : Nat} {l : List P3} {r : P3} {ts : List (List Int)} {k : Nat} {t : List Int} (h : ts[k]? = some t) : spK kind l r ts (k + 1) = if hasT kind l r t = true then
        (true, min (if (spK kind l r ts k).1 = true then (spK kind l r ts k).2.1 else (resQ kind l r t).1) (resQ kind l r t).1,
          max (if (spK kind l r ts k).1 = true then (spK kind l r ts k).2.2 else (resQ kind l r t).1) (resQ kind l r t).1)
      else spK kind l r ts k := by rw [spK, h]
theorem spK_spec {kind : Nat} {l : List P3} {r : P3} {ts : List (List Int)} : ∀ k, k ≤ ts.length →
    ((spK kind l r ts k).1 = false ∧ (spK kind l r ts k).2 = (0, 0) ∧ ∀ i t, i < k → ts[i]? = some t → hasT kind l r t = false) ∨
    ((spK kind l r ts k).1 = true ∧ (∃ t ∈ ts, hasT kind l r t = true ∧ (spK kind l r ts k).2.1 = (resQ kind l r t).1) ∧ (∃ t ∈ ts, hasT kind l r t = true ∧ (spK kind l r ts k).2.2 = (resQ kind l r t).1) ∧
      ∀ i t, i < k → ts[i]? = some t → hasT kind l r t = true → (spK kind l r ts k).2.1 ≤ (resQ kind l r t).1 ∧ (resQ kind l r t).1 ≤ (spK kind l r ts k).2.2)
  | 0, _ => .inl ⟨rfl, rfl, fun i t hi => by omega⟩
  | k + 1, hk => by
    have ht : ts[k]? = some ts[k] := List.getElem?_eq_getElem (by omega)
    rw [spK_succ ht]
    have hmem : ts[k] ∈ ts := List.getElem_mem _
    generalize ts[k] = u at *
    have ih := spK_spec (kind := kind) (l := l) (r := r) (ts := ts) k (by omega)
    generalize spK kind l r ts k = c at *
    obtain ⟨c1, c2, c3⟩ := c
    dsimp only at ih ⊢
    by_cases hu : hasT kind l r u = true
    · rw [if_pos hu]
      refine .inr ⟨rfl, ?_⟩
      dsimp only
      rcases ih with ⟨rfl, _, q⟩ | ⟨rfl, ⟨t1, a1, a2, a3⟩, ⟨t2, b1, b2, b3⟩, q⟩
      · rw [if_neg (by decide), if_neg (by decide), Int.min_self, Int.max_self]
        refine ⟨⟨u, hmem, hu, rfl⟩, ⟨u, hmem, hu, rfl⟩, fun i t hi hie hh => ?_⟩
        rcases Nat.lt_or_ge i k with p | p
        · rw [q i t p hie] at hh; cases hh
        · have : i = k := by omega
          subst this
          rw [ht] at hie; cases hie
          omega
      · rw [if_pos rfl, if_pos rfl]
        refine ⟨?_, ?_, fun i t hi hie hh => ?_⟩
        · rcases Int.le_total c2 (resQ kind l r u).1 with p | p
          · exact ⟨t1, a1, a2, by omega⟩
          · exact ⟨u, hmem, hu, by omega⟩
        · rcases Int.le_total c3 (resQ kind l r u).1 with p | p
          · exact ⟨u, hmem, hu, by omega⟩
          · exact ⟨t2, b1, b2, by omega⟩
        · rcases Nat.lt_or_ge i k with p | p
          · have := q i t p hie hh
            omega
          · have : i = k := by omega
            subst this
            rw [ht] at hie; cases hie
            omega
    · rw [if_neg hu]
      rcases ih with ⟨h1, h2, q⟩ | ⟨h1, h2, h3, q⟩
      · refine .inl ⟨h1, h2, fun i t hi hie => ?_⟩
        rcases Nat.lt_or_ge i k with p | p
        · exact q i t p hie
        · have : i = k := by omega
          subst this
          rw [ht] at hie; cases hie
          simpa using hu
      · refine .inr ⟨h1, h2, h3, fun i t hi hie hh => ?_⟩
        rcases Nat.lt_or_ge i k with p | p
        · exact q i t p hie hh
        · have : i = k := by omega
          subst this
          rw [ht] at hie; cases hie
          exact absurd hh hu
theorem num_of {kind : Nat} {l : List P3} {r : P3} {t : List Int} (h : t.length = l.length) : numQ kind l r (tA t) = (resQ kind l r t).1 := by
  have e : numQ kind l r (tA t) = (resQ kind l r (lsI l.length (tA t))).1 := by unfold numQ; rfl
  rw [e, lsI_tA h]
/-- the document's span is that of the truths that are handed over -/
theorem span_all {l : List P3} {r : P3} (h : VC l r) {kind : Nat} (hk : kind < 4) :
    spK kind l r (trN l [] l.length) (trN l [] l.length).length = if 0 < (emK kind l r).length then (true, numQ kind l r (endsF kind l r).1, numQ kind l r (endsF kind l r).2) else (false, 0, 0) := by
  have key := spK_spec (kind := kind) (l := l) (r := r) (ts := trN l [] l.length) _ (Nat.le_refl _)
  have good : ∀ t ∈ trN l [] l.length, hasT kind l r t = true → Good kind l r (tA t) ∧ t.length = l.length := fun t ht hh => by
    have h1 := tr_all.1 ht
    have h2 := (truB_iff.1 h1).1
    exact ⟨⟨bx_of h1, by rw [lsI_tA h2]; exact hh⟩, h2⟩
  by_cases hn : 0 < (emK kind l r).length
  · rw [if_pos hn]
    obtain ⟨g1, g2, g3⟩ := span_law h hk hn
    have m1 := tr_all.2 (bx_tru g1.1)
    have m2 := tr_all.2 (bx_tru g2.1)
    obtain ⟨i1, j1, k1⟩ := List.mem_iff_getElem.1 m1
    obtain ⟨i2, j2, k2⟩ := List.mem_iff_getElem.1 m2
    rcases key with ⟨_, _, q⟩ | ⟨q0, ⟨t1, a1, a2, a3⟩, ⟨t2, b1, b2, b3⟩, q⟩
    · have := q i1 _ j1 (by rw [List.getElem?_eq_getElem j1, k1])
      rw [g1.2] at this; cases this
    · have p1 := q i1 _ j1 (by rw [List.getElem?_eq_getElem j1, k1]) g1.2
      have p2 := q i2 _ j2 (by rw [List.getElem?_eq_getElem j2, k2]) g2.2
      obtain ⟨c1, d1⟩ := good t1 a1 a2
      obtain ⟨c2, d2⟩ := good t2 b1 b2
      have p3 := g3 _ c1
      have p4 := g3 _ c2
      rw [num_of d1] at p3
      rw [num_of d2] at p4
      have n1 : numQ kind l r (endsF kind l r).1 = (resQ kind l r (lsI l.length (endsF kind l r).1)).1 := by unfold numQ; rfl
      have n2 : numQ kind l r (endsF kind l r).2 = (resQ kind l r (lsI l.length (endsF kind l r).2)).1 := by unfold numQ; rfl
      generalize spK kind l r (trN l [] l.length) (trN l [] l.length).length = c at *
      obtain ⟨c1, c2, c3⟩ := c
      dsimp only at *
      subst q0
      have e1 : c2 = numQ kind l r (endsF kind l r).1 := by omega
      have e2 : c3 = numQ kind l r (endsF kind l r).2 := by omega
      rw [e1, e2]
  · rw [if_neg hn]
    rcases key with ⟨q1, q2, _⟩ | ⟨_, ⟨t1, a1, a2, _⟩, _⟩
    · generalize spK kind l r (trN l [] l.length) (trN l [] l.length).length = c at *
      obtain ⟨c1, c2⟩ := c
      dsimp only at *
      rw [q1, q2]
    · exact absurd (good t1 a1 a2).1 (span_none h hk (by omega) _)
end Go.Ev.Ytdgjogeddogbdaa

set_option linter.unusedVariables false
set_option linter.unusedSimpArgs false
set_option maxRecDepth 100000
namespace Go.Ev.Ytdgjogeddogbdaa
open Go.Proofs
theorem sz_pos {l : List P3} {r : P3} (h : VC l r) : ∀ i, i < l.length → 1 ≤ szI l i := fun i hi => by have := h.pt i hi; unfold szI; omega
def fewB (l : List P3) : Bool := decide ((l.length : Int) ≤ 25) && (ckC l != 0 || decide (manyN l l.length ≤ 800))
theorem vc_of_ck {l : List P3} (h : ckC l = 0) : VC l (1, 1, 0) := by
  refine erC_iff.1 ?_
  unfold erC
  rw [if_pos h, if_pos (by rfl)]
abbrev tsD (ts : List (List Int)) : D := .seq (ts.map fun t => [isD t])
theorem rhas_pure {kind : Nat} (hk : kind < 4) (l : List P3) (r : P3) (t : List Int) : Pure Try.prog 33 [resD l r t, dU kind] (dB (hasT kind l r t)) := by
  unfold resD resL7
  match kind, hk with
  | 0, _ =>
    refine pure_of pg Try.func33 (by kernel_rfl) ?_
    conv => whnf
    (repeat' (first | (apply kT (by with_reducible first | rfl | assumption); conv => whnf) | (apply kF (by with_reducible first | rfl | assumption); conv => whnf) | (apply kT (by decide); conv => whnf) | (apply kF (by decide); conv => whnf) | (apply kB <;> intro _ <;> conv => whnf) | fail))
    rfl
  | 1, _ =>
    show Pure Try.prog 33 _ (dB (decide (0 ≤ fstN (yP t r) t.length)))
    by_cases h : decide (0 ≤ fstN (yP t r) t.length) = true
    · rw [h]
      have h' : decide (fstN (yP t r) t.length ≥ 0) = true := h
      refine pure_of pg Try.func33 (by kernel_rfl) ?_
      conv => whnf
      (repeat' (first | (apply kT (by with_reducible first | rfl | assumption); conv => whnf) | (apply kF (by with_reducible first | rfl | assumption); conv => whnf) | (apply kT (by decide); conv => whnf) | (apply kF (by decide); conv => whnf) | (apply kB <;> intro _ <;> conv => whnf) | fail))
      rfl
    · have h : decide (0 ≤ fstN (yP t r) t.length) = false := by simpa using h
      rw [h]
      have h' : decide (fstN (yP t r) t.length ≥ 0) = false := h
      refine pure_of pg Try.func33 (by kernel_rfl) ?_
      conv => whnf
      (repeat' (first | (apply kT (by with_reducible first | rfl | assumption); conv => whnf) | (apply kF (by with_reducible first | rfl | assumption); conv => whnf) | (apply kT (by decide); conv => whnf) | (apply kF (by decide); conv => whnf) | (apply kB <;> intro _ <;> conv => whnf) | fail))
      rfl
  | 2, _ =>
    show Pure Try.prog 33 _ (dB (decide (0 ≤ fstN (mP l r t) t.length)))
    by_cases h : decide (0 ≤ fstN (mP l r t) t.length) = true
    · rw [h]
      have h' : decide (fstN (mP l r t) t.length ≥ 0) = true := h
      refine pure_of pg Try.func33 (by kernel_rfl) ?_
      conv => whnf
      (repeat' (first | (apply kT (by with_reducible first | rfl | assumption); conv => whnf) | (apply kF (by with_reducible first | rfl | assumption); conv => whnf) | (apply kT (by decide); conv => whnf) | (apply kF (by decide); conv => whnf) | (apply kB <;> intro _ <;> conv => whnf) | fail))
      all_goals first | rfl | (rw [h']; rfl)
    · have h : decide (0 ≤ fstN (mP l r t) t.length) = false := by simpa using h
      rw [h]
      have h' : decide (fstN (mP l r t) t.length ≥ 0) = false := h
      refine pure_of pg Try.func33 (by kernel_rfl) ?_
      conv => whnf
      (repeat' (first | (apply kT (by with_reducible first | rfl | assumption); conv => whnf) | (apply kF (by with_reducible first | rfl | assumption); conv => whnf) | (apply kT (by decide); conv => whnf) | (apply kF (by decide); conv => whnf) | (apply kB <;> intro _ <;> conv => whnf) | fail))
      all_goals first | rfl | (rw [h']; rfl)
  | 3, _ =>
    refine pure_of pg Try.func33 (by kernel_rfl) ?_
    conv => whnf
    (repeat' (first | (apply kT (by with_reducible first | rfl | assumption); conv => whnf) | (apply kF (by with_reducible first | rfl | assumption); conv => whnf) | (apply kT (by decide); conv => whnf) | (apply kF (by decide); conv => whnf) | (apply kB <;> intro _ <;> conv => whnf) | fail))
    rfl
theorem rnumber_pure {kind : Nat} (hk : kind < 4) (l : List P3) (r : P3) (t : List Int) : Pure Try.prog 34 [resD l r t, dU kind] (dI (resQ kind l r t).1) := by
  unfold resD resL7
  match kind, hk with
  | 0, _ =>
    refine pure_of pg Try.func34 (by kernel_rfl) ?_
    conv => whnf
    (repeat' (first | (apply kT (by with_reducible first | rfl | assumption); conv => whnf) | (apply kF (by with_reducible first | rfl | assumption); conv => whnf) | (apply kT (by decide); conv => whnf) | (apply kF (by decide); conv => whnf) | (apply kB <;> intro _ <;> conv => whnf) | fail))
    rfl
  | 1, _ =>
    refine pure_of pg Try.func34 (by kernel_rfl) ?_
    conv => whnf
    (repeat' (first | (apply kT (by with_reducible first | rfl | assumption); conv => whnf) | (apply kF (by with_reducible first | rfl | assumption); conv => whnf) | (apply kT (by decide); conv => whnf) | (apply kF (by decide); conv => whnf) | (apply kB <;> intro _ <;> conv => whnf) | fail))
    rfl
  | 2, _ =>
    refine pure_of pg Try.func34 (by kernel_rfl) ?_
    conv => whnf
    (repeat' (first | (apply kT (by with_reducible first | rfl | assumption); conv => whnf) | (apply kF (by with_reducible first | rfl | assumption); conv => whnf) | (apply kT (by decide); conv => whnf) | (apply kF (by decide); conv => whnf) | (apply kB <;> intro _ <;> conv => whnf) | fail))
    rfl
  | 3, _ =>
    refine pure_of pg Try.func34 (by kernel_rfl) ?_
    conv => whnf
    (repeat' (first | (apply kT (by with_reducible first | rfl | assumption); conv => whnf) | (apply kF (by with_reducible first | rfl | assumption); conv => whnf) | (apply kT (by decide); conv => whnf) | (apply kF (by decide); conv => whnf) | (apply kB <;> intro _ <;> conv => whnf) | fail))
    rfl
attribute [local irreducible] Pure Bor Iter inB ptB ruB okL goodB lineI ckC truB maxN fstN yvN mvN wkN metI tA pAt erC cF tv lsI resQ qs lstI knL bkN numQ bkF lowF highF mEm mEm1 yEm emK endsN endsF askE hasT
theorem many_pure {l : List P3} {r : P3} (h : VC l r) : Pure Try.prog 46 [crD l] (dI (manyN l l.length)) := by
  have hm : ((List.map ptD l).length : Int) = (l.length : Int) := by rw [List.length_map]
  have hlen := h.len
  refine pure_of pg Try.func46 (by kernel_rfl) ?_
  conv => whnf
  refine ⟨[], [1, 3, 4], [0], 1, fun m s => ∃ k : Nat, k + m = l.length ∧ s = ⟨[(1, .ref 0 0), (3, .d (dI (manyN l k))), (4, .d (dI k))], [(0, .var false 24 [.d (ptsD l)])], 1⟩, ?_, ?_⟩
  · conv => whnf
    exact ⟨l.length, 0, by omega, rfl⟩
  · rintro m _ ⟨k, hk, rfl⟩
    conv => whnf
    (apply kB <;> intro hc <;> conv => whnf)
    · have hlt : k < l.length := by rw [decide_eq_true_eq, hm] at hc; omega
      have hp := h.pt k hlt
      have hb := many_bd (sz_pos h) k (by omega)
      have h1 := sz_pos h k hlt
      have e : min 10000 (IntKind.i64.wrap (manyN l k * IntKind.i64.wrap (IntKind.i64.wrap ((pAt l k).2.2 - (pAt l k).2.1) + 1))) = manyN l (k + 1) := by
        rw [manyN, wrapI (n := (pAt l k).2.2 - (pAt l k).2.1) (by omega) (by omega), wrapI (n := (pAt l k).2.2 - (pAt l k).2.1 + 1) (by omega) (by omega)]
        have h2 : 0 ≤ manyN l k * szI l k := Int.mul_nonneg (by omega) (by omega)
        have h3 : manyN l k * szI l k ≤ 10000 * 100001 := Int.mul_le_mul hb.2 (by unfold szI; omega) (by omega) (by omega)
        unfold szI at h2 h3 ⊢
        rw [wrapI (by omega) (by omega)]
      (refine ⟨k, ptD (pAt l k), rfl, getpa l k hlt, rfl, ?_⟩; conv => whnf)
      (refine ⟨k, ptD (pAt l k), rfl, getpa l k hlt, rfl, ?_⟩; conv => whnf)
      refine ⟨m - 1, by omega, k + 1, by omega, ?_⟩
      rw [w1 k (by omega), ← e]
    · have : k = l.length := by rw [decide_eq_false_iff_not, hm] at hc; omega
      subst this
      rfl
theorem few_pure (l : List P3) (hl : l.length ≤ 1000 ∨ 25 < l.length) : Pure Try.prog 23 [crD l] (dB (fewB l)) := by
  have ct := thin_pure l
  unfold fewB
  by_cases h : decide ((l.length : Int) ≤ 25) = true
  · have hl2 : l.length ≤ 1000 := by rw [decide_eq_true_eq] at h; omega
    have cf := rfault_pure l hl2
    rw [h] at ct ⊢
    by_cases hc : (ckC l != 0) = true
    · rw [hc]
      refine pure_of pg Try.func23 (by kernel_rfl) ?_
      conv => whnf
      (repeat' (first | (apply kT (by with_reducible first | rfl | assumption); conv => whnf) | (apply kF (by with_reducible first | rfl | assumption); conv => whnf) | (apply kT (by decide); conv => whnf) | (apply kF (by decide); conv => whnf) | (apply kB <;> intro _ <;> conv => whnf) | (refine .inl ⟨_, ct, ?_⟩; conv => whnf) | (refine .inl ⟨_, cf, ?_⟩; conv => whnf) | fail))
      rfl
    · have hc : (ckC l != 0) = false := by simpa using hc
      have cm := many_pure (vc_of_ck (by simpa using hc))
      rw [hc]
      refine pure_of pg Try.func23 (by kernel_rfl) ?_
      conv => whnf
      (repeat' (first | (apply kT (by with_reducible first | rfl | assumption); conv => whnf) | (apply kF (by with_reducible first | rfl | assumption); conv => whnf) | (apply kT (by decide); conv => whnf) | (apply kF (by decide); conv => whnf) | (apply kB <;> intro _ <;> conv => whnf) | (refine .inl ⟨_, ct, ?_⟩; conv => whnf) | (refine .inl ⟨_, cf, ?_⟩; conv => whnf) | (refine .inl ⟨_, cm, ?_⟩; conv => whnf) | fail))
      rfl
  · have h : decide ((l.length : Int) ≤ 25) = false := by simpa using h
    rw [h] at ct ⊢
    refine pure_of pg Try.func23 (by kernel_rfl) ?_
    conv => whnf
    (repeat' (first | (apply kT (by with_reducible first | rfl | assumption); conv => whnf) | (apply kF (by with_reducible first | rfl | assumption); conv => whnf) | (apply kT (by decide); conv => whnf) | (apply kF (by decide); conv => whnf) | (apply kB <;> intro _ <;> conv => whnf) | (refine .inl ⟨_, ct, ?_⟩; conv => whnf) | fail))
    rfl
attribute [local irreducible] szI cntN trN manyN
theorem truths_pure {l : List P3} {r : P3} (h : VC l r) (hc : cntN l 0 l.length ≤ 800) : ∀ (k : Nat) (b : List Int), b.length + k = l.length → cntN l b.length k ≤ 800 → Pure Try.prog 26 [crD l, isD b] (tsD (trN l b k))
  | 0, b, hb, _ => by
    have hm : ((List.map ptD l).length : Int) = (l.length : Int) := by rw [List.length_map]
    have hm2 : ((List.map (fun n => [dI n]) b).length : Int) = (b.length : Int) := by rw [List.length_map]
    have e : (((List.map (fun n => [dI n]) b).length : Int) == ((List.map ptD l).length : Int)) = true := by rw [hm, hm2, beq_iff_eq]; omega
    have et : trN l b 0 = [b] := by rw [trN]
    rw [et]
    refine pure_of pg Try.func26 (by kernel_rfl) ?_
    conv => whnf
    (repeat' (first | (apply kT (by with_reducible first | rfl | assumption); conv => whnf) | (apply kF (by with_reducible first | rfl | assumption); conv => whnf) | (apply kT (by decide); conv => whnf) | (apply kF (by decide); conv => whnf) | (apply kB <;> intro _ <;> conv => whnf) | fail))
    rfl
  | k + 1, b, hb, hcb => by
    have hlen := h.len
    have hlt : b.length < l.length := by omega
    have hm : ((List.map ptD l).length : Int) = (l.length : Int) := by rw [List.length_map]
    have hm2 : ((List.map (fun n => [dI n]) b).length : Int) = (b.length : Int) := by rw [List.length_map]
    have e : (((List.map (fun n => [dI n]) b).length : Int) == ((List.map ptD l).length : Int)) = false := by rw [hm, hm2, beq_eq_false_iff_ne]; omega
    have hp := h.pt b.length hlt
    have hsz : szI l b.length = (pAt l b.length).2.2 - (pAt l b.length).2.1 + 1 := by unfold szI; rfl
    have et : trN l b (k + 1) = (List.range (szI l b.length).toNat).flatMap fun i : Nat => trN l (b ++ [(pAt l b.length).2.1 + (i : Int)]) k := by rw [trN]
    have ec : cntN l b.length (k + 1) = (szI l b.length).toNat * cntN l (b.length + 1) k := by rw [cntN]
    have htail := cnt_tail (sz_pos h) (k := k) (i := b.length) (by omega)
    have hlx : ∀ x : Int, (b ++ [x]).length = b.length + 1 := fun x => by rw [List.length_append, List.length_singleton]
    have ih : ∀ x : Int, Pure Try.prog 26 [crD l, .seq (b.map (fun n => [dI n]) ++ [[dI x]])] (tsD (trN l (b ++ [x]) k)) := fun x => by
      have := truths_pure h hc k (b ++ [x]) (by rw [hlx]; omega) (by rw [hlx]; omega)
      unfold isD at this
      rw [List.map_append] at this
      exact this
    have plen : ∀ j, ((List.range j).flatMap fun i : Nat => trN l (b ++ [(pAt l b.length).2.1 + (i : Int)]) k).length = j * cntN l (b.length + 1) k := by
      intro n
      induction n with
      | zero => simp
      | succ n ih => rw [List.range_succ, List.flatMap_append, List.length_append, ih, List.flatMap_singleton, trN_len, hlx, Nat.succ_mul]
    rw [et]
    generalize hlo : (pAt l b.length).2.1 = lo at *
    generalize hhi : (pAt l b.length).2.2 = hi at *
    refine pure_of_n pg Try.func26 (by kernel_rfl) ?_
    conv => whnf
    (repeat' (first | (apply kT (by with_reducible first | rfl | assumption); conv => whnf) | (apply kF (by with_reducible first | rfl | assumption); conv => whnf) | (apply kT (by decide); conv => whnf) | (apply kF (by decide); conv => whnf) | (apply kB <;> intro _ <;> conv => whnf) | fail))
    (refine ⟨b.length, ptD (pAt l b.length), hm2, getpa l b.length hlt, rfl, ?_⟩; conv => whnf)
    rw [hlo, hhi]
    refine ⟨[.own 5 27, .ren [0, 1, 75]], [1, 2, 5, 6, 7], [0, 1, 2], 3, fun m s => ∃ j : Nat, j + m = (szI l b.length).toNat ∧
      s = ⟨[(1, .d (isD b)), (2, .ref 0 0), (5, .own 2), (6, .ref 1 0), (7, .d (dI (lo + j)))], [(0, .var false 24 [.d (ptsD l)]), (1, .var false 54 [.d (dI lo), .d (dI hi)]), (2, .arr 27 (((List.range j).flatMap fun i : Nat => trN l (b ++ [lo + (i : Int)]) k).map fun t => [isD t]))], 3⟩, ?_, ?_⟩
    · conv => whnf
      exact ⟨(szI l b.length).toNat, 0, by omega, by simp⟩
    · rintro m _ ⟨j, hj, rfl⟩
      conv => whnf
      (apply kB <;> intro hx <;> conv => whnf)
      · have hle : lo + (j : Int) ≤ hi := by rw [decide_eq_true_eq] at hx; exact hx
        have hjs : j + 1 ≤ (szI l b.length).toNat := by omega
        have m1 : ∀ el ∈ b.map (fun n => [dI n]), el.length = 1 := by intro el he; obtain ⟨x, _, rfl⟩ := List.mem_map.1 he; rfl
        have m2 : (([] : List (List D)).length + (b.map (fun n => [dI n])).length) * 8 ≤ 140737488355328 := by rw [List.length_map, List.length_nil]; omega
        have m3 : ∀ el ∈ [[dI (lo + (j : Int))]], el.length = 1 := by intro el he; rw [List.mem_singleton] at he; rw [he]; rfl
        have m4 : (([] ++ b.map (fun n => [dI n])).length + [[dI (lo + (j : Int))]].length) * 8 ≤ 140737488355328 := by rw [List.nil_append, List.length_map, List.length_singleton]; omega
        have m5 : ∀ el ∈ (trN l (b ++ [lo + (j : Int)]) k).map (fun t => [isD t]), el.length = 1 := by intro el he; obtain ⟨x, _, rfl⟩ := List.mem_map.1 he; rfl
        have m6 : ((((List.range j).flatMap fun i : Nat => trN l (b ++ [lo + (i : Int)]) k).map fun t => [isD t]).length + ((trN l (b ++ [lo + (j : Int)]) k).map (fun t => [isD t])).length) * 24 ≤ 140737488355328 := by
          rw [List.length_map, List.length_map, plen, trN_len, hlx]
          have := Nat.mul_le_mul_right (cntN l (b.length + 1) k) hjs
          rw [Nat.succ_mul] at this
          omega
        (refine ⟨m1, m2, ?_⟩; conv => whnf)
        (refine ⟨m3, m4, ?_⟩; conv => whnf)
        (refine .inl ⟨_, ih (lo + (j : Int)), ?_⟩; conv => whnf)
        (refine ⟨m5, m6, ?_⟩; conv => whnf)
        refine ⟨m - 1, by omega, j + 1, by omega, ?_⟩
        have ew : IntKind.i64.wrap (lo + (j : Int) + 1) = lo + ((j + 1 : Nat) : Int) := by rw [wrapI (by omega) (by omega)]; omega
        have el : (((List.range (j + 1)).flatMap fun i : Nat => trN l (b ++ [lo + (i : Int)]) k).map fun t => [isD t]) = (((List.range j).flatMap fun i : Nat => trN l (b ++ [lo + (i : Int)]) k).map fun t => [isD t]) ++ (trN l (b ++ [lo + (j : Int)]) k).map fun t => [isD t] := by
          rw [List.range_succ, List.flatMap_append, List.map_append, List.flatMap_singleton]
        rw [ew, el]
        rfl
      · have : j = (szI l b.length).toNat := by rw [decide_eq_false_iff_not] at hx; omega
        subst this
        rfl
attribute [local irreducible] spK
set_option maxHeartbeats 1000000 in
theorem rspan_pure {l : List P3} {r : P3} (h : VC l r) {kind : Nat} (hk : kind < 4) (ts : List (List Int)) (hT : ∀ t ∈ ts, TB l t) (hts : ts.length ≤ 800) :
    Pure Try.prog 25 [crD l, ruD r, dU kind, tsD ts] (.tup [.agg [dI (spK kind l r ts ts.length).2.1, dI (spK kind l r ts ts.length).2.2], dB (spK kind l r ts ts.length).1]) := by
  have hm : ((List.map (fun t => [isD t]) ts).length : Int) = (ts.length : Int) := by rw [List.length_map]
  refine pure_of pg Try.func25 (by kernel_rfl) ?_
  conv => whnf
  refine ⟨[], [2, 3, 4, 5, 8, 10, 11, 12], [0, 1, 2, 3], 4, fun m s => ∃ j : Nat, j + m = ts.length ∧
    s = ⟨[(2, .d (dU kind)), (3, .d (tsD ts)), (4, .ref 0 0), (5, .ref 1 0), (8, .ref 2 0), (10, .ref 3 0), (11, .d (dB (spK kind l r ts j).1)), (12, .d (dI j))],
      [(0, .var false 24 [.d (ptsD l)]), (1, .var false 26 [.d (dI r.1), .d (dI r.2.1), .d (dI r.2.2)]), (2, .var false 54 [.d (dI 0), .d (dI 0)]), (3, .var false 54 [.d (dI (spK kind l r ts j).2.1), .d (dI (spK kind l r ts j).2.2)])], 4⟩, ?_, ?_⟩
  · conv => whnf
    refine ⟨ts.length, 0, by omega, ?_⟩
    have e : spK kind l r ts 0 = (false, 0, 0) := by rw [spK]
    rw [e]
    rfl
  · rintro m _ ⟨j, hj, rfl⟩
    by_cases hlt : j < ts.length
    · have hc : decide ((j : Int) < ((List.map (fun t => [isD t]) ts).length : Int)) = true := by rw [decide_eq_true_eq, hm]; omega
      have hg : ts[j]? = some ts[j] := List.getElem?_eq_getElem hlt
      have hTj := hT _ (List.getElem_mem hlt)
      have es := spK_succ (kind := kind) (l := l) (r := r) hg
      have hge : (ts.map fun t => [isD t])[j]? = some [isD ts[j]] := by rw [List.getElem?_map, hg]; rfl
      generalize ts[j] = t at *
      have c1 := rread_pure h hTj
      have c2 := rhas_pure hk l r t
      have c3 := rnumber_pure hk l r t
      unfold resD resL7 at c1 c2 c3
      generalize hq : (resQ kind l r t).1 = q at *
      generalize spK kind l r ts j = s at *
      obtain ⟨s1, s2, s3⟩ := s
      dsimp only at es ⊢
      by_cases hh : hasT kind l r t = true
      · have hh' : (!hasT kind l r t) = false := by rw [hh]; rfl
        rw [if_pos hh] at es
        cases s1 with
        | false =>
          rw [if_neg (by decide), if_neg (by decide)] at es
          conv => whnf
          (apply kT (hc); conv => whnf)
          (repeat' (first | (apply kT (by with_reducible first | rfl | assumption); conv => whnf) | (apply kF (by with_reducible first | rfl | assumption); conv => whnf) | (apply kT (by decide); conv => whnf) | (apply kF (by decide); conv => whnf) | (apply kB <;> intro _ <;> conv => whnf) | (refine .inl ⟨_, c1, ?_⟩; conv => whnf) | (refine .inl ⟨_, c2, ?_⟩; conv => whnf) | (refine .inl ⟨_, c3, ?_⟩; conv => whnf) | (refine ⟨j, [isD t], rfl, hge, rfl, ?_⟩; conv => whnf) | fail))
          refine ⟨m - 1, by omega, j + 1, by omega, ?_⟩
          rw [w1 j (by omega), es]
        | true =>
          rw [if_pos rfl, if_pos rfl] at es
          conv => whnf
          (apply kT (hc); conv => whnf)
          (repeat' (first | (apply kT (by with_reducible first | rfl | assumption); conv => whnf) | (apply kF (by with_reducible first | rfl | assumption); conv => whnf) | (apply kT (by decide); conv => whnf) | (apply kF (by decide); conv => whnf) | (apply kB <;> intro _ <;> conv => whnf) | (refine .inl ⟨_, c1, ?_⟩; conv => whnf) | (refine .inl ⟨_, c2, ?_⟩; conv => whnf) | (refine .inl ⟨_, c3, ?_⟩; conv => whnf) | (refine ⟨j, [isD t], rfl, hge, rfl, ?_⟩; conv => whnf) | fail))
          refine ⟨m - 1, by omega, j + 1, by omega, ?_⟩
          rw [w1 j (by omega), es]
      · have hh' : (!hasT kind l r t) = true := by simpa using hh
        rw [if_neg hh] at es
        conv => whnf
        (apply kT (hc); conv => whnf)
        (repeat' (first | (apply kT (by with_reducible first | rfl | assumption); conv => whnf) | (apply kF (by with_reducible first | rfl | assumption); conv => whnf) | (apply kT (by decide); conv => whnf) | (apply kF (by decide); conv => whnf) | (apply kB <;> intro _ <;> conv => whnf) | (refine .inl ⟨_, c1, ?_⟩; conv => whnf) | (refine .inl ⟨_, c2, ?_⟩; conv => whnf) | (refine .inl ⟨_, c3, ?_⟩; conv => whnf) | (refine ⟨j, [isD t], rfl, hge, rfl, ?_⟩; conv => whnf) | fail))
        refine ⟨m - 1, by omega, j + 1, by omega, ?_⟩
        rw [w1 j (by omega), es]
    · have hc : decide ((j : Int) < ((List.map (fun t => [isD t]) ts).length : Int)) = false := by rw [decide_eq_false_iff_not, hm]; omega
      have : j = ts.length := by omega
      subst this
      conv => whnf
      (apply kF (hc); conv => whnf)
      rfl
end Go.Ev.Ytdgjogeddogbdaa
