/-
  Contracts of functions, and plain laws, that lead to the statement. Written by an agent.
-/
import Derived.Test.YtdgjogeddogbdaaLd
set_option linter.unusedVariables false
set_option linter.unusedSimpArgs false
namespace Go.Ev.Ytdgjogeddogbdaa
open Go.Proofs
/-- in each point's range -/
def BX (l : List P3) (f : Nat → Int) : Prop := ∀ i, i < l.length → lowF l i ≤ f i ∧ f i ≤ highF l i
theorem lsI_tA {l : List P3} {t : List Int} (h : t.length = l.length) : lsI l.length (tA t) = t := by
  apply List.ext_getElem (by rw [lsI_len, h])
  intro i h1 h2
  have := lsI_at (f := tA t) (n := l.length) (i := i) (by omega)
  rw [tA_eq h1, tA_eq h2] at this
  exact this
theorem bx_tru {l : List P3} {f : Nat → Int} (h : BX l f) : truB l (lsI l.length f) = true := by
  refine truB_iff.2 ⟨lsI_len, fun i hi => ?_⟩
  rw [lsI_len] at hi
  have e : (lsI l.length f).getD i 0 = f i := lsI_at hi
  rw [e, inB_iff]
  exact h i hi
theorem bx_of {l : List P3} {t : List Int} (h : truB l t = true) : BX l (tA t) := fun i hi => by
  obtain ⟨h1, h2⟩ := truB_iff.1 h
  have := h2 i (by omega)
  rw [inB_iff] at this
  exact this
def hasT (kind : Nat) (l : List P3) (r : P3) (t : List Int) : Bool :=
  match kind with
  | 1 => decide (0 ≤ fstN (yP t r) t.length)
  | 2 => decide (0 ≤ fstN (mP l r t) t.length)
  | _ => true
/-! ### monotone -/
theorem max_mono {t u : List Int} : ∀ k, (∀ i, i < k → tA t i ≤ tA u i) → (maxN t k).1 ≤ (maxN u k).1
  | 0, _ => by rw [maxN, maxN]; exact Int.le_refl _
  | k + 1, h => by
    have h1 := max_mono k fun i hi => h i (by omega)
    have h2 := h k (by omega)
    rw [maxN, maxN]
    split <;> split <;> (try dsimp only) <;> omega
theorem wk_mono {l : List P3} {r : P3} (hv : VC l r) {t u : List Int} : ∀ k, k ≤ l.length → (∀ i, i < k → tA t i ≤ tA u i) → wkN l t k ≤ wkN l u k
  | 0, _, _ => by rw [wkN, wkN]; exact Int.le_refl _
  | k + 1, hk, h => by
    have h1 := wk_mono hv k (by omega) fun i hi => h i (by omega)
    rw [wkN, wkN]
    split
    · exact Int.le_refl _
    · have h2 := h k (by omega)
      have h3 := h (k - 1) (by omega)
      have h4 := hv.up (k - 1) (by omega)
      rw [Nat.sub_add_cancel (by omega)] at h4
      have := Int.mul_le_mul_of_nonneg_right (show tA t (k - 1) + tA t k ≤ tA u (k - 1) + tA u k by omega) (show 0 ≤ (pAt l k).1 - (pAt l (k - 1)).1 by omega)
      omega
theorem div_mono {N1 D1 N2 D2 : Int} (h1 : 0 < D1) (h2 : 0 < D2) (h : N1 * D2 ≤ N2 * D1) : N1 / D1 ≤ N2 / D2 := by
  refine Int.le_ediv_of_mul_le h2 ?_
  have q1 : N1 / D1 * D1 ≤ N1 := Int.ediv_mul_le _ (by omega)
  have q2 : N1 / D1 * D1 * D2 ≤ N1 * D2 := Int.mul_le_mul_of_nonneg_right q1 (by omega)
  have q3 : N1 / D1 * D2 * D1 ≤ N2 * D1 := by
    have : N1 / D1 * D2 * D1 = N1 / D1 * D1 * D2 := by rw [Int.mul_assoc, Int.mul_comm D2, ← Int.mul_assoc]
    omega
  exact Int.le_of_mul_le_mul_right q3 h1
def mt (a b p q : Int) : Int := a + ((b - a) * (a - p)) / ((a - p) + (q - b))
theorem mt_eq {a b p q : Int} (h : 0 < (a - p) + (q - b)) : mt a b p q = (a * q - b * p) / ((a - p) + (q - b)) := by
  have e : a * q - b * p = (b - a) * (a - p) + a * ((a - p) + (q - b)) := by grind
  unfold mt
  rw [e, Int.add_mul_ediv_right _ _ (by omega)]
  omega
theorem mt_mono {a b a' b' p q : Int} (ha : a ≤ a') (hb : b ≤ b') (h1 : p < a) (h2 : b' ≤ q) (h3 : p ≤ q) : mt a b p q ≤ mt a' b' p q := by
  have d1 : 0 < (a - p) + (q - b) := by omega
  have d2 : 0 < (a' - p) + (q - b) := by omega
  have d3 : 0 < (a' - p) + (q - b') := by omega
  have s1 : mt a b p q ≤ mt a' b p q := by
    rw [mt_eq d1, mt_eq d2]
    refine div_mono d1 d2 ?_
    have e : (a' * q - b * p) * ((a - p) + (q - b)) - (a * q - b * p) * ((a' - p) + (q - b)) = (a' - a) * ((q - p) * (q - b)) := by grind
    have := Int.mul_nonneg (show 0 ≤ a' - a by omega) (Int.mul_nonneg (show 0 ≤ q - p by omega) (show 0 ≤ q - b by omega))
    omega
  have s2 : mt a' b p q ≤ mt a' b' p q := by
    rw [mt_eq d2, mt_eq d3]
    refine div_mono d2 d3 ?_
    have e : (a' * q - b' * p) * ((a' - p) + (q - b)) - (a' * q - b * p) * ((a' - p) + (q - b')) = (b' - b) * ((q - p) * (a' - p)) := by grind
    have := Int.mul_nonneg (show 0 ≤ b' - b by omega) (Int.mul_nonneg (show 0 ≤ q - p by omega) (show 0 ≤ a' - p by omega))
    omega
  omega
theorem line_mono {l : List P3} {r : P3} (h : VC l r) {i : Nat} (h0 : 0 < i) (hi : i < l.length) : lineI l r (i - 1) ≤ lineI l r i := by
  have hup := h.up (i - 1) (by omega)
  rw [Nat.sub_add_cancel h0] at hup
  unfold lineI
  exact Int.mul_le_mul_of_nonneg_left (by omega) (by have := h.slope; omega)
/-! ### what is read, where it is first -/
theorem y_first {t : List Int} {r : P3} {i : Nat} (hi : i < t.length) (h : yP t r i = true) (hb : ∀ j, j < i → yP t r j = false) : fstN (yP t r) t.length = i ∧ yvN t r t.length = tA t i := by
  have e := fst_eq_of hi h hb
  refine ⟨e, ?_⟩
  unfold yvN
  rw [e, if_neg (by omega), Int.toNat_natCast]
theorem m_first {l : List P3} {t : List Int} {r : P3} {i : Nat} (hi : i < t.length) (h : mP l r t i = true) (hb : ∀ j, j < i → mP l r t j = false) : fstN (mP l r t) t.length = i ∧ mvN l r t t.length = if i = 0 then tA t 0 else metI l r t i := by
  have e := fst_eq_of hi h hb
  refine ⟨e, ?_⟩
  unfold mvN mv
  rw [e, if_neg (by omega), Int.toNat_natCast]
  by_cases h0 : i = 0
  · rw [if_pos (by omega), if_pos h0]
  · rw [if_neg (by omega), if_neg h0]
theorem yP_ls {n : Nat} {f : Nat → Int} {r : P3} {i : Nat} (h : i + 1 < n) : yP (lsI n f) r i = decide (f i - f (i + 1) ≥ r.1) := by
  unfold yP
  rw [lsI_len, lsI_at (by omega), lsI_at h, decide_eq_true h, Bool.true_and]
theorem mP_ls {l : List P3} {f : Nat → Int} {r : P3} {i : Nat} (h : i < l.length) : mP l r (lsI l.length f) i = decide (f i ≤ lineI l r i) := by
  unfold mP
  rw [lsI_at h]
/-! ### yield points -/
theorem yEm_of {l : List P3} {d : Int} : ∀ {n i0 : Nat} {e : Em}, e ∈ yEm l d i0 n → ∃ i, i0 ≤ i ∧ i < i0 + n ∧ e = (i, bkF l d i (y2 l d i), bkF l d i (highF l i)) ∧ (∀ j, i0 ≤ j → j ≤ i → lstI l d j ≤ highF l j) ∧ y2 l d i ≤ highF l i
  | 0, _, _, h => by rw [yEm] at h; cases h
  | n + 1, i0, e, h => by
    rw [yEm] at h
    split at h
    · cases h
    · rename_i h1
      rcases List.mem_append.1 h with h | h
      · split at h
        · rename_i h2
          rw [List.mem_singleton] at h
          exact ⟨i0, by omega, by omega, h, fun j q1 q2 => by
            have : j = i0 := by omega
            rw [this]; omega, h2⟩
        · cases h
      · obtain ⟨i, q1, q2, q3, q4, q5⟩ := yEm_of h
        refine ⟨i, by omega, by omega, q3, fun j p1 p2 => ?_, q5⟩
        rcases Nat.lt_or_ge i0 j with p | p
        · exact q4 j (by omega) p2
        · have : j = i0 := by omega
          subst this; omega
theorem yEm_mem {l : List P3} {d : Int} : ∀ {n i0 i : Nat}, i0 ≤ i → i < i0 + n → (∀ j, i0 ≤ j → j ≤ i → lstI l d j ≤ highF l j) → y2 l d i ≤ highF l i → (i, bkF l d i (y2 l d i), bkF l d i (highF l i)) ∈ yEm l d i0 n
  | 0, _, _, _, h, _, _ => by omega
  | n + 1, i0, i, h1, h2, h3, h4 => by
    rw [yEm, if_neg (by have := h3 i0 (Nat.le_refl _) h1; omega)]
    rcases Nat.lt_or_ge i0 i with p | p
    · exact List.mem_append_right _ (yEm_mem (by omega) (by omega) (fun j q1 q2 => h3 j (by omega) q2) h4)
    · have : i = i0 := by omega
      subst this
      rw [if_pos h4]
      exact List.mem_append_left _ (List.mem_singleton.2 rfl)
theorem lst_low {l : List P3} {d : Int} : ∀ j, lowF l j ≤ lstI l d j
  | 0 => by rw [lstI]; exact Int.le_refl _
  | j + 1 => by rw [lstI]; omega
theorem bkN_spec {l : List P3} {d : Int} (hd : 1 ≤ d) {i : Nat} {load : Int} (h1 : lstI l d i ≤ load) (h2 : load ≤ highF l i) (h3 : ∀ j, j ≤ i → lstI l d j ≤ highF l j) :
    ∀ j, j ≤ i → (∀ q, i - j ≤ q → q ≤ i → lstI l d q ≤ bkN l d i load j q ∧ bkN l d i load j q ≤ highF l q) ∧ (∀ q, i - j ≤ q → q < i → bkN l d i load j q ≤ bkN l d i load j (q + 1) + d - 1) ∧ bkN l d i load j i = load ∧ ∀ q, i < q → bkN l d i load j q = lowF l q
  | 0, _ => by
    refine ⟨fun q q1 q2 => ?_, fun q q1 q2 => by omega, upd_self, fun q hq => upd_ne (by omega)⟩
    have : q = i := by omega
    subst this
    rw [bkN, upd_self]; exact ⟨h1, h2⟩
  | j + 1, hj => by
    obtain ⟨a1, a2, a3, a4⟩ := bkN_spec hd h1 h2 h3 j (by omega)
    have hp : i - j = i - 1 - j + 1 := by omega
    have b1 := a1 (i - j) (by omega) (by omega)
    have b2 := h3 (i - 1 - j) (by omega)
    have b3 : lstI l d (i - 1 - j) - d + 1 ≤ lstI l d (i - j) := by rw [hp, lstI]; omega
    refine ⟨fun q q1 q2 => ?_, fun q q1 q2 => ?_, ?_, fun q hq => ?_⟩
    · rcases Nat.lt_or_ge (i - 1 - j) q with p | p
      · rw [bkN, upd_ne (by omega)]; exact a1 q (by omega) q2
      · have : q = i - 1 - j := by omega
        subst this
        rw [bkN, upd_self]
        omega
    · rcases Nat.lt_or_ge (i - 1 - j) q with p | p
      · rw [bkN, upd_ne (by omega), upd_ne (by omega)]; exact a2 q (by omega) q2
      · have : q = i - 1 - j := by omega
        subst this
        rw [bkN, upd_self, upd_ne (by omega), ← hp]
        omega
    · rw [bkN, upd_ne (by omega)]; exact a3
    · rw [bkN, upd_ne (by omega)]; exact a4 q hq
/-- such a truth yields at the point, with the load -/
theorem bkF_yields {l : List P3} {r : P3} (h : VC l r) {i : Nat} {load : Int} (hi : i + 1 < l.length) (h1 : y2 l r.1 i ≤ load) (h2 : load ≤ highF l i) (h3 : ∀ j, j ≤ i → lstI l r.1 j ≤ highF l j) :
    BX l (bkF l r.1 i load) ∧ fstN (yP (lsI l.length (bkF l r.1 i load)) r) l.length = i ∧ yvN (lsI l.length (bkF l r.1 i load)) r l.length = load := by
  have hd := h.drop
  unfold y2 at h1
  obtain ⟨a1, a2, a3, a4⟩ := bkN_spec hd.1 (load := load) (by omega) h2 h3 i (Nat.le_refl _)
  have hlh : ∀ q, q < l.length → lowF l q ≤ highF l q := fun q hq => by have := h.pt q hq; unfold lowF highF; omega
  refine ⟨fun q hq => ?_, ?_⟩
  · unfold bkF
    rcases Nat.lt_or_ge i q with p | p
    · rw [a4 q p]; exact ⟨Int.le_refl _, hlh q hq⟩
    · have := a1 q (by omega) p
      have := lst_low (l := l) (d := r.1) q
      omega
  · have e := y_first (t := lsI l.length (bkF l r.1 i load)) (r := r) (i := i) (by rw [lsI_len]; omega) (by
      rw [yP_ls hi, decide_eq_true_eq]
      unfold bkF
      rw [a3, a4 (i + 1) (by omega)]; omega) fun j hj => by
        rw [yP_ls (by omega), decide_eq_false_iff_not]
        unfold bkF
        have := a2 j (by omega) hj
        omega
    rw [lsI_len, lsI_at (by omega)] at e
    unfold bkF at e ⊢
    rw [a3] at e
    exact e
/-- what a truth that yields at a point must keep -/
theorem lst_le {l : List P3} {r : P3} {t : List Int} (hl : t.length = l.length) (hB : BX l (tA t)) {i : Nat} (hi : i < t.length) (hb : ∀ j, j < i → yP t r j = false) : ∀ j, j ≤ i → lstI l r.1 j ≤ tA t j
  | 0, _ => by rw [lstI]; exact (hB 0 (by omega)).1
  | j + 1, hj => by
    have h1 := lst_le hl hB hi hb j (by omega)
    have h2 := (hB (j + 1) (by omega)).1
    have h3 := hb j (by omega)
    unfold yP at h3
    rw [decide_eq_true (by omega), Bool.true_and, decide_eq_false_iff_not] at h3
    rw [lstI]
    omega
/-! ### meeting points -/
theorem mEm_of {l : List P3} {r : P3} : ∀ {n i0 : Nat} {e : Em}, e ∈ mEm l r i0 n → ∃ i, i0 ≤ i ∧ i < i0 + n ∧ e = mEm1 l r i ∧ lowF l i ≤ lineI l r i ∧ ∀ j, i0 ≤ j → j < i → lineI l r j < highF l j
  | 0, _, _, h => by rw [mEm] at h; cases h
  | n + 1, i0, e, h => by
    rw [mEm] at h
    rcases List.mem_append.1 h with h | h
    · split at h
      · rename_i h1
        rw [List.mem_singleton] at h
        exact ⟨i0, by omega, by omega, h, h1, fun j q1 q2 => by omega⟩
      · cases h
    · split at h
      · cases h
      · rename_i h1
        obtain ⟨i, q1, q2, q3, q4, q5⟩ := mEm_of h
        refine ⟨i, by omega, by omega, q3, q4, fun j p1 p2 => ?_⟩
        rcases Nat.lt_or_ge i0 j with p | p
        · exact q5 j (by omega) p2
        · have : j = i0 := by omega
          subst this; omega
theorem mEm_mem {l : List P3} {r : P3} : ∀ {n i0 i : Nat}, i0 ≤ i → i < i0 + n → lowF l i ≤ lineI l r i → (∀ j, i0 ≤ j → j < i → lineI l r j < highF l j) → mEm1 l r i ∈ mEm l r i0 n
  | 0, _, _, _, h, _, _ => by omega
  | n + 1, i0, i, h1, h2, h3, h4 => by
    rw [mEm]
    rcases Nat.lt_or_ge i0 i with p | p
    · have hh : ¬ (highF l i0 ≤ lineI l r i0) := by have := h4 i0 (Nat.le_refl _) p; omega
      rw [if_neg hh]
      exact List.mem_append_right _ (mEm_mem (by omega) (by omega) h3 fun j q1 q2 => h4 j (by omega) q2)
    · have : i = i0 := by omega
      subst this
      rw [if_pos h3]
      exact List.mem_append_left _ (List.mem_singleton.2 rfl)
end Go.Ev.Ytdgjogeddogbdaa

set_option linter.unusedVariables false
set_option linter.unusedSimpArgs false
namespace Go.Ev.Ytdgjogeddogbdaa
open Go.Proofs
/-- a truth meets at a point, with the load -/
def MeetsAt (l : List P3) (r : P3) (f : Nat → Int) (i : Nat) : Prop := f i ≤ lineI l r i ∧ ∀ j, j < i → lineI l r j < f j
theorem meets_fst {l : List P3} {r : P3} {f : Nat → Int} {i : Nat} (hi : i < l.length) (h : MeetsAt l r f i) :
    fstN (mP l r (lsI l.length f)) l.length = i ∧ mvN l r (lsI l.length f) l.length = if i = 0 then f 0 else mt (f (i - 1)) (f i) (lineI l r (i - 1)) (lineI l r i) := by
  have e := m_first (l := l) (t := lsI l.length f) (r := r) (i := i) (by rw [lsI_len]; exact hi) (by rw [mP_ls hi, decide_eq_true_eq]; exact h.1)
    fun j hj => by rw [mP_ls (by omega), decide_eq_false_iff_not]; have := h.2 j hj; omega
  rw [lsI_len] at e
  refine ⟨e.1, ?_⟩
  rw [e.2]
  by_cases h0 : i = 0
  · rw [if_pos h0, if_pos h0, lsI_at (by omega)]
  · rw [if_neg h0, if_neg h0]
    unfold metI mt
    rw [lsI_at (by omega), lsI_at hi]
theorem meets_of {l : List P3} {r : P3} {f : Nat → Int} {i : Nat} (hi : i < l.length) (h : fstN (mP l r (lsI l.length f)) l.length = i) : MeetsAt l r f i := by
  rcases fstN_spec (mP l r (lsI l.length f)) l.length with ⟨q, _⟩ | ⟨m, q1, q2, q3, q4⟩
  · omega
  · have : m = i := by omega
    subst this
    rw [mP_ls hi, decide_eq_true_eq] at q3
    refine ⟨q3, fun j hj => ?_⟩
    have := q4 j hj
    rw [mP_ls (by omega), decide_eq_false_iff_not] at this
    omega
theorem mEm1_spec {l : List P3} {r : P3} (h : VC l r) {i : Nat} (hi : i < l.length) (h1 : lowF l i ≤ lineI l r i) (h2 : ∀ j, j < i → lineI l r j < highF l j) :
    (BX l (mEm1 l r i).2.1 ∧ MeetsAt l r (mEm1 l r i).2.1 i) ∧ (BX l (mEm1 l r i).2.2 ∧ MeetsAt l r (mEm1 l r i).2.2 i) := by
  have hlh : ∀ q, q < l.length → lowF l q ≤ highF l q := fun q hq => by have := h.pt q hq; unfold lowF highF; omega
  have hb := hlh i hi
  refine ⟨?_, ?_⟩
  · unfold mEm1
    dsimp only
    split
    · rename_i h0
      subst h0
      refine ⟨fun q hq => ?_, by rw [upd_self]; exact h1, fun j hj => by omega⟩
      by_cases e : q = 0
      · subst e; rw [upd_self]; omega
      · rw [upd_ne e]; exact ⟨hlh q hq, Int.le_refl _⟩
    · rename_i h0
      have b1 := h2 (i - 1) (by omega)
      have b2 := hlh (i - 1) (by omega)
      refine ⟨fun q hq => ?_, by rw [upd_ne (by omega), upd_self]; exact h1, fun j hj => ?_⟩
      · by_cases e : q = i - 1
        · subst e; rw [upd_self]; omega
        · rw [upd_ne e]
          by_cases e : q = i
          · subst e; rw [upd_self]; omega
          · rw [upd_ne e]; exact ⟨hlh q hq, Int.le_refl _⟩
      · by_cases e : j = i - 1
        · subst e; rw [upd_self]; omega
        · rw [upd_ne e, upd_ne (by omega)]; exact h2 j hj
  · unfold mEm1
    dsimp only
    refine ⟨fun q hq => ?_, by rw [upd_self]; omega, fun j hj => by rw [upd_ne (by omega)]; exact h2 j hj⟩
    by_cases e : q = i
    · subst e; rw [upd_self]; omega
    · rw [upd_ne e]; exact ⟨hlh q hq, Int.le_refl _⟩
/-! ### what is handed over, is of the kind -/
/-- a truth has what is named -/
def Good (kind : Nat) (l : List P3) (r : P3) (f : Nat → Int) : Prop := BX l f ∧ hasT kind l r (lsI l.length f) = true
theorem em_good {l : List P3} {r : P3} (h : VC l r) {kind : Nat} (hk : kind < 4) {e : Em} (he : e ∈ emK kind l r) : Good kind l r e.2.1 ∧ Good kind l r e.2.2 := by
  have hlh : ∀ q, q < l.length → lowF l q ≤ highF l q := fun q hq => by have := h.pt q hq; unfold lowF highF; omega
  match kind, hk with
  | 0, _ =>
    rw [show emK 0 l r = [(0, lowF l, highF l)] from rfl, List.mem_singleton] at he
    subst he
    exact ⟨⟨fun q hq => ⟨Int.le_refl _, hlh q hq⟩, rfl⟩, ⟨fun q hq => ⟨hlh q hq, Int.le_refl _⟩, rfl⟩⟩
  | 3, _ =>
    rw [show emK 3 l r = [(0, lowF l, highF l)] from rfl, List.mem_singleton] at he
    subst he
    exact ⟨⟨fun q hq => ⟨Int.le_refl _, hlh q hq⟩, rfl⟩, ⟨fun q hq => ⟨hlh q hq, Int.le_refl _⟩, rfl⟩⟩
  | 1, _ =>
    obtain ⟨i, q1, q2, rfl, q4, q5⟩ := yEm_of (show e ∈ yEm l r.1 0 (l.length - 1) from he)
    have y1 := bkF_yields h (i := i) (load := y2 l r.1 i) (by omega) (Int.le_refl _) q5 fun j hj => q4 j (by omega) hj
    have y2' := bkF_yields h (i := i) (load := highF l i) (by omega) q5 (Int.le_refl _) fun j hj => q4 j (by omega) hj
    refine ⟨⟨y1.1, ?_⟩, ⟨y2'.1, ?_⟩⟩
    · unfold hasT; rw [lsI_len, y1.2.1]; simp
    · unfold hasT; rw [lsI_len, y2'.2.1]; simp
  | 2, _ =>
    obtain ⟨i, q1, q2, rfl, q4, q5⟩ := mEm_of (show e ∈ mEm l r 0 l.length from he)
    have s := mEm1_spec h (i := i) (by omega) q4 fun j hj => q5 j (by omega) hj
    refine ⟨⟨s.1.1, ?_⟩, ⟨s.2.1, ?_⟩⟩
    · unfold hasT; rw [lsI_len, (meets_fst (by omega) s.1.2).1]; simp
    · unfold hasT; rw [lsI_len, (meets_fst (by omega) s.2.2).1]; simp
theorem num0 {l : List P3} {r : P3} {f : Nat → Int} : numQ 0 l r f = (maxN (lsI l.length f) l.length).1 := by
  unfold numQ
  show (maxN (lsI l.length f) (lsI l.length f).length).1 = _
  rw [lsI_len]
theorem num1 {l : List P3} {r : P3} {f : Nat → Int} : numQ 1 l r f = yvN (lsI l.length f) r l.length := by
  unfold numQ
  show yvN (lsI l.length f) r (lsI l.length f).length = _
  rw [lsI_len]
theorem num2 {l : List P3} {r : P3} {f : Nat → Int} : numQ 2 l r f = mvN l r (lsI l.length f) l.length := by
  unfold numQ
  show mvN l r (lsI l.length f) (lsI l.length f).length = _
  rw [lsI_len]
theorem num3 {l : List P3} {r : P3} {f : Nat → Int} : numQ 3 l r f = wkN l (lsI l.length f) l.length := by
  unfold numQ
  show wkN l (lsI l.length f) (lsI l.length f).length = _
  rw [lsI_len]
theorem stE_false {kind : Nat} {l : List P3} {r : P3} {s : (Nat → Int) × (Nat → Int)} {e : Em} : stE kind l r false s e = (e.2.1, e.2.2) := by unfold stE; simp
theorem stE_true {kind : Nat} {l : List P3} {r : P3} {s : (Nat → Int) × (Nat → Int)} {e : Em} : stE kind l r true s e = ((if numQ kind l r e.2.1 < numQ kind l r s.1 then e.2.1 else s.1), (if numQ kind l r e.2.2 > numQ kind l r s.2 then e.2.2 else s.2)) := by unfold stE; simp
/-- each truth that has what is named is between two that are handed over -/
theorem em_cover {l : List P3} {r : P3} (h : VC l r) {kind : Nat} (hk : kind < 4) {f : Nat → Int} (hf : Good kind l r f) : ∃ e ∈ emK kind l r, numQ kind l r e.2.1 ≤ numQ kind l r f ∧ numQ kind l r f ≤ numQ kind l r e.2.2 := by
  obtain ⟨hB, hh⟩ := hf
  have hpos := h.pos
  have le1 : ∀ i, i < l.length → tA (lsI l.length (lowF l)) i ≤ tA (lsI l.length f) i := fun i hi => by rw [lsI_at hi, lsI_at hi]; exact (hB i hi).1
  have le2 : ∀ i, i < l.length → tA (lsI l.length f) i ≤ tA (lsI l.length (highF l)) i := fun i hi => by rw [lsI_at hi, lsI_at hi]; exact (hB i hi).2
  match kind, hk with
  | 0, _ =>
    refine ⟨(0, lowF l, highF l), List.mem_singleton.2 rfl, ?_⟩
    rw [num0, num0, num0]
    exact ⟨max_mono _ le1, max_mono _ le2⟩
  | 3, _ =>
    refine ⟨(0, lowF l, highF l), List.mem_singleton.2 rfl, ?_⟩
    rw [num3, num3, num3]
    exact ⟨wk_mono h _ (Nat.le_refl _) le1, wk_mono h _ (Nat.le_refl _) le2⟩
  | 1, _ =>
    replace hh : decide (0 ≤ fstN (yP (lsI l.length f) r) (lsI l.length f).length) = true := hh
    rw [lsI_len, decide_eq_true_eq] at hh
    rcases fstN_spec (yP (lsI l.length f) r) l.length with ⟨q, _⟩ | ⟨i, q1, q2, q3, q4⟩
    · omega
    · have hi1 : i + 1 < l.length := by unfold yP at q3; rw [lsI_len] at q3; simp only [Bool.and_eq_true, decide_eq_true_eq] at q3; exact q3.1
      have hB' : BX l (tA (lsI l.length f)) := fun j hj => by rw [lsI_at hj]; exact hB j hj
      have hle := lst_le (r := r) (t := lsI l.length f) lsI_len hB' (i := i) (by rw [lsI_len]; exact q2) q4
      have hst : ∀ j, 0 ≤ j → j ≤ i → lstI l r.1 j ≤ highF l j := fun j _ hj => by
        have := hle j hj
        have := (hB' j (by omega)).2
        omega
      have e1 := hle i (Nat.le_refl _)
      rw [lsI_at q2] at e1
      have q3' := q3
      rw [yP_ls hi1, decide_eq_true_eq] at q3'
      have b1 := hB i q2
      have b2 := hB (i + 1) hi1
      have e2 : y2 l r.1 i ≤ f i := by unfold y2; omega
      have hy := yEm_mem (n := l.length - 1) (i0 := 0) (i := i) (by omega) (by omega) hst (by omega)
      refine ⟨_, hy, ?_⟩
      have y1 := bkF_yields h (i := i) (load := y2 l r.1 i) hi1 (Int.le_refl _) (by omega) fun j hj => hst j (by omega) hj
      have y2' := bkF_yields h (i := i) (load := highF l i) hi1 (by omega) (Int.le_refl _) fun j hj => hst j (by omega) hj
      have y3 := y_first (t := lsI l.length f) (r := r) (i := i) (by rw [lsI_len]; exact q2) q3 q4
      rw [num1, num1, num1]
      dsimp only
      rw [y1.2.2, y2'.2.2]
      rw [lsI_len, lsI_at q2] at y3
      rw [y3.2]
      omega
  | 2, _ =>
    replace hh : decide (0 ≤ fstN (mP l r (lsI l.length f)) (lsI l.length f).length) = true := hh
    rw [lsI_len, decide_eq_true_eq] at hh
    rcases fstN_spec (mP l r (lsI l.length f)) l.length with ⟨q, _⟩ | ⟨i, q1, q2, _, _⟩
    · omega
    · have hm := meets_of q2 q1
      have b1 := hB i q2
      have hst : ∀ j, 0 ≤ j → j < i → lineI l r j < highF l j := fun j _ hj => by
        have := hm.2 j hj
        have := (hB j (by omega)).2
        omega
      have hmem := mEm_mem (l := l) (r := r) (n := l.length) (i0 := 0) (i := i) (by omega) (by omega) (by have := hm.1; omega) hst
      have s := mEm1_spec h (i := i) q2 (by have := hm.1; omega) fun j hj => hst j (by omega) hj
      refine ⟨_, hmem, ?_⟩
      rw [num2, num2, num2]
      rw [(meets_fst q2 s.1.2).2, (meets_fst q2 s.2.2).2, (meets_fst q2 hm).2]
      have hm1 := hm.1
      by_cases h0 : i = 0
      · subst h0
        rw [if_pos rfl, if_pos rfl, if_pos rfl]
        unfold mEm1
        dsimp only
        rw [if_pos rfl, upd_self, upd_self]
        omega
      · rw [if_neg h0, if_neg h0, if_neg h0]
        have c1 := hm.2 (i - 1) (by omega)
        have c2 := hB (i - 1) (by omega)
        have c3 := line_mono h (i := i) (by omega) q2
        unfold mEm1
        dsimp only
        rw [if_neg h0, upd_self, upd_ne (show i ≠ i - 1 by omega), upd_self, upd_self, upd_ne (show i - 1 ≠ i by omega)]
        exact ⟨mt_mono (by omega) (by omega) (by omega) (by omega) c3, mt_mono (by omega) (by omega) (by omega) (by omega) c3⟩
/-! ### the ends -/
theorem ends_spec {kind : Nat} {l : List P3} {r : P3} {es : List Em} : ∀ k, k ≤ es.length → 0 < k → ((∃ e ∈ es, (endsN kind l r es k).1 = e.2.1) ∧ (∃ e ∈ es, (endsN kind l r es k).2 = e.2.2)) ∧
    ∀ i e, i < k → es[i]? = some e → numQ kind l r (endsN kind l r es k).1 ≤ numQ kind l r e.2.1 ∧ numQ kind l r e.2.2 ≤ numQ kind l r (endsN kind l r es k).2
  | 0, _, h => by omega
  | k + 1, hk, _ => by
    have he : es[k]? = some es[k] := List.getElem?_eq_getElem (by omega)
    rw [endsN_succ he]
    have hmem : es[k] ∈ es := List.getElem_mem _
    generalize es[k] = x at *
    rcases Nat.eq_zero_or_pos k with h0 | h0
    · subst h0
      rw [show decide (0 < 0) = false from rfl, stE_false]
      refine ⟨⟨⟨x, hmem, rfl⟩, ⟨x, hmem, rfl⟩⟩, fun i e hi hie => ?_⟩
      have : i = 0 := by omega
      subst this
      rw [he] at hie; cases hie
      exact ⟨Int.le_refl _, Int.le_refl _⟩
    · obtain ⟨⟨a1, a2⟩, a3⟩ := ends_spec (kind := kind) (l := l) (r := r) (es := es) k (by omega) h0
      rw [decide_eq_true h0, stE_true]
      obtain ⟨c1, hc1⟩ : ∃ c1, c1 = endsN kind l r es k := ⟨_, rfl⟩
      rw [← hc1] at a1 a2 a3 ⊢
      have mn : numQ kind l r (if numQ kind l r x.2.1 < numQ kind l r c1.1 then x.2.1 else c1.1) ≤ numQ kind l r c1.1 ∧ numQ kind l r (if numQ kind l r x.2.1 < numQ kind l r c1.1 then x.2.1 else c1.1) ≤ numQ kind l r x.2.1 := by split <;> omega
      have mx : numQ kind l r c1.2 ≤ numQ kind l r (if numQ kind l r x.2.2 > numQ kind l r c1.2 then x.2.2 else c1.2) ∧ numQ kind l r x.2.2 ≤ numQ kind l r (if numQ kind l r x.2.2 > numQ kind l r c1.2 then x.2.2 else c1.2) := by split <;> omega
      have ex1 : ∃ e ∈ es, (if numQ kind l r x.2.1 < numQ kind l r c1.1 then x.2.1 else c1.1) = e.2.1 := by
        split
        · exact ⟨x, hmem, rfl⟩
        · exact a1
      have ex2 : ∃ e ∈ es, (if numQ kind l r x.2.2 > numQ kind l r c1.2 then x.2.2 else c1.2) = e.2.2 := by
        split
        · exact ⟨x, hmem, rfl⟩
        · exact a2
      refine ⟨⟨ex1, ex2⟩, fun i e hi hie => ?_⟩
      dsimp only
      rcases Nat.lt_or_ge i k with p | p
      · have := a3 i e p hie
        omega
      · have : i = k := by omega
        subst this
        rw [he] at hie; cases hie
        omega
theorem span_law {l : List P3} {r : P3} (h : VC l r) {kind : Nat} (hk : kind < 4) (hn : 0 < (emK kind l r).length) :
    Good kind l r (endsF kind l r).1 ∧ Good kind l r (endsF kind l r).2 ∧ ∀ f, Good kind l r f → numQ kind l r (endsF kind l r).1 ≤ numQ kind l r f ∧ numQ kind l r f ≤ numQ kind l r (endsF kind l r).2 := by
  obtain ⟨⟨⟨e1, q1, q2⟩, ⟨e2, q3, q4⟩⟩, q5⟩ := ends_spec (kind := kind) (l := l) (r := r) (es := emK kind l r) _ (Nat.le_refl _) hn
  have p2 : (endsF kind l r).1 = e1.2.1 := q2
  have p4 : (endsF kind l r).2 = e2.2.2 := q4
  refine ⟨by rw [p2]; exact (em_good h hk q1).1, by rw [p4]; exact (em_good h hk q3).2, fun f hf => ?_⟩
  obtain ⟨e, he, h1, h2⟩ := em_cover h hk hf
  obtain ⟨i, hi, hie⟩ := List.mem_iff_getElem.1 he
  have := q5 i e hi (by rw [List.getElem?_eq_getElem hi, hie])
  have p5 : numQ kind l r (endsF kind l r).1 ≤ numQ kind l r e.2.1 ∧ numQ kind l r e.2.2 ≤ numQ kind l r (endsF kind l r).2 := this
  omega
theorem span_none {l : List P3} {r : P3} (h : VC l r) {kind : Nat} (hk : kind < 4) (hn : (emK kind l r).length = 0) (f : Nat → Int) : ¬ Good kind l r f := fun hf => by
  obtain ⟨e, he, _⟩ := em_cover h hk hf
  rw [List.length_eq_zero_iff.1 hn] at he
  cases he
end Go.Ev.Ytdgjogeddogbdaa
