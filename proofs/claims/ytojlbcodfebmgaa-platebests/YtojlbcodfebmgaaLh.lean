/-
  Contracts of functions, and plain laws, that lead to the statement. Written by an agent.
-/
import Derived.Test.YtojlbcodfebmgaaLg
set_option linter.unusedVariables false
set_option linter.unusedSimpArgs false
set_option maxRecDepth 100000
namespace Go.Ev.Ytojlbcodfebmgaa
open Go.Proofs
attribute [local irreducible] partsL fitsB checkI
def wOf (f : Nat → Bool) : Wn := ⟨f 0, f 1, f 2, f 3⟩
theorem get_lt {w : Wn} {i : Nat} (h : w.get i = true) : i < 4 := by
  match i with
  | 0 | 1 | 2 | 3 => omega
  | _ + 4 => cases h
theorem wOf_get (f : Nat → Bool) {i : Nat} (h : i < 4) : (wOf f).get i = f i := by
  obtain rfl | rfl | rfl | rfl : i = 0 ∨ i = 1 ∨ i = 2 ∨ i = 3 := by omega
  all_goals rfl
theorem wn_ext {v w : Wn} (h : ∀ i, i < 4 → v.get i = w.get i) : v = w := by
  have h0 := h 0 (by omega)
  have h1 := h 1 (by omega)
  have h2 := h 2 (by omega)
  have h3 := h 3 (by omega)
  obtain ⟨a, b, c, d⟩ := v
  obtain ⟨e, f, g, k⟩ := w
  simp only [Wn.get] at h0 h1 h2 h3
  rw [h0, h1, h2, h3]
/-- what is had of all pieces that are not cut -/
structure HadW (p : Pl) (st : St2) (W : Nat → Wn) (g c : Nat → Int) (G C : Int) : Prop where
  ach : ∀ n : Nat, n < st.1.length → cutAt st.2 n = false → Ach p (pcAt st.1 n) (W n) (g n) (c n)
  lt : ∀ n i : Nat, n < st.1.length → cutAt st.2 n = false → (W n).get i = true → i < p.ws.length
  one : ∀ n m i : Nat, n < st.1.length → m < st.1.length → cutAt st.2 n = false → cutAt st.2 m = false → (W n).get i = true → (W m).get i = true → n = m
  sg : sumN (fun n => if cutAt st.2 n = false then g n else 0) st.1.length = G
  sc : sumN (fun n => if cutAt st.2 n = false then c n else 0) st.1.length = C
def Had (p : Pl) (st : St2) (G C : Int) : Prop := ∃ W g c, HadW p st W g c G C
theorem sumN_upd {f : Nat → Int} {k : Nat} {X : Int} : ∀ (n : Nat), k < n → sumN (fun i => if i = k then X else f i) n = sumN (fun i => if i = k then 0 else f i) n + X
  | 0, h => by omega
  | n + 1, h => by
    rw [sumN, sumN]
    by_cases hk : k = n
    · subst hk
      rw [if_pos rfl, if_pos rfl, sumN_congr (g := fun i => if i = k then 0 else f i) k fun i hi => by rw [if_neg (by omega), if_neg (by omega)]]
      omega
    · rw [sumN_upd n (by omega), if_neg (by omega), if_neg (by omega)]
      omega
/-- sums over pieces behind a cut, and ahead of it -/
theorem sum_cut {l : List Bool} {k m : Nat} {f f' : Nat → Int} {X : Int} (hk : k < l.length) (hc : cutAt l k = false) (hf : ∀ n, n < l.length → n ≠ k → f n = f' n) (hX : f k = X) :
    sumN (fun n => if cutAt l n = false then f n else 0) l.length = sumN (fun n => if cutAt (l.set k true ++ List.replicate m false) n = false then f' n else 0) l.length + X := by
  rw [sumN_congr (g := fun i => if i = k then X else if cutAt l i = false then f' i else 0) l.length fun i hi => ?_, sumN_upd _ hk, sumN_congr (g := fun n => if cutAt (l.set k true ++ List.replicate m false) n = false then f' n else 0) l.length fun i hi => ?_]
  · rw [cutAt_left (by rw [List.length_set]; exact hi)]
    by_cases h : i = k
    · rw [if_pos h, if_neg fun h' => (cutAt_set.1 h').1 h]
    · rw [if_neg h]
      by_cases h2 : cutAt l i = false
      · rw [if_pos h2, if_pos (cutAt_set.2 ⟨h, h2⟩)]
      · rw [if_neg h2, if_neg fun h' => h2 (cutAt_set.1 h').2]
  · by_cases h : i = k
    · subst h; rw [if_pos hc, if_pos rfl, hX]
    · rw [if_neg h, hf i hi h]
theorem cutAt_new {l : List Bool} {k m n : Nat} (h1 : l.length ≤ n) (h2 : n < l.length + m) : cutAt (l.set k true ++ List.replicate m false) n = false := by
  unfold cutAt
  rw [Int.toNat_natCast, List.getElem?_append_right (by rw [List.length_set]; exact h1), List.length_set, List.getElem?_replicate, if_pos (by omega)]
  rfl
theorem Had.step {p : Pl} {st st' : St2} {c : Ct} {G C : Int} (hl : st.2.length = st.1.length) (e : stepC p.s st c = some st') (h : Had p st' G C) : Had p st G (C + 1) := by
  unfold stepC at e
  split at e
  · cases e
  · rename_i hc
    simp only [not_or, Bool.not_eq_false, inB_true] at hc
    obtain ⟨⟨hn0, hn1⟩, hcut, hne⟩ := hc
    simp only [Option.some.injEq] at e
    subst e
    obtain ⟨k, hk⟩ : ∃ k : Nat, c.n = k := ⟨c.n.toNat, by omega⟩
    rw [hk] at hcut hne h
    have hkl : k < st.1.length := by omega
    have hcut : cutAt st.2 k = false := (Bool.not_eq_true _).mp hcut
    have hpl := parts_len (pcAt st.1 k) c.ac c.at_ p.s
    generalize hL : partsL (pcAt st.1 k) c.ac c.at_ p.s = l at hpl hne h
    rw [Int.toNat_natCast] at h
    obtain ⟨W, g, cc, h1, h2, h3, h4, h5⟩ := h
    dsimp only at h1 h2 h3 h4 h5
    simp only [List.length_append] at h1 h2 h3 h4 h5
    have old : ∀ n : Nat, n < st.1.length → n ≠ k → cutAt st.2 n = false → cutAt (st.2.set k true ++ List.replicate l.length false) n = false := fun n hn hne hc => by
      rw [cutAt_left (by rw [List.length_set, hl]; exact hn)]
      exact cutAt_set.2 ⟨hne, hc⟩
    have new : ∀ n : Nat, st.1.length ≤ n → n < st.1.length + l.length → cutAt (st.2.set k true ++ List.replicate l.length false) n = false := fun n a b => cutAt_new (by omega) (by omega)
    have hach : ∀ n : Nat, n < st.1.length → n ≠ k → cutAt st.2 n = false → Ach p (pcAt st.1 n) (W n) (g n) (cc n) := fun n hn hne hc => by
      have := h1 n (by omega) (old n hn hne hc)
      rwa [pcAt_left hn] at this
    match l, hL, hpl, hne, h1, h2, h3, h4, h5, old, new with
    | [], _, _, hne, _, _, _, _, _, _, _ => exact absurd rfl hne
    | [r], hL, _, _, h1, h2, h3, h4, h5, old, new =>
      simp only [List.length_singleton] at h1 h2 h3 h4 h5 old new
      have cN := new st.1.length (Nat.le_refl _) (by omega)
      have a1 := h1 st.1.length (by omega) cN
      rw [pcAt_right (Nat.le_refl _), Nat.sub_self] at a1
      have a1 : Ach p r (W st.1.length) (g st.1.length) (cc st.1.length) := a1
      refine ⟨fun n => if n = k then W st.1.length else W n, fun n => if n = k then g st.1.length else g n, fun n => if n = k then cc st.1.length + 1 else cc n, fun n hn hc => ?_, fun n i hn hc hi => ?_, fun n m i hn hm hcn hcm hi hj => ?_, ?_, ?_⟩
      · by_cases e : n = k
        · subst e; simp only [if_true]; exact .one hL a1
        · simp only [if_neg e]; exact hach n hn e hc
      · by_cases e : n = k
        · subst e; simp only [if_true] at hi; exact h2 _ i (by omega) cN hi
        · simp only [if_neg e] at hi; exact h2 n i (by omega) (old n hn e hc) hi
      · by_cases e : n = k <;> by_cases e' : m = k
        · omega
        · simp only [if_pos e] at hi; simp only [if_neg e'] at hj
          have := h3 _ m i (by omega) (by omega) cN (old m hm e' hcm) hi hj
          omega
        · simp only [if_neg e] at hi; simp only [if_pos e'] at hj
          have := h3 n _ i (by omega) (by omega) (old n hn e hcn) cN hi hj
          omega
        · simp only [if_neg e] at hi; simp only [if_neg e'] at hj
          exact h3 n m i (by omega) (by omega) (old n hn e hcn) (old m hm e' hcm) hi hj
      · rw [sumN, if_pos cN] at h4
        rw [← hl, sum_cut (m := 1) (f' := g) (X := g st.1.length) (by omega) hcut (fun n _ hne => by rw [if_neg hne]) (by rw [if_pos rfl, hl]), hl]
        exact h4
      · rw [sumN, if_pos cN] at h5
        rw [← hl, sum_cut (m := 1) (f' := cc) (X := cc st.1.length + 1) (by omega) hcut (fun n _ hne => by rw [if_neg hne]) (by rw [if_pos rfl, hl]), hl, ← h5]
        simp only [List.replicate_one]
        omega
    | [r, t], hL, _, _, h1, h2, h3, h4, h5, old, new =>
      simp only [List.length_cons, List.length_nil, Nat.zero_add, Nat.reduceAdd] at h1 h2 h3 h4 h5 old new
      have cN := new st.1.length (Nat.le_refl _) (by omega)
      have cM := new (st.1.length + 1) (by omega) (by omega)
      have a1 := h1 st.1.length (by omega) cN
      rw [pcAt_right (Nat.le_refl _), Nat.sub_self] at a1
      have a1 : Ach p r (W st.1.length) (g st.1.length) (cc st.1.length) := a1
      have a2 := h1 (st.1.length + 1) (by omega) cM
      rw [pcAt_right (by omega), show st.1.length + 1 - st.1.length = 1 by omega] at a2
      have a2 : Ach p t (W (st.1.length + 1)) (g (st.1.length + 1)) (cc (st.1.length + 1)) := a2
      have dj := fun i => h3 st.1.length (st.1.length + 1) i (by omega) (by omega) cN cM
      have lN := fun i => h2 st.1.length i (by omega) cN
      have lM := fun i => h2 (st.1.length + 1) i (by omega) cM
      obtain ⟨U, hU⟩ : ∃ U, U = wOf fun i => (W st.1.length).get i || (W (st.1.length + 1)).get i := ⟨_, rfl⟩
      have gU : ∀ i, i < 4 → U.get i = ((W st.1.length).get i || (W (st.1.length + 1)).get i) := fun i hi => by rw [hU, wOf_get _ hi]
      have hv : (W st.1.length).sub U = true := sub_get.2 fun i hi => by rw [gU i (get_lt hi), hi]; rfl
      have hlU : U.less (W st.1.length) = W (st.1.length + 1) := wn_ext fun i hi => by
        rw [less_get, gU i hi]
        cases ha : (W st.1.length).get i <;> cases hb : (W (st.1.length + 1)).get i <;> simp
        have := dj i ha hb
        omega
      have au : Ach p (pcAt st.1 k) U (g st.1.length + g (st.1.length + 1)) (cc st.1.length + cc (st.1.length + 1) + 1) := .two hL hv a1 (by rw [hlU]; exact a2)
      have uD : ∀ i, U.get i = true → (W st.1.length).get i = true ∨ (W (st.1.length + 1)).get i = true := fun i hi => by
        rw [gU i (get_lt hi), Bool.or_eq_true] at hi; exact hi
      refine ⟨fun n => if n = k then U else W n, fun n => if n = k then g st.1.length + g (st.1.length + 1) else g n, fun n => if n = k then cc st.1.length + cc (st.1.length + 1) + 1 else cc n, fun n hn hc => ?_, fun n i hn hc hi => ?_, fun n m i hn hm hcn hcm hi hj => ?_, ?_, ?_⟩
      · by_cases e : n = k
        · subst e; simp only [if_true]; exact au
        · simp only [if_neg e]; exact hach n hn e hc
      · by_cases e : n = k
        · subst e; simp only [if_true] at hi; exact (uD i hi).elim (lN i) (lM i)
        · simp only [if_neg e] at hi; exact h2 n i (by omega) (old n hn e hc) hi
      · by_cases e : n = k <;> by_cases e' : m = k
        · omega
        · simp only [if_pos e] at hi; simp only [if_neg e'] at hj
          rcases uD i hi with hi | hi
          · have := h3 _ m i (by omega) (by omega) cN (old m hm e' hcm) hi hj
            omega
          · have := h3 _ m i (by omega) (by omega) cM (old m hm e' hcm) hi hj
            omega
        · simp only [if_neg e] at hi; simp only [if_pos e'] at hj
          rcases uD i hj with hj | hj
          · have := h3 n _ i (by omega) (by omega) (old n hn e hcn) cN hi hj
            omega
          · have := h3 n _ i (by omega) (by omega) (old n hn e hcn) cM hi hj
            omega
        · simp only [if_neg e] at hi; simp only [if_neg e'] at hj
          exact h3 n m i (by omega) (by omega) (old n hn e hcn) (old m hm e' hcm) hi hj
      · rw [sumN, sumN, if_pos cN, if_pos cM] at h4
        rw [← hl, sum_cut (m := 2) (f' := g) (X := g st.1.length + g (st.1.length + 1)) (by omega) hcut (fun n _ hne => by rw [if_neg hne]) (by rw [if_pos rfl, hl]), hl, ← h4]
        omega
      · rw [sumN, sumN, if_pos cN, if_pos cM] at h5
        rw [← hl, sum_cut (m := 2) (f' := cc) (X := cc st.1.length + cc (st.1.length + 1) + 1) (by omega) hcut (fun n _ hne => by rw [if_neg hne]) (by rw [if_pos rfl, hl]), hl, ← h5]
        omega
    | _ :: _ :: _ :: _, _, hpl, _, _, _, _, _, _, _, _ => simp at hpl
theorem stepC_len {s : Int} {st st' : St2} {c : Ct} (hl : st.2.length = st.1.length) (e : stepC s st c = some st') : st'.2.length = st'.1.length := by
  unfold stepC at e
  split at e
  · cases e
  · simp only [Option.some.injEq] at e
    subst e
    simp [hl]
theorem Had.run {p : Pl} {G : Int} : ∀ (cs : List Ct) {st st' : St2}, st.2.length = st.1.length → runC p.s cs st = some st' → Had p st' G 0 → Had p st G cs.length
  | [], st, st', hl, e, h => by rw [runC] at e; cases e; exact h
  | c :: cs, st, st', hl, e, h => by
    rw [runC] at e
    split at e
    · rename_i st1 h1
      have := (Had.run cs (stepC_len hl h1) e h).step hl h1
      rw [List.length_cons, Int.natCast_add]
      exact this
    · cases e
theorem had_end {p : Pl} (h4 : p.ws.length ≤ 4) {us : List Int} {st : St2} (hu : UsF p us st) : Had p st (wthN p.ws us us.length) 0 := by
  have hus := hu.len
  refine ⟨fun n => wOf fun i => decide (usAt us i = n), fun n => if isU us n then (wtAt p.ws (uIdx us n).toNat).g else 0, fun _ => 0, fun n hn hc => ?_, fun n i hn hc hi => ?_, fun n m i hn hm _ _ hi hj => ?_, ?_, ?_⟩
  · cases hx : isU us n with
    | false => exact .stop _ _
    | true =>
      unfold isU at hx
      obtain ⟨i, hi, e1, e2⟩ := uIdx_some (of_decide_eq_true hx)
      rw [e1, Int.toNat_natCast]
      refine .use (by omega) (by rw [wOf_get _ (by omega), usAt_eq hi]; exact decide_eq_true e2) ?_
      rcases hu.use i hi with h | ⟨_, _, _, h⟩
      · omega
      · rw [e2] at h; exact h
  · have i4 := get_lt hi
    rw [wOf_get _ i4] at hi
    have hi := of_decide_eq_true hi
    refine Nat.lt_of_not_le fun hge => ?_
    unfold usAt at hi
    rw [List.getElem?_eq_none (by omega)] at hi
    simp at hi
  · have i4 := get_lt hi
    rw [wOf_get _ i4] at hi hj
    have hi := of_decide_eq_true hi
    have hj := of_decide_eq_true hj
    omega
  · rw [← worth_law hu]
    refine sumN_congr _ fun n hn => ?_
    unfold wF3
    by_cases hc : cutAt st.2 n = false
    · by_cases hx : isU us n = true
      · rw [if_pos hc, if_pos hx, if_pos ⟨hc, hx⟩]
      · rw [if_pos hc, if_neg hx, if_neg fun h => hx h.2]
    · rw [if_neg hc, if_neg fun h => hc h.1]
  · exact sumN_zero _ fun n _ => by split <;> rfl
/-- any right plan can be had -/
theorem plan_ach {p : Pl} {x : Pn} {st : St2} (o : OkX p x st) : Ach p (wholeP p) (allW p.ws.length) (wthN p.ws x.us x.us.length) x.cs.length := by
  have h4 := (check_zero o.chk).1
  obtain ⟨W, g, c, h1, h2, h3, h5, h6⟩ := Had.run x.cs (st := st0 p) rfl o.run (had_end h4 o.usF)
  have e0 : cutAt (st0 p).2 (0 : Nat) = false := rfl
  have h1 := h1 0 Nat.zero_lt_one e0
  have h2 := fun i => h2 0 i Nat.zero_lt_one e0
  have h5 : (0 : Int) + (if cutAt (st0 p).2 (0 : Nat) = false then g 0 else 0) = _ := h5
  have h6 : (0 : Int) + (if cutAt (st0 p).2 (0 : Nat) = false then c 0 else 0) = _ := h6
  rw [if_pos e0, Int.zero_add] at h5 h6
  rw [h5, h6] at h1
  exact ach_mono h1 _ (sub_allW fun i _ hi => h2 i hi)
theorem plan_le {p : Pl} {x : Pn} {st : St2} (o : OkX p x st) : LeG (wthN p.ws x.us x.us.length) x.cs.length (bwP p) (bcP p) := best_opt o.chk (plan_ach o) (wholeP_ok o.chk)
end Go.Ev.Ytojlbcodfebmgaa

set_option linter.unusedVariables false
set_option linter.unusedSimpArgs false
set_option maxRecDepth 100000
namespace Go.Ev.Ytojlbcodfebmgaa
open Go.Proofs
attribute [local irreducible] partsL fitsB checkI stepC
theorem UsF.of {p : Pl} {us : List Int} {st : St2} (len : us.length = p.ws.length)
    (use : ∀ i, i < us.length → usAt us i = -1 ∨ (0 ≤ usAt us i ∧ usAt us i < st.1.length ∧ cutAt st.2 (usAt us i) = false ∧ fitsB (wtAt p.ws i) (pcAt st.1 (usAt us i)) = true))
    (one : ∀ i j, i < us.length → j < us.length → i ≠ j → usAt us i = usAt us j → usAt us i = -1) : UsF p us st :=
  ⟨len, fun i h => by have := use i h; rw [usAt_eq h] at this; exact this, fun i j hi hj hij he => by
    have := one i j hi hj hij (by rw [usAt_eq hi, usAt_eq hj]; exact he)
    rw [usAt_eq hi] at this; exact this⟩
theorem UsF.use' {p : Pl} {us : List Int} {st : St2} (h : UsF p us st) (i : Nat) (hi : i < us.length) : usAt us i = -1 ∨ (0 ≤ usAt us i ∧ usAt us i < st.1.length ∧ cutAt st.2 (usAt us i) = false ∧ fitsB (wtAt p.ws i) (pcAt st.1 (usAt us i)) = true) := by
  rw [usAt_eq hi]; exact h.use i hi
theorem UsF.one' {p : Pl} {us : List Int} {st : St2} (h : UsF p us st) (i j : Nat) (hi : i < us.length) (hj : j < us.length) (hij : i ≠ j) (he : usAt us i = usAt us j) : usAt us i = -1 := by
  rw [usAt_eq hi] at he ⊢; rw [usAt_eq hj] at he; exact h.one i j hi hj hij he
theorem usAt_set {us : List Int} {k i : Nat} {v : Int} (hk : k < us.length) : usAt (us.set k v) i = if k = i then v else usAt us i := by
  unfold usAt
  by_cases h : k = i
  · subst h; rw [List.getElem?_set_self hk, if_pos rfl]; rfl
  · rw [List.getElem?_set_ne h, if_neg h]
theorem usAt_out {us : List Int} {i : Nat} (h : us.length ≤ i) : usAt us i = -1 := by
  unfold usAt; rw [List.getElem?_eq_none h]; rfl
theorem wthN_set {ws : List Wt} {us : List Int} {k : Nat} {v : Int} (hk : k < us.length) (h1 : usAt us k = -1) (hv : 0 ≤ v) : ∀ n, wthN ws (us.set k v) n = wthN ws us n + if k < n then (wtAt ws k).g else 0
  | 0 => rfl
  | n + 1 => by
    rw [wthN, wthN, wthN_set hk h1 hv n, usAt_set hk]
    by_cases e : k = n
    · subst e
      rw [if_pos rfl, h1, if_pos hv, if_neg (show ¬ (0 : Int) ≤ -1 by omega), if_neg (Nat.lt_irrefl k), if_pos (Nat.lt_succ_self k)]
    · rw [if_neg e]
      by_cases h : k < n
      · rw [if_pos h, if_pos (show k < n + 1 by omega)]; omega
      · rw [if_neg h, if_neg (show ¬ k < n + 1 by omega)]; omega
theorem runC_app {s : Int} : ∀ (cs : List Ct) {st st1 st2 : St2} {c : Ct}, runC s cs st = some st1 → stepC s st1 c = some st2 → runC s (cs ++ [c]) st = some st2
  | [], st, st1, st2, c, h, e => by rw [runC] at h; cases h; rw [List.nil_append, runC, e]; rfl
  | a :: cs, st, st1, st2, c, h, e => by
    rw [List.cons_append, runC]
    rw [runC] at h
    split at h
    · rename_i st' h'
      exact runC_app cs h e
    · cases h
theorem runC_apps {s : Int} : ∀ (cs : List Ct) {st st1 : St2} (ds : List Ct), runC s cs st = some st1 → runC s (cs ++ ds) st = runC s ds st1
  | [], st, st1, ds, h => by rw [runC] at h; cases h; rfl
  | a :: cs, st, st1, ds, h => by
    rw [List.cons_append, runC]
    rw [runC] at h
    split at h
    · rename_i st' h'
      exact runC_apps cs ds h
    · cases h
section
attribute [local semireducible] stepC
theorem stepC_ok {s : Int} {st : St2} {n : Nat} {ac : Bool} {a : Int} {l : List Pc} (hn : n < st.1.length) (hc : cutAt st.2 n = false) (hl : partsL (pcAt st.1 n) ac a s = l) (hne : l ≠ []) :
    stepC s st ⟨n, ac, a⟩ = some (st.1 ++ l, st.2.set n true ++ List.replicate l.length false) := by
  unfold stepC
  dsimp only
  rw [hl, if_neg, Int.toNat_natCast]
  simp only [not_or, Bool.not_eq_false, Bool.not_eq_true, inB_true]
  exact ⟨by omega, hc, hne⟩
end
/-- a plan that is being laid -/
structure Inv (p : Pl) (d : Ds) (fl : List Bool) : Prop where
  ok : DsOk p d
  run : runC p.s d.cs (st0 p) = some (d.ps, fl)
  len : fl.length = d.ps.length
  uses : UsF p d.us (d.ps, fl)
structure Laid (p : Pl) (n : Nat) (w : Wn) (d : Ds) (fl : List Bool) (d' : Ds) (fl' : List Bool) (g : Int) : Prop where
  inv : Inv p d' fl'
  pre : d.ps.length ≤ d'.ps.length
  keep : ∀ m : Nat, m < d.ps.length → m ≠ n → cutAt fl' m = cutAt fl m
  same : ∀ i, w.get i = false → usAt d'.us i = usAt d.us i
  new : ∀ i, w.get i = true → usAt d'.us i = -1 ∨ usAt d'.us i = n ∨ (d.ps.length : Int) ≤ usAt d'.us i
  sum : wthN p.ws d'.us p.ws.length = wthN p.ws d.us p.ws.length + g
theorem Inv.cut {p : Pl} {d : Ds} {fl : List Bool} (h : Inv p d fl) {n : Nat} (hn : n < d.ps.length) (hc : cutAt fl n = false) (hu : ∀ i, usAt d.us i ≠ n) {ac : Bool} {a : Int} {l : List Pc} (hl : partsL (pcAt d.ps n) ac a p.s = l) (hne : l ≠ []) (hok : ∀ q ∈ l, OkP q) {es : Es} (hes : OkM p es) :
    Inv p ⟨d.ps ++ l, d.cs ++ [⟨n, ac, a⟩], d.us, es⟩ (fl.set n true ++ List.replicate l.length false) := by
  have hul : d.us.length = p.ws.length := h.ok.us
  refine ⟨⟨fun q hq => (List.mem_append.1 hq).elim (h.ok.pcs q) (hok q), hes, h.ok.us⟩, runC_app d.cs h.run (stepC_ok (st := (d.ps, fl)) hn hc hl hne), by simp [h.len], UsF.of hul (fun i hi => ?_) (fun i j hi hj => h.uses.one' i j hi hj)⟩
  rcases h.uses.use' i hi with h1 | ⟨h1, h2, h3, h4⟩
  · exact .inl h1
  · obtain ⟨m, hm⟩ : ∃ m : Nat, usAt d.us i = m := ⟨(usAt d.us i).toNat, by omega⟩
    have hne := hu i
    dsimp only at h2 h3 h4 ⊢
    rw [hm] at h1 h2 h3 h4 hne ⊢
    refine .inr ⟨h1, by rw [List.length_append]; omega, ?_, by rw [pcAt_left (by omega)]; exact h4⟩
    rw [cutAt_left (by rw [List.length_set, h.len]; omega)]
    exact cutAt_set.2 ⟨by omega, h3⟩
theorem doN_right {p : Pl} (hs : 0 ≤ p.s) : ∀ (k n : Nat) (w : Wn) (d : Ds) (fl : List Bool), Inv p d fl → n < d.ps.length → cutAt fl n = false → (∀ i, usAt d.us i ≠ n) → (∀ i, w.get i = true → usAt d.us i = -1) → sizeP (pcAt d.ps n) ≤ k →
    ∃ fl', Laid p n w d fl (doN p k n w d) fl' (bestP p (pcAt d.ps n) w).g
  | 0, n, w, d, fl, h, hn, _, _, _, hk => by
    have := (h.ok.at hn).w0; have := (h.ok.at hn).l0
    unfold sizeP at hk; omega
  | k + 1, n, w, d, fl, h, hn, hc0, hu0, hw0, hk => by
    have hq := h.ok.at hn
    have hu := bestP_use hs hq w
    have hes := memN_ok hs (sizeP (pcAt d.ps n)) w d.es hq.w0 hq.l0 (Nat.le_refl _) h.ok.es
    have hsm := fun (ac : Bool) (a : Int) => part_small (q := pcAt d.ps n) (ac := ac) (a := a) hs hq.w0 hq.l0
    have hok := fun (ac : Bool) (a : Int) => parts_ok hq (ac := ac) (a := a) hs
    have hcut := fun (ac : Bool) (a : Int) (l : List Pc) => h.cut hn hc0 hu0 (ac := ac) (a := a) (l := l)
    rw [doN]
    generalize memN p (sizeP (pcAt d.ps n)) (pcAt d.ps n) w d.es = es1 at hes
    generalize hS : bestP p (pcAt d.ps n) w = S at hu
    generalize hQ : pcAt d.ps n = q at hq hu hsm hok hk hcut
    split
    · rename_i hc
      rcases hu.noCutB hc with ⟨e1, e2, _⟩ | ⟨e1, e2, e3, e4, e5, _⟩
      · rw [show useU d.us S.use n = d.us by unfold useU; rw [if_pos e1]]
        exact ⟨fl, ⟨⟨h.ok.pcs, hes, h.ok.us⟩, h.run, h.len, h.uses⟩, Nat.le_refl _, fun _ _ _ => rfl, fun _ _ => rfl, fun i hi => .inl (hw0 i hi), by rw [e2, Int.add_zero]⟩
      · obtain ⟨j, hj⟩ : ∃ j : Nat, S.use = j := ⟨S.use.toNat, by omega⟩
        rw [hj, Int.toNat_natCast] at e3 e4 e5
        have hul : d.us.length = p.ws.length := h.ok.us
        have hjl : j < d.us.length := by omega
        rw [show useU d.us S.use n = d.us.set j (n : Int) by unfold useU; rw [hj, if_neg (by omega), Int.toNat_natCast]]
        refine ⟨fl, ⟨⟨h.ok.pcs, hes, by simpa using h.ok.us⟩, h.run, h.len, UsF.of (by simpa using h.ok.us) (fun i hi => ?_) (fun i i' hi hi' hii he => ?_)⟩, Nat.le_refl _, fun _ _ _ => rfl, fun i hi => ?_, fun i hi => ?_, ?_⟩
        · rw [List.length_set] at hi
          rw [usAt_set hjl]
          by_cases e : j = i
          · rw [if_pos e, ← e]
            exact .inr ⟨by omega, by dsimp only; omega, hc0, by dsimp only; rw [hQ]; exact e4⟩
          · rw [if_neg e]; exact h.uses.use' i hi
        · rw [List.length_set] at hi hi'
          rw [usAt_set hjl, usAt_set hjl] at he
          rw [usAt_set hjl]
          by_cases a : j = i <;> by_cases b : j = i'
          · omega
          · rw [if_pos a, if_neg b] at he
            exact absurd he.symm (hu0 i')
          · rw [if_neg a, if_pos b] at he
            exact absurd he (hu0 i)
          · rw [if_neg a, if_neg b] at he
            rw [if_neg a]
            exact h.uses.one' i i' hi hi' hii he
        · rw [usAt_set hjl, if_neg]
          rintro rfl
          rw [e3] at hi; cases hi
        · rw [usAt_set hjl]
          by_cases e : j = i
          · rw [if_pos e]; exact .inr (.inl rfl)
          · rw [if_neg e]; exact .inl (hw0 i hi)
        · rw [wthN_set hjl (hw0 j e3) (by omega), if_pos (by omega), e5]
    · rename_i hc
      obtain ⟨_, hm, hfs, e3, e4, _⟩ := hu.cutB ((Bool.not_eq_false _).mp hc)
      have hne := (cutsL_mem hq hm).2.2.2
      have hsm := hsm S.how.ac S.how.at_
      have hok := hok S.how.ac S.how.at_
      have hl := parts_len q S.how.ac S.how.at_ p.s
      have hcut := fun l h1 h2 h3 => hcut S.how.ac S.how.at_ l h1 h2 h3 hes
      have hsub := (mem_partsW _ _).1 hfs
      rw [e4]
      generalize hL : partsL q S.how.ac S.how.at_ p.s = l at hsm hok hl hne e3 hcut
      match l, hL, hsm, hok, hl, hne, e3, hcut with
      | [], _, _, _, _, hne, _, _ => exact absurd rfl hne
      | [a], hL, hsm, hok, _, _, e3, hcut =>
        have e3 := e3 rfl
        have ha := hok a (by simp)
        have e1 : pcAt (d.ps ++ [a]) d.ps.length = a := pcAt_app0
        have hi := hcut [a] rfl (by simp) hok
        have us_lt : ∀ i, usAt d.us i < d.ps.length := fun i => by
          by_cases hil : i < d.us.length
          · rcases h.uses.use' i hil with h1 | ⟨_, h2, _⟩
            · omega
            · exact h2
          · rw [usAt_out (by omega)]; omega
        obtain ⟨fl', i1⟩ := doN_right hs k d.ps.length S.first ⟨d.ps ++ [a], d.cs ++ [⟨n, S.how.ac, S.how.at_⟩], d.us, es1⟩ _ hi (by simp) (cutAt_new (by rw [h.len]; omega) (by rw [h.len]; simp)) (fun i => by have := us_lt i; dsimp only; omega) (fun i hi => hw0 i (by rw [e3] at hi; exact hi)) (by dsimp only; rw [e1]; have := (hsm a (by simp)).1; omega)
        dsimp only at i1
        rw [e1] at i1
        simp only [seeG]
        obtain ⟨j1, j2, j3, j4, j5, j6⟩ := i1
        dsimp only at j2 j3 j4 j5 j6
        simp only [List.length_append, List.length_singleton] at j2 j3 j5
        refine ⟨fl', j1, by omega, fun m hm hne => ?_, fun i hi => j4 i (by rw [e3]; exact hi), fun i hi => ?_, j6⟩
        · rw [j3 m (by omega) (by omega), cutAt_left (by rw [List.length_set, h.len]; omega)]
          cases hcm : cutAt fl m with
          | false => exact cutAt_set.2 ⟨hne, hcm⟩
          | true => exact (Bool.not_eq_false _).mp fun hx => by have := (cutAt_set.1 hx).2; rw [hcm] at this; cases this
        · rcases j5 i (by rw [e3]; exact hi) with h | h | h
          · exact .inl h
          · exact .inr (.inr (by omega))
          · exact .inr (.inr (by omega))
      | [a, b], hL, hsm, hok, _, _, _, hcut =>
        have ha := hok a (by simp)
        have hb := hok b (by simp)
        have e1 : pcAt (d.ps ++ [a, b]) d.ps.length = a := pcAt_app0
        have hi := hcut [a, b] rfl (by simp) hok
        have us_lt : ∀ i, usAt d.us i < d.ps.length := fun i => by
          by_cases hil : i < d.us.length
          · rcases h.uses.use' i hil with h1 | ⟨_, h2, _⟩
            · omega
            · exact h2
          · rw [usAt_out (by omega)]; omega
        have hfw : ∀ i, S.first.get i = true → w.get i = true := fun i hi => sub_get.1 hsub i hi
        have gr := doN_grows hs k d.ps.length S.first ⟨d.ps ++ [a, b], d.cs ++ [⟨n, S.how.ac, S.how.at_⟩], d.us, es1⟩ hi.ok (by simp) (by dsimp only; rw [e1]; have := (hsm a (by simp)).1; omega)
        obtain ⟨fl1, i1⟩ := doN_right hs k d.ps.length S.first ⟨d.ps ++ [a, b], d.cs ++ [⟨n, S.how.ac, S.how.at_⟩], d.us, es1⟩ _ hi (by simp) (cutAt_new (by rw [h.len]; omega) (by rw [h.len]; simp)) (fun i => by have := us_lt i; dsimp only; omega) (fun i hi => hw0 i (hfw i hi)) (by dsimp only; rw [e1]; have := (hsm a (by simp)).1; omega)
        have cN : cutAt (fl.set n true ++ List.replicate [a, b].length false) ((d.ps.length + 1 : Nat) : Int) = false := cutAt_new (by rw [h.len]; omega) (by rw [h.len]; simp)
        dsimp only at i1 gr
        rw [e1] at i1 gr
        show ∃ fl', Laid p n w d fl (doN p k (d.ps.length + 1) (w.less S.first) (doN p k d.ps.length S.first ⟨d.ps ++ [a, b], d.cs ++ [⟨n, S.how.ac, S.how.at_⟩], d.us, es1⟩)) fl' _
        generalize doN p k d.ps.length S.first ⟨d.ps ++ [a, b], d.cs ++ [⟨n, S.how.ac, S.how.at_⟩], d.us, es1⟩ = d1 at i1 gr ⊢
        obtain ⟨_, ⟨t, i2, _⟩, _⟩ := gr
        dsimp only at i2
        obtain ⟨j1, j2, j3, j4, j5, j6⟩ := i1
        dsimp only at j2 j3 j4 j5 j6
        simp only [List.length_append, List.length_cons, List.length_nil, Nat.zero_add, Nat.reduceAdd] at j2 j3 j5
        have e2 : pcAt d1.ps ((d.ps.length + 1 : Nat) : Int) = b := by
          rw [i2, List.append_assoc]
          exact pcAt_app1 (r := t)
        have hu1 : ∀ i, usAt d1.us i ≠ ((d.ps.length + 1 : Nat) : Int) := fun i => by
          cases hf : S.first.get i with
          | false => rw [j4 i hf]; have := us_lt i; omega
          | true => rcases j5 i hf with h | h | h <;> omega
        have hw1 : ∀ i, (w.less S.first).get i = true → usAt d1.us i = -1 := fun i hi => by
          rw [less_get, Bool.and_eq_true] at hi
          rw [j4 i (by simpa using hi.2)]
          exact hw0 i hi.1
        obtain ⟨fl2, i3⟩ := doN_right hs k (d.ps.length + 1) (w.less S.first) d1 fl1 j1 (by omega) (by rw [j3 _ (by omega) (by omega)]; exact cN) hu1 hw1 (by rw [e2]; have := (hsm b (by simp)).1; omega)
        rw [e2] at i3
        obtain ⟨m1, m2, m3, m4, m5, m6⟩ := i3
        refine ⟨fl2, m1, by omega, fun m hm hne => ?_, fun i hi => ?_, fun i hi => ?_, ?_⟩
        · rw [m3 m (by omega) (by omega), j3 m (by omega) (by omega), cutAt_left (by rw [List.length_set, h.len]; omega)]
          cases hcm : cutAt fl m with
          | false => exact cutAt_set.2 ⟨hne, hcm⟩
          | true => exact (Bool.not_eq_false _).mp fun hx => by have := (cutAt_set.1 hx).2; rw [hcm] at this; cases this
        · have hfi : S.first.get i = false := by
            cases hf : S.first.get i with
            | false => rfl
            | true => rw [hfw i hf] at hi; cases hi
          rw [m4 i (by rw [less_get, hi]; rfl), j4 i hfi]
        · cases hf : S.first.get i with
          | true =>
            rw [m4 i (by rw [less_get, hf, hi]; rfl)]
            rcases j5 i hf with h | h | h
            · exact .inl h
            · exact .inr (.inr (by omega))
            · exact .inr (.inr (by omega))
          | false =>
            rcases m5 i (by rw [less_get, hf, hi]; rfl) with h | h | h
            · exact .inl h
            · exact .inr (.inr (by omega))
            · exact .inr (.inr (by omega))
        · simp only [seeG]
          rw [m6, j6]
          omega
      | _ :: _ :: _ :: _, _, _, _, hl, _, _, _ => simp at hl
/-! ### the plan has no error -/
section
theorem usesB_of (ws : List Wt) (st : St2) : ∀ (us : List Int) (i : Nat) (seen : List Int), (∀ (k : Nat) (h : k < us.length), us[k] ≠ -1 → us[k] ∉ seen ∧ cutAt st.2 us[k] = false ∧ fitsB (wtAt ws (i + k)) (pcAt st.1 us[k]) = true ∧ ∀ (j : Nat) (hj : j < k), us[j] ≠ us[k]) → usesB ws st us i seen = true
  | [], i, seen, _ => usesB_nil ..
  | n :: r, i, seen, h => by
    have step : ∀ (k : Nat) (hk : k < r.length), r[k] ≠ -1 → r[k] ∉ seen ∧ n ≠ r[k] ∧ cutAt st.2 r[k] = false ∧ fitsB (wtAt ws (i + 1 + k)) (pcAt st.1 r[k]) = true ∧ ∀ (j : Nat) (hj : j < k), r[j] ≠ r[k] := fun k hk hn => by
      have := h (k + 1) (by simpa using hk) (by simpa using hn)
      simp only [List.getElem_cons_succ] at this
      rw [show i + (k + 1) = i + 1 + k by omega] at this
      exact ⟨this.1, this.2.2.2 0 (by omega), this.2.1, this.2.2.1, fun j hj => this.2.2.2 (j + 1) (by omega)⟩
    by_cases hn : n = -1
    · rw [usesB_skip ws st r i seen hn]
      exact usesB_of ws st r (i + 1) seen fun k hk hne => by
        obtain ⟨a, _, b, c, d⟩ := step k hk hne
        exact ⟨a, b, c, d⟩
    · have h0 := h 0 (by simp) (by simpa using hn)
      simp only [List.getElem_cons_zero, Nat.add_zero] at h0
      rw [usesB_good ws st r i seen hn (by simp only [not_or, Bool.not_eq_true, Bool.not_eq_false]; exact ⟨h0.1, h0.2.1, h0.2.2.1⟩)]
      exact usesB_of ws st r (i + 1) (seen ++ [n]) fun k hk hne => by
        obtain ⟨a, a2, b, c, d⟩ := step k hk hne
        refine ⟨?_, b, c, d⟩
        simp only [List.mem_append, List.mem_singleton, not_or]
        exact ⟨a, fun e => a2 e.symm⟩
end
theorem UsF.good {p : Pl} {us : List Int} {st : St2} (h : UsF p us st) : us.all (useB st) = true ∧ usesB p.ws st us 0 [] = true := by
  refine ⟨List.all_eq_true.2 fun n hn => ?_, usesB_of _ _ _ _ _ fun k hk hne => ?_⟩
  · obtain ⟨i, hi, rfl⟩ := List.getElem_of_mem hn
    unfold useB
    rw [inB_true]
    rcases h.use i hi with h | h <;> omega
  · rcases h.use k hk with h1 | ⟨_, _, h3, h4⟩
    · exact absurd h1 hne
    · refine ⟨by simp, h3, by rw [Nat.zero_add]; exact h4, fun j hj e => ?_⟩
      have := h.one j k (by omega) hk (by omega) e
      rw [e] at this
      exact hne this
section
theorem plnI_zero {p : Pl} {x : Pn} {st : St2} (hp : checkI p = 0) (hl : x.cs.length ≤ 40) (hr : runC p.s x.cs (st0 p) = some st) (hu : UsF p x.us st) : plnI p x = 0 := by
  obtain ⟨h1, h2⟩ := hu.good
  unfold plnI
  rw [if_neg (by rw [hp]; simp), if_neg (by omega), hr]
  dsimp only
  rw [if_neg (by rw [h1]; simp [hu.len]), if_pos h2]
end
def bestX (p : Pl) : Pn := ⟨(dsAll p).cs, (dsAll p).us⟩
theorem usAt_rep (n i : Nat) : usAt (List.replicate n (-1)) i = -1 := by
  unfold usAt
  rw [List.getElem?_replicate]
  split <;> rfl
theorem wthN_rep (ws : List Wt) (n : Nat) : ∀ k, wthN ws (List.replicate n (-1)) k = 0
  | 0 => rfl
  | k + 1 => by rw [wthN, wthN_rep ws n k, usAt_rep]; rfl
theorem bestX_right {p : Pl} (hp : checkI p = 0) (h41 : p.w * p.l ≤ 41) : plnI p (bestX p) = 0 ∧ wthN p.ws (bestX p).us p.ws.length = bwP p ∧ ((bestX p).cs.length : Int) = bcP p ∧ (bestX p).us.length = p.ws.length ∧ (bestX p).cs.length ≤ 40 := by
  have hs := (check_zero hp).2.2.2.1.1
  have e0 : pcAt [wholeP p] ((0 : Nat) : Int) = wholeP p := rfl
  have h0 : Inv p ⟨[wholeP p], [], List.replicate p.ws.length (-1), []⟩ [false] := ⟨ds0_ok hp, rfl, rfl, UsF.of (by simp) (fun i _ => .inl (usAt_rep _ _)) (fun i j _ _ _ _ => usAt_rep _ _)⟩
  obtain ⟨fl, h⟩ := doN_right hs (sizeP (wholeP p)) 0 (allW p.ws.length) _ [false] h0 (by simp) rfl (fun i => by dsimp only; rw [usAt_rep]; omega) (fun i _ => usAt_rep _ _) (by dsimp only; rw [e0]; exact Nat.le_refl _)
  have gr := doN_grows hs (sizeP (wholeP p)) 0 (allW p.ws.length) _ (ds0_ok hp) (by simp) (by dsimp only; rw [e0]; exact Nat.le_refl _)
  dsimp only at h gr
  rw [e0] at h gr
  have hc : (bestX p).cs.length ≤ 40 := by
    obtain ⟨_, _, t, ht, hl⟩ := gr
    have hu := unitsP_pos (wholeP_ok hp)
    have : (unitsP (wholeP p) : Int) = p.w * p.l := hu.1
    show (dsAll p).cs.length ≤ 40
    unfold dsAll
    rw [ht, List.nil_append]
    omega
  refine ⟨plnI_zero hp hc h.inv.run h.inv.uses, ?_, dsAll_cuts hp, h.inv.ok.us, hc⟩
  have := h.sum
  rw [wthN_rep, Int.zero_add] at this
  exact this
end Go.Ev.Ytojlbcodfebmgaa

set_option linter.unusedVariables false
set_option linter.unusedSimpArgs false
set_option maxRecDepth 100000
namespace Go.Ev.Ytojlbcodfebmgaa
open Go.Proofs
abbrev dW (n : Int) : D := .v (.int .u16 n)
abbrev wdD (l : List Int) : D := .seq (l.map fun w => [dW w])
def stC (p : Pl) (cs : List Ct) : St2 := (runC p.s cs (st0 p)).getD (st0 p)
def sawC (st : St2) (w : Int) : Ct :=
  ⟨w.tmod st.1.length, (w.tdiv 64).tmod 2 == 1, (w.tdiv 128).tmod (farP (pcAt st.1 (w.tmod st.1.length)) ((w.tdiv 64).tmod 2 == 1) + 1)⟩
def sawS (p : Pl) (cs : List Ct) (w : Int) : List Ct := if (runC p.s (cs ++ [sawC (stC p cs) w]) (st0 p)).isSome then cs ++ [sawC (stC p cs) w] else cs
def sawK (p : Pl) (ws : List Int) : Nat → List Ct
  | 0 => []
  | k + 1 => sawS p (sawK p ws k) ((ws[k]?).getD 0)
def sawV (w : Wt) (st : St2) (us : List Int) : Nat → Int
  | 0 => -1
  | n + 1 => if sawV w st us n < 0 ∧ cutAt st.2 n = false ∧ fitsB w (pcAt st.1 n) = true ∧ uIdx us n < 0 then n else sawV w st us n
def sawU (ws : List Wt) (st : St2) : Nat → List Int
  | 0 => []
  | i + 1 => sawU ws st i ++ [sawV (wtAt ws i) st (sawU ws st i) st.1.length]
def sawX (p : Pl) (ws : List Int) : Pn :=
  ⟨sawK p ws (min ws.length 12), sawU p.ws (stC p (sawK p ws (min ws.length 12))) p.ws.length⟩
theorem sawU_len (ws : List Wt) (st : St2) : ∀ i, (sawU ws st i).length = i
  | 0 => rfl
  | i + 1 => by rw [sawU, List.length_append, sawU_len ws st i]; rfl
theorem stC_eq {p : Pl} {cs : List Ct} {st : St2} (h : runC p.s cs (st0 p) = some st) : stC p cs = st := by unfold stC; rw [h]; rfl
theorem sawK_ok (p : Pl) (ws : List Int) : ∀ k, runC p.s (sawK p ws k) (st0 p) = some (stC p (sawK p ws k)) ∧ (sawK p ws k).length ≤ k
  | 0 => ⟨rfl, Nat.le_refl _⟩
  | k + 1 => by
    obtain ⟨h1, h2⟩ := sawK_ok p ws k
    rw [sawK]
    unfold sawS
    split
    · rename_i h
      obtain ⟨st, hst⟩ := Option.isSome_iff_exists.1 h
      exact ⟨by rw [stC_eq hst]; exact hst, by simp; omega⟩
    · exact ⟨h1, by omega⟩
theorem sawV_prop {w : Wt} {st : St2} {us : List Int} : ∀ n, sawV w st us n = -1 ∨ (0 ≤ sawV w st us n ∧ sawV w st us n < n ∧ cutAt st.2 (sawV w st us n) = false ∧ fitsB w (pcAt st.1 (sawV w st us n)) = true ∧ uIdx us (sawV w st us n) < 0)
  | 0 => .inl rfl
  | n + 1 => by
    rw [sawV]
    split
    · rename_i h; exact .inr ⟨by omega, by omega, h.2.1, h.2.2.1, h.2.2.2⟩
    · rcases sawV_prop (w := w) (st := st) (us := us) n with h | ⟨h1, h2, h3⟩
      · exact .inl h
      · exact .inr ⟨h1, by omega, h3⟩
theorem usAt_app {us : List Int} {v : Int} {i : Nat} : usAt (us ++ [v]) i = if i < us.length then usAt us i else if i = us.length then v else -1 := by
  unfold usAt
  by_cases h : i < us.length
  · rw [if_pos h, List.getElem?_append_left h]
  · rw [if_neg h, List.getElem?_append_right (by omega)]
    by_cases h2 : i = us.length
    · rw [if_pos h2, h2, Nat.sub_self]; rfl
    · rw [if_neg h2, List.getElem?_eq_none (by simp; omega)]; rfl
theorem sawU_use {ws : List Wt} {st : St2} : ∀ k i, i < k → usAt (sawU ws st k) i = -1 ∨ (0 ≤ usAt (sawU ws st k) i ∧ usAt (sawU ws st k) i < st.1.length ∧ cutAt st.2 (usAt (sawU ws st k) i) = false ∧ fitsB (wtAt ws i) (pcAt st.1 (usAt (sawU ws st k) i)) = true)
  | k + 1, i, h => by
    rw [sawU, usAt_app, sawU_len]
    by_cases hk : i < k
    · rw [if_pos hk]; exact sawU_use k i hk
    · have : i = k := by omega
      subst this
      rw [if_neg hk, if_pos rfl]
      rcases sawV_prop (w := wtAt ws i) (st := st) (us := sawU ws st i) st.1.length with h | ⟨h1, h2, h3, h4, _⟩
      · exact .inl h
      · exact .inr ⟨h1, h2, h3, h4⟩
theorem sawU_one {ws : List Wt} {st : St2} : ∀ k i j, i < j → j < k → usAt (sawU ws st k) i = usAt (sawU ws st k) j → usAt (sawU ws st k) j = -1
  | k + 1, i, j, hij, hj => by
    rw [sawU, usAt_app, usAt_app, sawU_len, if_pos (show i < k by omega)]
    by_cases hk : j < k
    · rw [if_pos hk]; exact sawU_one k i j hij hk
    · have : j = k := by omega
      subst this
      rw [if_neg hk, if_pos rfl]
      intro he
      rcases sawV_prop (w := wtAt ws j) (st := st) (us := sawU ws st j) st.1.length with h | ⟨h1, h2, h3, h4, h5⟩
      · exact h
      · exfalso
        rw [← he] at h5
        have hi : i < (sawU ws st j).length := by rw [sawU_len]; omega
        exact uIdx_none (l := sawU ws st j) (n := usAt (sawU ws st j) i) (by omega) i hi (usAt_eq hi).symm
theorem sawX_right {p : Pl} (hp : checkI p = 0) (ws : List Int) : plnI p (sawX p ws) = 0 ∧ (sawX p ws).cs.length ≤ 12 ∧ (sawX p ws).us.length = p.ws.length := by
  obtain ⟨h1, h2⟩ := sawK_ok p ws (min ws.length 12)
  have hl := sawU_len p.ws (stC p (sawK p ws (min ws.length 12))) p.ws.length
  refine ⟨plnI_zero hp (by show (sawK p ws (min ws.length 12)).length ≤ 40; omega) h1 (UsF.of hl (fun i hi => sawU_use p.ws.length i (by rw [← hl]; exact hi)) (fun i j hi hj hij he => ?_)), by show (sawK p ws (min ws.length 12)).length ≤ 12; omega, hl⟩
  have hi : i < p.ws.length := by rw [← hl]; exact hi
  have hj : j < p.ws.length := by rw [← hl]; exact hj
  rcases Nat.lt_or_gt_of_ne hij with h | h
  · have := sawU_one p.ws.length i j h hj he
    rw [← this]; exact he
  · exact sawU_one p.ws.length j i h hi he.symm
end Go.Ev.Ytojlbcodfebmgaa

set_option linter.unusedVariables false
set_option linter.unusedSimpArgs false
set_option maxRecDepth 100000
namespace Go.Ev.Ytojlbcodfebmgaa
open Go.Proofs
attribute [local irreducible] Pure Bor Iter inB wtB partsL stepC useB usesB fitsB runC weighL uIdx betB cutsF bestP seeS memF cutsL partsW useF memN doN covB checkI plnI
theorem tmod_le' {a b : Int} (h : 0 ≤ a) : a.tmod b ≤ a := by
  have h1 := Int.natAbs_tmod a b
  have h2 := Nat.mod_le a.natAbs b.natAbs
  omega
theorem getW {l : List Int} {k : Nat} (h : k < l.length) : (l.map fun w => [dW w])[k]? = some [dW l[k]] := by
  rw [List.getElem?_map, List.getElem?_eq_getElem h]; rfl
theorem sawK_inX (p : Pl) (ws : List Int) (hw : ∀ x ∈ ws, 0 ≤ x ∧ x ≤ 65535) : ∀ k, ∀ c ∈ sawK p ws k, InI c.n ∧ InI c.at_
  | 0 => fun c hc => by cases hc
  | k + 1 => fun c hc => by
    rw [sawK] at hc
    unfold sawS at hc
    have h0 : 0 ≤ (ws[k]?).getD 0 ∧ (ws[k]?).getD 0 ≤ 65535 := by
      by_cases hk : k < ws.length
      · rw [List.getElem?_eq_getElem hk]; exact hw _ (List.getElem_mem hk)
      · rw [List.getElem?_eq_none (by omega)]; exact ⟨Int.le_refl _, by decide⟩
    generalize (ws[k]?).getD 0 = w at h0 hc
    split at hc
    · rcases List.mem_append.1 hc with hc | hc
      · exact sawK_inX p ws hw k c hc
      · rw [List.mem_singleton] at hc
        subst hc
        unfold sawC InI
        dsimp only
        have a1 : 0 ≤ w.tdiv 128 := Int.tdiv_nonneg h0.1 (by omega)
        have a2 : w.tdiv 128 ≤ 65535 := Int.le_trans (Int.tdiv_le_self _ h0.1) h0.2
        have b1 := Int.tmod_nonneg (stC p (sawK p ws k)).1.length h0.1
        have b2 := tmod_le' (b := ((stC p (sawK p ws k)).1.length : Int)) h0.1
        have c1 := Int.tmod_nonneg (farP (pcAt (stC p (sawK p ws k)).1 (w.tmod (stC p (sawK p ws k)).1.length)) ((w.tdiv 64).tmod 2 == 1) + 1) a1
        have c2 := tmod_le' (b := farP (pcAt (stC p (sawK p ws k)).1 (w.tmod (stC p (sawK p ws k)).1.length)) ((w.tdiv 64).tmod 2 == 1) + 1) a1
        omega
    · exact sawK_inX p ws hw k c hc
set_option maxHeartbeats 4000000 in
theorem sawn_by {p : Pl} (hp : checkI p = 0) {ws : List Int} (hwl : ws.length ≤ 9223372036854775807) (hw : ∀ x ∈ ws, 0 ≤ x ∧ x ≤ 65535) : Pure Try.prog 40 [plD p, wdD ws] (pnD (sawX p ws)) := by
  obtain ⟨h4, hpw, hpl, hs, _⟩ := check_zero hp
  have hm : ((ws.map fun w => [dW w]).length : Int) = ws.length := by rw [List.length_map]
  have hmw : ((p.ws.map wtD).length : Int) = p.ws.length := by rw [List.length_map]
  refine pure_of pg Try.func40 (by kernel_rfl) ?_
  conv => whnf
  refine ⟨[.cseq 2 0], [1, 2, 4, 5, 6], [0, 1, 2], 3, fun m s => ∃ k : Nat, k + m = min ws.length 12 ∧ s = ⟨[(1, .d (wdD ws)), (2, .ref 0 0), (4, .ref 1 0), (5, .ref 2 0), (6, .d (dI k))],
    [(0, .var false 24 ((plC p).map A.d)), (1, .var false 28 [.d nilD, .d nilD]), (2, .var false 28 [.d (ctsD (sawK p ws k)), .d nilD])], 3⟩, ?_, ?_⟩
  · conv => whnf
    exact ⟨min ws.length 12, 0, by omega, rfl⟩
  · rintro m _ ⟨k, hk, rfl⟩
    obtain ⟨hrun, hcl⟩ := sawK_ok p ws k
    have hmc : (((sawK p ws k).map ctD).length : Int) = (sawK p ws k).length := by rw [List.length_map]
    by_cases hlt : k < min ws.length 12
    · have f1 : decide ((k : Int) < ((ws.map fun w => [dW w]).length : Int)) = true := decide_eq_true (by rw [hm]; omega)
      have f2 : decide ((k : Int) < 12) = true := decide_eq_true (by omega)
      have hkl : k < ws.length := by omega
      have hg := getW hkl
      have hw0 := hw _ (List.getElem_mem hkl)
      have hK : sawK p ws (k + 1) = sawS p (sawK p ws k) ws[k] := by rw [sawK, List.getElem?_eq_getElem hkl]; rfl
      generalize ws[k] = w at hg hw0 hK
      conv => whnf
      (repeat' (first | (apply kT (by with_reducible first | rfl | assumption); conv => whnf) | (apply kF (by with_reducible first | rfl | assumption); conv => whnf) | (apply kT (by decide); conv => whnf) | (apply kF (by decide); conv => whnf) | (apply kB <;> intro _ <;> conv => whnf) | fail))
      (refine ⟨k, _, rfl, hg, rfl, ?_⟩; conv => whnf)
      have ww : IntKind.i64.wrap w = w := wS (by omega) (by omega)
      have c1 : Pure Try.prog 44 [plD p, ctsD (sawK p ws k)] (pcsR (some (stC p (sawK p ws k)))) := piecesR_pure hp (by omega) hrun
      obtain ⟨hok, hsl⟩ := runC_ok hp (st0_ok hp) hrun
      have hst0 : (st0 p).1.length = 1 := rfl
      have hS : sawS p (sawK p ws k) w = if (runC p.s (sawK p ws k ++ [sawC (stC p (sawK p ws k)) w]) (st0 p)).isSome then sawK p ws k ++ [sawC (stC p (sawK p ws k)) w] else sawK p ws k := rfl
      have hrc : ∀ c, runC p.s (sawK p ws k ++ [c]) (st0 p) = runC p.s [c] (stC p (sawK p ws k)) := fun c => runC_apps _ _ hrun
      generalize stC p (sawK p ws k) = st at hok hsl hS hrc c1
      generalize sawK p ws k = cs at *
      have hmp : ((st.1.map pcD).length : Int) = st.1.length := by rw [List.length_map]
      have hp1 := hok.pos
      obtain ⟨n, hn⟩ : ∃ n : Nat, w.tmod st.1.length = n := ⟨(w.tmod st.1.length).toNat, by rw [Int.toNat_of_nonneg (Int.tmod_nonneg _ hw0.1)]⟩
      have hnl : n < st.1.length := by
        have := Int.tmod_lt_of_pos w (b := (st.1.length : Int)) (by omega)
        omega
      have en : (IntKind.i64.wrap w).tmod ((st.1.map pcD).length : Int) = (n : Int) := by rw [ww, hmp, hn]
      have h64 : 0 ≤ w.tdiv 64 ∧ w.tdiv 64 ≤ 65535 := ⟨Int.tdiv_nonneg hw0.1 (by omega), Int.le_trans (Int.tdiv_le_self _ hw0.1) hw0.2⟩
      have h128 : 0 ≤ w.tdiv 128 ∧ w.tdiv 128 ≤ 65535 := ⟨Int.tdiv_nonneg hw0.1 (by omega), Int.le_trans (Int.tdiv_le_self _ hw0.1) hw0.2⟩
      have w64 : IntKind.i64.wrap ((IntKind.i64.wrap w).tdiv 64) = w.tdiv 64 := by rw [ww]; exact wS (by omega) (by omega)
      have w128 : IntKind.i64.wrap ((IntKind.i64.wrap w).tdiv 128) = w.tdiv 128 := by rw [ww]; exact wS (by omega) (by omega)
      have hq := hok.at (n := (n : Int)) (by omega) (by omega)
      have hgp : (st.1.map pcD)[n]? = some (pcD (pcAt st.1 n)) := getpa (n := (n : Int)) (by omega) (by omega)
      have cf := far_pure' (pcAt st.1 n) ((IntKind.i64.wrap ((IntKind.i64.wrap w).tdiv 64)).tmod 2 == 1)
      have hfar : ∀ ac, 1 ≤ farP (pcAt st.1 n) ac ∧ farP (pcAt st.1 n) ac ≤ 1000 := fun ac => by
        have := hq.w0; have := hq.l0; have := hq.x0; have := hq.y0; have := hq.x1; have := hq.y1
        unfold farP; cases ac <;> simp only [cond_true, cond_false] <;> omega
      have wf : ∀ ac, IntKind.i64.wrap (farP (pcAt st.1 n) ac + 1) = farP (pcAt st.1 n) ac + 1 := fun ac => by have := hfar ac; exact wS (by omega) (by omega)
      have ec : ctD (sawC st w) = [dI ((IntKind.i64.wrap w).tmod ((st.1.map pcD).length : Int)), dB ((IntKind.i64.wrap ((IntKind.i64.wrap w).tdiv 64)).tmod 2 == 1), dI ((IntKind.i64.wrap ((IntKind.i64.wrap w).tdiv 128)).tmod (IntKind.i64.wrap (farP (pcAt st.1 n) ((IntKind.i64.wrap ((IntKind.i64.wrap w).tdiv 64)).tmod 2 == 1) + 1)))] := by
        rw [wf, en, w64, w128]; unfold sawC; rw [hn]
      have em : [] ++ cs.map ctD ++ [[dI ((IntKind.i64.wrap w).tmod ((st.1.map pcD).length : Int)), dB ((IntKind.i64.wrap ((IntKind.i64.wrap w).tdiv 64)).tmod 2 == 1), dI ((IntKind.i64.wrap ((IntKind.i64.wrap w).tdiv 128)).tmod (IntKind.i64.wrap (farP (pcAt st.1 n) ((IntKind.i64.wrap ((IntKind.i64.wrap w).tdiv 64)).tmod 2 == 1) + 1)))]] = (cs ++ [sawC st w]).map ctD := by
        rw [← ec, List.nil_append, List.map_append]; rfl
      (refine .inl ⟨_, c1, ?_⟩; conv => whnf)
      (repeat' (first | (apply kT (by with_reducible first | rfl | assumption); conv => whnf) | (apply kF (by with_reducible first | rfl | assumption); conv => whnf) | (apply kT (by decide); conv => whnf) | (apply kF (by decide); conv => whnf) | (apply kB <;> intro _ <;> conv => whnf) | fail))
      (refine ⟨by omega, ?_⟩; conv => whnf)
      (repeat' (first | (apply kT (by with_reducible first | rfl | assumption); conv => whnf) | (apply kF (by with_reducible first | rfl | assumption); conv => whnf) | (apply kT (by decide); conv => whnf) | (apply kF (by decide); conv => whnf) | (apply kB <;> intro _ <;> conv => whnf) | fail))
      (refine ⟨by omega, ?_⟩; conv => whnf)
      (refine ⟨by omega, ?_⟩; conv => whnf)
      (repeat' (first | (apply kT (by with_reducible first | rfl | assumption); conv => whnf) | (apply kF (by with_reducible first | rfl | assumption); conv => whnf) | (apply kT (by decide); conv => whnf) | (apply kF (by decide); conv => whnf) | (apply kB <;> intro _ <;> conv => whnf) | fail))
      (refine ⟨by omega, ?_⟩; conv => whnf)
      (refine ⟨n, _, en, hgp, rfl, ?_⟩; conv => whnf)
      (repeat' (first | (apply kT (by with_reducible first | rfl | assumption); conv => whnf) | (apply kF (by with_reducible first | rfl | assumption); conv => whnf) | (apply kT (by decide); conv => whnf) | (apply kF (by decide); conv => whnf) | (apply kB <;> intro _ <;> conv => whnf) | (refine .inl ⟨_, cf, ?_⟩; conv => whnf) | fail))
      (refine ⟨by rw [wf]; have := hfar ((IntKind.i64.wrap ((IntKind.i64.wrap w).tdiv 64)).tmod 2 == 1); omega, ?_⟩; conv => whnf)
      (repeat' (first | (apply kT (by with_reducible first | rfl | assumption); conv => whnf) | (apply kF (by with_reducible first | rfl | assumption); conv => whnf) | (apply kT (by decide); conv => whnf) | (apply kF (by decide); conv => whnf) | (apply kB <;> intro _ <;> conv => whnf) | fail))
      have hec : ∀ el ∈ cs.map ctD, el.length = 3 := by simp
      (refine ⟨hec, by simp only [List.length_nil, List.length_map]; omega, ?_⟩; conv => whnf)
      (repeat' (first | (apply kT (by with_reducible first | rfl | assumption); conv => whnf) | (apply kF (by with_reducible first | rfl | assumption); conv => whnf) | (apply kT (by decide); conv => whnf) | (apply kF (by decide); conv => whnf) | (apply kB <;> intro _ <;> conv => whnf) | fail))
      (refine .l ?_; conv => whnf)
      (refine ⟨by simp, by simp only [List.length_append, List.length_nil, List.length_map, List.length_singleton]; omega, ?_⟩; conv => whnf)
      (repeat' (first | (apply kT (by with_reducible first | rfl | assumption); conv => whnf) | (apply kF (by with_reducible first | rfl | assumption); conv => whnf) | (apply kT (by decide); conv => whnf) | (apply kF (by decide); conv => whnf) | (apply kB <;> intro _ <;> conv => whnf) | fail))
      cases hR : runC p.s (cs ++ [sawC st w]) (st0 p) with
      | none =>
        have c3 := piecesR_pure hp (by simp; omega) hR
        rw [ctsD, ← em] at c3
        (refine .inl ⟨_, c3, ?_⟩; conv => whnf)
        (refine .r ?_; conv => whnf)
        (repeat' (first | (apply kT (by with_reducible first | rfl | assumption); conv => whnf) | (apply kF (by with_reducible first | rfl | assumption); conv => whnf) | (apply kT (by decide); conv => whnf) | (apply kF (by decide); conv => whnf) | (apply kB <;> intro _ <;> conv => whnf) | fail))
        refine ⟨m - 1, by omega, k + 1, by omega, ?_⟩
        rw [hK, hS, hR, if_neg (by simp), w1 k (by omega)]
        rfl
      | some st' =>
        have c3 := piecesR_pure hp (by simp; omega) hR
        rw [ctsD, ← em] at c3
        (refine .inl ⟨_, c3, ?_⟩; conv => whnf)
        (refine .r ?_; conv => whnf)
        (repeat' (first | (apply kT (by with_reducible first | rfl | assumption); conv => whnf) | (apply kF (by with_reducible first | rfl | assumption); conv => whnf) | (apply kT (by decide); conv => whnf) | (apply kF (by decide); conv => whnf) | (apply kB <;> intro _ <;> conv => whnf) | fail))
        refine ⟨m - 1, by omega, k + 1, by omega, ?_⟩
        rw [hK, hS, hR, if_pos (by simp), ctsD, ← em, w1 k (by omega)]
        rfl
    · have hk12 : k = min ws.length 12 := by omega
      have hX : sawX p ws = ⟨sawK p ws k, sawU p.ws (stC p (sawK p ws k)) p.ws.length⟩ := by unfold sawX; rw [hk12]
      obtain ⟨hok, hsl⟩ := runC_ok hp (st0_ok hp) hrun
      have hst0 : (st0 p).1.length = 1 := rfl
      have c1 : Pure Try.prog 44 [plD p, ctsD (sawK p ws k)] (pcsR (some (stC p (sawK p ws k)))) := piecesR_pure hp (by omega) hrun
      rw [hX]
      clear hX
      generalize stC p (sawK p ws k) = st at hok hsl c1 hrun ⊢
      generalize sawK p ws k = cs at *
      have hmp : ((st.1.map pcD).length : Int) = st.1.length := by rw [List.length_map]
      have hor : (k : Int) < (ws.map fun w => [dW w]).length → ¬ (k : Int) < 12 := by rw [hm]; omega
      have walk : True := trivial
      by_cases h1 : (k : Int) < (ws.map fun w => [dW w]).length
      all_goals
        first
          | have f1 : decide ((k : Int) < ((ws.map fun w => [dW w]).length : Int)) = true := decide_eq_true h1
            have f2 : decide ((k : Int) < 12) = false := decide_eq_false (hor h1)
          | have f1 : decide ((k : Int) < ((ws.map fun w => [dW w]).length : Int)) = false := decide_eq_false h1
        conv => whnf
        (repeat' (first | (apply kT (by with_reducible first | rfl | assumption); conv => whnf) | (apply kF (by with_reducible first | rfl | assumption); conv => whnf) | (apply kT (by decide); conv => whnf) | (apply kF (by decide); conv => whnf) | (apply kB <;> intro _ <;> conv => whnf) | fail))
        (refine .inl ⟨_, c1, ?_⟩; conv => whnf)
        (repeat' (first | (apply kT (by with_reducible first | rfl | assumption); conv => whnf) | (apply kF (by with_reducible first | rfl | assumption); conv => whnf) | (apply kT (by decide); conv => whnf) | (apply kF (by decide); conv => whnf) | (apply kB <;> intro _ <;> conv => whnf) | fail))
        refine ⟨[.cown 2 1 3], [2, 4, 5, 16, 17, 19], [0, 1, 2, 3], 4, fun m s => ∃ i : Nat, i + m = p.ws.length ∧ s = ⟨[(2, .ref 0 0), (4, .ref 1 0), (5, .ref 2 0), (16, .d (pcsD st.1)), (17, .d (.seq (bsE st.2))), (19, .d (dI i))],
          [(0, .var false 24 ((plC p).map A.d)), (1, .var false 28 [.d nilD, .d nilD]), (2, .var false 28 [.d (ctsD cs), .own 3]), (3, .arr 3 ((sawU p.ws st i).map fun n => [dI n]))], 4⟩, ?_, ?_⟩
        · conv => whnf
          exact ⟨p.ws.length, 0, by omega, rfl⟩
        · rintro m2 _ ⟨i, hi, rfl⟩
          by_cases hil : i < p.ws.length
          · have f3 : decide ((i : Int) < ((p.ws.map wtD).length : Int)) = true := decide_eq_true (by rw [hmw]; omega)
            have hUl := sawU_len p.ws st i
            have hUs : sawU p.ws st (i + 1) = sawU p.ws st i ++ [sawV (wtAt p.ws i) st (sawU p.ws st i) st.1.length] := rfl
            have hgw := getwa hil
            generalize sawU p.ws st i = us at hUl hUs
            have hmu : ((us.map fun n => [dI n]).length : Int) = i := by rw [List.length_map, hUl]
            generalize wtAt p.ws i = wt at hUs hgw
            conv => whnf
            (repeat' (first | (apply kT (by with_reducible first | rfl | assumption); conv => whnf) | (apply kF (by with_reducible first | rfl | assumption); conv => whnf) | (apply kT (by decide); conv => whnf) | (apply kF (by decide); conv => whnf) | (apply kB <;> intro _ <;> conv => whnf) | fail))
            (refine .l ?_; conv => whnf)
            (refine ⟨by simp, by simp only [List.length_map, List.length_singleton]; omega, ?_⟩; conv => whnf)
            (repeat' (first | (apply kT (by with_reducible first | rfl | assumption); conv => whnf) | (apply kF (by with_reducible first | rfl | assumption); conv => whnf) | (apply kT (by decide); conv => whnf) | (apply kF (by decide); conv => whnf) | (apply kB <;> intro _ <;> conv => whnf) | fail))
            refine ⟨[], [2, 4, 5, 16, 17, 19, 20], [0, 1, 2, 3], 4, fun m s => ∃ j : Nat, j + m = st.1.length ∧ s = ⟨[(2, .ref 0 0), (4, .ref 1 0), (5, .ref 2 0), (16, .d (pcsD st.1)), (17, .d (.seq (bsE st.2))), (19, .d (dI i)), (20, .d (dI j))],
              [(0, .var false 24 ((plC p).map A.d)), (1, .var false 28 [.d nilD, .d nilD]), (2, .var false 28 [.d (ctsD cs), .own 3]), (3, .arr 3 ((us.map fun n => [dI n]) ++ [[dI (sawV wt st us j)]]))], 4⟩, ?_, ?_⟩
            · conv => whnf
              exact ⟨st.1.length, 0, by omega, rfl⟩
            · rintro m3 _ ⟨j, hj, rfl⟩
              by_cases hjl : j < st.1.length
              · have f4 : decide ((j : Int) < ((st.1.map pcD).length : Int)) = true := decide_eq_true (by rw [hmp]; omega)
                have hV : sawV wt st us (j + 1) = if sawV wt st us j < 0 ∧ cutAt st.2 j = false ∧ fitsB wt (pcAt st.1 j) = true ∧ uIdx us j < 0 then (j : Int) else sawV wt st us j := rfl
                generalize sawV wt st us j = v at hV
                have hgu : ((us.map fun n => [dI n]) ++ [[dI v]])[i]? = some [dI v] := by
                  rw [List.getElem?_append_right (by rw [List.length_map]; omega), List.length_map, hUl, Nat.sub_self]; rfl
                have hgb : (bsE st.2)[j]? = some [dB (cutAt st.2 j)] := getba (n := (j : Int)) (by omega) (by rw [hok.len]; omega)
                have hgp : (st.1.map pcD)[j]? = some (pcD (pcAt st.1 j)) := getpa (n := (j : Int)) (by omega) (by omega)
                have cf := fitsR_pure wt (pcAt st.1 j)
                have cu : Pure Try.prog 26 [.agg [.seq [], isD us], dI j] (dI (uIdx us j)) := usedAs_pure ⟨[], us⟩ (by dsimp only; omega) j
                have hset : ((us.map fun n => [dI n]) ++ [[dI v]]).set i [dI (j : Int)] = (us.map fun n => [dI n]) ++ [[dI (j : Int)]] := by
                  rw [List.set_append_right _ _ (by rw [List.length_map]; omega), List.length_map, hUl, Nat.sub_self]; rfl
                have cu' : Pure Try.prog 26 [.agg [.seq [], .seq (((us.map fun n => [dI n]) ++ [[dI v]]).take i)], dI j] (dI (uIdx us j)) := by
                  rw [List.take_left' (by rw [List.length_map]; omega)]; exact cu
                by_cases a1 : v < 0
                · have g1 : decide (v < 0) = true := decide_eq_true a1
                  cases a2 : cutAt st.2 j with
                  | true =>
                    have g2 : (!true) = false := rfl
                    rw [a2] at hgb
                    conv => whnf
                    (repeat' (first | (apply kT (by with_reducible first | rfl | assumption); conv => whnf) | (apply kF (by with_reducible first | rfl | assumption); conv => whnf) | (apply kT (by decide); conv => whnf) | (apply kF (by decide); conv => whnf) | (apply kB <;> intro _ <;> conv => whnf) | fail))
                    (refine ⟨i, rfl, by simp only [List.length_append, List.length_map, List.length_singleton]; omega, ?_⟩; conv => whnf)
                    (refine ⟨_, hgu, ?_⟩; conv => whnf)
                    (refine ⟨_, rfl, ?_⟩; conv => whnf)
                    (repeat' (first | (apply kT (by with_reducible first | rfl | assumption); conv => whnf) | (apply kF (by with_reducible first | rfl | assumption); conv => whnf) | (apply kT (by decide); conv => whnf) | (apply kF (by decide); conv => whnf) | (apply kB <;> intro _ <;> conv => whnf) | fail))
                    (refine ⟨j, _, rfl, hgb, rfl, ?_⟩; conv => whnf)
                    (repeat' (first | (apply kT (by with_reducible first | rfl | assumption); conv => whnf) | (apply kF (by with_reducible first | rfl | assumption); conv => whnf) | (apply kT (by decide); conv => whnf) | (apply kF (by decide); conv => whnf) | (apply kB <;> intro _ <;> conv => whnf) | fail))
                    refine ⟨m3 - 1, by omega, j + 1, by omega, ?_⟩
                    rw [hV, if_neg (by simp [*]), w1 j (by omega)]
                    rfl
                  | false =>
                    have g2 : (!false) = true := rfl
                    rw [a2] at hgb
                    cases a3 : fitsB wt (pcAt st.1 j) with
                    | false =>
                      rw [a3] at cf
                      conv => whnf
                      (repeat' (first | (apply kT (by with_reducible first | rfl | assumption); conv => whnf) | (apply kF (by with_reducible first | rfl | assumption); conv => whnf) | (apply kT (by decide); conv => whnf) | (apply kF (by decide); conv => whnf) | (apply kB <;> intro _ <;> conv => whnf) | fail))
                      (refine ⟨i, rfl, by simp only [List.length_append, List.length_map, List.length_singleton]; omega, ?_⟩; conv => whnf)
                      (refine ⟨_, hgu, ?_⟩; conv => whnf)
                      (refine ⟨_, rfl, ?_⟩; conv => whnf)
                      (repeat' (first | (apply kT (by with_reducible first | rfl | assumption); conv => whnf) | (apply kF (by with_reducible first | rfl | assumption); conv => whnf) | (apply kT (by decide); conv => whnf) | (apply kF (by decide); conv => whnf) | (apply kB <;> intro _ <;> conv => whnf) | fail))
                      (refine ⟨j, _, rfl, hgb, rfl, ?_⟩; conv => whnf)
                      (repeat' (first | (apply kT (by with_reducible first | rfl | assumption); conv => whnf) | (apply kF (by with_reducible first | rfl | assumption); conv => whnf) | (apply kT (by decide); conv => whnf) | (apply kF (by decide); conv => whnf) | (apply kB <;> intro _ <;> conv => whnf) | fail))
                      (refine ⟨i, _, rfl, hgw, rfl, ?_⟩; conv => whnf)
                      (repeat' (first | (apply kT (by with_reducible first | rfl | assumption); conv => whnf) | (apply kF (by with_reducible first | rfl | assumption); conv => whnf) | (apply kT (by decide); conv => whnf) | (apply kF (by decide); conv => whnf) | (apply kB <;> intro _ <;> conv => whnf) | fail))
                      (refine ⟨j, _, rfl, hgp, rfl, ?_⟩; conv => whnf)
                      (repeat' (first | (apply kT (by with_reducible first | rfl | assumption); conv => whnf) | (apply kF (by with_reducible first | rfl | assumption); conv => whnf) | (apply kT (by decide); conv => whnf) | (apply kF (by decide); conv => whnf) | (apply kB <;> intro _ <;> conv => whnf) | (refine .inl ⟨_, cf, ?_⟩; conv => whnf) | fail))
                      refine ⟨m3 - 1, by omega, j + 1, by omega, ?_⟩
                      rw [hV, if_neg (by simp [*]), w1 j (by omega)]
                      rfl
                    | true =>
                      rw [a3] at cf
                      conv => whnf
                      (repeat' (first | (apply kT (by with_reducible first | rfl | assumption); conv => whnf) | (apply kF (by with_reducible first | rfl | assumption); conv => whnf) | (apply kT (by decide); conv => whnf) | (apply kF (by decide); conv => whnf) | (apply kB <;> intro _ <;> conv => whnf) | fail))
                      (refine ⟨i, rfl, by simp only [List.length_append, List.length_map, List.length_singleton]; omega, ?_⟩; conv => whnf)
                      (refine ⟨_, hgu, ?_⟩; conv => whnf)
                      (refine ⟨_, rfl, ?_⟩; conv => whnf)
                      (repeat' (first | (apply kT (by with_reducible first | rfl | assumption); conv => whnf) | (apply kF (by with_reducible first | rfl | assumption); conv => whnf) | (apply kT (by decide); conv => whnf) | (apply kF (by decide); conv => whnf) | (apply kB <;> intro _ <;> conv => whnf) | fail))
                      (refine ⟨j, _, rfl, hgb, rfl, ?_⟩; conv => whnf)
                      (repeat' (first | (apply kT (by with_reducible first | rfl | assumption); conv => whnf) | (apply kF (by with_reducible first | rfl | assumption); conv => whnf) | (apply kT (by decide); conv => whnf) | (apply kF (by decide); conv => whnf) | (apply kB <;> intro _ <;> conv => whnf) | fail))
                      (refine ⟨i, _, rfl, hgw, rfl, ?_⟩; conv => whnf)
                      (repeat' (first | (apply kT (by with_reducible first | rfl | assumption); conv => whnf) | (apply kF (by with_reducible first | rfl | assumption); conv => whnf) | (apply kT (by decide); conv => whnf) | (apply kF (by decide); conv => whnf) | (apply kB <;> intro _ <;> conv => whnf) | fail))
                      (refine ⟨j, _, rfl, hgp, rfl, ?_⟩; conv => whnf)
                      (repeat' (first | (apply kT (by with_reducible first | rfl | assumption); conv => whnf) | (apply kF (by with_reducible first | rfl | assumption); conv => whnf) | (apply kT (by decide); conv => whnf) | (apply kF (by decide); conv => whnf) | (apply kB <;> intro _ <;> conv => whnf) | (refine .inl ⟨_, cf, ?_⟩; conv => whnf) | fail))
                      (refine ⟨i, rfl, by simp only [List.length_append, List.length_map, List.length_singleton]; omega, ?_⟩; conv => whnf)
                      (refine .r ?_; conv => whnf)
                      by_cases a4 : uIdx us j < 0
                      · have g4 : decide (uIdx us j < 0) = true := decide_eq_true a4
                        (repeat' (first | (apply kT (by with_reducible first | rfl | assumption); conv => whnf) | (apply kF (by with_reducible first | rfl | assumption); conv => whnf) | (apply kT (by decide); conv => whnf) | (apply kF (by decide); conv => whnf) | (apply kB <;> intro _ <;> conv => whnf) | fail))
                        (refine .inl ⟨_, cu', ?_⟩; conv => whnf)
                        (refine .l ⟨rfl, ?_⟩; conv => whnf)
                        (repeat' (first | (apply kT (by with_reducible first | rfl | assumption); conv => whnf) | (apply kF (by with_reducible first | rfl | assumption); conv => whnf) | (apply kT (by decide); conv => whnf) | (apply kF (by decide); conv => whnf) | (apply kB <;> intro _ <;> conv => whnf) | fail))
                        (refine ⟨i, rfl, by simp only [List.length_append, List.length_map, List.length_singleton]; omega, ?_⟩; conv => whnf)
                        (refine ⟨_, hgu, rfl, by simp, (us.map fun n => [dI n]) ++ [[dI (j : Int)]], hset, ?_⟩; conv => whnf)
                        (repeat' (first | (apply kT (by with_reducible first | rfl | assumption); conv => whnf) | (apply kF (by with_reducible first | rfl | assumption); conv => whnf) | (apply kT (by decide); conv => whnf) | (apply kF (by decide); conv => whnf) | (apply kB <;> intro _ <;> conv => whnf) | fail))
                        refine ⟨m3 - 1, by omega, j + 1, by omega, ?_⟩
                        rw [hV, if_pos ⟨a1, a2, a3, a4⟩, w1 j (by omega)]
                        rfl
                      · have g4 : decide (uIdx us j < 0) = false := decide_eq_false a4
                        (repeat' (first | (apply kT (by with_reducible first | rfl | assumption); conv => whnf) | (apply kF (by with_reducible first | rfl | assumption); conv => whnf) | (apply kT (by decide); conv => whnf) | (apply kF (by decide); conv => whnf) | (apply kB <;> intro _ <;> conv => whnf) | fail))
                        (refine .inl ⟨_, cu', ?_⟩; conv => whnf)
                        (refine .l ⟨rfl, ?_⟩; conv => whnf)
                        (repeat' (first | (apply kT (by with_reducible first | rfl | assumption); conv => whnf) | (apply kF (by with_reducible first | rfl | assumption); conv => whnf) | (apply kT (by decide); conv => whnf) | (apply kF (by decide); conv => whnf) | (apply kB <;> intro _ <;> conv => whnf) | fail))
                        refine ⟨m3 - 1, by omega, j + 1, by omega, ?_⟩
                        rw [hV, if_neg (by simp [*]), w1 j (by omega)]
                        rfl
                · have g1 : decide (v < 0) = false := decide_eq_false a1
                  conv => whnf
                  (repeat' (first | (apply kT (by with_reducible first | rfl | assumption); conv => whnf) | (apply kF (by with_reducible first | rfl | assumption); conv => whnf) | (apply kT (by decide); conv => whnf) | (apply kF (by decide); conv => whnf) | (apply kB <;> intro _ <;> conv => whnf) | fail))
                  (refine ⟨i, rfl, by simp only [List.length_append, List.length_map, List.length_singleton]; omega, ?_⟩; conv => whnf)
                  (refine ⟨_, hgu, ?_⟩; conv => whnf)
                  (refine ⟨_, rfl, ?_⟩; conv => whnf)
                  (repeat' (first | (apply kT (by with_reducible first | rfl | assumption); conv => whnf) | (apply kF (by with_reducible first | rfl | assumption); conv => whnf) | (apply kT (by decide); conv => whnf) | (apply kF (by decide); conv => whnf) | (apply kB <;> intro _ <;> conv => whnf) | fail))
                  refine ⟨m3 - 1, by omega, j + 1, by omega, ?_⟩
                  rw [hV, if_neg (by simp [*]), w1 j (by omega)]
                  rfl
              · have f4 : decide ((j : Int) < ((st.1.map pcD).length : Int)) = false := decide_eq_false (by rw [hmp]; omega)
                have hjS : j = st.1.length := by omega
                subst hjS
                conv => whnf
                (repeat' (first | (apply kT (by with_reducible first | rfl | assumption); conv => whnf) | (apply kF (by with_reducible first | rfl | assumption); conv => whnf) | (apply kT (by decide); conv => whnf) | (apply kF (by decide); conv => whnf) | (apply kB <;> intro _ <;> conv => whnf) | fail))
                refine ⟨m2 - 1, by omega, i + 1, by omega, ?_⟩
                rw [hUs, List.map_append, w1 i (by omega)]
                rfl
          · have f3 : decide ((i : Int) < ((p.ws.map wtD).length : Int)) = false := decide_eq_false (by rw [hmw]; omega)
            have hiS : i = p.ws.length := by omega
            subst hiS
            conv => whnf
            (repeat' (first | (apply kT (by with_reducible first | rfl | assumption); conv => whnf) | (apply kF (by with_reducible first | rfl | assumption); conv => whnf) | (apply kT (by decide); conv => whnf) | (apply kF (by decide); conv => whnf) | (apply kB <;> intro _ <;> conv => whnf) | fail))
            rfl
end Go.Ev.Ytojlbcodfebmgaa

set_option linter.unusedVariables false
set_option linter.unusedSimpArgs false
set_option maxRecDepth 100000
namespace Go.Ev.Ytojlbcodfebmgaa
open Go.Proofs
theorem prove_le {p : Pl} {x : Pn} {w c : Int} (h : proveI p x w c = true) : ∃ st, OkX p x st ∧ w ≤ wthN p.ws x.us x.us.length ∧ (x.cs.length : Int) ≤ c := by
  unfold proveI at h
  simp only [Bool.and_eq_true, beq_iff_eq, decide_eq_true_eq] at h
  obtain ⟨⟨h1, h2⟩, h3⟩ := h
  obtain ⟨st, o, e⟩ := plnI_ok h1
  refine ⟨st, o, ?_, h3⟩
  unfold wgt at h2
  rw [e, (weigh_law o).2.2.1] at h2
  exact h2
theorem prove_of {p : Pl} {x : Pn} {w c : Int} (h1 : plnI p x = 0) (h2 : w ≤ wthN p.ws x.us p.ws.length) (h3 : (x.cs.length : Int) ≤ c) : proveI p x w c = true := by
  obtain ⟨st, o, e⟩ := plnI_ok h1
  unfold proveI
  simp only [Bool.and_eq_true, beq_iff_eq, decide_eq_true_eq]
  refine ⟨⟨h1, ?_⟩, h3⟩
  unfold wgt
  rw [e, (weigh_law o).2.2.1, o.us]
  exact h2
theorem prove_more {p : Pl} (x : Pn) (c : Int) : proveI p x (bwP p + 1) c = false := by
  cases h : proveI p x (bwP p + 1) c with
  | false => rfl
  | true =>
    obtain ⟨st, o, h1, _⟩ := prove_le h
    have := plan_le o
    unfold LeG at this
    omega
theorem prove_few {p : Pl} (x : Pn) : proveI p x (bwP p) (bcP p - 1) = false := by
  cases h : proveI p x (bwP p) (bcP p - 1) with
  | false => rfl
  | true =>
    obtain ⟨st, o, h1, h2⟩ := prove_le h
    have := plan_le o
    unfold LeG at this
    omega
theorem bwP_bd {p : Pl} (hp : checkI p = 0) (h41 : p.w * p.l ≤ 41) : 0 ≤ bwP p ∧ bwP p ≤ 4000 := by
  have h := (bestX_right hp h41).2.1
  have h2 := wthN_bd hp (bestX p).us p.ws.length (Nat.le_refl _)
  have h4 := (check_zero hp).1
  rw [← h]
  omega
theorem runC_inX {p : Pl} (hp : checkI p = 0) : ∀ {cs : List Ct} {st st' : St2}, OkS st → st.1.length + 2 * cs.length ≤ 100000 → runC p.s cs st = some st' → ∀ c ∈ cs, InI c.n ∧ InI c.at_
  | [], st, st', _, _, _, c, hc => by cases hc
  | a :: cs, st, st', ok, hl, e, c, hc => by
    rw [runC] at e
    split at e
    · rename_i st1 h1
      have hs := (check_zero hp).2.2.2.1.1
      have e1 : runC p.s [a] st = some st1 := by rw [runC, h1]; rfl
      obtain ⟨ok1, hl1⟩ := runC_ok hp ok e1
      simp only [List.length_cons, List.length_nil] at hl1 hl
      rcases List.mem_cons.1 hc with rfl | hc
      · unfold stepC at h1
        split at h1
        · cases h1
        · rename_i hn
          simp only [not_or, Bool.not_eq_false, inB_true] at hn
          obtain ⟨⟨h2, h3⟩, _, h4⟩ := hn
          have hq := ok.at h2 (by omega)
          have h5 := parts_range hs h4
          have := hq.w0; have := hq.l0; have := hq.x0; have := hq.y0; have := hq.x1; have := hq.y1
          have hf : farP (pcAt st.1 c.n) c.ac ≤ 1000 := by
            unfold farP; cases c.ac <;> simp only [cond_true, cond_false] <;> omega
          unfold InI
          omega
      · exact runC_inX hp ok1 (by omega) e c hc
    · cases e
theorem plan_inX {p : Pl} {x : Pn} (h : plnI p x = 0) : InX x := by
  obtain ⟨st, o, _⟩ := plnI_ok h
  have h0 : (st0 p).1.length = 1 := rfl
  have hl := o.len
  exact runC_inX o.chk (st0_ok o.chk) (by omega) o.run
attribute [local irreducible] Pure Bor Iter inB wtB partsL stepC useB usesB fitsB runC weighL uIdx betB cutsF bestP seeS memF cutsL partsW useF memN doN covB traceL thinB plnI lightB bwP bcP checkI proveI dsAll sawX
set_option maxHeartbeats 4000000 in
theorem plateBest_pure (p : Pl) (o : Pn) (hio : InX o) {ws : List Int} (hwl : ws.length ≤ 9223372036854775807) (hw : ∀ x ∈ ws, 0 ≤ x ∧ x ≤ 65535) : Pure Try.prog 11 [plD p, pnD o, wdD ws] (dB true) := by
  have ct := light_pure p
  cases hth : lightB p with
  | false =>
    rw [hth] at ct
    refine pure_of pg Try.func11 (by kernel_rfl) ?_
    conv => whnf
    (repeat' (first | (apply kT (by with_reducible first | rfl | assumption); conv => whnf) | (apply kF (by with_reducible first | rfl | assumption); conv => whnf) | (apply kT (by decide); conv => whnf) | (apply kF (by decide); conv => whnf) | (apply kB <;> intro _ <;> conv => whnf) | (refine .inl ⟨_, ct, ?_⟩; conv => whnf) | (refine .inl ⟨_, wakes_pure, ?_⟩; conv => whnf) | fail))
    rfl
  | true =>
    rw [hth] at ct
    obtain ⟨hp, h30, h3⟩ := lightB_iff.1 hth
    have cn := thinB_pure p o
    cases htn : thinB p o with
    | false =>
      rw [htn] at cn
      refine pure_of pg Try.func11 (by kernel_rfl) ?_
      conv => whnf
      (repeat' (first | (apply kT (by with_reducible first | rfl | assumption); conv => whnf) | (apply kF (by with_reducible first | rfl | assumption); conv => whnf) | (apply kT (by decide); conv => whnf) | (apply kF (by decide); conv => whnf) | (apply kB <;> intro _ <;> conv => whnf) | (refine .inl ⟨_, ct, ?_⟩; conv => whnf) | (refine .inl ⟨_, cn, ?_⟩; conv => whnf) | (refine .inl ⟨_, wakes_pure, ?_⟩; conv => whnf) | fail))
      rfl
    | true =>
      rw [htn] at cn
      have hou : o.cs.length ≤ 45 ∧ o.us.length ≤ 6 := by
        unfold thinB at htn; simp only [Bool.and_eq_true, decide_eq_true_eq] at htn; exact ⟨htn.1.2, htn.2⟩
      have c1 := plateC_pure p (by omega)
      have c2 : Pure Try.prog 28 [plD p] (.tup [.agg [.seq ((dsAll p).cs.map ctD), .seq (usE (dsAll p).us)], dI (bwP p), dI 0]) := by unfold bwP; exact bestfn_pure hp
      obtain ⟨r1, r2, r3, r4, r5⟩ := bestX_right hp (by omega)
      have hbd := bwP_bd hp (by omega)
      have hml : (((dsAll p).cs.map ctD).length : Int) = bcP p := by rw [List.length_map]; exact r3
      have hbc : 0 ≤ bcP p ∧ bcP p ≤ 40 := by rw [← r3]; omega
      have hib := plan_inX r1
      have c3 : Pure Try.prog 39 [plD p, .agg [.seq ((dsAll p).cs.map ctD), .seq (usE (dsAll p).us)], dI (bwP p), dI ((dsAll p).cs.map ctD).length] (dB true) := by
        have h := prove_pure (p := p) (x := bestX p) (by omega) (by omega) hib (bwP p) (bcP p)
        rw [prove_of r1 (by rw [r2]; exact Int.le_refl _) (by rw [r3]; exact Int.le_refl _)] at h
        rw [hml]
        exact h
      have c4 := sawn_by hp hwl hw
      obtain ⟨s1, s2, s3⟩ := sawX_right hp ws
      have his := plan_inX s1
      have q1 : ∀ x : Pn, x.us.length ≤ 100000 → InX x → Pure Try.prog 39 [plD p, pnD x, dI (IntKind.i64.wrap (bwP p + 1)), dI 40] (dB false) := fun x hx hi => by
        have h := prove_pure (p := p) (x := x) (by omega) hx hi (bwP p + 1) 40
        rw [prove_more] at h
        rw [wS (by omega) (by omega)]
        exact h
      have q2 : ∀ x : Pn, x.us.length ≤ 100000 → InX x → Pure Try.prog 39 [plD p, pnD x, dI (bwP p), dI (IntKind.i64.wrap ((((dsAll p).cs.map ctD).length : Int) - 1))] (dB false) := fun x hx hi => by
        have h := prove_pure (p := p) (x := x) (by omega) hx hi (bwP p) (bcP p - 1)
        rw [prove_few] at h
        rw [hml, wS (by omega) (by omega)]
        exact h
      have p1 := planC_pure o (by omega) (by omega)
      have p2 := planC_pure (sawX p ws) (by omega) (by omega)
      refine pure_of pg Try.func11 (by kernel_rfl) ?_
      conv => whnf
      (repeat' (first | (apply kT (by with_reducible first | rfl | assumption); conv => whnf) | (apply kF (by with_reducible first | rfl | assumption); conv => whnf) | (apply kT (by decide); conv => whnf) | (apply kF (by decide); conv => whnf) | (apply kB <;> intro _ <;> conv => whnf) | (refine .inl ⟨_, ct, ?_⟩; conv => whnf) | (refine .inl ⟨_, cn, ?_⟩; conv => whnf) | (refine .inl ⟨_, c1, ?_⟩; conv => whnf) | (refine .inl ⟨_, c2, ?_⟩; conv => whnf) | (refine .inl ⟨_, c3, ?_⟩; conv => whnf) | (refine .inl ⟨_, c4, ?_⟩; conv => whnf) | fail))
      refine ⟨[], [3, 6, 7, 8, 10, 11], [0, 2, 147], 148, fun m s => ∃ k : Nat, k + m = 2 ∧ s = ⟨[(3, .ref 0 0), (6, .d (dB false)), (7, .ref 2 0), (8, .d (dI (bwP p))), (10, .ref 147 0), (11, .d (dI k))],
        [(0, .var false 24 ((plC p).map A.d)), (2, .var false 42 [.d (ctsD (dsAll p).cs), .d (isD (dsAll p).us)]), (147, .var false 79 [.d (ctsD o.cs), .d (isD o.us), .d (ctsD (sawX p ws).cs), .d (isD (sawX p ws).us)])], 148⟩, ?_, ?_⟩
      · conv => whnf
        exact ⟨2, 0, by omega, rfl⟩
      · rintro m _ ⟨k, hk, rfl⟩
        by_cases hk2 : k < 2
        · have f1 : decide ((k : Int) < 2) = true := decide_eq_true (by omega)
          obtain rfl | rfl : k = 0 ∨ k = 1 := by omega
          · conv => whnf
            (repeat' (first | (apply kT (by with_reducible first | rfl | assumption); conv => whnf) | (apply kF (by with_reducible first | rfl | assumption); conv => whnf) | (apply kT (by decide); conv => whnf) | (apply kF (by decide); conv => whnf) | (apply kB <;> intro _ <;> conv => whnf) | (refine .inl ⟨_, c1, ?_⟩; conv => whnf) | fail))
            (refine ⟨0, rfl, by omega, ?_⟩; conv => whnf)
            (repeat' (first | (apply kT (by with_reducible first | rfl | assumption); conv => whnf) | (apply kF (by with_reducible first | rfl | assumption); conv => whnf) | (apply kT (by decide); conv => whnf) | (apply kF (by decide); conv => whnf) | (apply kB <;> intro _ <;> conv => whnf) | (refine .inl ⟨_, p1, ?_⟩; conv => whnf) | (refine .inl ⟨_, c1, ?_⟩; conv => whnf) | (refine .inl ⟨_, q1 o (by omega) hio, ?_⟩; conv => whnf) | (refine .inl ⟨_, q2 o (by omega) hio, ?_⟩; conv => whnf) | fail))
            (refine ⟨0, rfl, by omega, ?_⟩; conv => whnf)
            (repeat' (first | (apply kT (by with_reducible first | rfl | assumption); conv => whnf) | (apply kF (by with_reducible first | rfl | assumption); conv => whnf) | (apply kT (by decide); conv => whnf) | (apply kF (by decide); conv => whnf) | (apply kB <;> intro _ <;> conv => whnf) | (refine .inl ⟨_, p1, ?_⟩; conv => whnf) | (refine .inl ⟨_, c1, ?_⟩; conv => whnf) | (refine .inl ⟨_, q1 o (by omega) hio, ?_⟩; conv => whnf) | (refine .inl ⟨_, q2 o (by omega) hio, ?_⟩; conv => whnf) | fail))
            refine ⟨m - 1, by omega, 1, by omega, ?_⟩
            rfl
          · conv => whnf
            (repeat' (first | (apply kT (by with_reducible first | rfl | assumption); conv => whnf) | (apply kF (by with_reducible first | rfl | assumption); conv => whnf) | (apply kT (by decide); conv => whnf) | (apply kF (by decide); conv => whnf) | (apply kB <;> intro _ <;> conv => whnf) | (refine .inl ⟨_, c1, ?_⟩; conv => whnf) | fail))
            (refine ⟨1, rfl, by omega, ?_⟩; conv => whnf)
            (repeat' (first | (apply kT (by with_reducible first | rfl | assumption); conv => whnf) | (apply kF (by with_reducible first | rfl | assumption); conv => whnf) | (apply kT (by decide); conv => whnf) | (apply kF (by decide); conv => whnf) | (apply kB <;> intro _ <;> conv => whnf) | (refine .inl ⟨_, p2, ?_⟩; conv => whnf) | (refine .inl ⟨_, c1, ?_⟩; conv => whnf) | (refine .inl ⟨_, q1 (sawX p ws) (by omega) his, ?_⟩; conv => whnf) | (refine .inl ⟨_, q2 (sawX p ws) (by omega) his, ?_⟩; conv => whnf) | fail))
            (refine ⟨1, rfl, by omega, ?_⟩; conv => whnf)
            (repeat' (first | (apply kT (by with_reducible first | rfl | assumption); conv => whnf) | (apply kF (by with_reducible first | rfl | assumption); conv => whnf) | (apply kT (by decide); conv => whnf) | (apply kF (by decide); conv => whnf) | (apply kB <;> intro _ <;> conv => whnf) | (refine .inl ⟨_, p2, ?_⟩; conv => whnf) | (refine .inl ⟨_, c1, ?_⟩; conv => whnf) | (refine .inl ⟨_, q1 (sawX p ws) (by omega) his, ?_⟩; conv => whnf) | (refine .inl ⟨_, q2 (sawX p ws) (by omega) his, ?_⟩; conv => whnf) | fail))
            refine ⟨m - 1, by omega, 2, by omega, ?_⟩
            rfl
        · have f1 : decide ((k : Int) < 2) = false := decide_eq_false (by omega)
          conv => whnf
          (repeat' (first | (apply kT (by with_reducible first | rfl | assumption); conv => whnf) | (apply kF (by with_reducible first | rfl | assumption); conv => whnf) | (apply kT (by decide); conv => whnf) | (apply kF (by decide); conv => whnf) | (apply kB <;> intro _ <;> conv => whnf) | (refine .inl ⟨_, wakes_pure, ?_⟩; conv => whnf) | fail))
          rfl
end Go.Ev.Ytojlbcodfebmgaa
