/-
  Contracts of functions, and plain laws, that lead to the statement. Written by an agent.
-/
import Derived.Test.YtojlbcodfebmgaaLh
set_option linter.unusedVariables false
set_option linter.unusedSimpArgs false
set_option maxRecDepth 100000
namespace Go.Ev.Ytojlbcodfebmgaa
open Go.Proofs
attribute [local irreducible] partsL fitsB checkI bestP
def wnB (w : Nat) : Wn := ⟨w.testBit 0, w.testBit 1, w.testBit 2, w.testBit 3⟩
abbrev gD (g : Int × Int) : List D := [dI g.1, dI g.2]
abbrev keyR (q : Pc) (w : Nat) : D := .agg [dI q.x, dI q.y, dI q.w, dI q.l, dI w]
def gB (p : Pl) (q : Pc) (w : Nat) : Int × Int := ((bestP p q (wnB w)).g, (bestP p q (wnB w)).c)
def candG (p : Pl) (l : List Pc) (w part : Nat) : Int × Int :=
  match l with
  | [a] => ((gB p a part).1, (gB p a part).2 + 1)
  | [a, b] => ((gB p a part).1 + (gB p b (w - part)).1, (gB p a part).2 + (gB p b (w - part)).2 + 1)
  | _ => (0, 1)
def memL (f : Pc → Nat → Es → Es) (l : List Pc) (w part : Nat) (es : Es) : Es :=
  match l with
  | [a] => f a part es
  | [a, b] => f b (w - part) (f a part es)
  | _ => es
abbrev Rs := (Int × Int) × Es
def betR (g o : Int × Int) : Int × Int := if betB g.1 g.2 o.1 o.2 = true then g else o
def stepR (p : Pl) (f : Pc → Nat → Es → Es) (l : List Pc) (w : Nat) (s : Rs) (part : Nat) : Rs :=
  if part &&& w = part then (betR (candG p l w part) s.1, memL f l w part s.2) else s
def atR (p : Pl) (f : Pc → Nat → Es → Es) (q : Pc) (ac : Bool) (w : Nat) (s : Rs) (a : Nat) : Rs :=
  if partsL q ac a p.s = [] then s else (List.range (w + 1)).foldl (stepR p f (partsL q ac a p.s) w) s
def kR (p : Pl) (f : Pc → Nat → Es → Es) (q : Pc) (w : Nat) (s : Rs) (ac : Bool) : Rs := (List.range ((farP q ac).toNat + 1)).foldl (atR p f q ac w) s
def useR (p : Pl) (q : Pc) (w : Nat) : Nat → Nat → Int × Int → Int × Int
  | 0, _, o => o
  | k + 1, i, o => useR p q w k (i + 1) (if (wnB w).get i = true ∧ fitsB (wtAt p.ws i) q = true ∧ betB (wtAt p.ws i).g 0 o.1 o.2 = true then ((wtAt p.ws i).g, 0) else o)
def totR (p : Pl) (f : Pc → Nat → Es → Es) (q : Pc) (w : Nat) (es : Es) : Rs :=
  if w = 0 then (useR p q w p.ws.length 0 (0, 0), es) else kR p f q w (kR p f q w (useR p q w p.ws.length 0 (0, 0), es) false) true
def memR (p : Pl) : Nat → Pc → Nat → Es → Es
  | 0, _, _, es => es
  | n + 1, q, w, es => match mapGet es (keyR q w) with
    | some _ => es
    | none => mapSet (totR p (memR p n) q w es).2 (keyR q w) (.agg (gD (totR p (memR p n) q w es).1))
/-! ### bits -/
theorem bits_sub : ∀ (w part : Fin 16), part.val &&& w.val = part.val → (wnB part.val).sub (wnB w.val) = true ∧ (wnB w.val).less (wnB part.val) = wnB (w.val - part.val) ∧ part.val ≤ w.val := by decide +kernel
theorem bits_of : ∀ (w : Fin 16) (a b c d : Bool), (Wn.mk a b c d).sub (wnB w.val) = true → ∃ part : Fin 16, part.val &&& w.val = part.val ∧ wnB part.val = ⟨a, b, c, d⟩ := by decide +kernel
theorem bits_self (w : Nat) : w &&& w = w := Nat.and_self w
theorem bit_sub {w part : Nat} (h : w ≤ 15) (hp : part &&& w = part) : (wnB part).sub (wnB w) = true ∧ (wnB w).less (wnB part) = wnB (w - part) ∧ part ≤ w := by
  have hle : part ≤ w := by rw [← hp]; exact Nat.and_le_right
  exact bits_sub ⟨w, by omega⟩ ⟨part, by omega⟩ hp
theorem bit_of {w : Nat} (h : w ≤ 15) {v : Wn} (hv : v.sub (wnB w) = true) : ∃ part : Nat, part &&& w = part ∧ wnB part = v ∧ part ≤ w := by
  obtain ⟨a, b, c, d⟩ := v
  obtain ⟨part, h1, h2⟩ := bits_of ⟨w, by omega⟩ a b c d hv
  exact ⟨part.val, h1, h2, by have := @Nat.and_le_right part.val w; rw [h1] at this; exact this⟩
/-! ### the gain is the best -/
theorem betR_keep {g c : Int} {x o : Int × Int} (h : LeG g c o.1 o.2) : LeG g c (betR x o).1 (betR x o).2 := by
  unfold betR
  split
  · rename_i hb
    rw [betB_true] at hb
    unfold LeG at *
    omega
  · exact h
theorem betR_hit {x o : Int × Int} : LeG x.1 x.2 (betR x o).1 (betR x o).2 := by
  unfold betR
  split
  · exact LeG.refl _ _
  · rename_i hb
    exact LeG_iff.2 ((Bool.not_eq_true _).mp hb)
theorem stepR_keep {p : Pl} {f : Pc → Nat → Es → Es} {l : List Pc} {w : Nat} {g c : Int} (s : Rs) (part : Nat) (h : LeG g c s.1.1 s.1.2) : LeG g c (stepR p f l w s part).1.1 (stepR p f l w s part).1.2 := by
  unfold stepR
  split
  · exact betR_keep h
  · exact h
theorem atR_keep {p : Pl} {f : Pc → Nat → Es → Es} {q : Pc} {ac : Bool} {w : Nat} {g c : Int} (s : Rs) (a : Nat) (h : LeG g c s.1.1 s.1.2) : LeG g c (atR p f q ac w s a).1.1 (atR p f q ac w s a).1.2 := by
  unfold atR
  split
  · exact h
  · exact foldl_keep (P := fun s : Rs => LeG g c s.1.1 s.1.2) (fun s part h => stepR_keep s part h) _ _ h
theorem kR_keep {p : Pl} {f : Pc → Nat → Es → Es} {q : Pc} {w : Nat} {g c : Int} (s : Rs) (ac : Bool) (h : LeG g c s.1.1 s.1.2) : LeG g c (kR p f q w s ac).1.1 (kR p f q w s ac).1.2 :=
  foldl_keep (P := fun s : Rs => LeG g c s.1.1 s.1.2) (fun s a h => atR_keep s a h) _ _ h
theorem kR_hit {p : Pl} {f : Pc → Nat → Es → Es} {q : Pc} {w : Nat} (hs : 0 ≤ p.s) {ac : Bool} {a : Int} (hne : partsL q ac a p.s ≠ []) {part : Nat} (hp : part &&& w = part) (hpw : part ≤ w) (s : Rs) :
    LeG (candG p (partsL q ac a p.s) w part).1 (candG p (partsL q ac a p.s) w part).2 (kR p f q w s ac).1.1 (kR p f q w s ac).1.2 := by
  obtain ⟨h0, h1⟩ := parts_range hs hne
  obtain ⟨a, rfl⟩ : ∃ n : Nat, a = n := ⟨a.toNat, by omega⟩
  unfold kR
  generalize hx : candG p (partsL q ac a p.s) w part = x
  refine foldl_hit (P := fun s : Rs => LeG x.1 x.2 s.1.1 s.1.2) (a0 := a) (fun s => ?_) (fun s b h => atR_keep s b h) _ (List.mem_range.2 (by omega)) _
  unfold atR
  rw [if_neg hne]
  refine foldl_hit (P := fun s : Rs => LeG x.1 x.2 s.1.1 s.1.2) (a0 := part) (fun s => ?_) (fun s b h => stepR_keep s b h) _ (List.mem_range.2 (by omega)) _
  unfold stepR
  rw [if_pos hp, hx]
  exact betR_hit
theorem useR_keep {p : Pl} {q : Pc} {w : Nat} {g c : Int} : ∀ (k i : Nat) (o : Int × Int), LeG g c o.1 o.2 → LeG g c (useR p q w k i o).1 (useR p q w k i o).2
  | 0, i, o, h => by rw [useR]; exact h
  | k + 1, i, o, h => by
    rw [useR]
    refine useR_keep k (i + 1) _ ?_
    split
    · rename_i hc
      have := betB_true.1 hc.2.2
      dsimp only
      unfold LeG at *
      omega
    · exact h
theorem useR_hit {p : Pl} {q : Pc} {w : Nat} {i : Nat} (h1 : (wnB w).get i = true) (h2 : fitsB (wtAt p.ws i) q = true) : ∀ (k i0 : Nat) (o : Int × Int), i0 ≤ i → i < i0 + k → LeG (wtAt p.ws i).g 0 (useR p q w k i0 o).1 (useR p q w k i0 o).2
  | 0, i0, o, h3, h4 => by omega
  | k + 1, i0, o, h3, h4 => by
    rw [useR]
    by_cases he : i0 = i
    · subst he
      refine useR_keep k _ _ ?_
      split
      · exact LeG.refl _ _
      · rename_i hc
        refine LeG_iff.2 ?_
        simp only [h1, h2, true_and, Bool.not_eq_true] at hc
        exact hc
    · exact useR_hit h1 h2 k (i0 + 1) _ (by omega) (by omega)
theorem useR_ach {p : Pl} {q : Pc} {w : Nat} : ∀ (k i : Nat) (o : Int × Int), i + k ≤ p.ws.length → Ach p q (wnB w) o.1 o.2 → Ach p q (wnB w) (useR p q w k i o).1 (useR p q w k i o).2
  | 0, i, o, _, h => by rw [useR]; exact h
  | k + 1, i, o, hi, h => by
    rw [useR]
    refine useR_ach k (i + 1) _ (by omega) ?_
    split
    · rename_i hc
      exact .use (by omega) hc.1 hc.2.1
    · exact h
theorem gB_ach {p : Pl} (hs : 0 ≤ p.s) {q : Pc} (w : Nat) (hq : OkP q) : Ach p q (wnB w) (gB p q w).1 (gB p q w).2 := best_ach hs _ (wnB w) hq (Nat.le_refl _)
theorem cand_ach {p : Pl} (hs : 0 ≤ p.s) {q : Pc} (hq : OkP q) {ac : Bool} {a : Int} (hne : partsL q ac a p.s ≠ []) {w part : Nat} (hw : w ≤ 15) (hp : part &&& w = part) :
    Ach p q (wnB w) (candG p (partsL q ac a p.s) w part).1 (candG p (partsL q ac a p.s) w part).2 := by
  obtain ⟨b1, b2, _⟩ := bit_sub hw hp
  have hok := parts_ok hq (ac := ac) (a := a) hs
  have hpl := parts_len q ac a p.s
  generalize hL : partsL q ac a p.s = l at hne hok hpl
  match l, hL, hne, hok, hpl with
  | [], _, hne, _, _ => exact absurd rfl hne
  | [r], hL, _, hok, _ => exact .one hL (ach_mono (gB_ach hs part (hok r (by simp))) _ b1)
  | [r, t], hL, _, hok, _ => exact .two hL b1 (gB_ach hs part (hok r (by simp))) (by rw [b2]; exact gB_ach hs _ (hok t (by simp)))
  | _ :: _ :: _ :: _, _, _, _, hpl => simp at hpl
theorem kR_ach {p : Pl} (hs : 0 ≤ p.s) {f : Pc → Nat → Es → Es} {q : Pc} (hq : OkP q) {w : Nat} (hw : w ≤ 15) (s : Rs) (ac : Bool) (h : Ach p q (wnB w) s.1.1 s.1.2) : Ach p q (wnB w) (kR p f q w s ac).1.1 (kR p f q w s ac).1.2 := by
  unfold kR
  refine foldl_keep (P := fun s : Rs => Ach p q (wnB w) s.1.1 s.1.2) (fun s a h => ?_) _ _ h
  unfold atR
  split
  · exact h
  · rename_i hne
    refine foldl_keep (P := fun s : Rs => Ach p q (wnB w) s.1.1 s.1.2) (fun s part h => ?_) _ _ h
    unfold stepR
    split
    · rename_i hp
      dsimp only
      unfold betR
      split
      · exact cand_ach hs hq hne hw hp
      · exact h
    · exact h
theorem totR_gain {p : Pl} (hc : checkI p = 0) {f : Pc → Nat → Es → Es} {q : Pc} (hq : OkP q) {w : Nat} (hw : w ≤ 15) (es : Es) : (totR p f q w es).1 = gB p q w := by
  have hs := (check_zero hc).2.2.2.1.1
  have hu := useR_ach (p := p) (q := q) (w := w) p.ws.length 0 (0, 0) (by omega) (.stop _ _)
  have h1 : Ach p q (wnB w) (totR p f q w es).1.1 (totR p f q w es).1.2 := by
    unfold totR
    split
    · exact hu
    · exact kR_ach hs hq hw _ _ (kR_ach hs hq hw _ _ hu)
  have h2 := best_opt hc h1 hq
  have h3 : LeG (gB p q w).1 (gB p q w).2 (totR p f q w es).1.1 (totR p f q w es).1.2 := by
    have hb := bestP_use hs hq (wnB w)
    have keep : ∀ {g c : Int}, LeG g c (useR p q w p.ws.length 0 (0, 0)).1 (useR p q w p.ws.length 0 (0, 0)).2 → LeG g c (totR p f q w es).1.1 (totR p f q w es).1.2 := fun h => by
      unfold totR
      split
      · exact h
      · exact kR_keep _ _ (kR_keep _ _ h)
    unfold gB
    cases hcut : (bestP p q (wnB w)).cut with
    | false =>
      rcases hb.noCutB hcut with ⟨_, e1, e2⟩ | ⟨e0, e1, e2, e3, e4, e5⟩
      · rw [e1, e2]
        exact keep (useR_keep _ _ _ (LeG.refl _ _))
      · rw [e4, e5]
        exact keep (useR_hit e2 e3 _ _ _ (by omega) (by omega))
    | true =>
      obtain ⟨e0, e1, e2, e3, e4, e5⟩ := hb.cutB hcut
      have hne := (cutsL_mem hq e1).2.2.2
      obtain ⟨part, p1, p2, p3⟩ := bit_of hw ((mem_partsW _ _).1 e2)
      have hw0 : w ≠ 0 := by
        rintro rfl
        have : (bestP p q (wnB 0)).cut = false := by
          rw [bestP_eq hs (wnB 0) hq.w0 hq.l0]
          unfold bestF
          rw [if_pos (show wnB 0 = Wn.none by decide)]
          rfl
        rw [this] at hcut; cases hcut
      have hcand : ((bestP p q (wnB w)).g, (bestP p q (wnB w)).c) = candG p (partsL q (bestP p q (wnB w)).how.ac (bestP p q (wnB w)).how.at_ p.s) w part := by
        have hpl := parts_len q (bestP p q (wnB w)).how.ac (bestP p q (wnB w)).how.at_ p.s
        have hb2 := (bit_sub hw p1).2.1
        rw [e4, e5]
        generalize partsL q (bestP p q (wnB w)).how.ac (bestP p q (wnB w)).how.at_ p.s = l at hne hpl
        match l, hne, hpl with
        | [], hne, _ => exact absurd rfl hne
        | [r], _, _ =>
          simp only [seeG, candG, gB]
          rw [p2, Int.add_comm 1]
        | [r, t], _, _ =>
          simp only [seeG, candG, gB]
          rw [p2, ← hb2, p2, show ∀ a b : Int, 1 + a + b = a + b + 1 by omega]
        | _ :: _ :: _ :: _, _, hpl => simp at hpl
      have hh := fun (s : Rs) => kR_hit (f := f) (q := q) (w := w) hs hne p1 p3 s
      rw [← hcand] at hh
      unfold totR
      rw [if_neg hw0]
      cases hac : (bestP p q (wnB w)).how.ac with
      | false => rw [hac] at hh; exact kR_keep _ _ (hh _)
      | true => rw [hac] at hh; exact hh _
  have h2 : LeG (totR p f q w es).1.1 (totR p f q w es).1.2 (gB p q w).1 (gB p q w).2 := h2
  unfold LeG at h2 h3
  exact Prod.ext (by omega) (by omega)
/-! ### the map -/
def OkR (p : Pl) (es : Es) : Prop := ∀ (q : Pc) (w : Nat) v, OkP q → w ≤ 15 → mapGet es (keyR q w) = some v → v = .agg (gD (gB p q w))
theorem keyEqR {q : Pc} {w : Nat} {d : D} : keyEq (keyR q w) d = true ↔ d = keyR q w := by
  constructor
  · intro h
    unfold keyEq at h
    split at h
    · rename_i h1; cases h1
    · rename_i xs ys h1
      cases h1
      split at h
      · rename_i z hz
        subst h
        rw [eqC_true hz]
      · cases h
    · cases h
  · rintro rfl
    unfold keyEq
    simp only
    rw [eqC_self _ (by intro d hd; simp only [List.mem_cons, List.not_mem_nil, or_false] at hd; rcases hd with h | h | h | h | h <;> subst h <;> exact .inl ⟨_, rfl⟩)]
theorem keyR_inj {q q' : Pc} {w w' : Nat} (h : keyR q w = keyR q' w') : q = q' ∧ w = w' := by
  simp only [keyR, D.agg.injEq, List.cons.injEq, dI, D.v.injEq, Value.int.injEq, true_and, and_true] at h
  obtain ⟨h1, h2, h3, h4, h5⟩ := h
  have h5 : w = w' := by omega
  cases q; cases q'
  simp_all
theorem get_setR {q q' : Pc} {w w' : Nat} {v u : D} : ∀ (es : Es), mapGet (mapSet es (keyR q w) v) (keyR q' w') = some u → (q' = q ∧ w' = w ∧ u = v) ∨ mapGet es (keyR q' w') = some u
  | [], h => by
    simp only [mapSet, mapGet] at h
    cases e : keyEq (keyR q' w') (keyR q w) with
    | false => rw [e] at h; cases h
    | true =>
      rw [e, cond_true, Option.some.injEq] at h
      obtain ⟨rfl, rfl⟩ := keyR_inj (keyEqR.1 e).symm
      exact .inl ⟨rfl, rfl, h.symm⟩
  | (k, x) :: r, h => by
    simp only [mapSet] at h
    cases e : keyEq (keyR q w) k with
    | true =>
      rw [e, cond_true] at h
      have hk := keyEqR.1 e
      subst hk
      simp only [mapGet] at h ⊢
      cases e2 : keyEq (keyR q' w') (keyR q w) with
      | true =>
        rw [e2, cond_true, Option.some.injEq] at h
        obtain ⟨rfl, rfl⟩ := keyR_inj (keyEqR.1 e2).symm
        exact .inl ⟨rfl, rfl, h.symm⟩
      | false => rw [e2, cond_false] at h; exact .inr h
    | false =>
      rw [e, cond_false] at h
      simp only [mapGet] at h ⊢
      cases e2 : keyEq (keyR q' w') k with
      | true => rw [e2, cond_true] at h; exact .inr h
      | false => rw [e2, cond_false] at h; exact get_setR r h
theorem okR_nil (p : Pl) : OkR p [] := fun q w v _ _ h => by simp [mapGet] at h
theorem memL_ok {p : Pl} {f : Pc → Nat → Es → Es} {l : List Pc} {w part : Nat} (hw : w ≤ 15) (hp : part ≤ w) (hf : ∀ r ∈ l, ∀ w es, w ≤ 15 → OkR p es → OkR p (f r w es)) {es : Es} (h : OkR p es) : OkR p (memL f l w part es) := by
  unfold memL
  match l with
  | [] => exact h
  | [a] => exact hf a (by simp) _ _ (by omega) h
  | [a, b] => exact hf b (by simp) _ _ (by omega) (hf a (by simp) _ _ (by omega) h)
  | _ :: _ :: _ :: _ => exact h
theorem kR_ok {p : Pl} {f : Pc → Nat → Es → Es} {q : Pc} {w : Nat} (hw : w ≤ 15) (hf : ∀ ac a, ∀ r ∈ partsL q ac a p.s, ∀ w es, w ≤ 15 → OkR p es → OkR p (f r w es)) (s : Rs) (ac : Bool) (h : OkR p s.2) : OkR p (kR p f q w s ac).2 := by
  unfold kR
  refine foldl_inv (P := fun s : Rs => OkR p s.2) _ _ h fun s a _ h => ?_
  unfold atR
  split
  · exact h
  · refine foldl_inv (P := fun s : Rs => OkR p s.2) _ _ h fun s part hp h => ?_
    have hp := List.mem_range.1 hp
    unfold stepR
    split
    · exact memL_ok hw (by omega) (hf ac a) h
    · exact h
theorem memR_ok {p : Pl} (hc : checkI p = 0) : ∀ (n : Nat) {q : Pc} (w : Nat) (es : Es), OkP q → sizeP q ≤ n → w ≤ 15 → OkR p es → OkR p (memR p n q w es)
  | 0, q, w, es, _, _, _, h => h
  | n + 1, q, w, es, hq, hn, hw, h => by
    have hs := (check_zero hc).2.2.2.1.1
    have hf : ∀ ac a, ∀ r ∈ partsL q ac a p.s, ∀ w es, w ≤ 15 → OkR p es → OkR p (memR p n r w es) := fun ac a r hr w es hw h => by
      have hsm := (part_small hs hq.w0 hq.l0 r hr).1
      exact memR_ok hc n w es (parts_ok hq hs r hr) (by omega) hw h
    rw [memR]
    split
    · exact h
    · intro q' w' v hq' hw' hv
      rcases get_setR _ hv with ⟨rfl, rfl, rfl⟩ | hv
      · rw [totR_gain hc hq' hw']
      · refine (?_ : OkR p (totR p (memR p n) q w es).2) q' w' v hq' hw' hv
        unfold totR
        split
        · exact h
        · exact kR_ok hw hf _ _ (kR_ok hw hf _ _ h)
end Go.Ev.Ytojlbcodfebmgaa

set_option linter.unusedVariables false
set_option linter.unusedSimpArgs false
set_option maxRecDepth 100000
namespace Go.Ev.Ytojlbcodfebmgaa
open Go.Proofs
attribute [local irreducible] Pure Bor Iter inB wtB partsL stepC useB usesB fitsB runC weighL uIdx betB cutsF bestP seeS memF cutsL partsW useF memN doN covB checkI plnI
theorem betR_pure (g c g' c' : Int) : Pure Try.prog 81 [.agg [dI g, dI c], .agg [dI g', dI c']] (dB (betB g c g' c')) := by
  unfold betB
  by_cases h1 : g > g'
  · have f1 : decide (g > g') = true := decide_eq_true h1
    rw [f1, Bool.true_or]
    refine pure_of pg Try.func81 (by kernel_rfl) ?_
    conv => whnf
    (repeat' (first | (apply kT (by with_reducible first | rfl | assumption); conv => whnf) | (apply kF (by with_reducible first | rfl | assumption); conv => whnf) | (apply kT (by decide); conv => whnf) | (apply kF (by decide); conv => whnf) | (apply kB <;> intro _ <;> conv => whnf) | fail))
    rfl
  · have f1 : decide (g > g') = false := decide_eq_false h1
    rw [f1, Bool.false_or]
    by_cases h2 : g = g'
    · have f2 : (g == g') = true := eqT h2
      rw [f2, Bool.true_and]
      refine pure_of pg Try.func81 (by kernel_rfl) ?_
      conv => whnf
      (repeat' (first | (apply kT (by with_reducible first | rfl | assumption); conv => whnf) | (apply kF (by with_reducible first | rfl | assumption); conv => whnf) | (apply kT (by decide); conv => whnf) | (apply kF (by decide); conv => whnf) | (apply kB <;> intro _ <;> conv => whnf) | fail))
      rfl
    · have f2 : (g == g') = false := eqF h2
      rw [f2, Bool.false_and]
      refine pure_of pg Try.func81 (by kernel_rfl) ?_
      conv => whnf
      (repeat' (first | (apply kT (by with_reducible first | rfl | assumption); conv => whnf) | (apply kF (by with_reducible first | rfl | assumption); conv => whnf) | (apply kT (by decide); conv => whnf) | (apply kF (by decide); conv => whnf) | (apply kB <;> intro _ <;> conv => whnf) | fail))
      rfl
theorem shr_bit' {w k : Nat} (hw : w ≤ 15) (hk : k < 4) : (((w : Int).fdiv (2 ^ (min (IntKind.u64.wrap (k : Int)).toNat IntKind.i64.bits))).tmod 2 == 1) = (wnB w).get k := by
  have : ∀ (w : Fin 16) (k : Fin 4), (((w.val : Int).fdiv (2 ^ (min (IntKind.u64.wrap (k.val : Int)).toNat IntKind.i64.bits))).tmod 2 == 1) = (wnB w.val).get k.val := by decide +kernel
  exact this ⟨w, by omega⟩ ⟨k, hk⟩
theorem and_bit' {a w : Nat} (ha : a ≤ 15) (hw : w ≤ 15) : IntKind.i64.wrap ((BitVec.ofInt IntKind.i64.bits (a : Int) &&& BitVec.ofInt IntKind.i64.bits (w : Int)).toNat : Int) = ((a &&& w : Nat) : Int) := by
  have : ∀ (a w : Fin 16), IntKind.i64.wrap ((BitVec.ofInt IntKind.i64.bits (a.val : Int) &&& BitVec.ofInt IntKind.i64.bits (w.val : Int)).toNat : Int) = ((a.val &&& w.val : Nat) : Int) := by decide +kernel
  exact this ⟨a, by omega⟩ ⟨w, by omega⟩
theorem range_drop {n a : Nat} (h : a < n) : (List.range n).drop a = a :: (List.range n).drop (a + 1) := by
  rw [List.drop_eq_getElem_cons (by simpa using h), List.getElem_range]
def KR (p : Pl) (f : Pc → Nat → Es → Es) (q : Pc) (w k : Nat) (s : Rs) : Rs := if k = 0 then kR p f q w (kR p f q w s false) true else if k = 1 then kR p f q w s true else s
theorem KR_step {p : Pl} {f : Pc → Nat → Es → Es} {q : Pc} {w k : Nat} (h : k < 2) (s : Rs) : KR p f q w k s = KR p f q w (k + 1) (kR p f q w s ((k : Int) == 1)) := by
  obtain rfl | rfl : k = 0 ∨ k = 1 := by omega
  · rfl
  · rfl
abbrev stD (q : Pc) (w : Nat) : D := .agg [dI q.x, dI q.y, dI q.w, dI q.l, dI w]
/-- what the reference's best does, for small pieces -/
def BestR (p : Pl) (n : Nat) : Prop := ∀ (r : Pc) (w : Nat) (es : Es), OkP r → sizeP r ≤ n → w ≤ 15 → OkR p es →
  Bor tb Try.prog 60 [.d (plD p), .d (stD r w), .own 0] [.map 141 58 es] 1 (.d (.agg (gD (gB p r w)))) [(0, .map 141 58 (memR p n r w es))]
theorem u64_pos {k : Nat} (h : k < 4) : 0 ≤ IntKind.u64.wrap (k : Int) := by
  have : ∀ k : Fin 4, 0 ≤ IntKind.u64.wrap ((k.val : Nat) : Int) := by decide +kernel
  exact this ⟨k, h⟩
attribute [local irreducible] gB memR stepR atR kR useR wnB
set_option maxHeartbeats 8000000 in
theorem bestR_step {p : Pl} (hp : checkI p = 0) {n : Nat} (H : BestR p n) : BestR p (n + 1) := by
  intro q w es hq hsz hw hes
  obtain ⟨hw4, _, _, hs, _⟩ := check_zero hp
  have hm : ((p.ws.map wtD).length : Int) = p.ws.length := by rw [List.length_map]
  have hgain := totR_gain (f := memR p n) hp hq hw es
  cases hg : mapGet es (keyR q w) with
  | some v =>
    have hv := hes q w v hq hw hg
    have e2 : memR p (n + 1) q w es = es := by rw [memR, hg]
    rw [e2]
    subst hv
    refine bor_ofO pg Try.func60 (by kernel_rfl) ?_
    conv => whnf
    (repeat' (first | (apply kT (by with_reducible first | rfl | assumption); conv => whnf) | (apply kF (by with_reducible first | rfl | assumption); conv => whnf) | (apply kT (by decide); conv => whnf) | (apply kF (by decide); conv => whnf) | (apply kB <;> intro _ <;> conv => whnf) | fail))
    (refine ⟨_, hg, ?_⟩; conv => whnf)
    (repeat' (first | (apply kT (by with_reducible first | rfl | assumption); conv => whnf) | (apply kF (by with_reducible first | rfl | assumption); conv => whnf) | (apply kT (by decide); conv => whnf) | (apply kF (by decide); conv => whnf) | (apply kB <;> intro _ <;> conv => whnf) | fail))
    (refine ⟨[0], ?_⟩; conv => whnf)
    exact ⟨rfl, rfl⟩
  | none =>
    have e2 : memR p (n + 1) q w es = mapSet (totR p (memR p n) q w es).2 (keyR q w) (.agg (gD (totR p (memR p n) q w es).1)) := by rw [memR, hg]
    rw [e2, hgain]
    clear e2
    obtain ⟨B, hB⟩ : ∃ B, B = gB p q w := ⟨_, rfl⟩
    rw [← hB] at hgain ⊢
    obtain ⟨T, hT⟩ : ∃ T, T = totR p (memR p n) q w es := ⟨_, rfl⟩
    rw [← hT] at hgain ⊢
    have hU : T = if w = 0 then (useR p q w p.ws.length 0 (0, 0), es) else KR p (memR p n) q w 0 (useR p q w p.ws.length 0 (0, 0), es) := by rw [hT]; unfold totR; rfl
    obtain ⟨O, hO⟩ : ∃ O : Int × Int → Es → List (Nat × Ob), O = fun o es => [(0, .map 141 58 es), (1, .var false 24 ((plC p).map A.d)), (2, .var false 141 [.d (dI q.x), .d (dI q.y), .d (dI q.w), .d (dI q.l), .d (dI w)]), (3, .var false 58 [.d (dI 0), .d (dI 0)]), (5, .var false 58 [.d (dI o.1), .d (dI o.2)])] := ⟨_, rfl⟩
    refine bor_ofO pg Try.func60 (by kernel_rfl) ?_
    conv => whnf
    (repeat' (first | (apply kT (by with_reducible first | rfl | assumption); conv => whnf) | (apply kF (by with_reducible first | rfl | assumption); conv => whnf) | (apply kT (by decide); conv => whnf) | (apply kF (by decide); conv => whnf) | (apply kB <;> intro _ <;> conv => whnf) | fail))
    (refine ⟨_, hg, ?_⟩; conv => whnf)
    (repeat' (first | (apply kT (by with_reducible first | rfl | assumption); conv => whnf) | (apply kF (by with_reducible first | rfl | assumption); conv => whnf) | (apply kT (by decide); conv => whnf) | (apply kF (by decide); conv => whnf) | (apply kB <;> intro _ <;> conv => whnf) | fail))
    refine ⟨[], [2, 3, 4, 6, 9, 10], [0, 1, 2, 3, 5], 6, fun m s => ∃ (k : Nat) (o : Int × Int), k + m = p.ws.length ∧ useR p q w (p.ws.length - k) k o = useR p q w p.ws.length 0 (0, 0) ∧
      s = ⟨[(2, .own 0), (3, .ref 1 0), (4, .ref 2 0), (6, .ref 3 0), (9, .ref 5 0), (10, .d (dI k))], O o es, 6⟩, ?_, ?_⟩
    · conv => whnf
      exact ⟨p.ws.length, 0, (0, 0), by omega, by rw [Nat.sub_zero], by rw [hO]; rfl⟩
    · rintro m _ ⟨k, o, hk, hrun, rfl⟩
      rw [hO]
      by_cases hlt : k < p.ws.length
      · have f2 : decide ((k : Int) < ((p.ws.map wtD).length : Int)) = true := decide_eq_true (by rw [hm]; omega)
        have hgw := getwa hlt
        have fb := shr_bit' hw (show k < 4 by omega)
        have hj : p.ws.length - k = (p.ws.length - (k + 1)) + 1 := by omega
        rw [hj, useR] at hrun
        have w1k := w1 k (by omega)
        refine Exists.elim (⟨_, rfl⟩ : ∃ z, z = wtAt p.ws k) fun wk ewk => ?_
        rw [← ewk] at hgw hrun
        have cf := fitsR_pure wk q
        have cb := betR_pure wk.g 0 o.1 o.2
        by_cases hb : (wnB w).get k = true
        · rw [hb] at fb
          by_cases hf : fitsB wk q = true
          · rw [hf] at cf
            by_cases hbt : betB wk.g 0 o.1 o.2 = true
            · rw [hbt] at cb
              rw [if_pos ⟨hb, hf, hbt⟩] at hrun
              conv => whnf
              (repeat' (first | (apply kT (by with_reducible first | rfl | assumption); conv => whnf) | (apply kF (by with_reducible first | rfl | assumption); conv => whnf) | (apply kT (by decide); conv => whnf) | (apply kF (by decide); conv => whnf) | (apply kB <;> intro _ <;> conv => whnf) | fail))
              (refine ⟨k, _, rfl, hgw, rfl, ?_⟩; conv => whnf)
              (repeat' (first | (apply kT (by with_reducible first | rfl | assumption); conv => whnf) | (apply kF (by with_reducible first | rfl | assumption); conv => whnf) | (apply kT (by decide); conv => whnf) | (apply kF (by decide); conv => whnf) | (apply kB <;> intro _ <;> conv => whnf) | fail))
              (refine ⟨u64_pos (by omega), ?_⟩; conv => whnf)
              (refine ⟨by omega, ?_⟩; conv => whnf)
              (repeat' (first | (apply kT (by with_reducible first | rfl | assumption); conv => whnf) | (apply kF (by with_reducible first | rfl | assumption); conv => whnf) | (apply kT (by decide); conv => whnf) | (apply kF (by decide); conv => whnf) | (apply kB <;> intro _ <;> conv => whnf) | fail))
              (refine ⟨k, _, rfl, hgw, rfl, ?_⟩; conv => whnf)
              (repeat' (first | (apply kT (by with_reducible first | rfl | assumption); conv => whnf) | (apply kF (by with_reducible first | rfl | assumption); conv => whnf) | (apply kT (by decide); conv => whnf) | (apply kF (by decide); conv => whnf) | (apply kB <;> intro _ <;> conv => whnf) | (refine .inl ⟨_, cf, ?_⟩; conv => whnf) | (refine .inl ⟨_, cb, ?_⟩; conv => whnf) | fail))
              refine ⟨m - 1, by omega, k + 1, _, by omega, hrun, ?_⟩
              rw [w1k]
              rfl
            · have hbt := (Bool.not_eq_true _).mp hbt
              rw [hbt] at cb
              rw [if_neg (by simp [hbt])] at hrun
              conv => whnf
              (repeat' (first | (apply kT (by with_reducible first | rfl | assumption); conv => whnf) | (apply kF (by with_reducible first | rfl | assumption); conv => whnf) | (apply kT (by decide); conv => whnf) | (apply kF (by decide); conv => whnf) | (apply kB <;> intro _ <;> conv => whnf) | fail))
              (refine ⟨k, _, rfl, hgw, rfl, ?_⟩; conv => whnf)
              (repeat' (first | (apply kT (by with_reducible first | rfl | assumption); conv => whnf) | (apply kF (by with_reducible first | rfl | assumption); conv => whnf) | (apply kT (by decide); conv => whnf) | (apply kF (by decide); conv => whnf) | (apply kB <;> intro _ <;> conv => whnf) | fail))
              (refine ⟨u64_pos (by omega), ?_⟩; conv => whnf)
              (refine ⟨by omega, ?_⟩; conv => whnf)
              (repeat' (first | (apply kT (by with_reducible first | rfl | assumption); conv => whnf) | (apply kF (by with_reducible first | rfl | assumption); conv => whnf) | (apply kT (by decide); conv => whnf) | (apply kF (by decide); conv => whnf) | (apply kB <;> intro _ <;> conv => whnf) | fail))
              (refine ⟨k, _, rfl, hgw, rfl, ?_⟩; conv => whnf)
              (repeat' (first | (apply kT (by with_reducible first | rfl | assumption); conv => whnf) | (apply kF (by with_reducible first | rfl | assumption); conv => whnf) | (apply kT (by decide); conv => whnf) | (apply kF (by decide); conv => whnf) | (apply kB <;> intro _ <;> conv => whnf) | (refine .inl ⟨_, cf, ?_⟩; conv => whnf) | (refine .inl ⟨_, cb, ?_⟩; conv => whnf) | fail))
              refine ⟨m - 1, by omega, k + 1, o, by omega, hrun, ?_⟩
              rw [w1k]
              rfl
          · have hf := (Bool.not_eq_true _).mp hf
            rw [hf] at cf
            rw [if_neg (by simp [hf])] at hrun
            conv => whnf
            (repeat' (first | (apply kT (by with_reducible first | rfl | assumption); conv => whnf) | (apply kF (by with_reducible first | rfl | assumption); conv => whnf) | (apply kT (by decide); conv => whnf) | (apply kF (by decide); conv => whnf) | (apply kB <;> intro _ <;> conv => whnf) | fail))
            (refine ⟨k, _, rfl, hgw, rfl, ?_⟩; conv => whnf)
            (repeat' (first | (apply kT (by with_reducible first | rfl | assumption); conv => whnf) | (apply kF (by with_reducible first | rfl | assumption); conv => whnf) | (apply kT (by decide); conv => whnf) | (apply kF (by decide); conv => whnf) | (apply kB <;> intro _ <;> conv => whnf) | fail))
            (refine ⟨u64_pos (by omega), ?_⟩; conv => whnf)
            (refine ⟨by omega, ?_⟩; conv => whnf)
            (repeat' (first | (apply kT (by with_reducible first | rfl | assumption); conv => whnf) | (apply kF (by with_reducible first | rfl | assumption); conv => whnf) | (apply kT (by decide); conv => whnf) | (apply kF (by decide); conv => whnf) | (apply kB <;> intro _ <;> conv => whnf) | fail))
            (refine ⟨k, _, rfl, hgw, rfl, ?_⟩; conv => whnf)
            (repeat' (first | (apply kT (by with_reducible first | rfl | assumption); conv => whnf) | (apply kF (by with_reducible first | rfl | assumption); conv => whnf) | (apply kT (by decide); conv => whnf) | (apply kF (by decide); conv => whnf) | (apply kB <;> intro _ <;> conv => whnf) | (refine .inl ⟨_, cf, ?_⟩; conv => whnf) | fail))
            refine ⟨m - 1, by omega, k + 1, o, by omega, hrun, ?_⟩
            rw [w1k]
            rfl
        · have hb := (Bool.not_eq_true _).mp hb
          rw [hb] at fb
          rw [if_neg (by simp [hb])] at hrun
          conv => whnf
          (repeat' (first | (apply kT (by with_reducible first | rfl | assumption); conv => whnf) | (apply kF (by with_reducible first | rfl | assumption); conv => whnf) | (apply kT (by decide); conv => whnf) | (apply kF (by decide); conv => whnf) | (apply kB <;> intro _ <;> conv => whnf) | fail))
          (refine ⟨k, _, rfl, hgw, rfl, ?_⟩; conv => whnf)
          (repeat' (first | (apply kT (by with_reducible first | rfl | assumption); conv => whnf) | (apply kF (by with_reducible first | rfl | assumption); conv => whnf) | (apply kT (by decide); conv => whnf) | (apply kF (by decide); conv => whnf) | (apply kB <;> intro _ <;> conv => whnf) | fail))
          (refine ⟨u64_pos (by omega), ?_⟩; conv => whnf)
          (refine ⟨by omega, ?_⟩; conv => whnf)
          (repeat' (first | (apply kT (by with_reducible first | rfl | assumption); conv => whnf) | (apply kF (by with_reducible first | rfl | assumption); conv => whnf) | (apply kT (by decide); conv => whnf) | (apply kF (by decide); conv => whnf) | (apply kB <;> intro _ <;> conv => whnf) | fail))
          refine ⟨m - 1, by omega, k + 1, o, by omega, hrun, ?_⟩
          rw [w1k]
          rfl
      · have f2 : decide ((k : Int) < ((p.ws.map wtD).length : Int)) = false := decide_eq_false (by rw [hm]; omega)
        rw [show p.ws.length - k = 0 by omega, useR] at hrun
        rw [← hrun] at hU
        clear hrun
        conv => whnf
        (repeat' (first | (apply kT (by with_reducible first | rfl | assumption); conv => whnf) | (apply kF (by with_reducible first | rfl | assumption); conv => whnf) | (apply kT (by decide); conv => whnf) | (apply kF (by decide); conv => whnf) | (apply kB <;> intro _ <;> conv => whnf) | fail))
        refine ⟨[], [2, 3, 4, 6, 9, 12], [0, 1, 2, 3, 5], 6, fun m s => ∃ (k : Nat) (r : Rs), k + m = 2 ∧ (w ≠ 0 → KR p (memR p n) q w k r = T) ∧ (w = 0 → r = T) ∧ OkR p r.2 ∧
          s = ⟨[(2, .own 0), (3, .ref 1 0), (4, .ref 2 0), (6, .ref 3 0), (9, .ref 5 0), (12, .d (dI k))], O r.1 r.2, 6⟩, ?_, ?_⟩
        · conv => whnf
          refine ⟨2, 0, (o, es), by omega, fun h => by rw [hU, if_neg h], fun h => by rw [hU, if_pos h], hes, ?_⟩
          rw [hO]
          rfl
        · rintro m2 _ ⟨k2, r2, hk2, hT1, hT2, ok2, rfl⟩
          rw [hO]
          have fin : r2 = T → ¬ (k2 < 2 ∧ w ≠ 0) → True := fun _ _ => trivial
          by_cases hc : k2 < 2 ∧ w ≠ 0
          · have f3 : decide ((k2 : Int) < 2) = true := decide_eq_true (by omega)
            have f4 : ((w : Int) != 0) = true := by rw [bne_iff_ne]; omega
            have hT1 := hT1 hc.2
            rw [KR_step hc.1] at hT1
            refine Exists.elim (⟨_, rfl⟩ : ∃ z, z = ((k2 : Int) == 1)) fun ac eac => ?_
            rw [← eac] at hT1
            refine Exists.elim (⟨_, rfl⟩ : ∃ z, z = kR p (memR p n) q w r2 ac) fun R3 eR3 => ?_
            rw [← eR3] at hT1
            have cfar := far_pure' q ac
            rw [eac] at cfar
            have hfar : 1 ≤ farP q ac ∧ farP q ac ≤ 1000 := by
              have := hq.w0; have := hq.l0; have := hq.x0; have := hq.y0; have := hq.x1; have := hq.y1
              unfold farP; cases ac <;> simp only [cond_true, cond_false] <;> omega
            refine Exists.elim (⟨(farP q ac).toNat, by omega⟩ : ∃ F : Nat, farP q ac = F) fun F hF => ?_
            have eR3' : R3 = (List.range (F + 1)).foldl (atR p (memR p n) q ac w) r2 := by rw [eR3]; unfold kR; rw [hF, Int.toNat_natCast]
            rw [← eac, hF, eac] at cfar
            conv => whnf
            (repeat' (first | (apply kT (by with_reducible first | rfl | assumption); conv => whnf) | (apply kF (by with_reducible first | rfl | assumption); conv => whnf) | (apply kT (by decide); conv => whnf) | (apply kF (by decide); conv => whnf) | (apply kB <;> intro _ <;> conv => whnf) | fail))
            refine ⟨[], [2, 3, 4, 6, 9, 12, 13], [0, 1, 2, 3, 5], 6, fun m s => ∃ (a : Nat) (r : Rs), a + m = F + 1 ∧ ((List.range (F + 1)).drop a).foldl (atR p (memR p n) q ac w) r = R3 ∧ OkR p r.2 ∧
              s = ⟨[(2, .own 0), (3, .ref 1 0), (4, .ref 2 0), (6, .ref 3 0), (9, .ref 5 0), (12, .d (dI k2)), (13, .d (dI a))], O r.1 r.2, 6⟩, ?_, ?_⟩
            · conv => whnf
              refine ⟨F + 1, 0, r2, by omega, by rw [List.drop_zero, eR3'], ok2, ?_⟩
              rw [hO]
              rfl
            · rintro m3 _ ⟨a, r3, ha, hR3, ok3, rfl⟩
              rw [hO]
              by_cases hal : a < F + 1
              · have f5 : decide ((a : Int) ≤ (F : Int)) = true := decide_eq_true (by omega)
                rw [range_drop hal, List.foldl_cons] at hR3
                refine Exists.elim (⟨_, rfl⟩ : ∃ z, z = atR p (memR p n) q ac w r3 a) fun R4 eR4 => ?_
                rw [← eR4] at hR3
                have cpt := partsR_pure hq ac (a : Int) hs
                rw [eac] at cpt
                have hsm := part_small (q := q) (ac := ac) (a := (a : Int)) hs.1 hq.w0 hq.l0
                have hokp := parts_ok hq (ac := ac) (a := (a : Int)) hs.1
                have hpl := parts_len q ac (a : Int) p.s
                have eR4' : R4 = if partsL q ac a p.s = [] then r3 else (List.range (w + 1)).foldl (stepR p (memR p n) (partsL q ac a p.s) w) r3 := by rw [eR4]; unfold atR; rfl
                rw [← eac] at cpt
                refine Exists.elim (⟨_, rfl⟩ : ∃ z, z = partsL q ac a p.s) fun l el => ?_
                rw [← el] at cpt hsm hokp hpl eR4'
                rw [eac] at cpt
                have hml : ((l.map pcD).length : Int) = l.length := by rw [List.length_map]
                have w1a := w1 a (by omega)
                have w1k2 := w1 k2 (by omega)
                conv => whnf
                (repeat' (first | (apply kT (by with_reducible first | rfl | assumption); conv => whnf) | (apply kF (by with_reducible first | rfl | assumption); conv => whnf) | (apply kT (by decide); conv => whnf) | (apply kF (by decide); conv => whnf) | (apply kB <;> intro _ <;> conv => whnf) | (refine .inl ⟨_, cfar, ?_⟩; conv => whnf) | (refine .inl ⟨_, cpt, ?_⟩; conv => whnf) | fail))
                refine Or.elim (Classical.em (l = [])) (fun hl0 => ?_) (fun hl0 => ?_)
                · have f6 : decide ((0 : Int) ≤ (w : Int)) = true := decide_eq_true (by omega)
                  have f7 : decide (((l.map pcD).length : Int) > 0) = false := decide_eq_false (by rw [hml, hl0]; simp)
                  rw [if_pos hl0] at eR4'
                  rw [eR4'] at hR3
                  refine ⟨[], [2, 3, 4, 6, 9, 12, 13, 14, 15], [0, 1, 2, 3, 5], 6, fun m s => m = 0 ∧
                    s = ⟨[(2, .own 0), (3, .ref 1 0), (4, .ref 2 0), (6, .ref 3 0), (9, .ref 5 0), (12, .d (dI k2)), (13, .d (dI a)), (14, .d (pcsD l)), (15, .d (dI 0))], O r3.1 r3.2, 6⟩, ?_, ?_⟩
                  · conv => whnf
                    refine ⟨0, rfl, ?_⟩
                    rw [hO]
                    rfl
                  · rintro m4 _ ⟨_, rfl⟩
                    rw [hO]
                    conv => whnf
                    (repeat' (first | (apply kT (by with_reducible first | rfl | assumption); conv => whnf) | (apply kF (by with_reducible first | rfl | assumption); conv => whnf) | (apply kT (by decide); conv => whnf) | (apply kF (by decide); conv => whnf) | (apply kB <;> intro _ <;> conv => whnf) | fail))
                    refine ⟨m3 - 1, by omega, a + 1, r3, by omega, hR3, ok3, ?_⟩
                    rw [w1a]
                    rfl
                · have hpos : 0 < l.length := List.length_pos_iff.2 hl0
                  have f7 : decide (((l.map pcD).length : Int) > 0) = true := decide_eq_true (by rw [hml]; omega)
                  rw [if_neg hl0] at eR4'
                  refine ⟨[], [2, 3, 4, 6, 9, 12, 13, 14, 15], [0, 1, 2, 3, 5], 6, fun m s => ∃ (j : Nat) (r : Rs), j + m = w + 1 ∧ ((List.range (w + 1)).drop j).foldl (stepR p (memR p n) l w) r = R4 ∧ OkR p r.2 ∧
                    s = ⟨[(2, .own 0), (3, .ref 1 0), (4, .ref 2 0), (6, .ref 3 0), (9, .ref 5 0), (12, .d (dI k2)), (13, .d (dI a)), (14, .d (pcsD l)), (15, .d (dI j))], O r.1 r.2, 6⟩, ?_, ?_⟩
                  · conv => whnf
                    refine ⟨w + 1, 0, r3, by omega, by rw [List.drop_zero, eR4'], ok3, ?_⟩
                    rw [hO]
                    rfl
                  · rintro m4 _ ⟨j, r4, hj, hR4, ok4, rfl⟩
                    rw [hO]
                    by_cases hjl : j < w + 1
                    · have f6 : decide ((j : Int) ≤ (w : Int)) = true := decide_eq_true (by omega)
                      have fan := and_bit' (a := j) (w := w) (by omega) hw
                      have w1j := w1 j (by omega)
                      rw [range_drop hjl, List.foldl_cons] at hR4
                      by_cases hpt : j &&& w = j
                      · have f8 : (IntKind.i64.wrap ((BitVec.ofInt IntKind.i64.bits (j : Int) &&& BitVec.ofInt IntKind.i64.bits (w : Int)).toNat : Int) != (j : Int)) = false := by rw [fan, hpt, bne_self_eq_false]
                        have hsh : (∃ t0, l = [t0]) ∨ ∃ t0 t1, l = [t0, t1] := by
                          match l, hl0, hpl with
                          | [], h, _ => exact absurd rfl h
                          | [t0], _, _ => exact .inl ⟨t0, rfl⟩
                          | [t0, t1], _, _ => exact .inr ⟨t0, t1, rfl⟩
                          | _ :: _ :: _ :: _, _, h => simp at h
                        refine Or.elim hsh (fun h1 => ?_) (fun h2 => ?_)
                        · refine Exists.elim h1 fun t0 h1 => ?_
                          have hg0 : (l.map pcD)[0]? = some (pcD t0) := by rw [h1]; rfl
                          have f9 : (((l.map pcD).length : Int) == 2) = false := by rw [hml, h1]; rfl
                          have ht0 : t0 ∈ l := by rw [h1]; simp
                          have oT := hokp t0 ht0
                          have sT := hsm t0 ht0
                          have HB := H t0 j r4.2 oT (by omega) (by omega) ok4
                          have okE := memR_ok hp n j r4.2 oT (by omega) (by omega) ok4
                          have hbd := bestP_bd (wsOk hp) (wnB j) oT
                          have hun := units_le oT
                          have hG : ((gB p t0 j).1 = (bestP p t0 (wnB j)).g) ∧ (gB p t0 j).2 = (bestP p t0 (wnB j)).c := by unfold gB; exact ⟨rfl, rfl⟩
                          have hst : stepR p (memR p n) l w r4 j = (betR ((gB p t0 j).1, (gB p t0 j).2 + 1) r4.1, memR p n t0 j r4.2) := by unfold stepR; rw [if_pos hpt, h1]; rfl
                          refine Exists.elim (⟨_, rfl⟩ : ∃ z, z = gB p t0 j) fun G0 eG0 => ?_
                          refine Exists.elim (⟨_, rfl⟩ : ∃ z, z = memR p n t0 j r4.2) fun E0 eE0 => ?_
                          rw [← eE0] at okE HB hst
                          rw [← eG0] at hG HB hst
                          have wc : IntKind.i64.wrap (G0.2 + 1) = G0.2 + 1 := wrapI (by rw [hG.2]; have := hbd.c0; have := hbd.c1; omega) (by rw [hG.2]; have := hbd.c0; have := hbd.c1; omega)
                          have cb := betR_pure G0.1 (IntKind.i64.wrap (G0.2 + 1)) r4.1.1 r4.1.2
                          rw [hst] at hR4
                          unfold betR at hR4
                          dsimp only at hR4
                          by_cases hbt : betB G0.1 (G0.2 + 1) r4.1.1 r4.1.2 = true
                          · rw [show betB G0.1 (IntKind.i64.wrap (G0.2 + 1)) r4.1.1 r4.1.2 = true by rw [wc]; exact hbt] at cb
                            rw [if_pos hbt] at hR4
                            conv => whnf
                            (repeat' (first | (apply kT (by with_reducible first | rfl | assumption); conv => whnf) | (apply kF (by with_reducible first | rfl | assumption); conv => whnf) | (apply kT (by decide); conv => whnf) | (apply kF (by decide); conv => whnf) | (apply kB <;> intro _ <;> conv => whnf) | fail))
                            (refine ⟨0, _, rfl, hg0, rfl, ?_⟩; conv => whnf)
                            (repeat' (first | (apply kT (by with_reducible first | rfl | assumption); conv => whnf) | (apply kF (by with_reducible first | rfl | assumption); conv => whnf) | (apply kT (by decide); conv => whnf) | (apply kF (by decide); conv => whnf) | (apply kB <;> intro _ <;> conv => whnf) | fail))
                            (refine .inr ⟨[0], 1, _, _, HB, ?_⟩; conv => whnf)
                            (repeat' (first | (apply kT (by with_reducible first | rfl | assumption); conv => whnf) | (apply kF (by with_reducible first | rfl | assumption); conv => whnf) | (apply kT (by decide); conv => whnf) | (apply kF (by decide); conv => whnf) | (apply kB <;> intro _ <;> conv => whnf) | (refine .inl ⟨_, cb, ?_⟩; conv => whnf) | fail))
                            refine ⟨m4 - 1, by omega, j + 1, ((G0.1, G0.2 + 1), E0), by omega, hR4, okE, ?_⟩
                            rw [w1j, wc]
                            rfl
                          · have hbt := (Bool.not_eq_true _).mp hbt
                            rw [show betB G0.1 (IntKind.i64.wrap (G0.2 + 1)) r4.1.1 r4.1.2 = false by rw [wc]; exact hbt] at cb
                            rw [if_neg (by rw [hbt]; decide)] at hR4
                            conv => whnf
                            (repeat' (first | (apply kT (by with_reducible first | rfl | assumption); conv => whnf) | (apply kF (by with_reducible first | rfl | assumption); conv => whnf) | (apply kT (by decide); conv => whnf) | (apply kF (by decide); conv => whnf) | (apply kB <;> intro _ <;> conv => whnf) | fail))
                            (refine ⟨0, _, rfl, hg0, rfl, ?_⟩; conv => whnf)
                            (repeat' (first | (apply kT (by with_reducible first | rfl | assumption); conv => whnf) | (apply kF (by with_reducible first | rfl | assumption); conv => whnf) | (apply kT (by decide); conv => whnf) | (apply kF (by decide); conv => whnf) | (apply kB <;> intro _ <;> conv => whnf) | fail))
                            (refine .inr ⟨[0], 1, _, _, HB, ?_⟩; conv => whnf)
                            (repeat' (first | (apply kT (by with_reducible first | rfl | assumption); conv => whnf) | (apply kF (by with_reducible first | rfl | assumption); conv => whnf) | (apply kT (by decide); conv => whnf) | (apply kF (by decide); conv => whnf) | (apply kB <;> intro _ <;> conv => whnf) | (refine .inl ⟨_, cb, ?_⟩; conv => whnf) | fail))
                            refine ⟨m4 - 1, by omega, j + 1, (r4.1, E0), by omega, hR4, okE, ?_⟩
                            rw [w1j]
                            rfl
                        · refine Exists.elim h2 fun t0 h2 => ?_
                          refine Exists.elim h2 fun t1 h2 => ?_
                          have hg0 : (l.map pcD)[0]? = some (pcD t0) := by rw [h2]; rfl
                          have hg1 : (l.map pcD)[1]? = some (pcD t1) := by rw [h2]; rfl
                          have f9 : (((l.map pcD).length : Int) == 2) = true := by rw [hml, h2]; rfl
                          have ht0 : t0 ∈ l := by rw [h2]; simp
                          have ht1 : t1 ∈ l := by rw [h2]; simp
                          have oT := hokp t0 ht0
                          have sT := hsm t0 ht0
                          have oT1 := hokp t1 ht1
                          have sT1 := hsm t1 ht1
                          have HB := H t0 j r4.2 oT (by omega) (by omega) ok4
                          have okE := memR_ok hp n j r4.2 oT (by omega) (by omega) ok4
                          have HB1 := H t1 (w - j) (memR p n t0 j r4.2) oT1 (by omega) (by omega) okE
                          have okE1 := memR_ok hp n (w - j) (memR p n t0 j r4.2) oT1 (by omega) (by omega) okE
                          have hbd := bestP_bd (wsOk hp) (wnB j) oT
                          have hun := units_le oT
                          have hbd1 := bestP_bd (wsOk hp) (wnB (w - j)) oT1
                          have hun1 := units_le oT1
                          have hG : ((gB p t0 j).1 = (bestP p t0 (wnB j)).g) ∧ (gB p t0 j).2 = (bestP p t0 (wnB j)).c := by unfold gB; exact ⟨rfl, rfl⟩
                          have hG1 : ((gB p t1 (w - j)).1 = (bestP p t1 (wnB (w - j))).g) ∧ (gB p t1 (w - j)).2 = (bestP p t1 (wnB (w - j))).c := by unfold gB; exact ⟨rfl, rfl⟩
                          have hst : stepR p (memR p n) l w r4 j = (betR ((gB p t0 j).1 + (gB p t1 (w - j)).1, (gB p t0 j).2 + (gB p t1 (w - j)).2 + 1) r4.1, memR p n t1 (w - j) (memR p n t0 j r4.2)) := by unfold stepR; rw [if_pos hpt, h2]; rfl
                          refine Exists.elim (⟨_, rfl⟩ : ∃ z, z = gB p t0 j) fun G0 eG0 => ?_
                          refine Exists.elim (⟨_, rfl⟩ : ∃ z, z = gB p t1 (w - j)) fun G1 eG1 => ?_
                          refine Exists.elim (⟨_, rfl⟩ : ∃ z, z = memR p n t0 j r4.2) fun E0 eE0 => ?_
                          rw [← eE0] at okE HB HB1 okE1 hst
                          refine Exists.elim (⟨_, rfl⟩ : ∃ z, z = memR p n t1 (w - j) E0) fun E1 eE1 => ?_
                          rw [← eE1] at okE1 HB1 hst
                          rw [← eG0] at hG HB hst
                          rw [← eG1] at hG1 HB1 hst
                          have hjw : IntKind.i64.wrap ((w : Int) - (j : Int)) = ((w - j : Nat) : Int) := by rw [wS (by omega) (by omega)]; omega
                          rw [stD, ← hjw] at HB1
                          have q0 := hbd.g0
                          have q1 := hbd.g1
                          have q2 := hbd.c0
                          have q3 := hbd.c1
                          have q4 := hbd1.g0
                          have q5 := hbd1.g1
                          have q6 := hbd1.c0
                          have q7 := hbd1.c1
                          rw [← hG.1] at q0 q1
                          rw [← hG.2] at q2 q3
                          rw [← hG1.1] at q4 q5
                          rw [← hG1.2] at q6 q7
                          have wa : IntKind.i64.wrap (G0.1 + G1.1) = G0.1 + G1.1 := wrapI (by omega) (by omega)
                          have wb : IntKind.i64.wrap (G0.2 + G1.2) = G0.2 + G1.2 := wrapI (by omega) (by omega)
                          have wc : IntKind.i64.wrap (G0.2 + G1.2 + 1) = G0.2 + G1.2 + 1 := wrapI (by omega) (by omega)
                          have cb := betR_pure (IntKind.i64.wrap (G0.1 + G1.1)) (IntKind.i64.wrap (IntKind.i64.wrap (G0.2 + G1.2) + 1)) r4.1.1 r4.1.2
                          rw [hst] at hR4
                          unfold betR at hR4
                          dsimp only at hR4
                          by_cases hbt : betB (G0.1 + G1.1) (G0.2 + G1.2 + 1) r4.1.1 r4.1.2 = true
                          · rw [show betB (IntKind.i64.wrap (G0.1 + G1.1)) (IntKind.i64.wrap (IntKind.i64.wrap (G0.2 + G1.2) + 1)) r4.1.1 r4.1.2 = true by rw [wa, wb, wc]; exact hbt] at cb
                            rw [if_pos hbt] at hR4
                            conv => whnf
                            (repeat' (first | (apply kT (by with_reducible first | rfl | assumption); conv => whnf) | (apply kF (by with_reducible first | rfl | assumption); conv => whnf) | (apply kT (by decide); conv => whnf) | (apply kF (by decide); conv => whnf) | (apply kB <;> intro _ <;> conv => whnf) | fail))
                            (refine ⟨0, _, rfl, hg0, rfl, ?_⟩; conv => whnf)
                            (repeat' (first | (apply kT (by with_reducible first | rfl | assumption); conv => whnf) | (apply kF (by with_reducible first | rfl | assumption); conv => whnf) | (apply kT (by decide); conv => whnf) | (apply kF (by decide); conv => whnf) | (apply kB <;> intro _ <;> conv => whnf) | fail))
                            (refine .inr ⟨[0], 1, _, _, HB, ?_⟩; conv => whnf)
                            (repeat' (first | (apply kT (by with_reducible first | rfl | assumption); conv => whnf) | (apply kF (by with_reducible first | rfl | assumption); conv => whnf) | (apply kT (by decide); conv => whnf) | (apply kF (by decide); conv => whnf) | (apply kB <;> intro _ <;> conv => whnf) | fail))
                            (refine ⟨1, _, rfl, hg1, rfl, ?_⟩; conv => whnf)
                            (repeat' (first | (apply kT (by with_reducible first | rfl | assumption); conv => whnf) | (apply kF (by with_reducible first | rfl | assumption); conv => whnf) | (apply kT (by decide); conv => whnf) | (apply kF (by decide); conv => whnf) | (apply kB <;> intro _ <;> conv => whnf) | fail))
                            (refine .inr ⟨[0], 1, _, _, HB1, ?_⟩; conv => whnf)
                            (repeat' (first | (apply kT (by with_reducible first | rfl | assumption); conv => whnf) | (apply kF (by with_reducible first | rfl | assumption); conv => whnf) | (apply kT (by decide); conv => whnf) | (apply kF (by decide); conv => whnf) | (apply kB <;> intro _ <;> conv => whnf) | (refine .inl ⟨_, cb, ?_⟩; conv => whnf) | fail))
                            refine ⟨m4 - 1, by omega, j + 1, ((G0.1 + G1.1, G0.2 + G1.2 + 1), E1), by omega, hR4, okE1, ?_⟩
                            rw [w1j, wa, wb, wc]
                            rfl
                          · have hbt := (Bool.not_eq_true _).mp hbt
                            rw [show betB (IntKind.i64.wrap (G0.1 + G1.1)) (IntKind.i64.wrap (IntKind.i64.wrap (G0.2 + G1.2) + 1)) r4.1.1 r4.1.2 = false by rw [wa, wb, wc]; exact hbt] at cb
                            rw [if_neg (by rw [hbt]; decide)] at hR4
                            conv => whnf
                            (repeat' (first | (apply kT (by with_reducible first | rfl | assumption); conv => whnf) | (apply kF (by with_reducible first | rfl | assumption); conv => whnf) | (apply kT (by decide); conv => whnf) | (apply kF (by decide); conv => whnf) | (apply kB <;> intro _ <;> conv => whnf) | fail))
                            (refine ⟨0, _, rfl, hg0, rfl, ?_⟩; conv => whnf)
                            (repeat' (first | (apply kT (by with_reducible first | rfl | assumption); conv => whnf) | (apply kF (by with_reducible first | rfl | assumption); conv => whnf) | (apply kT (by decide); conv => whnf) | (apply kF (by decide); conv => whnf) | (apply kB <;> intro _ <;> conv => whnf) | fail))
                            (refine .inr ⟨[0], 1, _, _, HB, ?_⟩; conv => whnf)
                            (repeat' (first | (apply kT (by with_reducible first | rfl | assumption); conv => whnf) | (apply kF (by with_reducible first | rfl | assumption); conv => whnf) | (apply kT (by decide); conv => whnf) | (apply kF (by decide); conv => whnf) | (apply kB <;> intro _ <;> conv => whnf) | fail))
                            (refine ⟨1, _, rfl, hg1, rfl, ?_⟩; conv => whnf)
                            (repeat' (first | (apply kT (by with_reducible first | rfl | assumption); conv => whnf) | (apply kF (by with_reducible first | rfl | assumption); conv => whnf) | (apply kT (by decide); conv => whnf) | (apply kF (by decide); conv => whnf) | (apply kB <;> intro _ <;> conv => whnf) | fail))
                            (refine .inr ⟨[0], 1, _, _, HB1, ?_⟩; conv => whnf)
                            (repeat' (first | (apply kT (by with_reducible first | rfl | assumption); conv => whnf) | (apply kF (by with_reducible first | rfl | assumption); conv => whnf) | (apply kT (by decide); conv => whnf) | (apply kF (by decide); conv => whnf) | (apply kB <;> intro _ <;> conv => whnf) | (refine .inl ⟨_, cb, ?_⟩; conv => whnf) | fail))
                            refine ⟨m4 - 1, by omega, j + 1, (r4.1, E1), by omega, hR4, okE1, ?_⟩
                            rw [w1j]
                            rfl
                      · have f8 : (IntKind.i64.wrap ((BitVec.ofInt IntKind.i64.bits (j : Int) &&& BitVec.ofInt IntKind.i64.bits (w : Int)).toNat : Int) != (j : Int)) = true := by rw [fan, bne_iff_ne]; omega
                        have hst : stepR p (memR p n) l w r4 j = r4 := by unfold stepR; rw [if_neg hpt]
                        rw [hst] at hR4
                        conv => whnf
                        (repeat' (first | (apply kT (by with_reducible first | rfl | assumption); conv => whnf) | (apply kF (by with_reducible first | rfl | assumption); conv => whnf) | (apply kT (by decide); conv => whnf) | (apply kF (by decide); conv => whnf) | (apply kB <;> intro _ <;> conv => whnf) | fail))
                        refine ⟨m4 - 1, by omega, j + 1, r4, by omega, hR4, ok4, ?_⟩
                        rw [w1j]
                        rfl
                    · have f6 : decide ((j : Int) ≤ (w : Int)) = false := decide_eq_false (by omega)
                      rw [List.drop_of_length_le (by rw [List.length_range]; omega), List.foldl_nil] at hR4
                      rw [← hR4] at hR3
                      conv => whnf
                      (repeat' (first | (apply kT (by with_reducible first | rfl | assumption); conv => whnf) | (apply kF (by with_reducible first | rfl | assumption); conv => whnf) | (apply kT (by decide); conv => whnf) | (apply kF (by decide); conv => whnf) | (apply kB <;> intro _ <;> conv => whnf) | fail))
                      refine ⟨m3 - 1, by omega, a + 1, r4, by omega, hR3, ok4, ?_⟩
                      rw [w1a]
                      rfl
              · have f5 : decide ((a : Int) ≤ (F : Int)) = false := decide_eq_false (by omega)
                rw [List.drop_of_length_le (by rw [List.length_range]; omega), List.foldl_nil] at hR3
                rw [← hR3] at hT1
                have w1k2 := w1 k2 (by omega)
                conv => whnf
                (repeat' (first | (apply kT (by with_reducible first | rfl | assumption); conv => whnf) | (apply kF (by with_reducible first | rfl | assumption); conv => whnf) | (apply kT (by decide); conv => whnf) | (apply kF (by decide); conv => whnf) | (apply kB <;> intro _ <;> conv => whnf) | (refine .inl ⟨_, cfar, ?_⟩; conv => whnf) | fail))
                refine ⟨m2 - 1, by omega, k2 + 1, r3, by omega, fun _ => hT1, fun h => absurd h hc.2, ok3, ?_⟩
                rw [w1k2]
                rfl
          · have hrT : r2 = T := by
              by_cases hw0 : w = 0
              · exact hT2 hw0
              · have h2 : k2 = 2 := by
                  by_cases h : k2 < 2
                  · exact absurd ⟨h, hw0⟩ hc
                  · omega
                have := hT1 hw0
                rw [h2] at this
                exact this
            have f4 : decide ((k2 : Int) < 2) = true → ((w : Int) != 0) = false := fun h => by
              have h := of_decide_eq_true h
              rw [bne_eq_false_iff_eq]
              by_cases hw0 : w = 0
              · omega
              · exact absurd ⟨by omega, hw0⟩ hc
            rw [hrT, hgain]
            by_cases hk2l : k2 < 2
            · have f3 : decide ((k2 : Int) < 2) = true := decide_eq_true (by omega)
              have f4 := f4 f3
              conv => whnf
              (repeat' (first | (apply kT (by with_reducible first | rfl | assumption); conv => whnf) | (apply kF (by with_reducible first | rfl | assumption); conv => whnf) | (apply kT (by decide); conv => whnf) | (apply kF (by decide); conv => whnf) | (apply kB <;> intro _ <;> conv => whnf) | fail))
              (refine ⟨_, rfl, ?_⟩; conv => whnf)
              (refine ⟨[0], ?_⟩; conv => whnf)
              exact ⟨rfl, rfl⟩
            · have f3 : decide ((k2 : Int) < 2) = false := decide_eq_false (by omega)
              conv => whnf
              (repeat' (first | (apply kT (by with_reducible first | rfl | assumption); conv => whnf) | (apply kF (by with_reducible first | rfl | assumption); conv => whnf) | (apply kT (by decide); conv => whnf) | (apply kF (by decide); conv => whnf) | (apply kB <;> intro _ <;> conv => whnf) | fail))
              (refine ⟨_, rfl, ?_⟩; conv => whnf)
              (refine ⟨[0], ?_⟩; conv => whnf)
              exact ⟨rfl, rfl⟩
theorem bestR_ok {p : Pl} (hp : checkI p = 0) : ∀ n, BestR p n
  | 0 => fun r w es hr hsz _ _ => by
    have := hr.w0; have := hr.l0
    unfold sizeP at hsz; omega
  | n + 1 => bestR_step hp (bestR_ok hp n)
end Go.Ev.Ytojlbcodfebmgaa

set_option linter.unusedVariables false
set_option linter.unusedSimpArgs false
set_option maxRecDepth 100000
namespace Go.Ev.Ytojlbcodfebmgaa
open Go.Proofs
theorem shl_n {n : Nat} (h : n ≤ 4) : IntKind.i64.wrap (IntKind.i64.wrap (1 * 2 ^ (min (IntKind.u64.wrap (n : Int)).toNat IntKind.i64.bits)) - 1) = ((2 ^ n - 1 : Nat) : Int) := by
  have : ∀ n : Fin 5, IntKind.i64.wrap (IntKind.i64.wrap (1 * 2 ^ (min (IntKind.u64.wrap (n.val : Int)).toNat IntKind.i64.bits)) - 1) = ((2 ^ n.val - 1 : Nat) : Int) := by decide +kernel
  exact this ⟨n, by omega⟩
theorem u64_pos' {k : Nat} (h : k ≤ 4) : 0 ≤ IntKind.u64.wrap (k : Int) := by
  have : ∀ k : Fin 5, 0 ≤ IntKind.u64.wrap ((k.val : Nat) : Int) := by decide +kernel
  exact this ⟨k, by omega⟩
theorem all_bits {n : Nat} (h : n ≤ 4) : wnB (2 ^ n - 1) = allW n ∧ 2 ^ n - 1 ≤ 15 := by
  have : ∀ n : Fin 5, wnB (2 ^ n.val - 1) = allW n.val ∧ 2 ^ n.val - 1 ≤ 15 := by decide +kernel
  exact this ⟨n, by omega⟩
attribute [local irreducible] Pure Bor Iter inB wtB partsL stepC useB usesB fitsB runC weighL uIdx betB cutsF bestP seeS memF cutsL partsW useF memN doN covB traceL thinB plnI lightB readyB bwP bcP checkI proveI dsAll sawX memR gB
set_option maxHeartbeats 4000000 in
theorem whole_best {p : Pl} (hp : checkI p = 0) : Pure Try.prog 30 [plD p] (.agg [dI (bwP p), dI (bcP p)]) := by
  obtain ⟨h4, _⟩ := check_zero hp
  obtain ⟨b1, b2⟩ := all_bits h4
  have hm : ((p.ws.map wtD).length : Int) = p.ws.length := by rw [List.length_map]
  have hg : gB p (wholeP p) (2 ^ p.ws.length - 1) = (bwP p, bcP p) := by unfold gB bwP bcP; rw [b1]
  have H := bestR_ok hp (sizeP (wholeP p)) (wholeP p) (2 ^ p.ws.length - 1) [] (wholeP_ok hp) (Nat.le_refl _) b2 (okR_nil p)
  rw [hg] at H
  have hs := shl_n h4
  rw [← hm] at hs
  have hk := u64_pos' h4
  rw [← hm] at hk
  rw [stD, ← hs] at H
  refine pure_of pg Try.func30 (by kernel_rfl) ?_
  conv => whnf
  (repeat' (first | (apply kT (by with_reducible first | rfl | assumption); conv => whnf) | (apply kF (by with_reducible first | rfl | assumption); conv => whnf) | (apply kT (by decide); conv => whnf) | (apply kF (by decide); conv => whnf) | (apply kB <;> intro _ <;> conv => whnf) | fail))
  (refine ⟨hk, ?_⟩; conv => whnf)
  (repeat' (first | (apply kT (by with_reducible first | rfl | assumption); conv => whnf) | (apply kF (by with_reducible first | rfl | assumption); conv => whnf) | (apply kT (by decide); conv => whnf) | (apply kF (by decide); conv => whnf) | (apply kB <;> intro _ <;> conv => whnf) | fail))
  (refine .inr ⟨[2], 1, _, _, H, ?_⟩; conv => whnf)
  rfl
def smallB (p : Pl) : Bool := checkI p != 0 || decide (IntKind.i64.wrap (p.w * p.l) ≤ 20) || (decide (IntKind.i64.wrap (p.w * p.l) ≤ 30) && decide (((p.ws.map wtD).length : Int) ≤ 3))
theorem small_pure (p : Pl) (hl : p.ws.length ≤ 100000) : Pure Try.prog 27 [plD p] (dB (smallB p)) := by
  have c := faultR_pure p hl
  unfold smallB
  cases h1 : (checkI p != 0) with
  | true =>
    rw [Bool.true_or, Bool.true_or]
    refine pure_of pg Try.func27 (by kernel_rfl) ?_
    conv => whnf
    (repeat' (first | (apply kT (by with_reducible first | rfl | assumption); conv => whnf) | (apply kF (by with_reducible first | rfl | assumption); conv => whnf) | (apply kT (by decide); conv => whnf) | (apply kF (by decide); conv => whnf) | (apply kB <;> intro _ <;> conv => whnf) | (refine .inl ⟨_, c, ?_⟩; conv => whnf) | fail))
    rfl
  | false =>
    rw [Bool.false_or]
    cases h2 : decide (IntKind.i64.wrap (p.w * p.l) ≤ 20) with
    | true =>
      rw [Bool.true_or]
      refine pure_of pg Try.func27 (by kernel_rfl) ?_
      conv => whnf
      (repeat' (first | (apply kT (by with_reducible first | rfl | assumption); conv => whnf) | (apply kF (by with_reducible first | rfl | assumption); conv => whnf) | (apply kT (by decide); conv => whnf) | (apply kF (by decide); conv => whnf) | (apply kB <;> intro _ <;> conv => whnf) | (refine .inl ⟨_, c, ?_⟩; conv => whnf) | fail))
      rfl
    | false =>
      rw [Bool.false_or]
      cases h3 : decide (IntKind.i64.wrap (p.w * p.l) ≤ 30) with
      | false =>
        rw [Bool.false_and]
        refine pure_of pg Try.func27 (by kernel_rfl) ?_
        conv => whnf
        (repeat' (first | (apply kT (by with_reducible first | rfl | assumption); conv => whnf) | (apply kF (by with_reducible first | rfl | assumption); conv => whnf) | (apply kT (by decide); conv => whnf) | (apply kF (by decide); conv => whnf) | (apply kB <;> intro _ <;> conv => whnf) | (refine .inl ⟨_, c, ?_⟩; conv => whnf) | fail))
        rfl
      | true =>
        rw [Bool.true_and]
        refine pure_of pg Try.func27 (by kernel_rfl) ?_
        conv => whnf
        (repeat' (first | (apply kT (by with_reducible first | rfl | assumption); conv => whnf) | (apply kF (by with_reducible first | rfl | assumption); conv => whnf) | (apply kT (by decide); conv => whnf) | (apply kF (by decide); conv => whnf) | (apply kB <;> intro _ <;> conv => whnf) | (refine .inl ⟨_, c, ?_⟩; conv => whnf) | fail))
        rfl
theorem thinNN_pure (p : Pl) : Pure Try.prog 16 [plD p, .agg [nilD, nilD]] (dB (decide (((p.ws.map wtD).length : Int) ≤ 6))) := by
  cases h : decide (((p.ws.map wtD).length : Int) ≤ 6) with
  | false =>
    refine pure_of pg Try.func16 (by kernel_rfl) ?_
    conv => whnf
    (repeat' (first | (apply kT (by with_reducible first | rfl | assumption); conv => whnf) | (apply kF (by with_reducible first | rfl | assumption); conv => whnf) | (apply kT (by decide); conv => whnf) | (apply kF (by decide); conv => whnf) | (apply kB <;> intro _ <;> conv => whnf) | fail))
    rfl
  | true =>
    refine pure_of pg Try.func16 (by kernel_rfl) ?_
    conv => whnf
    (repeat' (first | (apply kT (by with_reducible first | rfl | assumption); conv => whnf) | (apply kF (by with_reducible first | rfl | assumption); conv => whnf) | (apply kT (by decide); conv => whnf) | (apply kF (by decide); conv => whnf) | (apply kB <;> intro _ <;> conv => whnf) | fail))
    rfl
set_option maxHeartbeats 4000000 in
theorem plateBests_pure (p : Pl) : Pure Try.prog 5 [plD p] (dB true) := by
  have hm : ((p.ws.map wtD).length : Int) = p.ws.length := by rw [List.length_map]
  have ct := thinNN_pure p
  by_cases h6 : p.ws.length ≤ 6
  case neg =>
    rw [decide_eq_false (by rw [hm]; omega)] at ct
    refine pure_of pg Try.func5 (by kernel_rfl) ?_
    conv => whnf
    (repeat' (first | (apply kT (by with_reducible first | rfl | assumption); conv => whnf) | (apply kF (by with_reducible first | rfl | assumption); conv => whnf) | (apply kT (by decide); conv => whnf) | (apply kF (by decide); conv => whnf) | (apply kB <;> intro _ <;> conv => whnf) | (refine .inl ⟨_, ct, ?_⟩; conv => whnf) | (refine .inl ⟨_, wakes_pure, ?_⟩; conv => whnf) | fail))
    rfl
  rw [decide_eq_true (by rw [hm]; omega)] at ct
  have cs := small_pure p (by omega)
  cases hsm : smallB p with
  | false =>
    rw [hsm] at cs
    refine pure_of pg Try.func5 (by kernel_rfl) ?_
    conv => whnf
    (repeat' (first | (apply kT (by with_reducible first | rfl | assumption); conv => whnf) | (apply kF (by with_reducible first | rfl | assumption); conv => whnf) | (apply kT (by decide); conv => whnf) | (apply kF (by decide); conv => whnf) | (apply kB <;> intro _ <;> conv => whnf) | (refine .inl ⟨_, ct, ?_⟩; conv => whnf) | (refine .inl ⟨_, cs, ?_⟩; conv => whnf) | (refine .inl ⟨_, wakes_pure, ?_⟩; conv => whnf) | fail))
    rfl
  | true =>
    rw [hsm] at cs
    have c1 := plateC_pure p (by omega)
    have cf := fault_pure p (by omega)
    by_cases hp : checkI p = 0
    · rw [hp] at cf
      obtain ⟨h4, hpw, hpl, _⟩ := check_zero hp
      have hwl := checkI_wl hp
      have h30 : p.w * p.l ≤ 30 := by
        unfold smallB at hsm
        rw [hp, hwl] at hsm
        simp only [Bool.or_eq_true, Bool.and_eq_true, decide_eq_true_eq, bne_iff_ne] at hsm
        omega
      have c2 : Pure Try.prog 28 [plD p] (.tup [.agg [.seq ((dsAll p).cs.map ctD), .seq (usE (dsAll p).us)], dI (bwP p), dI 0]) := by unfold bwP; exact bestfn_pure hp
      obtain ⟨r1, r2, r3, r4, r5⟩ := bestX_right hp (by omega)
      obtain ⟨st, o, _⟩ := plnI_ok r1
      have cw := whole_best hp
      have cb : Pure Try.prog 31 [.agg [.seq ((dsAll p).cs.map ctD), .seq (usE (dsAll p).us)]] (.agg [.seq ((dsAll p).cs.map ctD), .seq (usE (dsAll p).us)]) := back_pure ⟨(dsAll p).cs, (dsAll p).us⟩ (by have : (dsAll p).cs.length ≤ 40 := r5; dsimp only; omega) (by have : (dsAll p).us.length = p.ws.length := r4; dsimp only; omega)
      have cpf : Pure Try.prog 32 [plD p, .agg [.seq ((dsAll p).cs.map ctD), .seq (usE (dsAll p).us)]] (dI 0) := by
        have h := planFault_pure hp (x := bestX p) (by omega) (by omega)
        rw [r1] at h
        exact h
      have cwr := weighR_pure o
      rw [r4, r2] at cwr
      have cwr : Pure Try.prog 22 [plD p, .agg [.seq ((dsAll p).cs.map ctD), .seq (usE (dsAll p).us)]] _ := cwr
      have hml : (((dsAll p).cs.map ctD).length : Int) = bcP p := by rw [List.length_map]; exact r3
      have f1 : (bwP p != bwP p) = false := bne_self_eq_false _
      have f2 : ((((dsAll p).cs.map ctD).length : Int) != bcP p) = false := by rw [hml]; exact bne_self_eq_false _
      have f3 : (bwP p == bwP p) = true := by simp
      refine pure_of pg Try.func5 (by kernel_rfl) ?_
      conv => whnf
      (repeat' (first | (apply kT (by with_reducible first | rfl | assumption); conv => whnf) | (apply kF (by with_reducible first | rfl | assumption); conv => whnf) | (apply kT (by decide); conv => whnf) | (apply kF (by decide); conv => whnf) | (apply kB <;> intro _ <;> conv => whnf) | (refine .inl ⟨_, ct, ?_⟩; conv => whnf) | (refine .inl ⟨_, cs, ?_⟩; conv => whnf) | (refine .inl ⟨_, c1, ?_⟩; conv => whnf) | (refine .inl ⟨_, c2, ?_⟩; conv => whnf) | (refine .inl ⟨_, cf, ?_⟩; conv => whnf) | (refine .inl ⟨_, cw, ?_⟩; conv => whnf) | (refine .inl ⟨_, cb, ?_⟩; conv => whnf) | (refine .inl ⟨_, cpf, ?_⟩; conv => whnf) | (refine .inl ⟨_, cwr, ?_⟩; conv => whnf) | (refine .inl ⟨_, wakes_pure, ?_⟩; conv => whnf) | fail))
      rfl
    · have c2 := bestfn_bad hp (by omega)
      have f1 : (checkI p != 0) = true := by rw [bne_iff_ne]; exact hp
      have f2 : (checkI p == checkI p) = true := by simp
      refine pure_of pg Try.func5 (by kernel_rfl) ?_
      conv => whnf
      (repeat' (first | (apply kT (by with_reducible first | rfl | assumption); conv => whnf) | (apply kF (by with_reducible first | rfl | assumption); conv => whnf) | (apply kT (by decide); conv => whnf) | (apply kF (by decide); conv => whnf) | (apply kB <;> intro _ <;> conv => whnf) | (refine .inl ⟨_, ct, ?_⟩; conv => whnf) | (refine .inl ⟨_, cs, ?_⟩; conv => whnf) | (refine .inl ⟨_, c1, ?_⟩; conv => whnf) | (refine .inl ⟨_, c2, ?_⟩; conv => whnf) | (refine .inl ⟨_, cf, ?_⟩; conv => whnf) | (refine .inl ⟨_, wakes_pure, ?_⟩; conv => whnf) | fail))
      rfl
end Go.Ev.Ytojlbcodfebmgaa
