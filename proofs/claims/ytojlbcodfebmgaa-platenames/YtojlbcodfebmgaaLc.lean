/-
  Contracts of functions, and plain laws, that lead to the statement. Written by an agent.
-/
import Derived.Test.YtojlbcodfebmgaaLb
set_option linter.unusedVariables false
set_option linter.unusedSimpArgs false
set_option maxRecDepth 100000
namespace Go.Ev.Ytojlbcodfebmgaa
open Go.Proofs
/-- specimens, by number -/
structure Wn where
  (a b c d : Bool)
deriving DecidableEq
def Wn.none : Wn := ⟨false, false, false, false⟩
def Wn.get (w : Wn) : Nat → Bool
  | 0 => w.a
  | 1 => w.b
  | 2 => w.c
  | 3 => w.d
  | _ => false
def Wn.put (w : Wn) : Nat → Wn
  | 0 => { w with a := true }
  | 1 => { w with b := true }
  | 2 => { w with c := true }
  | 3 => { w with d := true }
  | _ => w
def Wn.less (w o : Wn) : Wn := ⟨w.a && !o.a, w.b && !o.b, w.c && !o.c, w.d && !o.d⟩
abbrev wnD (w : Wn) : List D := [dB w.a, dB w.b, dB w.c, dB w.d]
/-- what is done first with a piece -/
structure Sp where
  (g c use : Int)
  (cut : Bool)
  (how : Ct)
  (first : Wn)
deriving DecidableEq
abbrev spD (o : Sp) : List D := [dI o.g, dI o.c, dI o.use, dB o.cut, dI o.how.n, dB o.how.ac, dI o.how.at_, dB o.first.a, dB o.first.b, dB o.first.c, dB o.first.d]
abbrev keyD (q : Pc) (w : Wn) : D := .agg [dI q.x, dI q.y, dI q.w, dI q.l, dB w.a, dB w.b, dB w.c, dB w.d]
abbrev Es := List (D × D)
def spUse (g use : Int) : Sp := ⟨g, 0, use, false, ⟨0, false, 0⟩, Wn.none⟩
def betB (g c g' c' : Int) : Bool := decide (g > g') || (g == g' && decide (c < c'))
/-- all parts of wants, from a place on -/
def partsW (w : Wn) (part : Wn) : Nat → List Wn
  | 0 => [part]
  | k + 1 => partsW w part k ++ (if w.get (3 - k) = true then partsW w (part.put (3 - k)) k else [])
/-- the cuts that a piece may have in a direction, from a place on -/
def cutsF (q : Pc) (s : Int) (ac : Bool) : Nat → Nat → List Ct
  | 0, _ => []
  | k + 1, i => (if partsL q ac i s = [] then [] else [⟨0, ac, i⟩]) ++ cutsF q s ac k (i + 1)
def cutsL (q : Pc) (s : Int) : List Ct := cutsF q s false (q.w + 1).toNat 0 ++ cutsF q s true (q.l + 1).toNat 0
/-- the best of what a piece is used as, from a specimen on -/
def useF (p : Pl) (q : Pc) (w : Wn) : Nat → Nat → Sp → Sp
  | 0, _, o => o
  | k + 1, i, o => useF p q w k (i + 1) (if w.get i = true ∧ fitsB (wtAt p.ws i) q = true ∧ betB (wtAt p.ws i).g 0 o.g o.c = true then spUse (wtAt p.ws i).g i else o)
/-- what a part of wants brings, of a cut; f: the best of a new piece -/
def seeG (f : Pc → Wn → Sp) : List Pc → Wn → Wn → Int × Int
  | [a], part, w => ((f a part).g, 1 + (f a part).c)
  | [a, b], part, w => ((f a part).g + (f b (w.less part)).g, 1 + (f a part).c + (f b (w.less part)).c)
  | _, _, _ => (0, 1)
def seeS (f : Pc → Wn → Sp) (l : List Pc) (w : Wn) (c : Ct) (o : Sp) (part : Wn) : Sp :=
  if l.length = 1 ∧ part ≠ w then o else
    if betB (seeG f l part w).1 (seeG f l part w).2 o.g o.c = true then ⟨(seeG f l part w).1, (seeG f l part w).2, -1, true, c, part⟩ else o
def bestF (f : Pc → Wn → Sp) (p : Pl) (q : Pc) (w : Wn) : Sp :=
  if w = Wn.none then spUse 0 (-1) else
    (cutsL q p.s).foldl (fun o c => (partsW w Wn.none 4).foldl (seeS f (partsL q c.ac c.at_ p.s) w c) o) (useF p q w p.ws.length 0 (spUse 0 (-1)))
def bestN (p : Pl) : Nat → Pc → Wn → Sp
  | 0, _, _ => spUse 0 (-1)
  | n + 1, q, w => bestF (bestN p n) p q w
def sizeP (q : Pc) : Nat := (q.w + q.l).toNat
def bestP (p : Pl) (q : Pc) (w : Wn) : Sp := bestN p (sizeP q) q w
/-- the map behind it -/
def seeM (f : Pc → Wn → Es → Es) : List Pc → Wn → Wn → Es → Es
  | [a], part, w, es => f a part es
  | [a, b], part, w, es => f b (w.less part) (f a part es)
  | _, _, _, es => es
def memF (f : Pc → Wn → Es → Es) (l : List Pc) (w : Wn) (es : Es) (part : Wn) : Es :=
  if l.length = 1 ∧ part ≠ w then es else seeM f l part w es
def memN (p : Pl) : Nat → Pc → Wn → Es → Es
  | 0, _, _, es => es
  | n + 1, q, w, es =>
    if w = Wn.none then es else match mapGet es (keyD q w) with
    | some _ => es
    | none => mapSet ((cutsL q p.s).foldl (fun es c => (partsW w Wn.none 4).foldl (memF (memN p n) (partsL q c.ac c.at_ p.s) w) es) es) (keyD q w) (.agg (spD (bestN p (n + 1) q w)))
/-! ### parts are smaller -/
theorem part_small {q : Pc} {ac : Bool} {a s : Int} (hs : 0 ≤ s) (h1 : 1 ≤ q.w) (h2 : 1 ≤ q.l) : ∀ r ∈ partsL q ac a s, sizeP r < sizeP q ∧ 1 ≤ r.w ∧ 1 ≤ r.l := by
  intro r hr
  unfold partsL at hr
  split at hr
  · cases hr
  · rename_i hc
    unfold noCut at hc
    rcases List.mem_append.1 hr with hr | hr
    all_goals
      split at hr
      · simp only [List.mem_singleton] at hr
        subst hr
        unfold sizeP
        unfold partP farP at *
        cases ac
        all_goals
          simp only [cond_true, cond_false] at *
          omega
      · cases hr
theorem seeG_congr {f g : Pc → Wn → Sp} {l : List Pc} (h : ∀ r ∈ l, ∀ w, f r w = g r w) (part w : Wn) : seeG f l part w = seeG g l part w := by
  match l with
  | [] => rfl
  | [a] => simp only [seeG]; rw [h a (by simp) part]
  | [a, b] => simp only [seeG]; rw [h a (by simp) part, h b (by simp)]
  | _ :: _ :: _ :: _ => rfl
theorem seeS_congr {f g : Pc → Wn → Sp} {l : List Pc} (h : ∀ r ∈ l, ∀ w, f r w = g r w) (w : Wn) (c : Ct) : seeS f l w c = seeS g l w c := by
  funext o part
  unfold seeS
  rw [seeG_congr h]
theorem bestF_congr {f g : Pc → Wn → Sp} {p : Pl} {q : Pc} (hs : 0 ≤ p.s) (h1 : 1 ≤ q.w) (h2 : 1 ≤ q.l) (h : ∀ r, sizeP r < sizeP q → 1 ≤ r.w → 1 ≤ r.l → ∀ w, f r w = g r w) (w : Wn) : bestF f p q w = bestF g p q w := by
  unfold bestF
  split
  · rfl
  · congr 1
    funext o c
    rw [seeS_congr (fun r hr w => by obtain ⟨q1, q2, q3⟩ := part_small hs h1 h2 r hr; exact h r q1 q2 q3 w)]
/-- the reckoning hangs not on how far it may go -/
theorem bestN_stable {p : Pl} (hs : 0 ≤ p.s) : ∀ (n : Nat) {q : Pc} (w : Wn), 1 ≤ q.w → 1 ≤ q.l → sizeP q ≤ n → bestN p n q w = bestP p q w := by
  have main : ∀ (n m : Nat) {q : Pc} (w : Wn), 1 ≤ q.w → 1 ≤ q.l → sizeP q ≤ n → sizeP q ≤ m → bestN p n q w = bestN p m q w := by
    intro n
    induction n with
    | zero => intro m q w h1 h2 h3; unfold sizeP at h3; omega
    | succ n ih =>
      intro m q w h1 h2 h3 h4
      cases m with
      | zero => unfold sizeP at h4; omega
      | succ m =>
        rw [bestN, bestN]
        exact bestF_congr hs h1 h2 (fun r hr r1 r2 w => ih m w r1 r2 (by omega) (by omega)) w
  intro n q w h1 h2 h3
  exact main n (sizeP q) w h1 h2 h3 (Nat.le_refl _)
theorem bestP_eq {p : Pl} (hs : 0 ≤ p.s) {q : Pc} (w : Wn) (h1 : 1 ≤ q.w) (h2 : 1 ≤ q.l) : bestP p q w = bestF (bestP p) p q w := by
  obtain ⟨n, hn⟩ : ∃ n, sizeP q = n + 1 := ⟨sizeP q - 1, by unfold sizeP; omega⟩
  unfold bestP
  rw [hn, bestN]
  exact bestF_congr hs h1 h2 (fun r hr r1 r2 w => bestN_stable hs n w r1 r2 (by omega)) w
/-! ### the map holds what it should -/
def OkM (p : Pl) (es : Es) : Prop := ∀ (q : Pc) (w : Wn) v, 1 ≤ q.w → 1 ≤ q.l → mapGet es (keyD q w) = some v → v = .agg (spD (bestP p q w))
theorem eqC_self : ∀ (l : List D), (∀ d ∈ l, (∃ n, d = dI n) ∨ ∃ b, d = dB b) → eqC l l = some true
  | [], _ => rfl
  | d :: l, h => by
    have ih := eqC_self l fun d hd => h d (by simp [hd])
    rcases h d (by simp) with ⟨n, rfl⟩ | ⟨b, rfl⟩
    · unfold eqC; simp [ih]
    · unfold eqC; simp [ih]
theorem eqC_true : ∀ {xs ys : List D}, eqC xs ys = some true → ys = xs
  | [], ys, h => by
    cases ys with
    | nil => rfl
    | cons y ys => simp [eqC] at h
  | x :: xs, ys, h => by
    unfold eqC at h
    split at h
    · rename_i h1; cases h1
    · rename_i k a r k' b s h1
      cases h1
      by_cases hk : k = k'
      · subst hk
        simp only [decide_true, cond_true] at h
        split at h
        · rename_i q hq
          simp only [Option.some.injEq, Bool.and_eq_true, beq_iff_eq] at h
          obtain ⟨rfl, rfl⟩ := h
          rw [eqC_true hq]
        · cases h
      · simp [hk] at h
    · rename_i a r b s h1
      cases h1
      split at h
      · rename_i q hq
        simp only [Option.some.injEq, Bool.and_eq_true, beq_iff_eq] at h
        obtain ⟨rfl, rfl⟩ := h
        rw [eqC_true hq]
      · cases h
    · cases h
theorem keyEq_iff {q : Pc} {w : Wn} {d : D} : keyEq (keyD q w) d = true ↔ d = keyD q w := by
  constructor
  · intro h
    unfold keyEq at h
    split at h
    · rename_i h1; cases h1
    · rename_i xs ys h1
      cases h1
      split at h
      · rename_i z hz
        subst h
        rw [eqC_true hz]
      · cases h
    · cases h
  · rintro rfl
    unfold keyEq
    simp only
    rw [eqC_self _ (by intro d hd; simp only [List.mem_cons, List.not_mem_nil, or_false] at hd; rcases hd with h | h | h | h | h | h | h | h <;> subst h <;> first | exact .inl ⟨_, rfl⟩ | exact .inr ⟨_, rfl⟩)]
theorem keyD_inj {q q' : Pc} {w w' : Wn} (h : keyD q w = keyD q' w') : q = q' ∧ w = w' := by
  simp only [keyD, D.agg.injEq, List.cons.injEq, dI, dB, D.v.injEq, Value.int.injEq, Value.bool.injEq, true_and, and_true] at h
  obtain ⟨h1, h2, h3, h4, h5, h6, h7, h8⟩ := h
  cases q; cases q'; cases w; cases w'
  simp_all
theorem get_set {q q' : Pc} {w w' : Wn} {v u : D} : ∀ (es : Es), mapGet (mapSet es (keyD q w) v) (keyD q' w') = some u → (q' = q ∧ w' = w ∧ u = v) ∨ mapGet es (keyD q' w') = some u
  | [], h => by
    simp only [mapSet, mapGet] at h
    cases e : keyEq (keyD q' w') (keyD q w) with
    | false => rw [e] at h; cases h
    | true =>
      rw [e, cond_true, Option.some.injEq] at h
      obtain ⟨rfl, rfl⟩ := keyD_inj (keyEq_iff.1 e).symm
      exact .inl ⟨rfl, rfl, h.symm⟩
  | (k, x) :: r, h => by
    simp only [mapSet] at h
    cases e : keyEq (keyD q w) k with
    | true =>
      rw [e, cond_true] at h
      have hk := keyEq_iff.1 e
      subst hk
      simp only [mapGet] at h ⊢
      cases e2 : keyEq (keyD q' w') (keyD q w) with
      | true =>
        rw [e2, cond_true, Option.some.injEq] at h
        obtain ⟨rfl, rfl⟩ := keyD_inj (keyEq_iff.1 e2).symm
        exact .inl ⟨rfl, rfl, h.symm⟩
      | false => rw [e2, cond_false] at h; exact .inr h
    | false =>
      rw [e, cond_false] at h
      simp only [mapGet] at h ⊢
      cases e2 : keyEq (keyD q' w') k with
      | true => rw [e2, cond_true] at h; exact .inr h
      | false => rw [e2, cond_false] at h; exact get_set r h
theorem okM_nil (p : Pl) : OkM p [] := fun q w v _ _ h => by simp [mapGet] at h
theorem foldl_inv {α β : Type} {P : β → Prop} {f : β → α → β} : ∀ (l : List α) (b : β), P b → (∀ b a, a ∈ l → P b → P (f b a)) → P (l.foldl f b)
  | [], b, h, _ => h
  | a :: l, b, h, hf => by
    rw [List.foldl_cons]
    exact foldl_inv l _ (hf b a (by simp) h) fun b a ha => hf b a (by simp [ha])
theorem memF_ok {p : Pl} {f : Pc → Wn → Es → Es} {l : List Pc} (hf : ∀ r ∈ l, ∀ w es, OkM p es → OkM p (f r w es)) {w part : Wn} {es : Es} (h : OkM p es) : OkM p (memF f l w es part) := by
  unfold memF
  split
  · exact h
  · match l with
    | [] => exact h
    | [a] => exact hf a (by simp) _ _ h
    | [a, b] => exact hf b (by simp) _ _ (hf a (by simp) _ _ h)
    | _ :: _ :: _ :: _ => exact h
theorem memN_ok {p : Pl} (hs : 0 ≤ p.s) : ∀ (n : Nat) {q : Pc} (w : Wn) (es : Es), 1 ≤ q.w → 1 ≤ q.l → sizeP q ≤ n → OkM p es → OkM p (memN p n q w es)
  | 0, q, w, es, h1, h2, h3, h => by unfold sizeP at h3; omega
  | n + 1, q, w, es, h1, h2, h3, h => by
    rw [memN]
    split
    · exact h
    · split
      · exact h
      · intro q' w' v hq1 hq2 hv
        rcases get_set _ hv with ⟨rfl, rfl, rfl⟩ | hv
        · rw [bestN_stable hs (n + 1) w' h1 h2 h3]
        · refine foldl_inv (P := OkM p) _ _ h (fun es c hc hes => foldl_inv (P := OkM p) _ _ hes fun es part _ hes => memF_ok (fun r hr w es hes => ?_) hes) q' w' v hq1 hq2 hv
          obtain ⟨r1, r2, r3⟩ := part_small hs h1 h2 r hr
          exact memN_ok hs n w es r2 r3 (by omega) hes
end Go.Ev.Ytojlbcodfebmgaa

set_option linter.unusedVariables false
set_option linter.unusedSimpArgs false
set_option maxRecDepth 100000
namespace Go.Ev.Ytojlbcodfebmgaa
open Go.Proofs
attribute [local irreducible] Pure Bor Iter inB wtB partsL stepC useB usesB fitsB runC weighL uIdx
theorem better_pure (g c g' c' : Int) : Pure Try.prog 74 [.agg [dI g, dI c], .agg [dI g', dI c']] (dB (betB g c g' c')) := by
  refine pure_of pg Try.func74 (by kernel_rfl) ?_
  conv => whnf
  (repeat' (first | (apply kT (by with_reducible first | rfl | assumption); conv => whnf) | (apply kF (by with_reducible first | rfl | assumption); conv => whnf) | (apply kT (by decide); conv => whnf) | (apply kF (by decide); conv => whnf) | (apply kB <;> intro _ <;> conv => whnf) | fail))
  all_goals (unfold betB; simp only [*, Bool.true_and, Bool.false_and, Bool.and_true, Bool.and_false, Bool.true_or, Bool.false_or, Bool.or_true, Bool.or_false]; rfl)
/-- the first places of 'less' -/
def lessK (w o : Wn) : Nat → Wn
  | 0 => w
  | 1 => ⟨w.a && !o.a, w.b, w.c, w.d⟩
  | 2 => ⟨w.a && !o.a, w.b && !o.b, w.c, w.d⟩
  | 3 => ⟨w.a && !o.a, w.b && !o.b, w.c && !o.c, w.d⟩
  | _ => ⟨w.a && !o.a, w.b && !o.b, w.c && !o.c, w.d && !o.d⟩
theorem less_pure (w o : Wn) : Pure Try.prog 59 [.agg (wnD w), .agg (wnD o)] (.agg (wnD (w.less o))) := by
  obtain ⟨S, hS⟩ : ∃ S : Nat → Wn → St, S = fun k v => ⟨[(2, .ref 0 0), (4, .ref 2 0), (7, .d (.agg (wnD o))), (8, .d (dI (k : Nat)))], [(0, .var false 118 ((wnD v).map A.d)), (1, .var false 118 ((wnD o).map A.d)), (2, .var false 118 ((wnD Wn.none).map A.d))], 3⟩ := ⟨_, rfl⟩
  refine pure_of pg Try.func59 (by kernel_rfl) ?_
  conv => whnf
  refine ⟨[], [2, 4, 7, 8], [0, 1, 2], 3, fun m s => (m = 4 ∧ s = S 0 (lessK w o 0)) ∨ (m = 3 ∧ s = S 1 (lessK w o 1)) ∨ (m = 2 ∧ s = S 2 (lessK w o 2)) ∨ (m = 1 ∧ s = S 3 (lessK w o 3)) ∨ (m = 0 ∧ s = S 4 (lessK w o 4)), ?_, ?_⟩
  · conv => whnf
    exact ⟨4, .inl ⟨rfl, by rw [hS]; rfl⟩⟩
  · rintro m _ (⟨rfl, rfl⟩ | ⟨rfl, rfl⟩ | ⟨rfl, rfl⟩ | ⟨rfl, rfl⟩ | ⟨rfl, rfl⟩)
    · rw [hS]
      conv => whnf
      (repeat' (first | (apply kT (by with_reducible first | rfl | assumption); conv => whnf) | (apply kF (by with_reducible first | rfl | assumption); conv => whnf) | (apply kT (by decide); conv => whnf) | (apply kF (by decide); conv => whnf) | (apply kB <;> intro _ <;> conv => whnf) | (refine ⟨0, rfl, by decide, _, rfl, ?_⟩; conv => whnf) | (refine ⟨0, rfl, by decide, ?_⟩; conv => whnf) | fail))
      all_goals exact ⟨3, by omega, .inr (.inl ⟨rfl, by simp only [lessK] at *; simp only [*, Bool.true_and, Bool.false_and]; rfl⟩)⟩
    · rw [hS]
      conv => whnf
      (repeat' (first | (apply kT (by with_reducible first | rfl | assumption); conv => whnf) | (apply kF (by with_reducible first | rfl | assumption); conv => whnf) | (apply kT (by decide); conv => whnf) | (apply kF (by decide); conv => whnf) | (apply kB <;> intro _ <;> conv => whnf) | (refine ⟨1, rfl, by decide, _, rfl, ?_⟩; conv => whnf) | (refine ⟨1, rfl, by decide, ?_⟩; conv => whnf) | fail))
      all_goals exact ⟨2, by omega, .inr (.inr (.inl ⟨rfl, by simp only [lessK] at *; simp only [*, Bool.true_and, Bool.false_and]; rfl⟩))⟩
    · rw [hS]
      conv => whnf
      (repeat' (first | (apply kT (by with_reducible first | rfl | assumption); conv => whnf) | (apply kF (by with_reducible first | rfl | assumption); conv => whnf) | (apply kT (by decide); conv => whnf) | (apply kF (by decide); conv => whnf) | (apply kB <;> intro _ <;> conv => whnf) | (refine ⟨2, rfl, by decide, _, rfl, ?_⟩; conv => whnf) | (refine ⟨2, rfl, by decide, ?_⟩; conv => whnf) | fail))
      all_goals exact ⟨1, by omega, .inr (.inr (.inr (.inl ⟨rfl, by simp only [lessK] at *; simp only [*, Bool.true_and, Bool.false_and]; rfl⟩)))⟩
    · rw [hS]
      conv => whnf
      (repeat' (first | (apply kT (by with_reducible first | rfl | assumption); conv => whnf) | (apply kF (by with_reducible first | rfl | assumption); conv => whnf) | (apply kT (by decide); conv => whnf) | (apply kF (by decide); conv => whnf) | (apply kB <;> intro _ <;> conv => whnf) | (refine ⟨3, rfl, by decide, _, rfl, ?_⟩; conv => whnf) | (refine ⟨3, rfl, by decide, ?_⟩; conv => whnf) | fail))
      all_goals exact ⟨0, by omega, .inr (.inr (.inr (.inr ⟨rfl, by simp only [lessK] at *; simp only [*, Bool.true_and, Bool.false_and]; rfl⟩)))⟩
    · rw [hS]
      conv => whnf
      (repeat' (first | (apply kT (by with_reducible first | rfl | assumption); conv => whnf) | (apply kF (by with_reducible first | rfl | assumption); conv => whnf) | (apply kT (by decide); conv => whnf) | (apply kF (by decide); conv => whnf) | (apply kB <;> intro _ <;> conv => whnf) | fail))
      rfl
abbrev ctO (p : Pl) (i : Nat) : Ob := .var false 116 ((plC p).map A.d ++ [.own i])
theorem may_bor (p : Pl) (es : Es) (i : Nat) (hi : i < p.ws.length) (q : Pc) : Bor tb Try.prog 73 [.ref 0 0, .d (dI i), .d (.agg (pcD q))] [ctO p 1, .map 126 123 es] 2 (.d (dB (fitsB (wtAt p.ws i) q))) [(0, ctO p 1), (1, .map 126 123 es)] := by
  refine bor_ofO pg Try.func73 (by kernel_rfl) ?_
  conv => whnf
  (refine ⟨i, _, rfl, getwa hi, rfl, ?_⟩; conv => whnf)
  (repeat' (first | (apply kT (by with_reducible first | rfl | assumption); conv => whnf) | (apply kF (by with_reducible first | rfl | assumption); conv => whnf) | (apply kT (by decide); conv => whnf) | (apply kF (by decide); conv => whnf) | (apply kB <;> intro _ <;> conv => whnf) | (refine .inl ⟨_, fits_pure .., ?_⟩; conv => whnf) | fail))
  (refine ⟨[0, 1], ?_⟩; conv => whnf)
  exact ⟨rfl, rfl⟩
theorem far_pure (q : Pc) (ac : Bool) : Pure Try.prog (bif ac then 92 else 90) [.agg (pcD q)] (dI (farP q ac)) := by
  cases ac
  · exact wide_pure q
  · exact long_pure q
def nAc (ac : Bool) : Nat := bif ac then 1 else 0
theorem cutsF_len (q : Pc) (s : Int) (ac : Bool) : ∀ k i, (cutsF q s ac k i).length ≤ k
  | 0, _ => Nat.le_refl _
  | k + 1, i => by
    rw [cutsF, List.length_append]
    have := cutsF_len q s ac k (i + 1)
    split <;> simp <;> omega
set_option maxHeartbeats 4000000 in
theorem cuts_bor (p : Pl) (es : Es) (hs : 0 ≤ p.s ∧ p.s ≤ 2) {q : Pc} (hq : OkP q) : Bor tb Try.prog 75 [.ref 0 0, .d (.agg (pcD q))] [ctO p 1, .map 126 123 es] 2 (.d (ctsD (cutsL q p.s))) [(0, ctO p 1), (1, .map 126 123 es)] := by
  obtain ⟨S, hS⟩ : ∃ S : Nat → List Ct → St, S = fun k l => ⟨[(0, .ref 0 0), (3, .ref 2 0), (4, .ref 3 0), (8, .d (.seq [dirC false, dirC true])), (9, .d (dI 2)), (10, .d (dI (k : Nat)))],
    [(0, ctO p 1), (1, .map 126 123 es), (2, pcO q), (3, .var false 40 [.own 4]), (4, .arr 99 (l.map ctD))], 5⟩ := ⟨_, rfl⟩
  have hqw := hq.w0
  have hql := hq.l0
  have hqx := hq.x0
  have hqy := hq.y0
  have hqx1 := hq.x1
  have hqy1 := hq.y1
  have hfar : ∀ ac, 1 ≤ farP q ac ∧ farP q ac ≤ 100 := fun ac => by unfold farP; cases ac <;> simp <;> omega
  have fF : ∀ ac, IntKind.i64.wrap (farP q ac + 1) = (((farP q ac + 1).toNat : Nat) : Int) := fun ac => by have := hfar ac; rw [wS (by omega) (by omega)]; omega
  refine bor_of pg Try.func75 (by kernel_rfl) ?_
  conv => whnf
  (refine .inl ⟨_, dirs_pure, ?_⟩; conv => whnf)
  refine ⟨[.cown 3 0 99], [0, 3, 4, 8, 9, 10], [0, 1, 2, 3, 4], 5, fun m s => (∃ ac, m + nAc ac = 2 ∧ s = S (nAc ac) (bif ac then cutsF q p.s false (farP q false + 1).toNat 0 else [])) ∨ (m = 0 ∧ s = S 2 (cutsL q p.s)), ?_, ?_⟩
  · conv => whnf
    exact ⟨2, .inl ⟨false, rfl, by rw [hS]; rfl⟩⟩
  · rintro m _ (⟨ac, hm, rfl⟩ | ⟨rfl, rfl⟩)
    · rw [hS]
      have hf := hfar ac
      have fF := fF ac
      have cf := far_pure q ac
      obtain ⟨L0, hL0⟩ : ∃ L0, L0 = (bif ac then cutsF q p.s false (farP q false + 1).toNat 0 else []) := ⟨_, rfl⟩
      have hL0l : L0.length ≤ 101 := by
        rw [hL0]
        cases ac
        · exact Nat.zero_le _
        · have := cutsF_len q p.s false (farP q false + 1).toNat 0
          have := hfar false
          simp only [cond_true]; omega
      rw [← hL0]
      have hL1 : L0 ++ cutsF q p.s ac (farP q ac + 1).toNat 0 = if ac then cutsL q p.s else cutsF q p.s false (farP q false + 1).toNat 0 := by
        rw [hL0]
        cases ac <;> simp [cutsL, farP]
      have fN : decide (((nAc ac : Nat) : Int) < 2) = true := by cases ac <;> rfl
      have dN : ([dirC false, dirC true])[nAc ac]? = some (dirC ac) := by cases ac <;> rfl
      have eN : (((nAc ac : Nat) : Int) == 1) = ac := by cases ac <;> rfl
      have wN : IntKind.i64.wrap ((nAc ac : Int) + 1) = ((nAc ac + 1 : Nat) : Int) := by cases ac <;> rfl
      have mN : nAc ac < 2 := by cases ac <;> decide
      obtain ⟨far, hfarN⟩ : ∃ far : Nat, far = (farP q ac + 1).toNat := ⟨_, rfl⟩
      have hfarB : far ≤ 101 := by omega
      rw [← hfarN] at fF hL1
      obtain ⟨T, hT⟩ : ∃ T : Nat → List Ct → St, T = fun i l => ⟨[(0, .ref 0 0), (3, .ref 2 0), (4, .ref 3 0), (5, .ref 5 0), (6, .ref 6 0), (8, .d (.seq [dirC false, dirC true])), (9, .d (dI 2)), (10, .d (dI (nAc ac : Nat))), (19, .d (dI (far : Nat))), (20, .d (dI (i : Nat)))],
        [(0, ctO p 1), (1, .map 126 123 es), (2, pcO q), (3, .var false 40 [.own 4]), (4, .arr 99 (l.map ctD)), (5, intO (nAc ac : Nat)), (6, dirO ac)], 7⟩ := ⟨_, rfl⟩
      conv => whnf
      (repeat' (first | (apply kT (by with_reducible first | rfl | assumption); conv => whnf) | (apply kF (by with_reducible first | rfl | assumption); conv => whnf) | (apply kT (by decide); conv => whnf) | (apply kF (by decide); conv => whnf) | (apply kB <;> intro _ <;> conv => whnf) | fail))
      (refine ⟨_, dirC ac, rfl, dN, rfl, ?_⟩; conv => whnf)
      (refine .inl ⟨_, cf, ?_⟩; conv => whnf)
      refine ⟨[], [0, 3, 4, 5, 6, 8, 9, 10, 19, 20], [0, 1, 2, 3, 4, 5, 6], 7, fun j s => ∃ (i : Nat) (l : List Ct), i + j = far ∧ l.length ≤ L0.length + i ∧ l ++ cutsF q p.s ac j i = L0 ++ cutsF q p.s ac far 0 ∧ s = T i l, ?_, ?_⟩
      · conv => whnf
        refine ⟨far, 0, L0, by omega, Nat.le_refl _, rfl, ?_⟩
        rw [hT, fF]
        rfl
      · rintro j _ ⟨i, l, hij, hl, hrun, rfl⟩
        rw [hT]
        by_cases hlt : i < far
        · have f1 : decide ((i : Int) < (far : Int)) = true := decide_eq_true (by omega)
          obtain ⟨j', rfl⟩ : ∃ j', j = j' + 1 := ⟨j - 1, by omega⟩
          rw [cutsF] at hrun
          have hit := parts1_iter hq ac (a := (i : Int)) (s := p.s) ⟨by omega, by omega⟩ hs.1 hs.2 0
          conv => whnf
          (repeat' (first | (apply kT (by with_reducible first | rfl | assumption); conv => whnf) | (apply kF (by with_reducible first | rfl | assumption); conv => whnf) | (apply kT (by decide); conv => whnf) | (apply kF (by decide); conv => whnf) | (apply kB <;> intro _ <;> conv => whnf) | fail))
          (refine .inr ⟨[], 4, _, _, parts_bor .., ?_⟩; conv => whnf)
          refine ⟨[72, 73, 74, 75], [0, 3, 4, 5, 6, 7, 8, 9, 10, 19, 20], [0, 1, 2, 3, 4, 5, 6, 7], _, _, _, fun e ob n => e = 0 ∧ n = 81 ∧ ob = [(0, ctO p 1), (1, .map 126 123 es), (2, pcO q), (3, .var false 40 [.own 4]), (4, .arr 99 (l.map ctD)), (5, intO (nAc ac : Nat)), (6, dirO ac), (7, intO (i : Nat))], hit, ?_⟩
          conv => whnf
          generalize partsL q ac (i : Int) p.s = pl at hrun
          refine ⟨⟨rfl, rfl, rfl⟩, ?_, ?_⟩
          · rintro e ds _ _ he hle ⟨rfl, rfl, rfl⟩
            obtain ⟨r, hr, rfl⟩ := getE he
            have hne : pl ≠ [] := by rintro rfl; simp at hr
            refine ⟨rfl, ?_⟩
            conv => whnf
            (refine .l ?_; conv => whnf)
            (refine ⟨by simp, ?_⟩; conv => whnf)
            (refine ⟨by simp only [List.length_map, List.length_singleton]; omega, ?_⟩; conv => whnf)
            (refine ⟨[0, 1, 2, 3, 4, 5, 6, 7], 81, rfl, ?_⟩; conv => whnf)
            refine ⟨rfl, ?_⟩
            conv => whnf
            rw [if_neg hne, ← List.append_assoc] at hrun
            refine ⟨j', by omega, i + 1, l ++ [⟨0, ac, i⟩], by omega, by simp; omega, hrun, ?_⟩
            dsimp only
            rw [List.map_append, w1 i (by omega), eN]
            rfl
          · rintro _ _ hle ⟨he, rfl, rfl⟩
            have hne : pl = [] := by rw [List.length_map] at he; exact List.eq_nil_of_length_eq_zero he
            rw [if_pos hne, List.nil_append] at hrun
            conv => whnf
            refine ⟨j', by omega, i + 1, l, by omega, by omega, hrun, ?_⟩
            rw [w1 i (by omega)]
            rfl
        · have f1 : decide ((i : Int) < (far : Int)) = false := decide_eq_false (by omega)
          have hj : j = 0 := by omega
          subst hj
          rw [cutsF, List.append_nil, hL1] at hrun
          conv => whnf
          (repeat' (first | (apply kT (by with_reducible first | rfl | assumption); conv => whnf) | (apply kF (by with_reducible first | rfl | assumption); conv => whnf) | (apply kT (by decide); conv => whnf) | (apply kF (by decide); conv => whnf) | (apply kB <;> intro _ <;> conv => whnf) | fail))
          cases ac
          · refine ⟨1, by have : nAc false = 0 := rfl; omega, .inl ⟨true, rfl, ?_⟩⟩
            rw [hrun]
            rfl
          · refine ⟨0, by have : nAc true = 1 := rfl; omega, .inr ⟨rfl, ?_⟩⟩
            rw [hrun]
            rfl
    · rw [hS]
      conv => whnf
      (repeat' (first | (apply kT (by with_reducible first | rfl | assumption); conv => whnf) | (apply kF (by with_reducible first | rfl | assumption); conv => whnf) | (apply kT (by decide); conv => whnf) | (apply kF (by decide); conv => whnf) | (apply kB <;> intro _ <;> conv => whnf) | fail))
      (refine ⟨[], [0, 1], ?_⟩; conv => whnf)
      exact ⟨rfl, rfl⟩
end Go.Ev.Ytojlbcodfebmgaa

set_option linter.unusedVariables false
set_option linter.unusedSimpArgs false
set_option maxRecDepth 100000
namespace Go.Ev.Ytojlbcodfebmgaa
open Go.Proofs
attribute [local irreducible] Pure Bor Iter inB wtB partsL stepC useB usesB fitsB runC weighL uIdx betB cutsF
/-- bounds of gains -/
structure BdS (u : Int) (o : Sp) : Prop where
  g0 : 0 ≤ o.g
  g1 : o.g ≤ 1000 * u
  c0 : 0 ≤ o.c
  c1 : o.c ≤ u - 1
def WsOk (p : Pl) : Prop := (∀ i, 0 ≤ (wtAt p.ws i).g ∧ (wtAt p.ws i).g ≤ 1000) ∧ 0 ≤ p.s
theorem wsOk {p : Pl} (hp : checkI p = 0) : WsOk p := by
  obtain ⟨_, _, _, h4, h5⟩ := check_zero hp
  refine ⟨fun i => ?_, h4.1⟩
  unfold wtAt
  cases e : p.ws[i]? with
  | none => simp
  | some w =>
    have h := List.all_eq_true.1 h5 w (List.mem_of_getElem? e)
    unfold wtB at h
    simp only [Bool.and_eq_true, inB_true] at h
    exact h.1.1.2
theorem useF_bd {p : Pl} (hp : WsOk p) {q : Pc} {w : Wn} {u : Int} (hu : 1 ≤ u) : ∀ (k i : Nat) (o : Sp), BdS u o → BdS u (useF p q w k i o)
  | 0, i, o, h => h
  | k + 1, i, o, h => by
    rw [useF]
    refine useF_bd hp hu k (i + 1) _ ?_
    split
    · obtain ⟨h1, h2⟩ := hp.1 i
      exact ⟨h1, by simp only [spUse]; omega, Int.le_refl _, by simp only [spUse]; omega⟩
    · exact h
theorem units_one {q r : Pc} {ac : Bool} {a s : Int} (hs : 0 ≤ s) (hq : OkP q) (h : partsL q ac a s = [r]) : r.w * r.l + 1 ≤ q.w * q.l := by
  have hqw := hq.w0
  have hql := hq.l0
  unfold partsL at h
  split at h
  · cases h
  · rename_i hc
    unfold noCut at hc
    have key : ∀ m, 0 < m → m < farP q ac → ∀ f, (partP q ac f m).w * (partP q ac f m).l + 1 ≤ q.w * q.l := by
      intro m h1 h2 f
      unfold partP farP at *
      cases ac
      · simp only [cond_false] at *
        have := Int.mul_le_mul_of_nonneg_right (show m + 1 ≤ q.w by omega) (show (0 : Int) ≤ q.l by omega)
        rw [Int.add_mul] at this
        omega
      · simp only [cond_true] at *
        have := Int.mul_le_mul_of_nonneg_left (show m + 1 ≤ q.l by omega) (show (0 : Int) ≤ q.w by omega)
        rw [Int.mul_add] at this
        omega
    by_cases h1 : 0 < a
    · rw [if_pos h1] at h
      by_cases h2 : 0 < farP q ac - a - s
      · rw [if_pos h2] at h; simp at h
      · rw [if_neg h2] at h
        simp only [List.append_nil, List.cons.injEq, and_true] at h
        subst h
        exact key a h1 (by omega) 0
    · rw [if_neg h1] at h
      by_cases h2 : 0 < farP q ac - a - s
      · rw [if_pos h2] at h
        simp only [List.nil_append, List.cons.injEq, and_true] at h
        subst h
        exact key _ h2 (by omega) _
      · rw [if_neg h2] at h; simp at h
theorem units_two {q r t : Pc} {ac : Bool} {a s : Int} (hs : 0 ≤ s) (hq : OkP q) (h : partsL q ac a s = [r, t]) : r.w * r.l + t.w * t.l ≤ q.w * q.l ∧ 1 ≤ r.w * r.l ∧ 1 ≤ t.w * t.l := by
  have hqw := hq.w0
  have hql := hq.l0
  unfold partsL at h
  split at h
  · cases h
  · rename_i hc
    unfold noCut at hc
    by_cases h1 : 0 < a
    · rw [if_pos h1] at h
      by_cases h2 : 0 < farP q ac - a - s
      · rw [if_pos h2] at h
        simp only [List.cons_append, List.nil_append, List.cons.injEq, and_true] at h
        obtain ⟨rfl, rfl⟩ := h
        unfold partP farP at *
        cases ac
        · simp only [cond_false] at *
          have e := Int.mul_le_mul_of_nonneg_right (show a + (q.w - a - s) ≤ q.w by omega) (show (0 : Int) ≤ q.l by omega)
          rw [Int.add_mul] at e
          refine ⟨by omega, ?_, ?_⟩
          · have := Int.mul_le_mul (show 1 ≤ a by omega) (show 1 ≤ q.l by omega) (by omega) (by omega); omega
          · have := Int.mul_le_mul (show 1 ≤ q.w - a - s by omega) (show 1 ≤ q.l by omega) (by omega) (by omega); omega
        · simp only [cond_true] at *
          have e := Int.mul_le_mul_of_nonneg_left (show a + (q.l - a - s) ≤ q.l by omega) (show (0 : Int) ≤ q.w by omega)
          rw [Int.mul_add] at e
          refine ⟨by omega, ?_, ?_⟩
          · have := Int.mul_le_mul (show 1 ≤ q.w by omega) (show 1 ≤ a by omega) (by omega) (by omega); omega
          · have := Int.mul_le_mul (show 1 ≤ q.w by omega) (show 1 ≤ q.l - a - s by omega) (by omega) (by omega); omega
      · rw [if_neg h2] at h; simp at h
    · rw [if_neg h1] at h
      by_cases h2 : 0 < farP q ac - a - s
      · rw [if_pos h2] at h; simp at h
      · rw [if_neg h2] at h; simp at h
theorem seeS_bd {p : Pl} (hp : WsOk p) {f : Pc → Wn → Sp} {q : Pc} (hq : OkP q) {ac : Bool} {a : Int} (hne : partsL q ac a p.s ≠ []) (hf : ∀ r ∈ partsL q ac a p.s, ∀ w, BdS (r.w * r.l) (f r w)) {w : Wn} {c : Ct} {o : Sp} (ho : BdS (q.w * q.l) o) (part : Wn) :
    BdS (q.w * q.l) (seeS f (partsL q ac a p.s) w c o part) := by
  have h1 := fun r => units_one (q := q) (r := r) (ac := ac) (a := a) hp.2 hq
  have h2 := fun r t => units_two (q := q) (r := r) (t := t) (ac := ac) (a := a) hp.2 hq
  have hu : 1 ≤ q.w * q.l := by have := hq.w0; have := hq.l0; have := Int.mul_le_mul (show 1 ≤ q.w by omega) (show 1 ≤ q.l by omega) (by omega) (by omega); omega
  have hl := parts_len q ac a p.s
  unfold seeS
  generalize partsL q ac a p.s = l at hf h1 h2 hl hne
  split
  · exact ho
  · split
    · match l, hne, hf, h1, h2, hl with
      | [], hne, _, _, _, _ => exact absurd rfl hne
      | [r], _, hf, h1, h2, _ =>
        obtain ⟨q1, q2, q3, q4⟩ := hf r (by simp) part
        have := h1 r rfl
        exact ⟨q1, by simp only [seeG]; omega, by simp only [seeG]; omega, by simp only [seeG]; omega⟩
      | [r, t], _, hf, h1, h2, _ =>
        obtain ⟨q1, q2, q3, q4⟩ := hf r (by simp) part
        obtain ⟨r1, r2, r3, r4⟩ := hf t (by simp) (w.less part)
        have := h2 r t rfl
        exact ⟨by simp only [seeG]; omega, by simp only [seeG]; omega, by simp only [seeG]; omega, by simp only [seeG]; omega⟩
      | _ :: _ :: _ :: _, _, _, _, _, hl => simp at hl
    · exact ho
theorem cutsF_mem {q : Pc} {s : Int} {ac : Bool} : ∀ {k i : Nat} {c : Ct}, c ∈ cutsF q s ac k i → c.n = 0 ∧ c.ac = ac ∧ (i : Int) ≤ c.at_ ∧ c.at_ < i + k ∧ partsL q c.ac c.at_ s ≠ []
  | 0, i, c, h => by rw [cutsF] at h; cases h
  | k + 1, i, c, h => by
    rw [cutsF] at h
    rcases List.mem_append.1 h with h | h
    · split at h
      · cases h
      · rename_i hne
        simp only [List.mem_singleton] at h
        subst h
        exact ⟨rfl, rfl, by simp, by simp only; omega, hne⟩
    · obtain ⟨h1, h2, h3, h4, h5⟩ := cutsF_mem h
      exact ⟨h1, h2, by omega, by omega, h5⟩
theorem cutsL_mem {q : Pc} {s : Int} {c : Ct} (hq : OkP q) (h : c ∈ cutsL q s) : c.n = 0 ∧ 0 ≤ c.at_ ∧ c.at_ ≤ 101 ∧ partsL q c.ac c.at_ s ≠ [] := by
  have := hq.w0; have := hq.l0; have := hq.x0; have := hq.y0; have := hq.x1; have := hq.y1
  unfold cutsL at h
  rcases List.mem_append.1 h with h | h
  all_goals
    obtain ⟨h1, h2, h3, h4, h5⟩ := cutsF_mem h
    exact ⟨h1, by omega, by omega, h5⟩
theorem bestN_bd {p : Pl} (hp : WsOk p) : ∀ (n : Nat) {q : Pc} (w : Wn), OkP q → BdS (q.w * q.l) (bestN p n q w)
  | 0, q, w, hq => by
    have hu : 1 ≤ q.w * q.l := by have := hq.w0; have := hq.l0; have := Int.mul_le_mul (show 1 ≤ q.w by omega) (show 1 ≤ q.l by omega) (by omega) (by omega); omega
    exact ⟨Int.le_refl _, by simp only [bestN, spUse]; omega, Int.le_refl _, by simp only [bestN, spUse]; omega⟩
  | n + 1, q, w, hq => by
    have hu : 1 ≤ q.w * q.l := by have := hq.w0; have := hq.l0; have := Int.mul_le_mul (show 1 ≤ q.w by omega) (show 1 ≤ q.l by omega) (by omega) (by omega); omega
    have h0 : BdS (q.w * q.l) (spUse 0 (-1)) := ⟨Int.le_refl _, by simp only [spUse]; omega, Int.le_refl _, by simp only [spUse]; omega⟩
    rw [bestN]
    unfold bestF
    split
    · exact h0
    · refine foldl_inv (P := BdS (q.w * q.l)) _ _ (useF_bd hp hu _ _ _ h0) fun o c hc ho => foldl_inv (P := BdS (q.w * q.l)) _ _ ho fun o part _ ho => ?_
      obtain ⟨_, _, _, h5⟩ := cutsL_mem hq hc
      exact seeS_bd hp hq h5 (fun r hr w => bestN_bd hp n w (parts_ok hq hp.2 r hr)) ho part
theorem bestP_bd {p : Pl} (hp : WsOk p) {q : Pc} (w : Wn) (hq : OkP q) : BdS (q.w * q.l) (bestP p q w) := bestN_bd hp _ w hq
theorem units_le {q : Pc} (hq : OkP q) : 1 ≤ q.w * q.l ∧ q.w * q.l ≤ 10000 := by
  have := hq.w0; have := hq.l0; have := hq.x0; have := hq.y0; have := hq.x1; have := hq.y1
  have h1 := mul_bd (a := q.w) (b := q.l) (by omega) (by omega) (by omega) (by omega)
  have := Int.mul_le_mul (show 1 ≤ q.w by omega) (show 1 ≤ q.l by omega) (by omega) (by omega)
  omega
/-! ### the walk -/
theorem wn_eq (a b : Wn) : (a.a == b.a && (a.b == b.b && (a.c == b.c && (a.d == b.d && true)))) = decide (a = b) := by
  obtain ⟨a1, a2, a3, a4⟩ := a
  obtain ⟨b1, b2, b3, b4⟩ := b
  rw [Bool.eq_iff_iff]
  simp
/-- what 'best' does, for small pieces -/
def BestOk (p : Pl) (n : Nat) : Prop := ∀ (r : Pc) (w : Wn) (es : Es), OkP r → sizeP r ≤ n → OkM p es →
  Bor tb Try.prog 55 [.ref 0 0, .d (keyD r w)] [ctO p 1, .map 126 123 es] 2 (.d (.agg (spD (bestP p r w)))) [(0, ctO p 1), (1, .map 126 123 (memN p n r w es))]
abbrev seeO (p : Pl) (q : Pc) (w : Wn) (l : List Pc) (c : Ct) (o : Sp) (es : Es) : List Ob :=
  [.var false 82 [.d (pcsD l)], .var false 126 [.d (dI q.x), .d (dI q.y), .d (dI q.w), .d (dI q.l), .d (dB w.a), .d (dB w.b), .d (dB w.c), .d (dB w.d)], .var false 113 [.ref 5 0], .var false 123 ((spD o).map A.d), .var false 99 ((ctD c).map A.d), ctO p 6, .map 126 123 es]
abbrev seeP (p : Pl) (q : Pc) (w : Wn) (l : List Pc) (c : Ct) (o : Sp) (es : Es) : List (Nat × Ob) :=
  [(0, .var false 82 [.d (pcsD l)]), (1, .var false 126 [.d (dI q.x), .d (dI q.y), .d (dI q.w), .d (dI q.l), .d (dB w.a), .d (dB w.b), .d (dB w.c), .d (dB w.d)]), (2, .var false 113 [.ref 5 0]), (3, .var false 123 ((spD o).map A.d)), (4, .var false 99 ((ctD c).map A.d)), (5, ctO p 6), (6, .map 126 123 es)]
abbrev seeA : List A := [.ref 0 0, .ref 1 0, .ref 2 0, .ref 3 0, .ref 4 0]
attribute [local irreducible] bestP memN
set_option maxHeartbeats 4000000 in
theorem see_bor {p : Pl} (hp : WsOk p) {n : Nat} (H : BestOk p n) {q : Pc} (w : Wn) (c : Ct) (o : Sp) {es : Es} (hes : OkM p es) {l : List Pc} (hl : l.length = 1 ∨ l.length = 2) (hlk : ∀ r ∈ l, OkP r ∧ sizeP r ≤ n) (part : Wn) :
    Bor tb Try.prog 78 (.d (.agg (wnD part)) :: seeA) (seeO p q w l c o es) 7 (.d (.tup [])) (seeP p q w l c (seeS (bestP p) l w c o part) (memF (memN p n) l w es part)) := by
  have hm : ((l.map pcD).length : Int) = l.length := by rw [List.length_map]
  have hwe := wn_eq part w
  by_cases h1 : l.length = 1 ∧ part ≠ w
  · have e1 : seeS (bestP p) l w c o part = o := by unfold seeS; rw [if_pos h1]
    have e2 : memF (memN p n) l w es part = es := by unfold memF; rw [if_pos h1]
    rw [e1, e2]
    have f1 : (((l.map pcD).length : Int) == 1) = true := eqT (by rw [hm]; omega)
    have f2 : (!(part.a == w.a && (part.b == w.b && (part.c == w.c && (part.d == w.d && true))))) = true := by rw [hwe]; simp [h1.2]
    refine bor_ofO pg Try.func78 (by kernel_rfl) ?_
    conv => whnf
    (repeat' (first | (apply kT (by with_reducible first | rfl | assumption); conv => whnf) | (apply kF (by with_reducible first | rfl | assumption); conv => whnf) | (apply kT (by decide); conv => whnf) | (apply kF (by decide); conv => whnf) | (apply kB <;> intro _ <;> conv => whnf) | fail))
    (refine ⟨[0, 1, 2, 3, 4, 5, 6], ?_⟩; conv => whnf)
    exact ⟨rfl, rfl⟩
  obtain ⟨res, hres⟩ : ∃ res, res = seeS (bestP p) l w c o part := ⟨_, rfl⟩
  have er : res = bif betB (seeG (bestP p) l part w).1 (seeG (bestP p) l part w).2 o.g o.c then ⟨(seeG (bestP p) l part w).1, (seeG (bestP p) l part w).2, -1, true, c, part⟩ else o := by rw [hres]; unfold seeS; rw [if_neg h1]; cases betB (seeG (bestP p) l part w).1 (seeG (bestP p) l part w).2 o.g o.c <;> rfl
  have em : memF (memN p n) l w es part = seeM (memN p n) l part w es := by unfold memF; rw [if_neg h1]
  rw [← hres, em]
  have cb := better_pure (seeG (bestP p) l part w).1 (seeG (bestP p) l part w).2 o.g o.c
  match l, hl with
  | [a], _ =>
    obtain ⟨ha, hsa⟩ := hlk a (by simp)
    have hpw : part = w := by
      refine Decidable.byContradiction fun h => h1 ⟨rfl, h⟩
    have f1 : ((([a].map pcD).length : Int) == 1) = true := eqT rfl
    have f2 : (!(part.a == w.a && (part.b == w.b && (part.c == w.c && (part.d == w.d && true))))) = false := by rw [hwe]; simp [hpw]
    have Ha := H a part es ha hsa hes
    obtain ⟨g0, g1, c0, c1⟩ := bestP_bd hp part ha
    have hu := units_le ha
    simp only [seeG] at er cb
    simp only [seeM]
    obtain ⟨ba, hba⟩ : ∃ ba, ba = bestP p a part := ⟨_, rfl⟩
    rw [← hba] at er cb Ha g0 g1 c0 c1
    have wg : IntKind.i64.wrap (0 + ba.g) = ba.g := by rw [Int.zero_add]; exact wrapI (by omega) (by omega)
    have wc : IntKind.i64.wrap (1 + ba.c) = 1 + ba.c := wrapI (by omega) (by omega)
    obtain ⟨es1, he1⟩ : ∃ es1, es1 = memN p n a part es := ⟨_, rfl⟩
    rw [← he1] at Ha ⊢
    refine bor_ofO pg Try.func78 (by kernel_rfl) ?_
    conv => whnf
    (repeat' (first | (apply kT (by with_reducible first | rfl | assumption); conv => whnf) | (apply kF (by with_reducible first | rfl | assumption); conv => whnf) | (apply kT (by decide); conv => whnf) | (apply kF (by decide); conv => whnf) | (apply kB <;> intro _ <;> conv => whnf) | (refine .inl ⟨_, less_pure .., ?_⟩; conv => whnf) | fail))
    (refine .l ?_; conv => whnf)
    (refine ⟨1, rfl, Nat.zero_le _, by simp, by intro el hel; simp only [List.mem_cons, List.not_mem_nil, or_false] at hel; rcases hel with h | h <;> subst h <;> rfl, ?_⟩; conv => whnf)
    refine ⟨[], [1, 2, 3, 4, 5, 6, 7, 29, 30, 31], [0, 1, 2, 3, 4, 5, 6, 7, 8], 9, fun m s => (m = 1 ∧ s = ⟨[(1, .ref 0 0), (2, .ref 1 0), (3, .ref 2 0), (4, .ref 3 0), (5, .ref 4 0), (6, .ref 7 0), (7, .ref 8 0), (29, .d (.seq [wnD part])), (30, .d (dI 1)), (31, .d (dI 0))],
        seeP p q w [a] c o es ++ [(7, .var false 118 ((wnD part).map A.d)), (8, .var false 121 [.d (dI 0), .d (dI 1)])], 9⟩) ∨
      (m = 0 ∧ s = ⟨[(1, .ref 0 0), (2, .ref 1 0), (3, .ref 2 0), (4, .ref 3 0), (5, .ref 4 0), (6, .ref 7 0), (7, .ref 8 0), (29, .d (.seq [wnD part])), (30, .d (dI 1)), (31, .d (dI 1))],
        seeP p q w [a] c o es1 ++ [(7, .var false 118 ((wnD part).map A.d)), (8, .var false 121 [.d (dI ba.g), .d (dI (1 + ba.c))])], 9⟩), ?_, ?_⟩
    · conv => whnf
      exact ⟨1, .inl ⟨rfl, rfl⟩⟩
    · rintro m _ (⟨rfl, rfl⟩ | ⟨rfl, rfl⟩)
      · conv => whnf
        (repeat' (first | (apply kT (by with_reducible first | rfl | assumption); conv => whnf) | (apply kF (by with_reducible first | rfl | assumption); conv => whnf) | (apply kT (by decide); conv => whnf) | (apply kF (by decide); conv => whnf) | (apply kB <;> intro _ <;> conv => whnf) | fail))
        (refine ⟨0, wnD part, rfl, rfl, rfl, ?_⟩; conv => whnf)
        (refine ⟨0, pcD a, rfl, rfl, rfl, ?_⟩; conv => whnf)
        (refine .inr ⟨[5, 6], 2, _, _, Ha, ?_⟩; conv => whnf)
        refine ⟨0, by omega, .inr ⟨rfl, ?_⟩⟩
        rw [wg, wc]
        rfl
      · conv => whnf
        (repeat' (first | (apply kT (by with_reducible first | rfl | assumption); conv => whnf) | (apply kF (by with_reducible first | rfl | assumption); conv => whnf) | (apply kT (by decide); conv => whnf) | (apply kF (by decide); conv => whnf) | (apply kB <;> intro _ <;> conv => whnf) | fail))
        cases hb : betB ba.g (1 + ba.c) o.g o.c with
        | true =>
          rw [hb] at cb
          rw [hb, cond_true] at er
          (repeat' (first | (apply kT (by with_reducible first | rfl | assumption); conv => whnf) | (apply kF (by with_reducible first | rfl | assumption); conv => whnf) | (apply kT (by decide); conv => whnf) | (apply kF (by decide); conv => whnf) | (apply kB <;> intro _ <;> conv => whnf) | (refine .inl ⟨_, cb, ?_⟩; conv => whnf) | fail))
          (refine ⟨[0, 1, 2, 3, 4, 5, 6], ?_⟩; conv => whnf)
          refine ⟨rfl, ?_⟩
          rw [er]
          rfl
        | false =>
          rw [hb] at cb
          rw [hb, cond_false] at er
          (repeat' (first | (apply kT (by with_reducible first | rfl | assumption); conv => whnf) | (apply kF (by with_reducible first | rfl | assumption); conv => whnf) | (apply kT (by decide); conv => whnf) | (apply kF (by decide); conv => whnf) | (apply kB <;> intro _ <;> conv => whnf) | (refine .inl ⟨_, cb, ?_⟩; conv => whnf) | fail))
          (refine ⟨[0, 1, 2, 3, 4, 5, 6], ?_⟩; conv => whnf)
          refine ⟨rfl, ?_⟩
          rw [er]
          rfl
  | [a, b], _ =>
    obtain ⟨ha, hsa⟩ := hlk a (by simp)
    obtain ⟨hb, hsb⟩ := hlk b (by simp)
    have f1 : ((([a, b].map pcD).length : Int) == 1) = false := eqF (by simp)
    have Ha := H a part es ha hsa hes
    have Hb := H b (w.less part) (memN p n a part es) hb hsb (memN_ok hp.2 n part es ha.w0 ha.l0 hsa hes)
    obtain ⟨g0, g1, c0, c1⟩ := bestP_bd hp part ha
    obtain ⟨k0, k1, d0, d1⟩ := bestP_bd hp (w.less part) hb
    have hu := units_le ha
    have hv := units_le hb
    simp only [seeG] at er cb
    simp only [seeM]
    obtain ⟨ba, hba⟩ : ∃ ba, ba = bestP p a part := ⟨_, rfl⟩
    rw [← hba] at er cb Ha g0 g1 c0 c1
    obtain ⟨bb, hbb⟩ : ∃ bb, bb = bestP p b (w.less part) := ⟨_, rfl⟩
    rw [← hbb] at er cb Hb k0 k1 d0 d1
    have wg : IntKind.i64.wrap (0 + ba.g) = ba.g := by rw [Int.zero_add]; exact wrapI (by omega) (by omega)
    have wc : IntKind.i64.wrap (1 + ba.c) = 1 + ba.c := wrapI (by omega) (by omega)
    have wg2 : IntKind.i64.wrap (ba.g + bb.g) = ba.g + bb.g := wrapI (by omega) (by omega)
    have wc2 : IntKind.i64.wrap (1 + ba.c + bb.c) = 1 + ba.c + bb.c := wrapI (by omega) (by omega)
    obtain ⟨es1, he1⟩ : ∃ es1, es1 = memN p n a part es := ⟨_, rfl⟩
    rw [← he1] at Ha Hb ⊢
    obtain ⟨es2, he2⟩ : ∃ es2, es2 = memN p n b (w.less part) es1 := ⟨_, rfl⟩
    rw [← he2] at Hb ⊢
    refine bor_ofO pg Try.func78 (by kernel_rfl) ?_
    conv => whnf
    (repeat' (first | (apply kT (by with_reducible first | rfl | assumption); conv => whnf) | (apply kF (by with_reducible first | rfl | assumption); conv => whnf) | (apply kT (by decide); conv => whnf) | (apply kF (by decide); conv => whnf) | (apply kB <;> intro _ <;> conv => whnf) | (refine .inl ⟨_, less_pure .., ?_⟩; conv => whnf) | fail))
    (refine .l ?_; conv => whnf)
    (refine ⟨2, rfl, Nat.zero_le _, by simp, by intro el hel; simp only [List.mem_cons, List.not_mem_nil, or_false] at hel; rcases hel with h | h <;> subst h <;> rfl, ?_⟩; conv => whnf)
    refine ⟨[], [1, 2, 3, 4, 5, 6, 7, 29, 30, 31], [0, 1, 2, 3, 4, 5, 6, 7, 8], 9, fun m s => (m = 2 ∧ s = ⟨[(1, .ref 0 0), (2, .ref 1 0), (3, .ref 2 0), (4, .ref 3 0), (5, .ref 4 0), (6, .ref 7 0), (7, .ref 8 0), (29, .d (.seq [wnD part, wnD (w.less part)])), (30, .d (dI 2)), (31, .d (dI 0))],
        seeP p q w [a, b] c o es ++ [(7, .var false 118 ((wnD part).map A.d)), (8, .var false 121 [.d (dI 0), .d (dI 1)])], 9⟩) ∨
      (m = 1 ∧ s = ⟨[(1, .ref 0 0), (2, .ref 1 0), (3, .ref 2 0), (4, .ref 3 0), (5, .ref 4 0), (6, .ref 7 0), (7, .ref 8 0), (29, .d (.seq [wnD part, wnD (w.less part)])), (30, .d (dI 2)), (31, .d (dI 1))],
        seeP p q w [a, b] c o es1 ++ [(7, .var false 118 ((wnD part).map A.d)), (8, .var false 121 [.d (dI ba.g), .d (dI (1 + ba.c))])], 9⟩) ∨
      (m = 0 ∧ s = ⟨[(1, .ref 0 0), (2, .ref 1 0), (3, .ref 2 0), (4, .ref 3 0), (5, .ref 4 0), (6, .ref 7 0), (7, .ref 8 0), (29, .d (.seq [wnD part, wnD (w.less part)])), (30, .d (dI 2)), (31, .d (dI 2))],
        seeP p q w [a, b] c o es2 ++ [(7, .var false 118 ((wnD part).map A.d)), (8, .var false 121 [.d (dI (ba.g + bb.g)), .d (dI (1 + ba.c + bb.c))])], 9⟩), ?_, ?_⟩
    · conv => whnf
      exact ⟨2, .inl ⟨rfl, rfl⟩⟩
    · rintro m _ (⟨rfl, rfl⟩ | ⟨rfl, rfl⟩ | ⟨rfl, rfl⟩)
      · conv => whnf
        (repeat' (first | (apply kT (by with_reducible first | rfl | assumption); conv => whnf) | (apply kF (by with_reducible first | rfl | assumption); conv => whnf) | (apply kT (by decide); conv => whnf) | (apply kF (by decide); conv => whnf) | (apply kB <;> intro _ <;> conv => whnf) | fail))
        (refine ⟨0, wnD part, rfl, rfl, rfl, ?_⟩; conv => whnf)
        (refine ⟨0, pcD a, rfl, rfl, rfl, ?_⟩; conv => whnf)
        (refine .inr ⟨[5, 6], 2, _, _, Ha, ?_⟩; conv => whnf)
        refine ⟨1, by omega, .inr (.inl ⟨rfl, ?_⟩)⟩
        rw [wg, wc]
        rfl
      · conv => whnf
        (repeat' (first | (apply kT (by with_reducible first | rfl | assumption); conv => whnf) | (apply kF (by with_reducible first | rfl | assumption); conv => whnf) | (apply kT (by decide); conv => whnf) | (apply kF (by decide); conv => whnf) | (apply kB <;> intro _ <;> conv => whnf) | fail))
        (refine ⟨1, wnD (w.less part), rfl, rfl, rfl, ?_⟩; conv => whnf)
        (refine ⟨1, pcD b, rfl, rfl, rfl, ?_⟩; conv => whnf)
        (refine .inr ⟨[5, 6], 2, _, _, Hb, ?_⟩; conv => whnf)
        refine ⟨0, by omega, .inr (.inr ⟨rfl, ?_⟩)⟩
        rw [wg2, wc2]
        rfl
      · conv => whnf
        (repeat' (first | (apply kT (by with_reducible first | rfl | assumption); conv => whnf) | (apply kF (by with_reducible first | rfl | assumption); conv => whnf) | (apply kT (by decide); conv => whnf) | (apply kF (by decide); conv => whnf) | (apply kB <;> intro _ <;> conv => whnf) | fail))
        cases hbt : betB (ba.g + bb.g) (1 + ba.c + bb.c) o.g o.c with
        | true =>
          rw [hbt] at cb
          rw [hbt, cond_true] at er
          (repeat' (first | (apply kT (by with_reducible first | rfl | assumption); conv => whnf) | (apply kF (by with_reducible first | rfl | assumption); conv => whnf) | (apply kT (by decide); conv => whnf) | (apply kF (by decide); conv => whnf) | (apply kB <;> intro _ <;> conv => whnf) | (refine .inl ⟨_, cb, ?_⟩; conv => whnf) | fail))
          (refine ⟨[0, 1, 2, 3, 4, 5, 6], ?_⟩; conv => whnf)
          refine ⟨rfl, ?_⟩
          rw [er]
          rfl
        | false =>
          rw [hbt] at cb
          rw [hbt, cond_false] at er
          (repeat' (first | (apply kT (by with_reducible first | rfl | assumption); conv => whnf) | (apply kF (by with_reducible first | rfl | assumption); conv => whnf) | (apply kT (by decide); conv => whnf) | (apply kF (by decide); conv => whnf) | (apply kB <;> intro _ <;> conv => whnf) | (refine .inl ⟨_, cb, ?_⟩; conv => whnf) | fail))
          (refine ⟨[0, 1, 2, 3, 4, 5, 6], ?_⟩; conv => whnf)
          refine ⟨rfl, ?_⟩
          rw [er]
          rfl
  | [], hl => simp at hl
  | _ :: _ :: _ :: _, hl => simp at hl
end Go.Ev.Ytojlbcodfebmgaa

set_option linter.unusedVariables false
set_option linter.unusedSimpArgs false
set_option maxRecDepth 100000
namespace Go.Ev.Ytojlbcodfebmgaa
open Go.Proofs
attribute [local irreducible] Pure Bor Iter inB wtB partsL stepC useB usesB fitsB runC weighL uIdx betB cutsF bestP memN seeS memF
abbrev someO (p : Pl) (q : Pc) (w : Wn) (l : List Pc) (c : Ct) (o : Sp) (es : Es) : List Ob :=
  [.var false 161 [.fn (.func 78) [] [.ref 3 0, .ref 4 0, .ref 5 0, .ref 6 0, .ref 7 0]], .var false 167 [.fn (.func 89) [] [.ref 0 0, .ref 1 0, .ref 2 0]], .var false 118 ((wnD w).map A.d),
    .var false 82 [.d (pcsD l)], .var false 126 [.d (dI q.x), .d (dI q.y), .d (dI q.w), .d (dI q.l), .d (dB w.a), .d (dB w.b), .d (dB w.c), .d (dB w.d)], .var false 113 [.ref 8 0], .var false 123 ((spD o).map A.d), .var false 99 ((ctD c).map A.d), ctO p 9, .map 126 123 es]
abbrev someP (p : Pl) (q : Pc) (w : Wn) (l : List Pc) (c : Ct) (o : Sp) (es : Es) : List (Nat × Ob) :=
  [(0, .var false 161 [.fn (.func 78) [] [.ref 3 0, .ref 4 0, .ref 5 0, .ref 6 0, .ref 7 0]]), (1, .var false 167 [.fn (.func 89) [] [.ref 0 0, .ref 1 0, .ref 2 0]]), (2, .var false 118 ((wnD w).map A.d)),
    (3, .var false 82 [.d (pcsD l)]), (4, .var false 126 [.d (dI q.x), .d (dI q.y), .d (dI q.w), .d (dI q.l), .d (dB w.a), .d (dB w.b), .d (dB w.c), .d (dB w.d)]), (5, .var false 113 [.ref 8 0]), (6, .var false 123 ((spD o).map A.d)), (7, .var false 99 ((ctD c).map A.d)), (8, ctO p 9), (9, .map 126 123 es)]
theorem fold_ok {p : Pl} (hp : WsOk p) {n : Nat} {l : List Pc} (hlk : ∀ r ∈ l, OkP r ∧ sizeP r ≤ n) {w : Wn} (ps : List Wn) {es : Es} (h : OkM p es) : OkM p (ps.foldl (memF (memN p n) l w) es) :=
  foldl_inv (P := OkM p) _ _ h fun es part _ hes => memF_ok (fun r hr w es hes => memN_ok hp.2 n w es (hlk r hr).1.w0 (hlk r hr).1.l0 (hlk r hr).2 hes) hes
set_option maxHeartbeats 4000000 in
theorem some1_bor {p : Pl} (hp : WsOk p) {n : Nat} (H : BestOk p n) {q : Pc} (w : Wn) (c : Ct) {l : List Pc} (hl : l.length = 1 ∨ l.length = 2) (hlk : ∀ r ∈ l, OkP r ∧ sizeP r ≤ n) :
    ∀ (k : Nat), k ≤ 4 → ∀ (part : Wn) (o : Sp) (es : Es), OkM p es →
    Bor tb Try.prog 89 [.d (.agg (wnD part)), .d (dI ((4 - k : Nat) : Int)), .ref 0 0, .ref 1 0, .ref 2 0] (someO p q w l c o es) 10 (.d (.tup [])) (someP p q w l c ((partsW w part k).foldl (seeS (bestP p) l w c) o) ((partsW w part k).foldl (memF (memN p n) l w) es))
  | 0, _, part, o, es, hes => by
    have cs := see_bor hp H (q := q) w c o hes hl hlk part
    rw [partsW]
    simp only [List.foldl_cons, List.foldl_nil]
    refine bor_ofO pg Try.func89 (by kernel_rfl) ?_
    conv => whnf
    (repeat' (first | (apply kT (by with_reducible first | rfl | assumption); conv => whnf) | (apply kF (by with_reducible first | rfl | assumption); conv => whnf) | (apply kT (by decide); conv => whnf) | (apply kF (by decide); conv => whnf) | (apply kB <;> intro _ <;> conv => whnf) | fail))
    (refine .inr ⟨[3, 4, 5, 6, 7, 8, 9], 7, _, _, cs, ?_⟩; conv => whnf)
    (refine ⟨[0, 1, 2, 3, 4, 5, 6, 7, 8, 9], ?_⟩; conv => whnf)
    exact ⟨rfl, rfl⟩
  | k + 1, hk, part, o, es, hes => by
    have c1 := some1_bor hp H (q := q) w c hl hlk k (by omega) part o es hes
    have c2 := some1_bor hp H (q := q) w c hl hlk k (by omega) (part.put (3 - k)) ((partsW w part k).foldl (seeS (bestP p) l w c) o) ((partsW w part k).foldl (memF (memN p n) l w) es) (fold_ok hp hlk _ hes)
    rw [partsW]
    obtain ⟨o1, ho1⟩ : ∃ o1, o1 = (partsW w part k).foldl (seeS (bestP p) l w c) o := ⟨_, rfl⟩
    obtain ⟨e1, he1⟩ : ∃ e1, e1 = (partsW w part k).foldl (memF (memN p n) l w) es := ⟨_, rfl⟩
    simp only [List.foldl_append]
    rw [← ho1, ← he1] at c1 c2 ⊢
    match k, hk, c1, c2 with
    | 0, _, c1, c2 =>
      cases hw : w.get 3 with
      | true =>
        have hwd : w.d = true := hw
        rw [if_pos rfl]
        refine bor_ofO pg Try.func89 (by kernel_rfl) ?_
        conv => whnf
        (repeat' (first | (apply kT (by with_reducible first | rfl | assumption); conv => whnf) | (apply kF (by with_reducible first | rfl | assumption); conv => whnf) | (apply kT (by decide); conv => whnf) | (apply kF (by decide); conv => whnf) | (apply kB <;> intro _ <;> conv => whnf) | fail))
        (refine .inr ⟨[0, 1, 2, 3, 4, 5, 6, 7, 8, 9], 10, _, _, c1, ?_⟩; conv => whnf)
        (refine ⟨3, rfl, by decide, ?_⟩; conv => whnf)
        (repeat' (first | (apply kT (by with_reducible first | rfl | assumption); conv => whnf) | (apply kF (by with_reducible first | rfl | assumption); conv => whnf) | (apply kT (by decide); conv => whnf) | (apply kF (by decide); conv => whnf) | (apply kB <;> intro _ <;> conv => whnf) | fail))
        (refine ⟨3, rfl, by decide, ?_⟩; conv => whnf)
        (refine .inr ⟨[0, 1, 2, 3, 4, 5, 6, 7, 8, 9], 10, _, _, c2, ?_⟩; conv => whnf)
        (refine ⟨[0, 1, 2, 3, 4, 5, 6, 7, 8, 9], ?_⟩; conv => whnf)
        exact ⟨rfl, rfl⟩
      | false =>
        have hwd : w.d = false := hw
        rw [if_neg (by simp)]
        refine bor_ofO pg Try.func89 (by kernel_rfl) ?_
        conv => whnf
        (repeat' (first | (apply kT (by with_reducible first | rfl | assumption); conv => whnf) | (apply kF (by with_reducible first | rfl | assumption); conv => whnf) | (apply kT (by decide); conv => whnf) | (apply kF (by decide); conv => whnf) | (apply kB <;> intro _ <;> conv => whnf) | fail))
        (refine .inr ⟨[0, 1, 2, 3, 4, 5, 6, 7, 8, 9], 10, _, _, c1, ?_⟩; conv => whnf)
        (refine ⟨3, rfl, by decide, ?_⟩; conv => whnf)
        (repeat' (first | (apply kT (by with_reducible first | rfl | assumption); conv => whnf) | (apply kF (by with_reducible first | rfl | assumption); conv => whnf) | (apply kT (by decide); conv => whnf) | (apply kF (by decide); conv => whnf) | (apply kB <;> intro _ <;> conv => whnf) | fail))
        (refine ⟨[0, 1, 2, 3, 4, 5, 6, 7, 8, 9], ?_⟩; conv => whnf)
        exact ⟨rfl, rfl⟩
    | 1, _, c1, c2 =>
      cases hw : w.get 2 with
      | true =>
        have hwd : w.c = true := hw
        rw [if_pos rfl]
        refine bor_ofO pg Try.func89 (by kernel_rfl) ?_
        conv => whnf
        (repeat' (first | (apply kT (by with_reducible first | rfl | assumption); conv => whnf) | (apply kF (by with_reducible first | rfl | assumption); conv => whnf) | (apply kT (by decide); conv => whnf) | (apply kF (by decide); conv => whnf) | (apply kB <;> intro _ <;> conv => whnf) | fail))
        (refine .inr ⟨[0, 1, 2, 3, 4, 5, 6, 7, 8, 9], 10, _, _, c1, ?_⟩; conv => whnf)
        (refine ⟨2, rfl, by decide, ?_⟩; conv => whnf)
        (repeat' (first | (apply kT (by with_reducible first | rfl | assumption); conv => whnf) | (apply kF (by with_reducible first | rfl | assumption); conv => whnf) | (apply kT (by decide); conv => whnf) | (apply kF (by decide); conv => whnf) | (apply kB <;> intro _ <;> conv => whnf) | fail))
        (refine ⟨2, rfl, by decide, ?_⟩; conv => whnf)
        (refine .inr ⟨[0, 1, 2, 3, 4, 5, 6, 7, 8, 9], 10, _, _, c2, ?_⟩; conv => whnf)
        (refine ⟨[0, 1, 2, 3, 4, 5, 6, 7, 8, 9], ?_⟩; conv => whnf)
        exact ⟨rfl, rfl⟩
      | false =>
        have hwd : w.c = false := hw
        rw [if_neg (by simp)]
        refine bor_ofO pg Try.func89 (by kernel_rfl) ?_
        conv => whnf
        (repeat' (first | (apply kT (by with_reducible first | rfl | assumption); conv => whnf) | (apply kF (by with_reducible first | rfl | assumption); conv => whnf) | (apply kT (by decide); conv => whnf) | (apply kF (by decide); conv => whnf) | (apply kB <;> intro _ <;> conv => whnf) | fail))
        (refine .inr ⟨[0, 1, 2, 3, 4, 5, 6, 7, 8, 9], 10, _, _, c1, ?_⟩; conv => whnf)
        (refine ⟨2, rfl, by decide, ?_⟩; conv => whnf)
        (repeat' (first | (apply kT (by with_reducible first | rfl | assumption); conv => whnf) | (apply kF (by with_reducible first | rfl | assumption); conv => whnf) | (apply kT (by decide); conv => whnf) | (apply kF (by decide); conv => whnf) | (apply kB <;> intro _ <;> conv => whnf) | fail))
        (refine ⟨[0, 1, 2, 3, 4, 5, 6, 7, 8, 9], ?_⟩; conv => whnf)
        exact ⟨rfl, rfl⟩
    | 2, _, c1, c2 =>
      cases hw : w.get 1 with
      | true =>
        have hwd : w.b = true := hw
        rw [if_pos rfl]
        refine bor_ofO pg Try.func89 (by kernel_rfl) ?_
        conv => whnf
        (repeat' (first | (apply kT (by with_reducible first | rfl | assumption); conv => whnf) | (apply kF (by with_reducible first | rfl | assumption); conv => whnf) | (apply kT (by decide); conv => whnf) | (apply kF (by decide); conv => whnf) | (apply kB <;> intro _ <;> conv => whnf) | fail))
        (refine .inr ⟨[0, 1, 2, 3, 4, 5, 6, 7, 8, 9], 10, _, _, c1, ?_⟩; conv => whnf)
        (refine ⟨1, rfl, by decide, ?_⟩; conv => whnf)
        (repeat' (first | (apply kT (by with_reducible first | rfl | assumption); conv => whnf) | (apply kF (by with_reducible first | rfl | assumption); conv => whnf) | (apply kT (by decide); conv => whnf) | (apply kF (by decide); conv => whnf) | (apply kB <;> intro _ <;> conv => whnf) | fail))
        (refine ⟨1, rfl, by decide, ?_⟩; conv => whnf)
        (refine .inr ⟨[0, 1, 2, 3, 4, 5, 6, 7, 8, 9], 10, _, _, c2, ?_⟩; conv => whnf)
        (refine ⟨[0, 1, 2, 3, 4, 5, 6, 7, 8, 9], ?_⟩; conv => whnf)
        exact ⟨rfl, rfl⟩
      | false =>
        have hwd : w.b = false := hw
        rw [if_neg (by simp)]
        refine bor_ofO pg Try.func89 (by kernel_rfl) ?_
        conv => whnf
        (repeat' (first | (apply kT (by with_reducible first | rfl | assumption); conv => whnf) | (apply kF (by with_reducible first | rfl | assumption); conv => whnf) | (apply kT (by decide); conv => whnf) | (apply kF (by decide); conv => whnf) | (apply kB <;> intro _ <;> conv => whnf) | fail))
        (refine .inr ⟨[0, 1, 2, 3, 4, 5, 6, 7, 8, 9], 10, _, _, c1, ?_⟩; conv => whnf)
        (refine ⟨1, rfl, by decide, ?_⟩; conv => whnf)
        (repeat' (first | (apply kT (by with_reducible first | rfl | assumption); conv => whnf) | (apply kF (by with_reducible first | rfl | assumption); conv => whnf) | (apply kT (by decide); conv => whnf) | (apply kF (by decide); conv => whnf) | (apply kB <;> intro _ <;> conv => whnf) | fail))
        (refine ⟨[0, 1, 2, 3, 4, 5, 6, 7, 8, 9], ?_⟩; conv => whnf)
        exact ⟨rfl, rfl⟩
    | 3, _, c1, c2 =>
      cases hw : w.get 0 with
      | true =>
        have hwd : w.a = true := hw
        rw [if_pos rfl]
        refine bor_ofO pg Try.func89 (by kernel_rfl) ?_
        conv => whnf
        (repeat' (first | (apply kT (by with_reducible first | rfl | assumption); conv => whnf) | (apply kF (by with_reducible first | rfl | assumption); conv => whnf) | (apply kT (by decide); conv => whnf) | (apply kF (by decide); conv => whnf) | (apply kB <;> intro _ <;> conv => whnf) | fail))
        (refine .inr ⟨[0, 1, 2, 3, 4, 5, 6, 7, 8, 9], 10, _, _, c1, ?_⟩; conv => whnf)
        (refine ⟨0, rfl, by decide, ?_⟩; conv => whnf)
        (repeat' (first | (apply kT (by with_reducible first | rfl | assumption); conv => whnf) | (apply kF (by with_reducible first | rfl | assumption); conv => whnf) | (apply kT (by decide); conv => whnf) | (apply kF (by decide); conv => whnf) | (apply kB <;> intro _ <;> conv => whnf) | fail))
        (refine ⟨0, rfl, by decide, ?_⟩; conv => whnf)
        (refine .inr ⟨[0, 1, 2, 3, 4, 5, 6, 7, 8, 9], 10, _, _, c2, ?_⟩; conv => whnf)
        (refine ⟨[0, 1, 2, 3, 4, 5, 6, 7, 8, 9], ?_⟩; conv => whnf)
        exact ⟨rfl, rfl⟩
      | false =>
        have hwd : w.a = false := hw
        rw [if_neg (by simp)]
        refine bor_ofO pg Try.func89 (by kernel_rfl) ?_
        conv => whnf
        (repeat' (first | (apply kT (by with_reducible first | rfl | assumption); conv => whnf) | (apply kF (by with_reducible first | rfl | assumption); conv => whnf) | (apply kT (by decide); conv => whnf) | (apply kF (by decide); conv => whnf) | (apply kB <;> intro _ <;> conv => whnf) | fail))
        (refine .inr ⟨[0, 1, 2, 3, 4, 5, 6, 7, 8, 9], 10, _, _, c1, ?_⟩; conv => whnf)
        (refine ⟨0, rfl, by decide, ?_⟩; conv => whnf)
        (repeat' (first | (apply kT (by with_reducible first | rfl | assumption); conv => whnf) | (apply kF (by with_reducible first | rfl | assumption); conv => whnf) | (apply kT (by decide); conv => whnf) | (apply kF (by decide); conv => whnf) | (apply kB <;> intro _ <;> conv => whnf) | fail))
        (refine ⟨[0, 1, 2, 3, 4, 5, 6, 7, 8, 9], ?_⟩; conv => whnf)
        exact ⟨rfl, rfl⟩
    | k + 4, hk, _, _ => omega
theorem some_bor {p : Pl} (hp : WsOk p) {n : Nat} (H : BestOk p n) {q : Pc} (w : Wn) (c : Ct) (o : Sp) {es : Es} (hes : OkM p es) {l : List Pc} (hl : l.length = 1 ∨ l.length = 2) (hlk : ∀ r ∈ l, OkP r ∧ sizeP r ≤ n) :
    Bor tb Try.prog 77 [.d (.agg (wnD w)), .fn (.func 78) [] seeA] (seeO p q w l c o es) 7 (.d (.tup [])) (seeP p q w l c ((partsW w Wn.none 4).foldl (seeS (bestP p) l w c) o) ((partsW w Wn.none 4).foldl (memF (memN p n) l w) es)) := by
  have c1 := some1_bor hp H (q := q) w c hl hlk 4 (Nat.le_refl _) Wn.none o es hes
  obtain ⟨o1, ho1⟩ : ∃ o1, o1 = (partsW w Wn.none 4).foldl (seeS (bestP p) l w c) o := ⟨_, rfl⟩
  obtain ⟨e1, he1⟩ : ∃ e1, e1 = (partsW w Wn.none 4).foldl (memF (memN p n) l w) es := ⟨_, rfl⟩
  rw [← ho1, ← he1] at c1 ⊢
  refine bor_ofO pg Try.func77 (by kernel_rfl) ?_
  conv => whnf
  (refine .inr ⟨[8, 9, 7, 0, 1, 2, 3, 4, 5, 6], 10, _, _, c1, ?_⟩; conv => whnf)
  (refine ⟨[0, 1, 2, 3, 4, 5, 6], ?_⟩; conv => whnf)
  exact ⟨rfl, rfl⟩
end Go.Ev.Ytojlbcodfebmgaa
