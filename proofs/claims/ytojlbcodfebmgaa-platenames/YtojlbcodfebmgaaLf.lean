/-
  Contracts of functions, and plain laws, that lead to the statement. Written by an agent.
-/
import Derived.Test.YtojlbcodfebmgaaLe
set_option linter.unusedVariables false
set_option linter.unusedSimpArgs false
set_option maxRecDepth 100000
namespace Go.Ev.Ytojlbcodfebmgaa
open Go.Proofs
attribute [local irreducible] partsL fitsB
def Wn.sub (v w : Wn) : Bool := (!v.a || w.a) && (!v.b || w.b) && (!v.c || w.c) && (!v.d || w.d)
theorem mem_partsW (v w : Wn) : v ∈ partsW w Wn.none 4 ↔ v.sub w = true := by
  obtain ⟨a, b, c, d⟩ := v
  obtain ⟨e, f, g, h⟩ := w
  cases e <;> cases f <;> cases g <;> cases h <;> simp [partsW, Wn.get, Wn.none, Wn.put, Wn.sub] <;> cases a <;> cases b <;> cases c <;> cases d <;> simp
/-- what can be had of a piece -/
inductive Ach (p : Pl) : Pc → Wn → Int → Int → Prop
  | stop (q : Pc) (w : Wn) : Ach p q w 0 0
  | use {q : Pc} {w : Wn} {i : Nat} (h0 : i < p.ws.length) (h1 : w.get i = true) (h2 : fitsB (wtAt p.ws i) q = true) : Ach p q w (wtAt p.ws i).g 0
  | one {q : Pc} {w : Wn} {ac : Bool} {a : Int} {r : Pc} {g c : Int} (h : partsL q ac a p.s = [r]) (t : Ach p r w g c) : Ach p q w g (c + 1)
  | two {q : Pc} {w : Wn} {ac : Bool} {a : Int} {r t : Pc} {v : Wn} {g c g' c' : Int} (h : partsL q ac a p.s = [r, t]) (hv : v.sub w = true) (t1 : Ach p r v g c) (t2 : Ach p t (w.less v) g' c') : Ach p q w (g + g') (c + c' + 1)
/-- no better -/
def LeG (g c g' c' : Int) : Prop := g < g' ∨ g = g' ∧ c' ≤ c
theorem LeG_iff {g c g' c' : Int} : LeG g c g' c' ↔ betB g c g' c' = false := by
  unfold LeG betB
  simp only [Bool.or_eq_false_iff, decide_eq_false_iff_not, Bool.and_eq_false_iff, beq_eq_false_iff_ne, ne_eq]
  omega
theorem betB_true {g c g' c' : Int} : betB g c g' c' = true ↔ g' < g ∨ g = g' ∧ c < c' := by
  unfold betB
  simp only [Bool.or_eq_true, decide_eq_true_eq, Bool.and_eq_true, beq_iff_eq]
theorem LeG.refl (g c : Int) : LeG g c g c := .inr ⟨rfl, Int.le_refl _⟩
theorem LeG.trans {a b c d e f : Int} (h1 : LeG a b c d) (h2 : LeG c d e f) : LeG a b e f := by unfold LeG at *; omega
theorem foldl_hit {α β : Type} {P : β → Prop} {f : β → α → β} {a0 : α} (h1 : ∀ o, P (f o a0)) (h2 : ∀ o a, P o → P (f o a)) : ∀ (l : List α), a0 ∈ l → ∀ o, P (l.foldl f o)
  | [], h, _ => by cases h
  | a :: l, h, o => by
    rw [List.foldl_cons]
    rcases List.mem_cons.1 h with rfl | h
    · exact foldl_inv l _ (h1 o) fun b a _ hb => h2 b a hb
    · exact foldl_hit h1 h2 l h _
theorem foldl_keep {α β : Type} {P : β → Prop} {f : β → α → β} (h2 : ∀ o a, P o → P (f o a)) (l : List α) (o : β) (h : P o) : P (l.foldl f o) := foldl_inv l _ h fun b a _ hb => h2 b a hb
theorem seeS_keep {f : Pc → Wn → Sp} {l : List Pc} {w : Wn} {x : Ct} {g c : Int} (o : Sp) (part : Wn) (h : LeG g c o.g o.c) : LeG g c (seeS f l w x o part).g (seeS f l w x o part).c := by
  unfold seeS
  split
  · exact h
  · split
    · rename_i hb
      rw [betB_true] at hb
      dsimp only
      unfold LeG at *
      omega
    · exact h
theorem seeS_hit {f : Pc → Wn → Sp} {l : List Pc} {w : Wn} {x : Ct} {g c : Int} {part : Wn} (hn : ¬ (l.length = 1 ∧ part ≠ w)) (h : LeG g c (seeG f l part w).1 (seeG f l part w).2) (o : Sp) : LeG g c (seeS f l w x o part).g (seeS f l w x o part).c := by
  unfold seeS
  rw [if_neg hn]
  split
  · exact h
  · rename_i hb
    have := LeG_iff.2 ((Bool.not_eq_true _).mp hb)
    exact h.trans this
theorem useF_keep {p : Pl} {q : Pc} {w : Wn} {g c : Int} : ∀ (k i : Nat) (o : Sp), LeG g c o.g o.c → LeG g c (useF p q w k i o).g (useF p q w k i o).c
  | 0, i, o, h => by rw [useF]; exact h
  | k + 1, i, o, h => by
    rw [useF]
    refine useF_keep k (i + 1) _ ?_
    split
    · rename_i hc
      have := betB_true.1 hc.2.2
      simp only [spUse]
      unfold LeG at *
      omega
    · exact h
theorem useF_hit {p : Pl} {q : Pc} {w : Wn} {i : Nat} (h1 : w.get i = true) (h2 : fitsB (wtAt p.ws i) q = true) : ∀ (k i0 : Nat) (o : Sp), i0 ≤ i → i < i0 + k → LeG (wtAt p.ws i).g 0 (useF p q w k i0 o).g (useF p q w k i0 o).c
  | 0, i0, o, h3, h4 => by omega
  | k + 1, i0, o, h3, h4 => by
    rw [useF]
    by_cases he : i0 = i
    · subst he
      refine useF_keep k _ _ ?_
      split
      · exact LeG.refl _ _
      · rename_i hc
        refine LeG_iff.2 ?_
        simp only [h1, h2, true_and, Bool.not_eq_true] at hc
        exact hc
    · exact useF_hit h1 h2 k (i0 + 1) _ (by omega) (by omega)
theorem cutsF_has {q : Pc} {s : Int} {ac : Bool} {a : Int} (h : partsL q ac a s ≠ []) (h0 : 0 ≤ a) : ∀ (k i : Nat), (i : Int) ≤ a → a < i + k → (⟨0, ac, a⟩ : Ct) ∈ cutsF q s ac k i
  | 0, i, h1, h2 => by omega
  | k + 1, i, h1, h2 => by
    rw [cutsF]
    by_cases he : (i : Int) = a
    · refine List.mem_append_left _ ?_
      rw [he, if_neg h]
      simp
    · exact List.mem_append_right _ (cutsF_has h h0 k (i + 1) (by omega) (by omega))
theorem parts_range {q : Pc} {s : Int} {ac : Bool} {a : Int} (hs : 0 ≤ s) (h : partsL q ac a s ≠ []) : 0 ≤ a ∧ a ≤ farP q ac := by
  unfold partsL at h
  split at h
  · exact absurd rfl h
  · rename_i hc
    unfold noCut at hc
    omega
theorem cutsL_has {q : Pc} {s : Int} {ac : Bool} {a : Int} (hs : 0 ≤ s) (h : partsL q ac a s ≠ []) : (⟨0, ac, a⟩ : Ct) ∈ cutsL q s := by
  obtain ⟨h0, h1⟩ := parts_range hs h
  unfold cutsL
  cases ac
  · refine List.mem_append_left _ (cutsF_has h h0 _ _ (by omega) ?_)
    unfold farP at h1
    simp only [cond_false] at h1
    omega
  · refine List.mem_append_right _ (cutsF_has h h0 _ _ (by omega) ?_)
    unfold farP at h1
    simp only [cond_true] at h1
    omega
theorem sub_none {v : Wn} (h : v.sub Wn.none = true) : v = Wn.none := by
  obtain ⟨a, b, c, d⟩ := v
  revert h
  cases a <;> cases b <;> cases c <;> cases d <;> decide
theorem less_none (v : Wn) : Wn.none.less v = Wn.none := rfl
theorem get_none (i : Nat) : Wn.none.get i = false := by
  unfold Wn.get Wn.none
  split <;> rfl
theorem Ach.pos {p : Pl} (hp : checkI p = 0) {q : Pc} {w : Wn} {g c : Int} (h : Ach p q w g c) : 0 ≤ g ∧ 0 ≤ c ∧ (w = Wn.none → g = 0) := by
  induction h with
  | stop => simp
  | use h0 h1 h2 =>
    refine ⟨?_, Int.le_refl _, ?_⟩
    · have hg := List.all_eq_true.1 (check_zero hp).2.2.2.2 _ (List.getElem_mem h0)
      unfold wtAt
      rw [List.getElem?_eq_getElem h0]
      unfold wtB at hg
      simp only [Bool.and_eq_true] at hg
      exact (inB_true.1 hg.1.1.2).1
    · rintro rfl
      rw [get_none] at h1; cases h1
  | one h t ih => exact ⟨ih.1, by omega, ih.2.2⟩
  | two h hv t1 t2 ih1 ih2 =>
    refine ⟨by omega, by omega, ?_⟩
    rintro rfl
    have e := sub_none hv
    subst e
    have := ih1.2.2 rfl
    have := ih2.2.2 rfl
    omega
theorem best_opt {p : Pl} (hp : checkI p = 0) {q : Pc} {w : Wn} {g c : Int} (h : Ach p q w g c) : OkP q → LeG g c (bestP p q w).g (bestP p q w).c := by
  have hs := (check_zero hp).2.2.2.1.1
  induction h with
  | stop q w =>
    intro hq
    rw [bestP_eq hs w hq.w0 hq.l0]
    unfold bestF
    split
    · exact LeG.refl _ _
    · exact foldl_keep (P := fun o : Sp => LeG 0 0 o.g o.c) (fun o x h => foldl_keep (P := fun o : Sp => LeG 0 0 o.g o.c) (fun o part h => seeS_keep o part h) _ _ h) _ _ (useF_keep _ _ _ (LeG.refl _ _))
  | @use q w i h0 h1 h2 =>
    intro hq
    rw [bestP_eq hs w hq.w0 hq.l0]
    unfold bestF
    split
    · rename_i h; subst h; rw [get_none] at h1; cases h1
    · exact foldl_keep (P := fun o : Sp => LeG (wtAt p.ws i).g 0 o.g o.c) (fun o x h => foldl_keep (P := fun o : Sp => LeG (wtAt p.ws i).g 0 o.g o.c) (fun o part h => seeS_keep o part h) _ _ h) _ _ (useF_hit h1 h2 _ _ _ (by omega) (by omega))
  | @one q w ac a r g c h t ih =>
    intro hq
    have hr := parts_ok hq (ac := ac) (a := a) hs r (by rw [h]; simp)
    have ih := ih hr
    have hpos := t.pos hp
    rw [bestP_eq hs w hq.w0 hq.l0]
    unfold bestF
    split
    · rename_i h; subst h
      have := hpos.2.2 rfl
      simp only [spUse]
      unfold LeG; omega
    · refine foldl_hit (P := fun o : Sp => LeG g (c + 1) o.g o.c) (a0 := (⟨0, ac, a⟩ : Ct)) (fun o => ?_) (fun o x h => foldl_keep (P := fun o : Sp => LeG g (c + 1) o.g o.c) (fun o part h => seeS_keep o part h) _ _ h) _ (cutsL_has hs (by rw [h]; simp)) _
      dsimp only
      rw [h]
      refine foldl_hit (P := fun o : Sp => LeG g (c + 1) o.g o.c) (a0 := w) (fun o => seeS_hit (by simp) ?_ o) (fun o part h => seeS_keep o part h) _ ((mem_partsW w w).2 ?_) _
      · simp only [seeG]
        unfold LeG at *
        omega
      · obtain ⟨a, b, c, d⟩ := w
        cases a <;> cases b <;> cases c <;> cases d <;> rfl
  | @two q w ac a r t v g c g' c' h hv t1 t2 ih1 ih2 =>
    intro hq
    have hr := parts_ok hq (ac := ac) (a := a) hs r (by rw [h]; simp)
    have ht := parts_ok hq (ac := ac) (a := a) hs t (by rw [h]; simp)
    have ih1 := ih1 hr
    have ih2 := ih2 ht
    have hpos1 := t1.pos hp
    have hpos2 := t2.pos hp
    rw [bestP_eq hs w hq.w0 hq.l0]
    unfold bestF
    split
    · rename_i h; subst h
      have e := sub_none hv
      subst e
      have := hpos1.2.2 rfl
      have := hpos2.2.2 rfl
      simp only [spUse]
      unfold LeG; omega
    · refine foldl_hit (P := fun o : Sp => LeG (g + g') (c + c' + 1) o.g o.c) (a0 := (⟨0, ac, a⟩ : Ct)) (fun o => ?_) (fun o x h => foldl_keep (P := fun o : Sp => LeG (g + g') (c + c' + 1) o.g o.c) (fun o part h => seeS_keep o part h) _ _ h) _ (cutsL_has hs (by rw [h]; simp)) _
      dsimp only
      rw [h]
      refine foldl_hit (P := fun o : Sp => LeG (g + g') (c + c' + 1) o.g o.c) (a0 := v) (fun o => seeS_hit (by simp) ?_ o) (fun o part h => seeS_keep o part h) _ ((mem_partsW v w).2 hv) _
      simp only [seeG]
      unfold LeG at *
      omega
/-- what is best can be had -/
theorem best_ach {p : Pl} (hs : 0 ≤ p.s) : ∀ (n : Nat) {q : Pc} (w : Wn), OkP q → sizeP q ≤ n → Ach p q w (bestP p q w).g (bestP p q w).c
  | 0, q, w, hq, hn => by have := hq.w0; have := hq.l0; unfold sizeP at hn; omega
  | n + 1, q, w, hq, hn => by
    have hu := bestP_use hs hq w
    cases hc : (bestP p q w).cut with
    | false =>
      rcases hu.noCutB hc with ⟨_, e1, e2⟩ | ⟨e0, e1, e2, e3, e4, e5⟩
      · rw [e1, e2]; exact .stop _ _
      · rw [e4, e5]
        exact .use (by omega) e2 e3
    | true =>
      obtain ⟨e0, e1, e2, e3, e4, e5⟩ := hu.cutB hc
      have hne := (cutsL_mem hq e1).2.2.2
      have hl := parts_len q (bestP p q w).how.ac (bestP p q w).how.at_ p.s
      have hsm := part_small (q := q) (ac := (bestP p q w).how.ac) (a := (bestP p q w).how.at_) hs hq.w0 hq.l0
      have hok := parts_ok hq (ac := (bestP p q w).how.ac) (a := (bestP p q w).how.at_) hs
      rw [e4, e5]
      generalize hL : partsL q (bestP p q w).how.ac (bestP p q w).how.at_ p.s = l at hne hl hsm hok e3
      match l, hL, hne, hl, hsm, hok, e3 with
      | [], _, hne, _, _, _, _ => exact absurd rfl hne
      | [r], hL, _, _, hsm, hok, e3 =>
        have e3 := e3 rfl
        have ih := best_ach hs n (bestP p q w).first (hok r (by simp)) (by have := (hsm r (by simp)).1; omega)
        simp only [seeG]
        rw [Int.add_comm 1]
        rw [e3] at ih ⊢
        exact .one hL ih
      | [r, t], hL, _, _, hsm, hok, _ =>
        have ih1 := best_ach hs n (bestP p q w).first (hok r (by simp)) (by have := (hsm r (by simp)).1; omega)
        have ih2 := best_ach hs n (w.less (bestP p q w).first) (hok t (by simp)) (by have := (hsm t (by simp)).1; omega)
        simp only [seeG]
        rw [show ∀ a b : Int, 1 + a + b = a + b + 1 by omega]
        exact .two hL ((mem_partsW _ _).1 e2) ih1 ih2
      | _ :: _ :: _ :: _, _, _, hl, _, _, _ => simp at hl
end Go.Ev.Ytojlbcodfebmgaa

set_option linter.unusedVariables false
set_option linter.unusedSimpArgs false
set_option maxRecDepth 100000
namespace Go.Ev.Ytojlbcodfebmgaa
open Go.Proofs
section
attribute [local irreducible] partsL fitsB
theorem doN_cuts {p : Pl} (hs : 0 ≤ p.s) : ∀ (k n : Nat) (w : Wn) (d : Ds), DsOk p d → n < d.ps.length → sizeP (pcAt d.ps n) ≤ k → ((doN p k n w d).cs.length : Int) = d.cs.length + (bestP p (pcAt d.ps n) w).c
  | 0, n, w, d, h, hn, hk => by
    have := (h.at hn).w0; have := (h.at hn).l0
    unfold sizeP at hk; omega
  | k + 1, n, w, d, h, hn, hk => by
    have hq := h.at hn
    have hu := bestP_use hs hq w
    have hes := memN_ok hs (sizeP (pcAt d.ps n)) w d.es hq.w0 hq.l0 (Nat.le_refl _) h.es
    have hsm := fun (ac : Bool) (a : Int) => part_small (q := pcAt d.ps n) (ac := ac) (a := a) hs hq.w0 hq.l0
    have hok := fun (ac : Bool) (a : Int) => parts_ok hq (ac := ac) (a := a) hs
    rw [doN]
    generalize memN p (sizeP (pcAt d.ps n)) (pcAt d.ps n) w d.es = es1 at hes
    generalize hS : bestP p (pcAt d.ps n) w = S at hu
    generalize hQ : pcAt d.ps n = q at hq hu hsm hok hk
    split
    · rename_i hc
      rcases hu.noCutB hc with ⟨_, _, e2⟩ | ⟨_, _, _, _, _, e2⟩ <;> rw [e2] <;> simp
    · rename_i hc
      obtain ⟨_, hm, _, e3, _, e5⟩ := hu.cutB ((Bool.not_eq_false _).mp hc)
      have hne := (cutsL_mem hq hm).2.2.2
      have hsm := hsm S.how.ac S.how.at_
      have hok := hok S.how.ac S.how.at_
      have hl := parts_len q S.how.ac S.how.at_ p.s
      rw [e5]
      generalize partsL q S.how.ac S.how.at_ p.s = l at hsm hok hl hne e3
      match l, hsm, hok, hl, hne, e3 with
      | [], _, _, _, hne, _ => exact absurd rfl hne
      | [a], hsm, hok, _, _, e3 =>
        have ha := hok a (by simp)
        have e1 : pcAt (d.ps ++ [a]) d.ps.length = a := pcAt_app0
        have ih := doN_cuts hs k d.ps.length S.first ⟨d.ps ++ [a], d.cs ++ [⟨n, S.how.ac, S.how.at_⟩], d.us, es1⟩ ⟨fun q hq => by
          rcases List.mem_append.1 hq with hq | hq
          · exact h.pcs q hq
          · simp only [List.mem_singleton] at hq; subst hq; exact ha, hes, h.us⟩ (by simp) (by dsimp only; rw [e1]; have := (hsm a (by simp)).1; omega)
        dsimp only at ih
        rw [e1] at ih
        simp only [seeG]
        rw [ih]
        simp only [List.length_append, List.length_singleton]
        omega
      | [a, b], hsm, hok, _, _, _ =>
        have ha := hok a (by simp)
        have hb := hok b (by simp)
        have e1 : pcAt (d.ps ++ [a, b]) d.ps.length = a := pcAt_app0
        have ok1 : DsOk p ⟨d.ps ++ [a, b], d.cs ++ [⟨n, S.how.ac, S.how.at_⟩], d.us, es1⟩ := ⟨fun q hq => by
          rcases List.mem_append.1 hq with hq | hq
          · exact h.pcs q hq
          · simp only [List.mem_cons, List.not_mem_nil, or_false] at hq; rcases hq with rfl | rfl <;> first | exact ha | exact hb, hes, h.us⟩
        have ih := doN_cuts hs k d.ps.length S.first ⟨d.ps ++ [a, b], d.cs ++ [⟨n, S.how.ac, S.how.at_⟩], d.us, es1⟩ ok1 (by simp) (by dsimp only; rw [e1]; have := (hsm a (by simp)).1; omega)
        have gr := doN_grows hs k d.ps.length S.first ⟨d.ps ++ [a, b], d.cs ++ [⟨n, S.how.ac, S.how.at_⟩], d.us, es1⟩ ok1 (by simp) (by dsimp only; rw [e1]; have := (hsm a (by simp)).1; omega)
        dsimp only at ih gr
        rw [e1] at ih gr
        show ((doN p k (d.ps.length + 1) (w.less S.first) (doN p k d.ps.length S.first ⟨d.ps ++ [a, b], d.cs ++ [⟨n, S.how.ac, S.how.at_⟩], d.us, es1⟩)).cs.length : Int) = _
        generalize doN p k d.ps.length S.first ⟨d.ps ++ [a, b], d.cs ++ [⟨n, S.how.ac, S.how.at_⟩], d.us, es1⟩ = d1 at ih gr ⊢
        obtain ⟨i1, ⟨t, i2, i3⟩, _⟩ := gr
        dsimp only at i2
        have e2 : pcAt d1.ps ((d.ps.length + 1 : Nat) : Int) = b := by
          rw [i2, List.append_assoc]
          exact pcAt_app1 (r := t)
        have ih2 := doN_cuts hs k (d.ps.length + 1) (w.less S.first) d1 i1 (by rw [i2]; simp) (by rw [e2]; have := (hsm b (by simp)).1; omega)
        rw [e2] at ih2
        rw [ih2, ih]
        simp only [seeG, List.length_append, List.length_singleton]
        omega
      | _ :: _ :: _ :: _, _, _, hl, _, _ => simp at hl
end
/-! ### the plate of the examples -/
def sheetP : Pl := ⟨6, 4, 1, [⟨2, 4, false, 5, 0, 7, 0, 7⟩, ⟨3, 1, true, 4, 0, 7, 0, 7⟩, ⟨1, 3, false, 3, 0, 2, 0, 7⟩]⟩
def gAll (w : Wn) : Int := (bif w.a then 5 else 0) + (bif w.b then 4 else 0) + (bif w.c then 3 else 0)
def can0 (q : Pc) (w : Wn) : Bool := decide (w = Wn.none) || decide (w = ⟨true, false, false, false⟩) && fitsB (wtAt sheetP.ws 0) q || decide (w = ⟨false, true, false, false⟩) && fitsB (wtAt sheetP.ws 1) q || decide (w = ⟨false, false, true, false⟩) && fitsB (wtAt sheetP.ws 2) q
def inCut (f : List Pc → Bool) (q : Pc) : Bool := (cutsL q 1).any fun c => f (partsL q c.ac c.at_ 1)
def inSub (w : Wn) (f : Wn → Bool) : Bool := (partsW w Wn.none 4).any f
def can1 (q : Pc) (w : Wn) : Bool := can0 q w || inCut (fun l => match l with
  | [r] => can0 r w
  | [r, t] => inSub w fun v => can0 r v && can0 t (w.less v)
  | _ => false) q
def can2 (q : Pc) (w : Wn) : Bool := can1 q w || inCut (fun l => match l with
  | [r] => can1 r w
  | [r, t] => inSub w fun v => can0 r v && can1 t (w.less v) || can1 r v && can0 t (w.less v)
  | _ => false) q
theorem gAll_split {v w : Wn} (h : v.sub w = true) : gAll v + gAll (w.less v) = gAll w := by
  obtain ⟨a, b, c, d⟩ := v
  obtain ⟨e, f, g, h⟩ := w
  revert h
  cases a <;> cases b <;> cases c <;> cases d <;> cases e <;> cases f <;> cases g <;> cases h <;> decide
theorem less_d {v w : Wn} (h : w.d = false) : (w.less v).d = false := by unfold Wn.less; simp [h]
theorem sub_d {v w : Wn} (hv : v.sub w = true) (h : w.d = false) : v.d = false := by
  obtain ⟨a, b, c, d⟩ := v
  obtain ⟨e, f, g, h'⟩ := w
  subst h
  revert hv
  cases d <;> simp [Wn.sub]
theorem ach_all {q : Pc} {w : Wn} {g c : Int} (h : Ach sheetP q w g c) : 0 ≤ c ∧ g ≤ gAll w := by
  induction h with
  | stop q w => obtain ⟨a, b, c, d⟩ := w; refine ⟨Int.le_refl _, ?_⟩; cases a <;> cases b <;> cases c <;> cases d <;> decide
  | @use q w i h0 h1 h2 =>
    have h0 : i < 3 := h0
    refine ⟨Int.le_refl _, ?_⟩
    obtain ⟨a, b, c, d⟩ := w
    obtain rfl | rfl | rfl : i = 0 ∨ i = 1 ∨ i = 2 := by omega
    all_goals
      simp only [Wn.get] at h1
      subst h1
      (try cases a) <;> (try cases b) <;> (try cases c) <;> cases d <;> decide
  | one h t ih => omega
  | two h hv t1 t2 ih1 ih2 => have := gAll_split hv; omega
theorem inCut_has {f : List Pc → Bool} {q : Pc} {ac : Bool} {a : Int} (hn : partsL q ac a 1 ≠ []) (h : f (partsL q ac a 1) = true) : inCut f q = true := by
  unfold inCut
  rw [List.any_eq_true]
  exact ⟨_, cutsL_has (by omega) hn, h⟩
theorem inSub_has {w v : Wn} {f : Wn → Bool} (hv : v.sub w = true) (h : f v = true) : inSub w f = true := by
  unfold inSub
  rw [List.any_eq_true]
  exact ⟨v, (mem_partsW v w).2 hv, h⟩
theorem can_ok {q : Pc} {w : Wn} {g c : Int} (h : Ach sheetP q w g c) : w.d = false → g = gAll w → (c ≤ 0 → can0 q w = true) ∧ (c ≤ 1 → can1 q w = true) ∧ (c ≤ 2 → can2 q w = true) := by
  have up : ∀ q w, can0 q w = true → can1 q w = true := fun q w h => by unfold can1; rw [h]; rfl
  have up2 : ∀ q w, can1 q w = true → can2 q w = true := fun q w h => by unfold can2; rw [h]; rfl
  induction h with
  | stop q w =>
    intro hd hg
    have h0 : can0 q w = true := by
      obtain ⟨a, b, c, d⟩ := w
      simp only at hd
      subst hd
      revert hg
      unfold can0
      cases a <;> cases b <;> cases c <;> simp [gAll, Wn.none]
    exact ⟨fun _ => h0, fun _ => up _ _ h0, fun _ => up2 _ _ (up _ _ h0)⟩
  | @use q w i h0 h1 h2 =>
    intro hd hg
    have h0 : i < 3 := h0
    have h0 : can0 q w = true := by
      obtain ⟨a, b, c, d⟩ := w
      simp only at hd
      subst hd
      unfold can0
      obtain rfl | rfl | rfl : i = 0 ∨ i = 1 ∨ i = 2 := by omega
      all_goals
        simp only [Wn.get] at h1
        subst h1
        revert hg
        rw [h2]
        (try cases a) <;> (try cases b) <;> (try cases c) <;> simp [gAll, Wn.none, wtAt, sheetP]
    exact ⟨fun _ => h0, fun _ => up _ _ h0, fun _ => up2 _ _ (up _ _ h0)⟩
  | @one q w ac a r g c h t ih =>
    intro hd hg
    have hc := (ach_all t).1
    obtain ⟨i0, i1, i2⟩ := ih hd hg
    have h : partsL q ac a 1 = [r] := h
    have h1 : c + 1 ≤ 1 → can1 q w = true := fun hc1 => by
      unfold can1
      rw [Bool.or_eq_true]
      refine .inr (inCut_has (ac := ac) (a := a) (by rw [h]; simp) ?_)
      rw [h]
      exact i0 (by omega)
    refine ⟨fun h => by omega, h1, fun hc2 => ?_⟩
    unfold can2
    rw [Bool.or_eq_true]
    refine .inr (inCut_has (ac := ac) (a := a) (by rw [h]; simp) ?_)
    rw [h]
    exact i1 (by omega)
  | @two q w ac a r t v g c g' c' h hv t1 t2 ih1 ih2 =>
    intro hd hg
    have hsp := gAll_split hv
    obtain ⟨p1, p2⟩ := ach_all t1
    obtain ⟨p3, p4⟩ := ach_all t2
    obtain ⟨i0, i1, i2⟩ := ih1 (sub_d hv hd) (by omega)
    obtain ⟨j0, j1, j2⟩ := ih2 (less_d hd) (by omega)
    have h : partsL q ac a 1 = [r, t] := h
    have h1 : c + c' + 1 ≤ 1 → can1 q w = true := fun hc1 => by
      unfold can1
      rw [Bool.or_eq_true]
      refine .inr (inCut_has (ac := ac) (a := a) (by rw [h]; simp) ?_)
      rw [h]
      refine inSub_has hv ?_
      rw [i0 (by omega), j0 (by omega)]
      rfl
    refine ⟨fun h => by omega, h1, fun hc2 => ?_⟩
    unfold can2
    rw [Bool.or_eq_true]
    refine .inr (inCut_has (ac := ac) (a := a) (by rw [h]; simp) ?_)
    rw [h]
    refine inSub_has hv ?_
    rcases Int.lt_or_le c 1 with hh | hh
    · rw [i0 (by omega), j1 (by omega)]
      rfl
    · rw [i1 (by omega), j0 (by omega), Bool.and_true, Bool.or_true]
theorem can_not : can2 ⟨0, 0, 6, 4⟩ ⟨true, true, true, false⟩ = false := by kernel_rfl
theorem sheet_ach : Ach sheetP ⟨0, 0, 6, 4⟩ ⟨true, true, true, false⟩ 12 3 := by
  have a1 : Ach sheetP ⟨4, 0, 2, 4⟩ ⟨true, false, false, false⟩ 5 0 := Ach.use (p := sheetP) (i := 0) (by decide) rfl (by decide)
  have a2 : Ach sheetP ⟨2, 0, 1, 3⟩ ⟨false, true, false, false⟩ 4 0 := Ach.use (p := sheetP) (i := 1) (by decide) rfl (by decide)
  have a3 : Ach sheetP ⟨0, 0, 1, 3⟩ ⟨false, false, true, false⟩ 3 0 := Ach.use (p := sheetP) (i := 2) (by decide) rfl (by decide)
  have b1 : Ach sheetP ⟨0, 0, 3, 3⟩ ⟨false, true, true, false⟩ (3 + 4) (0 + 0 + 1) := .two (ac := false) (a := 1) (by decide) (by decide) a3 a2
  have b2 : Ach sheetP ⟨0, 0, 3, 4⟩ ⟨false, true, true, false⟩ (3 + 4) (0 + 0 + 1 + 1) := .one (ac := true) (a := 3) (by decide) b1
  exact Ach.two (p := sheetP) (q := ⟨0, 0, 6, 4⟩) (w := ⟨true, true, true, false⟩) (ac := false) (a := 3) (r := ⟨0, 0, 3, 4⟩) (t := ⟨4, 0, 2, 4⟩) (v := ⟨false, true, true, false⟩) (by decide) (by decide) b2 a1
theorem sheet_best : (bestP sheetP ⟨0, 0, 6, 4⟩ ⟨true, true, true, false⟩).g = 12 ∧ (bestP sheetP ⟨0, 0, 6, 4⟩ ⟨true, true, true, false⟩).c = 3 := by
  have hp : checkI sheetP = 0 := by decide
  have hq : OkP ⟨0, 0, 6, 4⟩ := by constructor <;> decide
  have h1 := best_opt hp sheet_ach hq
  have h2 := best_ach (p := sheetP) (by decide) 10 ⟨true, true, true, false⟩ hq (by decide)
  have h3 := (ach_all h2).2
  have e : gAll ⟨true, true, true, false⟩ = 12 := by decide
  have h4 := (can_ok h2 rfl)
  rw [e] at h3 h4
  generalize bestP sheetP ⟨0, 0, 6, 4⟩ ⟨true, true, true, false⟩ = S at *
  unfold LeG at h1
  have hg : S.g = 12 := by omega
  have h5 := (h4 hg).2.2
  rw [can_not] at h5
  refine ⟨hg, ?_⟩
  have : ¬ S.c ≤ 2 := fun h => by simpa using h5 h
  omega
end Go.Ev.Ytojlbcodfebmgaa

set_option linter.unusedVariables false
set_option linter.unusedSimpArgs false
set_option maxRecDepth 100000
namespace Go.Ev.Ytojlbcodfebmgaa
open Go.Proofs
attribute [local irreducible] Pure Bor Iter inB wtB partsL stepC useB usesB fitsB runC weighL uIdx betB cutsF bestP seeS memF cutsL partsW useF memN doN
theorem to_pure (a b : Int) : Pure Try.prog 49 [.agg [dI a, dI b]] (.agg [dI a, dI b]) := by
  refine pure_of pg Try.func49 (by kernel_rfl) ?_
  conv => whnf
  rfl
theorem list_pure (l : List Int) (hl : l.length ≤ 100000) : Pure Try.prog 50 [isD l] (isD l) := by
  refine pure_of pg Try.func50 (by kernel_rfl) ?_
  conv => whnf
  (refine ⟨by simp, ?_⟩; conv => whnf)
  (refine ⟨by simp only [List.length_map, List.length_nil]; omega, ?_⟩; conv => whnf)
  rfl
theorem cutsC_pure (l : List Ct) (hl : l.length ≤ 100000) : Pure Try.prog 43 [ctsD l] (ctsD l) := by
  have hm : ((l.map ctD).length : Int) = l.length := by rw [List.length_map]
  refine pure_of pg Try.func43 (by kernel_rfl) ?_
  conv => whnf
  refine ⟨[.own 3 99, .ren (renL [(0, 145)] 0 1)], [0, 3, 4], [0], 1, fun j s => ∃ i : Nat, i + j = l.length ∧ s = ⟨[(0, .d (ctsD l)), (3, .own 0), (4, .d (dI i))], [(0, .arr 99 ((l.take i).map ctD))], 1⟩, ?_, ?_⟩
  · conv => whnf
    refine ⟨l.length, 0, by omega, rfl⟩
  · rintro j _ ⟨i, hij, rfl⟩
    by_cases hil : i < l.length
    · have f1 : decide ((i : Int) < ((l.map ctD).length : Int)) = true := decide_eq_true (by rw [hm]; omega)
      conv => whnf
      (repeat' (first | (apply kT (by with_reducible first | rfl | assumption); conv => whnf) | (apply kF (by with_reducible first | rfl | assumption); conv => whnf) | (apply kT (by decide); conv => whnf) | (apply kF (by decide); conv => whnf) | (apply kB <;> intro _ <;> conv => whnf) | fail))
      (refine ⟨i, _, rfl, getc l i hil, rfl, ?_⟩; conv => whnf)
      (refine ⟨i, _, rfl, getc l i hil, rfl, ?_⟩; conv => whnf)
      (refine ⟨i, _, rfl, getc l i hil, rfl, ?_⟩; conv => whnf)
      (refine .l ?_; conv => whnf)
      (refine ⟨by simp, ?_⟩; conv => whnf)
      (refine ⟨by simp only [List.length_map, List.length_take, List.length_singleton]; omega, ?_⟩; conv => whnf)
      refine ⟨j - 1, by omega, i + 1, by omega, ?_⟩
      have e1 : (l.take (i + 1)).map ctD = (l.take i).map ctD ++ [ctD l[i]] := by
        rw [List.take_add_one, List.getElem?_eq_getElem hil, List.map_append]; rfl
      rw [e1, w1 i (by omega)]
      rfl
    · have f1 : decide ((i : Int) < ((l.map ctD).length : Int)) = false := decide_eq_false (by rw [hm]; omega)
      have hi : i = l.length := by omega
      subst hi
      conv => whnf
      (repeat' (first | (apply kT (by with_reducible first | rfl | assumption); conv => whnf) | (apply kF (by with_reducible first | rfl | assumption); conv => whnf) | (apply kT (by decide); conv => whnf) | (apply kF (by decide); conv => whnf) | (apply kB <;> intro _ <;> conv => whnf) | fail))
      rw [List.take_length]
      rfl
theorem planC_pure (x : Pn) (h1 : x.cs.length ≤ 100000) (h2 : x.us.length ≤ 100000) : Pure Try.prog 20 [pnD x] (pnD x) := by
  refine pure_of pg Try.func20 (by kernel_rfl) ?_
  conv => whnf
  (repeat' (first | (apply kT (by with_reducible first | rfl | assumption); conv => whnf) | (apply kF (by with_reducible first | rfl | assumption); conv => whnf) | (apply kT (by decide); conv => whnf) | (apply kF (by decide); conv => whnf) | (apply kB <;> intro _ <;> conv => whnf) | (refine .inl ⟨_, cutsC_pure x.cs h1, ?_⟩; conv => whnf) | (refine .inl ⟨_, list_pure x.us h2, ?_⟩; conv => whnf) | fail))
  rfl
theorem back_pure (x : Pn) (h1 : x.cs.length ≤ 100000) (h2 : x.us.length ≤ 100000) : Pure Try.prog 31 [pnD x] (pnD x) := by
  have hm : ((x.cs.map ctD).length : Int) = x.cs.length := by rw [List.length_map]
  refine pure_of pg Try.func31 (by kernel_rfl) ?_
  conv => whnf
  (repeat' (first | (apply kT (by with_reducible first | rfl | assumption); conv => whnf) | (apply kF (by with_reducible first | rfl | assumption); conv => whnf) | (apply kT (by decide); conv => whnf) | (apply kF (by decide); conv => whnf) | (apply kB <;> intro _ <;> conv => whnf) | (refine .inl ⟨_, list_pure x.us h2, ?_⟩; conv => whnf) | fail))
  refine ⟨[.cown 2 0 94, .ren (renL [(0, 0), (1, 1), (2, 2), (3, 180)] 0 4)], [1, 2, 3, 4], [0, 1, 2, 3], 4, fun j s => ∃ i : Nat, i + j = x.cs.length ∧ s = ⟨[(1, .ref 0 0), (2, .ref 1 0), (3, .ref 2 0), (4, .d (dI i))], [(0, .var false 42 [.d (ctsD x.cs), .d (isD x.us)]), (1, .var false 28 [.d (.v (.slice none 0 0)), .d (.v (.slice none 0 0))]), (2, .var false 28 [.own 3, .d (isD x.us)]), (3, .arr 94 ((x.cs.take i).map ctD))], 4⟩, ?_, ?_⟩
  · conv => whnf
    refine ⟨x.cs.length, 0, by omega, rfl⟩
  · rintro j _ ⟨i, hij, rfl⟩
    by_cases hil : i < x.cs.length
    · have f1 : decide ((i : Int) < ((x.cs.map ctD).length : Int)) = true := decide_eq_true (by rw [hm]; omega)
      conv => whnf
      (repeat' (first | (apply kT (by with_reducible first | rfl | assumption); conv => whnf) | (apply kF (by with_reducible first | rfl | assumption); conv => whnf) | (apply kT (by decide); conv => whnf) | (apply kF (by decide); conv => whnf) | (apply kB <;> intro _ <;> conv => whnf) | fail))
      (refine ⟨i, _, rfl, getc x.cs i hil, rfl, ?_⟩; conv => whnf)
      (refine ⟨i, _, rfl, getc x.cs i hil, rfl, ?_⟩; conv => whnf)
      (refine ⟨i, _, rfl, getc x.cs i hil, rfl, ?_⟩; conv => whnf)
      (refine .l ?_; conv => whnf)
      (refine ⟨by simp, ?_⟩; conv => whnf)
      (refine ⟨by simp only [List.length_map, List.length_take, List.length_singleton]; omega, ?_⟩; conv => whnf)
      refine ⟨j - 1, by omega, i + 1, by omega, ?_⟩
      have e1 : (x.cs.take (i + 1)).map ctD = (x.cs.take i).map ctD ++ [ctD x.cs[i]] := by
        rw [List.take_add_one, List.getElem?_eq_getElem hil, List.map_append]; rfl
      rw [e1, w1 i (by omega)]
      rfl
    · have f1 : decide ((i : Int) < ((x.cs.map ctD).length : Int)) = false := decide_eq_false (by rw [hm]; omega)
      have hi : i = x.cs.length := by omega
      subst hi
      conv => whnf
      (repeat' (first | (apply kT (by with_reducible first | rfl | assumption); conv => whnf) | (apply kF (by with_reducible first | rfl | assumption); conv => whnf) | (apply kT (by decide); conv => whnf) | (apply kF (by decide); conv => whnf) | (apply kB <;> intro _ <;> conv => whnf) | fail))
      rw [List.take_length]
      rfl
theorem plateC_pure (p : Pl) (h1 : p.ws.length ≤ 100000) : Pure Try.prog 19 [plD p] (plD p) := by
  have hm : ((p.ws.map wtD).length : Int) = p.ws.length := by rw [List.length_map]
  refine pure_of pg Try.func19 (by kernel_rfl) ?_
  conv => whnf
  (repeat' (first | (apply kT (by with_reducible first | rfl | assumption); conv => whnf) | (apply kF (by with_reducible first | rfl | assumption); conv => whnf) | (apply kT (by decide); conv => whnf) | (apply kF (by decide); conv => whnf) | (apply kB <;> intro _ <;> conv => whnf) | fail))
  refine ⟨[.cown 2 3 107, .ren (renL [(0, 0), (1, 1), (2, 2), (3, 149)] 0 4)], [1, 2, 3, 4], [0, 1, 2, 3], 4, fun j s => ∃ i : Nat, i + j = p.ws.length ∧ s = ⟨[(1, .ref 0 0), (2, .ref 1 0), (3, .ref 2 0), (4, .d (dI i))], [(0, .var false 24 ((plC p).map A.d)), (1, .var false 38 [.d (dI 0), .d (dI 0), .d (dI 0), .d (.v (.slice none 0 0))]), (2, .var false 38 [.d (dI p.w), .d (dI p.l), .d (dI p.s), .own 3]), (3, .arr 107 ((p.ws.take i).map wtD))], 4⟩, ?_, ?_⟩
  · conv => whnf
    refine ⟨p.ws.length, 0, by omega, rfl⟩
  · rintro j _ ⟨i, hij, rfl⟩
    by_cases hil : i < p.ws.length
    · have f1 : decide ((i : Int) < ((p.ws.map wtD).length : Int)) = true := decide_eq_true (by rw [hm]; omega)
      conv => whnf
      (repeat' (first | (apply kT (by with_reducible first | rfl | assumption); conv => whnf) | (apply kF (by with_reducible first | rfl | assumption); conv => whnf) | (apply kT (by decide); conv => whnf) | (apply kF (by decide); conv => whnf) | (apply kB <;> intro _ <;> conv => whnf) | fail))
      (refine ⟨i, _, rfl, getw p.ws i hil, rfl, ?_⟩; conv => whnf)
      (refine .inl ⟨_, to_pure (p.ws[i]).x1 (p.ws[i]).x2, ?_⟩; conv => whnf)
      (refine .inl ⟨_, to_pure (p.ws[i]).y1 (p.ws[i]).y2, ?_⟩; conv => whnf)
      (refine .l ?_; conv => whnf)
      (refine ⟨by simp, ?_⟩; conv => whnf)
      (refine ⟨by simp only [List.length_map, List.length_take, List.length_singleton]; omega, ?_⟩; conv => whnf)
      refine ⟨j - 1, by omega, i + 1, by omega, ?_⟩
      have e1 : (p.ws.take (i + 1)).map wtD = (p.ws.take i).map wtD ++ [wtD p.ws[i]] := by
        rw [List.take_add_one, List.getElem?_eq_getElem hil, List.map_append]; rfl
      rw [e1, w1 i (by omega)]
      rfl
    · have f1 : decide ((i : Int) < ((p.ws.map wtD).length : Int)) = false := decide_eq_false (by rw [hm]; omega)
      have hi : i = p.ws.length := by omega
      subst hi
      conv => whnf
      (repeat' (first | (apply kT (by with_reducible first | rfl | assumption); conv => whnf) | (apply kF (by with_reducible first | rfl | assumption); conv => whnf) | (apply kT (by decide); conv => whnf) | (apply kF (by decide); conv => whnf) | (apply kB <;> intro _ <;> conv => whnf) | fail))
      rw [List.take_length]
      rfl
theorem thin_pure (p : Pl) (x : Pn) : Pure Try.prog 16 [plD p, pnD x] (dB (decide (((p.ws.map wtD).length : Int) ≤ 6) && decide (((x.cs.map ctD).length : Int) ≤ 45) && decide (((x.us.map fun n => [dI n]).length : Int) ≤ 6))) := by
  refine pure_of pg Try.func16 (by kernel_rfl) ?_
  conv => whnf
  (repeat' (first | (apply kT (by with_reducible first | rfl | assumption); conv => whnf) | (apply kF (by with_reducible first | rfl | assumption); conv => whnf) | (apply kT (by decide); conv => whnf) | (apply kF (by decide); conv => whnf) | (apply kB <;> intro _ <;> conv => whnf) | fail))
  all_goals (simp only [*, Bool.true_and, Bool.false_and, Bool.and_true, Bool.and_false]; rfl)
theorem far_pure' (p : Pc) (ac : Bool) : Pure Try.prog 61 [.agg (pcD p), dB ac] (dI (farP p ac)) := by
  refine pure_of pg Try.func61 (by kernel_rfl) ?_
  conv => whnf
  (apply kB <;> intro h <;> conv => whnf)
  all_goals (rw [h]; rfl)
theorem partR_pure (p : Pc) (ac : Bool) (f m : Int) : Pure Try.prog 85 [.agg (pcD p), dB ac, dI f, dI m] (.agg (pcD (if ac then ⟨p.x, wI (p.y + f), p.w, m⟩ else ⟨wI (p.x + f), p.y, m, p.l⟩))) := by
  refine pure_of pg Try.func85 (by kernel_rfl) ?_
  conv => whnf
  (apply kB <;> intro h <;> conv => whnf)
  all_goals (rw [h]; rfl)
theorem fitsR_pure (w : Wt) (q : Pc) : Pure Try.prog 37 [.agg (wtD w), .agg (pcD q)] (dB (fitsB w q)) := by
  refine pure_of pg Try.func37 (by kernel_rfl) ?_
  conv => whnf
  (repeat' (first | (apply kT (by with_reducible first | rfl | assumption); conv => whnf) | (apply kF (by with_reducible first | rfl | assumption); conv => whnf) | (apply kT (by decide); conv => whnf) | (apply kF (by decide); conv => whnf) | (apply kB <;> intro _ <;> conv => whnf) | fail))
  all_goals ((try simp only [Bool.not_eq_true', Bool.not_eq_false', ge_iff_le] at *); unfold fitsB sizeB hasB; simp only [*, Bool.true_and, Bool.false_and, Bool.and_true, Bool.and_false, Bool.true_or, Bool.false_or, Bool.or_true, Bool.or_false]; rfl)
end Go.Ev.Ytojlbcodfebmgaa

set_option linter.unusedVariables false
set_option linter.unusedSimpArgs false
set_option maxRecDepth 100000
namespace Go.Ev.Ytojlbcodfebmgaa
open Go.Proofs
attribute [local irreducible] Pure Bor Iter inB wtB partsL stepC useB usesB fitsB runC weighL uIdx betB cutsF bestP seeS memF cutsL partsW useF memN doN
theorem checkI_dim {p : Pl} (h : p.ws.length ≤ 4) (hd : (inB p.w 1 8 && inB p.l 1 8 && inB p.s 0 2) = false) : checkI p = 1 := by
  unfold checkI; rw [if_neg (by omega), hd]; simp
theorem checkI_wt {p : Pl} (h : p.ws.length ≤ 4) {i : Nat} (hi : i < p.ws.length) (hw : wtB p.ws[i] = false) : checkI p = 1 := by
  unfold checkI
  rw [if_neg (by omega), if_neg]
  intro hx
  rw [Bool.and_eq_true, List.all_eq_true] at hx
  have := hx.2 _ (List.getElem_mem hi)
  rw [hw] at this; cases this
theorem checkI_ok {p : Pl} (h : p.ws.length ≤ 4) (hd : (inB p.w 1 8 && inB p.l 1 8 && inB p.s 0 2) = true) (hw : ∀ (i : Nat) (hi : i < p.ws.length), wtB p.ws[i] = true) : checkI p = 0 := by
  unfold checkI
  rw [if_neg (by omega), hd, if_pos]
  rw [Bool.true_and, List.all_eq_true]
  intro w hwm
  obtain ⟨i, hi, rfl⟩ := List.getElem_of_mem hwm
  exact hw i hi
theorem wtB_in (w : Wt) : wtB w = (inB w.w 1 8 && inB w.l 1 8 && inB w.g 0 1000 && (inB w.x1 0 w.x2 && !decide (w.x2 > 7)) && (inB w.y1 0 w.y2 && !decide (w.y2 > 7))) := by
  have h : ∀ z : Int, (!decide (z > 7)) = decide (z < 8) := fun z => by simp only [← decide_not, decide_eq_decide]; omega
  rw [h, h]
  unfold wtB zoneB inB; rfl
theorem faultR_pure (p : Pl) (hl : p.ws.length ≤ 100000) : Pure Try.prog 34 [plD p] (dI (checkI p)) := by
  have hm : ((p.ws.map wtD).length : Int) = p.ws.length := by rw [List.length_map]
  by_cases h4 : 4 < p.ws.length
  · have f0 : decide (((p.ws.map wtD).length : Int) > 4) = true := decide_eq_true (by rw [hm]; omega)
    have e : checkI p = 3 := by unfold checkI; rw [if_pos h4]
    rw [e]
    refine pure_of pg Try.func34 (by kernel_rfl) ?_
    conv => whnf
    (repeat' (first | (apply kT (by with_reducible first | rfl | assumption); conv => whnf) | (apply kF (by with_reducible first | rfl | assumption); conv => whnf) | (apply kT (by decide); conv => whnf) | (apply kF (by decide); conv => whnf) | (apply kB <;> intro _ <;> conv => whnf) | fail))
    rfl
  have f0 : decide (((p.ws.map wtD).length : Int) > 4) = false := decide_eq_false (by rw [hm]; omega)
  cases hd : inB p.w 1 8 && inB p.l 1 8 && inB p.s 0 2 with
  | false =>
    rw [checkI_dim (by omega) hd]
    refine pure_of pg Try.func34 (by kernel_rfl) ?_
    conv => whnf
    (repeat' (first | (apply kT (by with_reducible first | rfl | assumption); conv => whnf) | (apply kF (by with_reducible first | rfl | assumption); conv => whnf) | (apply kT (by decide); conv => whnf) | (apply kF (by decide); conv => whnf) | (apply kB <;> intro _ <;> conv => whnf) | (refine .inl ⟨_, in_pure .., ?_⟩; conv => whnf) | fail))
    all_goals first | rfl | (exfalso; simp only [Bool.not_eq_false'] at *; simp [*] at hd)
  | true =>
    have hd' := hd
    rw [Bool.and_eq_true, Bool.and_eq_true] at hd'
    have d1 : (!inB p.w 1 8) = false := by rw [hd'.1.1]; rfl
    have d2 : (!inB p.l 1 8) = false := by rw [hd'.1.2]; rfl
    have d3 : (!inB p.s 0 2) = false := by rw [hd'.2]; rfl
    refine pure_of pg Try.func34 (by kernel_rfl) ?_
    conv => whnf
    (repeat' (first | (apply kT (by with_reducible first | rfl | assumption); conv => whnf) | (apply kF (by with_reducible first | rfl | assumption); conv => whnf) | (apply kT (by decide); conv => whnf) | (apply kF (by decide); conv => whnf) | (apply kB <;> intro _ <;> conv => whnf) | (refine .inl ⟨_, in_pure .., ?_⟩; conv => whnf) | fail))
    refine ⟨[], [1, 2, 3], [0], 1, fun j s => ∃ i : Nat, i + j = p.ws.length ∧ (∀ (k : Nat) (hk : k < p.ws.length), k < i → wtB p.ws[k] = true) ∧ s = ⟨[(1, .ref 0 0), (2, .d (dI 0)), (3, .d (dI i))], [(0, .var false 24 ((plC p).map A.d))], 1⟩, ?_, ?_⟩
    · conv => whnf
      exact ⟨p.ws.length, 0, by omega, fun _ _ h => by omega, rfl⟩
    · rintro j _ ⟨i, hij, hok, rfl⟩
      by_cases hil : i < p.ws.length
      · have f1 : decide ((i : Int) < ((p.ws.map wtD).length : Int)) = true := decide_eq_true (by rw [hm]; omega)
        have hx := wtB_in p.ws[i]
        have hnx : wtB p.ws[i] = true → ∀ (k : Nat) (hk : k < p.ws.length), k < i + 1 → wtB p.ws[k] = true := fun hw k hk hki => by
          rcases Nat.lt_or_ge k i with h | h
          · exact hok k hk h
          · have : k = i := by omega
            subst this; exact hw
        have hbad : wtB p.ws[i] = false → checkI p = 1 := checkI_wt (by omega) hil
        conv => whnf
        (repeat' (first | (apply kT (by with_reducible first | rfl | assumption); conv => whnf) | (apply kF (by with_reducible first | rfl | assumption); conv => whnf) | (apply kT (by decide); conv => whnf) | (apply kF (by decide); conv => whnf) | (apply kB <;> intro _ <;> conv => whnf) | (refine .inl ⟨_, in_pure .., ?_⟩; conv => whnf) | fail))
        (refine ⟨i, _, rfl, getw p.ws i hil, rfl, ?_⟩; conv => whnf)
        (repeat' (first | (apply kT (by with_reducible first | rfl | assumption); conv => whnf) | (apply kF (by with_reducible first | rfl | assumption); conv => whnf) | (apply kT (by decide); conv => whnf) | (apply kF (by decide); conv => whnf) | (apply kB <;> intro _ <;> conv => whnf) | (refine .inl ⟨_, in_pure .., ?_⟩; conv => whnf) | fail))
        all_goals first
          | (refine ⟨j - 1, by omega, i + 1, by omega, hnx (by rw [hx]; (try simp only [Bool.not_eq_true', Bool.not_eq_false'] at *); simp only [*, Bool.not_false, Bool.and_self]), ?_⟩; rw [w1 i (by omega)]; rfl)
          | (rw [hbad (by rw [hx]; (try simp only [Bool.not_eq_true', Bool.not_eq_false'] at *); simp only [*, Bool.not_true, Bool.not_false, Bool.and_false, Bool.false_and, Bool.and_true])]; rfl)
      · have f1 : decide ((i : Int) < ((p.ws.map wtD).length : Int)) = false := decide_eq_false (by rw [hm]; omega)
        rw [checkI_ok (by omega) hd fun k hk => hok k hk (by omega)]
        conv => whnf
        (repeat' (first | (apply kT (by with_reducible first | rfl | assumption); conv => whnf) | (apply kF (by with_reducible first | rfl | assumption); conv => whnf) | (apply kT (by decide); conv => whnf) | (apply kF (by decide); conv => whnf) | (apply kB <;> intro _ <;> conv => whnf) | fail))
        rfl
abbrev nilD : D := .v (.slice none 0 0)
theorem part_to {p : Pc} (h : OkP p) (ac : Bool) {f m : Int} (h0 : 0 ≤ f) (h1 : f ≤ 1000) : (if ac then (⟨p.x, wI (p.y + f), p.w, m⟩ : Pc) else ⟨wI (p.x + f), p.y, m, p.l⟩) = partP p ac f m := by
  have := h.x0; have := h.y0; have := h.w0; have := h.l0; have := h.x1; have := h.y1
  cases ac <;> unfold partP <;> simp only [cond_true, cond_false, if_true, if_false, Bool.false_eq_true]
  · rw [show wI (p.x + f) = p.x + f from wS (by omega) (by omega)]
  · rw [show wI (p.y + f) = p.y + f from wS (by omega) (by omega)]
theorem partP_pure {p : Pc} (h : OkP p) (ac : Bool) {f m : Int} (h0 : 0 ≤ f) (h1 : f ≤ 1000) : Pure Try.prog 85 [.agg (pcD p), dB ac, dI f, dI m] (.agg (pcD (partP p ac f m))) := by
  rw [← part_to h ac h0 h1]; exact partR_pure ..
theorem partsR_pure {p : Pc} (h : OkP p) (ac : Bool) (a : Int) {s : Int} (hs : 0 ≤ s ∧ s ≤ 2) : Pure Try.prog 67 [.agg (pcD p), dB ac, dI a, dI s] (pcsD (partsL p ac a s)) := by
  have cf := far_pure' p ac
  have hf : 1 ≤ farP p ac ∧ farP p ac ≤ 100 := by
    have := h.x0; have := h.y0; have := h.w0; have := h.l0; have := h.x1; have := h.y1
    unfold farP; cases ac <;> simp <;> omega
  obtain ⟨far, hfar⟩ : ∃ far, far = farP p ac := ⟨_, rfl⟩
  have cpa := fun f m h0 h1 => partP_pure h ac (f := f) (m := m) h0 h1
  unfold partsL
  rw [← hfar] at cf hf ⊢
  by_cases a0 : a < 0
  · have f1 : decide (a < 0) = true := decide_eq_true a0
    rw [if_pos (.inl a0)]
    refine pure_of pg Try.func67 (by kernel_rfl) ?_
    conv => whnf
    (repeat' (first | (apply kT (by with_reducible first | rfl | assumption); conv => whnf) | (apply kF (by with_reducible first | rfl | assumption); conv => whnf) | (apply kT (by decide); conv => whnf) | (apply kF (by decide); conv => whnf) | (apply kB <;> intro _ <;> conv => whnf) | (refine .inl ⟨_, cf, ?_⟩; conv => whnf) | fail))
    rfl
  have f1 : decide (a < 0) = false := decide_eq_false a0
  by_cases a1 : a > far
  · have f2 : decide (a > far) = true := decide_eq_true a1
    rw [if_pos (.inr (.inl (by omega)))]
    refine pure_of pg Try.func67 (by kernel_rfl) ?_
    conv => whnf
    (repeat' (first | (apply kT (by with_reducible first | rfl | assumption); conv => whnf) | (apply kF (by with_reducible first | rfl | assumption); conv => whnf) | (apply kT (by decide); conv => whnf) | (apply kF (by decide); conv => whnf) | (apply kB <;> intro _ <;> conv => whnf) | (refine .inl ⟨_, cf, ?_⟩; conv => whnf) | fail))
    rfl
  have f2 : decide (a > far) = false := decide_eq_false a1
  have w1 : IntKind.i64.wrap (a + s) = a + s := wS (by omega) (by omega)
  have w2 : IntKind.i64.wrap (far - a) = far - a := wS (by omega) (by omega)
  have w3 : IntKind.i64.wrap (far - a - s) = far - a - s := wS (by omega) (by omega)
  have e0 : (a == 0) = decide (a = 0) := rfl
  have ca1 := cpa 0 a (by omega) (by omega)
  have ca2 := cpa (a + s) (far - a - s) (by omega) (by omega)
  have cb2 : Pure Try.prog 85 [.agg (pcD p), dB ac, dI (IntKind.i64.wrap (a + s)), dI (IntKind.i64.wrap (IntKind.i64.wrap (far - a) - s))] (.agg (pcD (partP p ac (a + s) (far - a - s)))) := by rw [w1, w2, w3]; exact ca2
  by_cases c1 : a + s > far
  · rw [if_pos (.inr (.inl (by omega)))]
    have f3 : decide (IntKind.i64.wrap (a + s) > far) = true := decide_eq_true (by rw [w1]; omega)
    refine pure_of pg Try.func67 (by kernel_rfl) ?_
    conv => whnf
    (repeat' (first | (apply kT (by with_reducible first | rfl | assumption); conv => whnf) | (apply kF (by with_reducible first | rfl | assumption); conv => whnf) | (apply kT (by decide); conv => whnf) | (apply kF (by decide); conv => whnf) | (apply kB <;> intro _ <;> conv => whnf) | (refine .inl ⟨_, cf, ?_⟩; conv => whnf) | fail))
    rfl
  have f3 : decide (IntKind.i64.wrap (a + s) > far) = false := decide_eq_false (by rw [w1]; omega)
  by_cases c2 : a + s = far
  · have f4 : (IntKind.i64.wrap (a + s) == far) = true := eqT (by rw [w1]; omega)
    by_cases c3 : a = 0
    · have f5 : (a == 0) = true := eqT (by omega)
      rw [show (if noCut far a s then [] else (if 0 < a then [partP p ac 0 a] else []) ++ if 0 < far - a - s then [partP p ac (a + s) (far - a - s)] else []) = ([] : List Pc) by split; rfl; rw [if_neg (by omega), if_neg (by omega)]; rfl]
      refine pure_of pg Try.func67 (by kernel_rfl) ?_
      conv => whnf
      (repeat' (first | (apply kT (by with_reducible first | rfl | assumption); conv => whnf) | (apply kF (by with_reducible first | rfl | assumption); conv => whnf) | (apply kT (by decide); conv => whnf) | (apply kF (by decide); conv => whnf) | (apply kB <;> intro _ <;> conv => whnf) | (refine .inl ⟨_, cf, ?_⟩; conv => whnf) | fail))
      rfl
    have f5 : (a == 0) = false := eqF (by omega)
    by_cases c4 : s = 0
    · have f6 : (s == 0) = true := eqT (by omega)
      rw [if_pos (.inr (.inr ⟨c4, .inr (by omega)⟩))]
      refine pure_of pg Try.func67 (by kernel_rfl) ?_
      conv => whnf
      (repeat' (first | (apply kT (by with_reducible first | rfl | assumption); conv => whnf) | (apply kF (by with_reducible first | rfl | assumption); conv => whnf) | (apply kT (by decide); conv => whnf) | (apply kF (by decide); conv => whnf) | (apply kB <;> intro _ <;> conv => whnf) | (refine .inl ⟨_, cf, ?_⟩; conv => whnf) | fail))
      rfl
    have f6 : (s == 0) = false := eqF (by omega)
    have f7 : decide (a > 0) = true := decide_eq_true (by omega)
    have f8 : decide (IntKind.i64.wrap (a + s) < far) = false := decide_eq_false (by rw [w1]; omega)
    rw [if_neg (by unfold noCut; omega), if_pos (by omega), if_neg (by omega)]
    refine pure_of pg Try.func67 (by kernel_rfl) ?_
    conv => whnf
    (repeat' (first | (apply kT (by with_reducible first | rfl | assumption); conv => whnf) | (apply kF (by with_reducible first | rfl | assumption); conv => whnf) | (apply kT (by decide); conv => whnf) | (apply kF (by decide); conv => whnf) | (apply kB <;> intro _ <;> conv => whnf) | (refine .inl ⟨_, cf, ?_⟩; conv => whnf) | fail))
    (refine .inl ⟨_, ca1, ?_⟩; conv => whnf)
    (refine .l ?_; conv => whnf)
    (refine ⟨by simp, ?_⟩; conv => whnf)
    (refine ⟨by simp, ?_⟩; conv => whnf)
    (repeat' (first | (apply kT (by with_reducible first | rfl | assumption); conv => whnf) | (apply kF (by with_reducible first | rfl | assumption); conv => whnf) | (apply kT (by decide); conv => whnf) | (apply kF (by decide); conv => whnf) | (apply kB <;> intro _ <;> conv => whnf) | fail))
    rfl
  have f4 : (IntKind.i64.wrap (a + s) == far) = false := eqF (by rw [w1]; omega)
  have f8 : decide (IntKind.i64.wrap (a + s) < far) = true := decide_eq_true (by rw [w1]; omega)
  by_cases c3 : a = 0
  · have f5 : (a == 0) = true := eqT (by omega)
    have f7 : decide (a > 0) = false := decide_eq_false (by omega)
    by_cases c4 : s = 0
    · have f6 : (s == 0) = true := eqT (by omega)
      rw [if_pos (.inr (.inr ⟨c4, .inl c3⟩))]
      refine pure_of pg Try.func67 (by kernel_rfl) ?_
      conv => whnf
      (repeat' (first | (apply kT (by with_reducible first | rfl | assumption); conv => whnf) | (apply kF (by with_reducible first | rfl | assumption); conv => whnf) | (apply kT (by decide); conv => whnf) | (apply kF (by decide); conv => whnf) | (apply kB <;> intro _ <;> conv => whnf) | (refine .inl ⟨_, cf, ?_⟩; conv => whnf) | fail))
      rfl
    have f6 : (s == 0) = false := eqF (by omega)
    rw [if_neg (by unfold noCut; omega), if_neg (by omega), if_pos (by omega)]
    refine pure_of pg Try.func67 (by kernel_rfl) ?_
    conv => whnf
    (repeat' (first | (apply kT (by with_reducible first | rfl | assumption); conv => whnf) | (apply kF (by with_reducible first | rfl | assumption); conv => whnf) | (apply kT (by decide); conv => whnf) | (apply kF (by decide); conv => whnf) | (apply kB <;> intro _ <;> conv => whnf) | (refine .inl ⟨_, cf, ?_⟩; conv => whnf) | fail))
    (refine .inl ⟨_, cb2, ?_⟩; conv => whnf)
    (refine .l ?_; conv => whnf)
    (refine ⟨by simp, ?_⟩; conv => whnf)
    (refine ⟨by simp, ?_⟩; conv => whnf)
    rfl
  have f5 : (a == 0) = false := eqF (by omega)
  have f7 : decide (a > 0) = true := decide_eq_true (by omega)
  rw [if_neg (by unfold noCut; omega), if_pos (by omega), if_pos (by omega)]
  refine pure_of pg Try.func67 (by kernel_rfl) ?_
  conv => whnf
  (repeat' (first | (apply kT (by with_reducible first | rfl | assumption); conv => whnf) | (apply kF (by with_reducible first | rfl | assumption); conv => whnf) | (apply kT (by decide); conv => whnf) | (apply kF (by decide); conv => whnf) | (apply kB <;> intro _ <;> conv => whnf) | (refine .inl ⟨_, cf, ?_⟩; conv => whnf) | fail))
  (refine .inl ⟨_, ca1, ?_⟩; conv => whnf)
  (refine .l ?_; conv => whnf)
  (refine ⟨by simp, ?_⟩; conv => whnf)
  (refine ⟨by simp, ?_⟩; conv => whnf)
  (repeat' (first | (apply kT (by with_reducible first | rfl | assumption); conv => whnf) | (apply kF (by with_reducible first | rfl | assumption); conv => whnf) | (apply kT (by decide); conv => whnf) | (apply kF (by decide); conv => whnf) | (apply kB <;> intro _ <;> conv => whnf) | fail))
  (refine .inl ⟨_, cb2, ?_⟩; conv => whnf)
  (refine .l ?_; conv => whnf)
  (refine ⟨by simp, ?_⟩; conv => whnf)
  (refine ⟨by simp, ?_⟩; conv => whnf)
  rfl
end Go.Ev.Ytojlbcodfebmgaa

set_option linter.unusedVariables false
set_option linter.unusedSimpArgs false
set_option maxRecDepth 100000
namespace Go.Ev.Ytojlbcodfebmgaa
open Go.Proofs
attribute [local irreducible] Pure Bor Iter inB wtB partsL stepC useB usesB fitsB runC weighL uIdx betB cutsF bestP seeS memF cutsL partsW useF memN doN
def pcsR : Option St2 → D
  | some st => .tup [pcsD st.1, .seq (bsE st.2), dB true]
  | none => .tup [.seq [], .seq [], dB false]
set_option maxHeartbeats 4000000 in
theorem piecesR_pure {p : Pl} (hp : checkI p = 0) {cs : List Ct} (hl : cs.length ≤ 45) {R : Option St2} (hr : runC p.s cs (st0 p) = R) :
    Pure Try.prog 44 [plD p, ctsD cs] (pcsR R) := by
  obtain ⟨hw, hpw, hpl, hs, _⟩ := check_zero hp
  have hm : ((List.map ctD cs).length : Int) = (cs.length : Int) := by rw [List.length_map]
  have ok0 := st0_ok hp
  refine pure_of pg Try.func44 (by kernel_rfl) ?_
  conv => whnf
  (refine .r ⟨by decide, ?_⟩; conv => whnf)
  (refine .r ⟨by decide, ?_⟩; conv => whnf)
  refine ⟨[], [1, 2, 4, 5, 6, 7, 8, 9], [0, 1, 2], 3, fun m s => ∃ (k : Nat) (st' : St2), k + m = cs.length ∧ runC p.s (cs.drop k) st' = R ∧ OkS st' ∧ st'.1.length ≤ 1 + 2 * k ∧
    s = ⟨[(1, .d (ctsD cs)), (2, .ref 0 0), (4, .d (.v (.slice none 0 0))), (5, .d (.v (.slice none 0 0))), (6, .d (dB false)), (7, .own 1), (8, .own 2), (9, .d (dI k))],
      [(0, .var false 24 ((plC p).map A.d)), (1, .arr 72 (st'.1.map pcD)), (2, .arr 4 (bsE st'.2))], 3⟩, ?_, ?_⟩
  · conv => whnf
    exact ⟨cs.length, 0, st0 p, by omega, hr, ok0, Nat.le_refl _, rfl⟩
  · rintro m _ ⟨k, st', hk, hrun, hok, hlen, rfl⟩
    by_cases hlt : k < cs.length
    · have f2 : decide ((k : Int) < ((cs.map ctD).length : Int)) = true := decide_eq_true (by rw [hm]; omega)
      rw [runC_next hlt] at hrun
      have hq := getc cs k hlt
      generalize cs[k] = c at hrun hq
      have hbl : ((bsE st'.2).length : Int) = st'.1.length := by rw [List.length_map, hok.len]
      have hpl : ((st'.1.map pcD).length : Int) = st'.1.length := by rw [List.length_map]
      have wl : IntKind.i64.wrap (((st'.1.map pcD).length : Int) - 1) = (st'.1.length : Int) - 1 := by rw [hpl]; exact wS (by omega) (by omega)
      have cw := in_pure c.n 0 (IntKind.i64.wrap (((st'.1.map pcD).length : Int) - 1))
      rw [wl] at cw
      by_cases hc1 : inB c.n 0 ((st'.1.length : Int) - 1) = false
      · have hR : R = none := by rw [← hrun]; unfold stepC; rw [if_pos (.inl hc1)]
        rw [hc1, ← wl] at cw
        conv => whnf
        (repeat' (first | (apply kT (by with_reducible first | rfl | assumption); conv => whnf) | (apply kF (by with_reducible first | rfl | assumption); conv => whnf) | (apply kT (by decide); conv => whnf) | (apply kF (by decide); conv => whnf) | (apply kB <;> intro _ <;> conv => whnf) | fail))
        (refine ⟨k, ctD c, rfl, hq, rfl, ?_⟩; conv => whnf)
        (repeat' (first | (apply kT (by with_reducible first | rfl | assumption); conv => whnf) | (apply kF (by with_reducible first | rfl | assumption); conv => whnf) | (apply kT (by decide); conv => whnf) | (apply kF (by decide); conv => whnf) | (apply kB <;> intro _ <;> conv => whnf) | (refine .inl ⟨_, cw, ?_⟩; conv => whnf) | fail))
        rw [hR]
        rfl
      have hc1 := (Bool.not_eq_false _).mp hc1
      have hc1' := inB_true.1 hc1
      have hop := hok.at hc1'.1 (by omega)
      have hn : (c.n.toNat : Int) = c.n := Int.toNat_of_nonneg hc1'.1
      rw [hc1, ← wl] at cw
      by_cases hc2 : cutAt st'.2 c.n = true
      · have hR : R = none := by rw [← hrun]; unfold stepC; rw [if_pos (.inr (.inl hc2))]
        conv => whnf
        (repeat' (first | (apply kT (by with_reducible first | rfl | assumption); conv => whnf) | (apply kF (by with_reducible first | rfl | assumption); conv => whnf) | (apply kT (by decide); conv => whnf) | (apply kF (by decide); conv => whnf) | (apply kB <;> intro _ <;> conv => whnf) | fail))
        (refine ⟨k, ctD c, rfl, hq, rfl, ?_⟩; conv => whnf)
        (repeat' (first | (apply kT (by with_reducible first | rfl | assumption); conv => whnf) | (apply kF (by with_reducible first | rfl | assumption); conv => whnf) | (apply kT (by decide); conv => whnf) | (apply kF (by decide); conv => whnf) | (apply kB <;> intro _ <;> conv => whnf) | (refine .inl ⟨_, cw, ?_⟩; conv => whnf) | fail))
        (refine ⟨c.n.toNat, hn.symm, by rw [List.length_map]; have := hok.len; omega, ?_⟩; conv => whnf)
        (repeat' (first | (apply kT (by with_reducible first | rfl | assumption); conv => whnf) | (apply kF (by with_reducible first | rfl | assumption); conv => whnf) | (apply kT (by decide); conv => whnf) | (apply kF (by decide); conv => whnf) | (apply kB <;> intro _ <;> conv => whnf) | fail))
        (refine ⟨_, getba hc1'.1 (by have := hok.len; omega), ?_⟩; conv => whnf)
        (refine ⟨_, rfl, ?_⟩; conv => whnf)
        (repeat' (first | (apply kT (by with_reducible first | rfl | assumption); conv => whnf) | (apply kF (by with_reducible first | rfl | assumption); conv => whnf) | (apply kT (by decide); conv => whnf) | (apply kF (by decide); conv => whnf) | (apply kB <;> intro _ <;> conv => whnf) | fail))
        rw [hR]
        rfl
      have hc2 := (Bool.not_eq_true _).mp hc2
      conv => whnf
      (repeat' (first | (apply kT (by with_reducible first | rfl | assumption); conv => whnf) | (apply kF (by with_reducible first | rfl | assumption); conv => whnf) | (apply kT (by decide); conv => whnf) | (apply kF (by decide); conv => whnf) | (apply kB <;> intro _ <;> conv => whnf) | fail))
      (refine ⟨k, ctD c, rfl, hq, rfl, ?_⟩; conv => whnf)
      (repeat' (first | (apply kT (by with_reducible first | rfl | assumption); conv => whnf) | (apply kF (by with_reducible first | rfl | assumption); conv => whnf) | (apply kT (by decide); conv => whnf) | (apply kF (by decide); conv => whnf) | (apply kB <;> intro _ <;> conv => whnf) | (refine .inl ⟨_, cw, ?_⟩; conv => whnf) | fail))
      (refine ⟨c.n.toNat, hn.symm, by rw [List.length_map]; have := hok.len; omega, ?_⟩; conv => whnf)
      (repeat' (first | (apply kT (by with_reducible first | rfl | assumption); conv => whnf) | (apply kF (by with_reducible first | rfl | assumption); conv => whnf) | (apply kT (by decide); conv => whnf) | (apply kF (by decide); conv => whnf) | (apply kB <;> intro _ <;> conv => whnf) | fail))
      (refine ⟨_, getba hc1'.1 (by have := hok.len; omega), ?_⟩; conv => whnf)
      (refine ⟨_, rfl, ?_⟩; conv => whnf)
      (repeat' (first | (apply kT (by with_reducible first | rfl | assumption); conv => whnf) | (apply kF (by with_reducible first | rfl | assumption); conv => whnf) | (apply kT (by decide); conv => whnf) | (apply kF (by decide); conv => whnf) | (apply kB <;> intro _ <;> conv => whnf) | fail))
      (refine ⟨c.n.toNat, hn.symm, by rw [List.length_map]; omega, ?_⟩; conv => whnf)
      (refine ⟨_, getpa hc1'.1 (by omega), ?_⟩; conv => whnf)
      (refine ⟨rfl, ?_⟩; conv => whnf)
      have cc := partsR_pure hop c.ac c.at_ hs
      have hl2 := parts_len (pcAt st'.1 c.n) c.ac c.at_ p.s
      have hstep : ∀ st1, stepC p.s st' c = some st1 → OkS st1 ∧ st1.1.length ≤ st'.1.length + 2 := fun st1 h => hok.step hs.1 h
      have hst : stepC p.s st' c = if partsL (pcAt st'.1 c.n) c.ac c.at_ p.s = [] then none else some (st'.1 ++ partsL (pcAt st'.1 c.n) c.ac c.at_ p.s, st'.2.set c.n.toNat true ++ List.replicate (partsL (pcAt st'.1 c.n) c.ac c.at_ p.s).length false) := by
        unfold stepC
        by_cases h : partsL (pcAt st'.1 c.n) c.ac c.at_ p.s = []
        · rw [if_pos (.inr (.inr h)), if_pos h]
        · rw [if_neg (by rw [hc1, hc2]; simp [h]), if_neg h]
      generalize partsL (pcAt st'.1 c.n) c.ac c.at_ p.s = l at cc hst hl2
      have hlm : ((l.map pcD).length : Int) = (l.length : Int) := by rw [List.length_map]
      (refine .inl ⟨_, cc, ?_⟩; conv => whnf)
      by_cases hc3 : l = []
      · have f3 : (((l.map pcD).length : Int) == 0) = true := eqT (by rw [hlm, hc3]; rfl)
        rw [if_pos hc3] at hst
        have hR : R = none := by rw [← hrun, hst]
        (repeat' (first | (apply kT (by with_reducible first | rfl | assumption); conv => whnf) | (apply kF (by with_reducible first | rfl | assumption); conv => whnf) | (apply kT (by decide); conv => whnf) | (apply kF (by decide); conv => whnf) | (apply kB <;> intro _ <;> conv => whnf) | fail))
        rw [hR]
        rfl
      rw [if_neg hc3] at hst
      obtain ⟨ok1, hl1⟩ := hstep _ hst
      rw [hst] at hrun
      have f3 : (((l.map pcD).length : Int) == 0) = false := eqF (by rw [hlm]; have := List.length_pos_iff.2 hc3; omega)
      (repeat' (first | (apply kT (by with_reducible first | rfl | assumption); conv => whnf) | (apply kF (by with_reducible first | rfl | assumption); conv => whnf) | (apply kT (by decide); conv => whnf) | (apply kF (by decide); conv => whnf) | (apply kB <;> intro _ <;> conv => whnf) | fail))
      (refine ⟨c.n.toNat, hn.symm, by rw [List.length_map]; have := hok.len; omega, ?_⟩; conv => whnf)
      (refine ⟨_, getba hc1'.1 (by have := hok.len; omega), ?_⟩; conv => whnf)
      (refine ⟨rfl, Nat.le_refl _, bsE (st'.2.set c.n.toNat true), bsE_set .., ?_⟩; conv => whnf)
      have hb2 : (st'.2.set c.n.toNat true).length = st'.1.length := by rw [List.length_set, hok.len]
      refine ⟨[], [1, 2, 4, 5, 6, 7, 8, 9, 11, 12], [0, 1, 2], 3, fun j s => ∃ i : Nat, i + j = l.length ∧
        s = ⟨[(1, .d (ctsD cs)), (2, .ref 0 0), (4, .d (.v (.slice none 0 0))), (5, .d (.v (.slice none 0 0))), (6, .d (dB false)), (7, .own 1), (8, .own 2), (9, .d (dI k)), (11, .d (pcsD l)), (12, .d (dI i))],
          [(0, .var false 24 ((plC p).map A.d)), (1, .arr 72 ((st'.1 ++ l.take i).map pcD)), (2, .arr 4 (bsE (st'.2.set c.n.toNat true ++ List.replicate i false)))], 3⟩, ?_, ?_⟩
      · conv => whnf
        refine ⟨l.length, 0, by omega, ?_⟩
        rw [List.take_zero, List.append_nil, List.replicate_zero, List.append_nil]
        rfl
      · rintro j _ ⟨i, hij, rfl⟩
        by_cases hil : i < l.length
        · have f4 : decide ((i : Int) < ((l.map pcD).length : Int)) = true := decide_eq_true (by rw [hlm]; omega)
          conv => whnf
          (repeat' (first | (apply kT (by with_reducible first | rfl | assumption); conv => whnf) | (apply kF (by with_reducible first | rfl | assumption); conv => whnf) | (apply kT (by decide); conv => whnf) | (apply kF (by decide); conv => whnf) | (apply kB <;> intro _ <;> conv => whnf) | fail))
          (refine ⟨i, pcD l[i], rfl, getpc l i hil, rfl, ?_⟩; conv => whnf)
          (refine .l ?_; conv => whnf)
          (refine ⟨by simp, ?_⟩; conv => whnf)
          (refine ⟨by simp only [List.length_map, List.length_append, List.length_take, List.length_singleton]; omega, ?_⟩; conv => whnf)
          (refine .l ?_; conv => whnf)
          (refine ⟨by simp, ?_⟩; conv => whnf)
          (refine ⟨by simp only [List.length_map, List.length_append, List.length_replicate, List.length_set, List.length_singleton]; have := hok.len; omega, ?_⟩; conv => whnf)
          refine ⟨j - 1, by omega, i + 1, by omega, ?_⟩
          have e1 : (st'.1 ++ l.take (i + 1)).map pcD = (st'.1 ++ l.take i).map pcD ++ [pcD l[i]] := by
            rw [List.map_append, List.map_append, List.take_add_one, List.getElem?_eq_getElem hil, List.map_append, List.append_assoc]; rfl
          have e2 : bsE (st'.2.set c.n.toNat true ++ List.replicate (i + 1) false) = bsE (st'.2.set c.n.toNat true ++ List.replicate i false) ++ [[dB false]] := by
            rw [List.replicate_succ', ← List.append_assoc, bsE_app]; rfl
          rw [e1, e2, w1 i (by omega)]
          rfl
        · have f4 : decide ((i : Int) < ((l.map pcD).length : Int)) = false := decide_eq_false (by rw [hlm]; omega)
          have hil' : i = l.length := by omega
          conv => whnf
          (repeat' (first | (apply kT (by with_reducible first | rfl | assumption); conv => whnf) | (apply kF (by with_reducible first | rfl | assumption); conv => whnf) | (apply kT (by decide); conv => whnf) | (apply kF (by decide); conv => whnf) | (apply kB <;> intro _ <;> conv => whnf) | fail))
          refine ⟨m - 1, by omega, k + 1, _, by omega, hrun, ok1, by simp only [List.length_append] at hl1 ⊢; omega, ?_⟩
          rw [hil', List.take_length, w1 k (by omega)]
          rfl
    · have f2 : decide ((k : Int) < ((cs.map ctD).length : Int)) = false := decide_eq_false (by rw [hm]; omega)
      rw [List.drop_of_length_le (by omega)] at hrun
      subst hrun
      rw [runC]
      conv => whnf
      (repeat' (first | (apply kT (by with_reducible first | rfl | assumption); conv => whnf) | (apply kF (by with_reducible first | rfl | assumption); conv => whnf) | (apply kT (by decide); conv => whnf) | (apply kF (by decide); conv => whnf) | (apply kB <;> intro _ <;> conv => whnf) | fail))
      rfl
end Go.Ev.Ytojlbcodfebmgaa
