/-
  Contracts of functions, and plain laws, that lead to the statement. Written by an agent.
-/
import Derived.Test.YtojlbcodfebmgaaLc
set_option linter.unusedVariables false
set_option linter.unusedSimpArgs false
set_option maxRecDepth 100000
namespace Go.Ev.Ytojlbcodfebmgaa
open Go.Proofs
attribute [local irreducible] Pure Bor Iter inB wtB partsL stepC useB usesB fitsB runC weighL uIdx betB cutsF bestP seeS memF cutsL partsW
theorem useF_next (p : Pl) (q : Pc) (w : Wn) (k i : Nat) (o : Sp) : useF p q w (k + 1) i o = useF p q w k (i + 1) (if w.get i = true ∧ fitsB (wtAt p.ws i) q = true ∧ betB (wtAt p.ws i).g 0 o.g o.c = true then spUse (wtAt p.ws i).g i else o) := by rw [useF]
theorem useF_zero (p : Pl) (q : Pc) (w : Wn) (i : Nat) (o : Sp) : useF p q w 0 i o = o := by rw [useF]
attribute [local irreducible] useF
set_option maxHeartbeats 8000000 in
theorem best_step {p : Pl} (hp : checkI p = 0) {n : Nat} (H : BestOk p n) : BestOk p (n + 1) := by
  intro r w es hr hsz hes
  have hW := wsOk hp
  obtain ⟨hw4, _, _, hs, _⟩ := check_zero hp
  have hm : ((p.ws.map wtD).length : Int) = p.ws.length := by rw [List.length_map]
  have hwe := wn_eq w Wn.none
  have eb : bestP p r w = bestF (bestP p) p r w := bestP_eq hs.1 w hr.w0 hr.l0
  by_cases h0 : w = Wn.none
  · have e1 : bestP p r w = spUse 0 (-1) := by rw [eb]; unfold bestF; rw [if_pos h0]
    have e2 : memN p (n + 1) r w es = es := by rw [memN, if_pos h0]
    rw [e1, e2]
    have f1 : (w.a == Wn.none.a && (w.b == Wn.none.b && (w.c == Wn.none.c && (w.d == Wn.none.d && true)))) = true := by rw [hwe]; simp [h0]
    refine bor_ofO pg Try.func55 (by kernel_rfl) ?_
    conv => whnf
    (apply kT (f1); conv => whnf)
    (refine ⟨[0, 1], ?_⟩; conv => whnf)
    exact ⟨rfl, rfl⟩
  have f1 : (w.a == Wn.none.a && (w.b == Wn.none.b && (w.c == Wn.none.c && (w.d == Wn.none.d && true)))) = false := by rw [hwe]; simp [h0]
  cases hg : mapGet es (keyD r w) with
  | some v =>
    have e2 : memN p (n + 1) r w es = es := by rw [memN, if_neg h0, hg]
    have hv := hes r w v hr.w0 hr.l0 hg
    subst hv
    rw [e2]
    refine bor_ofO pg Try.func55 (by kernel_rfl) ?_
    conv => whnf
    (apply kF (f1); conv => whnf)
    (refine ⟨_, hg, ?_⟩; conv => whnf)
    (repeat' (first | (apply kT (by with_reducible first | rfl | assumption); conv => whnf) | (apply kF (by with_reducible first | rfl | assumption); conv => whnf) | (apply kT (by decide); conv => whnf) | (apply kF (by decide); conv => whnf) | (apply kB <;> intro _ <;> conv => whnf) | fail))
    (refine ⟨[0, 1], ?_⟩; conv => whnf)
    exact ⟨rfl, rfl⟩
  | none =>
    have e2 : memN p (n + 1) r w es = mapSet ((cutsL r p.s).foldl (fun es c => (partsW w Wn.none 4).foldl (memF (memN p n) (partsL r c.ac c.at_ p.s) w) es) es) (keyD r w) (.agg (spD (bestP p r w))) := by
      rw [memN, if_neg h0, hg, bestN_stable hs.1 (n + 1) w hr.w0 hr.l0 hsz]
    have e1 : bestP p r w = (cutsL r p.s).foldl (fun o c => (partsW w Wn.none 4).foldl (seeS (bestP p) (partsL r c.ac c.at_ p.s) w c) o) (useF p r w p.ws.length 0 (spUse 0 (-1))) := by
      rw [eb]; unfold bestF; rw [if_neg h0]
    rw [e2]
    clear e2
    obtain ⟨B, hB⟩ : ∃ B, B = bestP p r w := ⟨_, rfl⟩
    rw [← hB] at e1 ⊢
    have hcl : (cutsL r p.s).length ≤ 300 := by
      have := hr.w0; have := hr.l0; have := hr.x0; have := hr.y0; have := hr.x1; have := hr.y1
      have q1 := cutsF_len r p.s false (r.w + 1).toNat 0
      have q2 := cutsF_len r p.s true (r.l + 1).toNat 0
      unfold cutsL
      rw [List.length_append]; omega
    have hmem := fun c (hc : c ∈ cutsL r p.s) => cutsL_mem hr hc
    have cc := cuts_bor p es hs hr
    obtain ⟨CL, hCL⟩ : ∃ CL, CL = cutsL r p.s := ⟨_, rfl⟩
    rw [← hCL] at e1 hcl hmem cc ⊢
    have hmc : ((CL.map ctD).length : Int) = CL.length := by rw [List.length_map]
    refine bor_ofO pg Try.func55 (by kernel_rfl) ?_
    conv => whnf
    (apply kF (f1); conv => whnf)
    (refine ⟨_, hg, ?_⟩; conv => whnf)
    (repeat' (first | (apply kT (by with_reducible first | rfl | assumption); conv => whnf) | (apply kF (by with_reducible first | rfl | assumption); conv => whnf) | (apply kT (by decide); conv => whnf) | (apply kF (by decide); conv => whnf) | (apply kB <;> intro _ <;> conv => whnf) | fail))
    obtain ⟨O0, hO0⟩ : ∃ O0 : Sp → Es → List (Nat × Ob), O0 = fun o es => [(0, ctO p 1), (1, .map 126 123 es), (2, .var false 113 [.ref 0 0]),
      (3, .var false 126 [.d (dI r.x), .d (dI r.y), .d (dI r.w), .d (dI r.l), .d (dB w.a), .d (dB w.b), .d (dB w.c), .d (dB w.d)]), (4, .var false 123 ((spD ⟨0, 0, 0, false, ⟨0, false, 0⟩, Wn.none⟩).map A.d)), (5, .var false 123 ((spD o).map A.d))] := ⟨_, rfl⟩
    refine ⟨[], [2, 3, 4, 5, 8, 38, 39], [0, 1, 2, 3, 4, 5], 6, fun m s => ∃ (k : Nat) (o : Sp), k + m = p.ws.length ∧ useF p r w (p.ws.length - k) k o = useF p r w p.ws.length 0 (spUse 0 (-1)) ∧
      s = ⟨[(2, .ref 2 0), (3, .ref 3 0), (4, .ref 4 0), (5, .ref 5 0), (8, .fn (.func 73) [.ref 0 0] []), (38, .d (dI (p.ws.map wtD).length)), (39, .d (dI k))], O0 o es, 6⟩, ?_, ?_⟩
    · conv => whnf
      exact ⟨p.ws.length, 0, spUse 0 (-1), by omega, by rw [Nat.sub_zero], by rw [hO0]; rfl⟩
    · rintro m _ ⟨k, o, hk, hrun, rfl⟩
      rw [hO0]
      by_cases hlt : k < p.ws.length
      · have f2 : decide ((k : Int) < ((p.ws.map wtD).length : Int)) = true := decide_eq_true (by rw [hm]; omega)
        obtain ⟨j, hj⟩ : ∃ j, p.ws.length - k = j + 1 := ⟨p.ws.length - k - 1, by omega⟩
        have hj' : p.ws.length - (k + 1) = j := by omega
        rw [hj, useF_next] at hrun
        have cm := may_bor p es k hlt r
        have cb := better_pure (wtAt p.ws k).g 0 o.g o.c
        have hgw := getwa hlt
        have w1k := w1 k (by omega)
        generalize wtAt p.ws k = wk at hrun cm cb hgw
        cases hw : w.get k with
        | false =>
          rw [if_neg (by simp [hw])] at hrun
          have hk4 : k = 0 ∨ k = 1 ∨ k = 2 ∨ k = 3 := by omega
          rcases hk4 with rfl | rfl | rfl | rfl
          all_goals
            simp only [Wn.get] at hw
            conv => whnf
            (repeat' (first | (apply kT (by with_reducible first | rfl | assumption); conv => whnf) | (apply kF (by with_reducible first | rfl | assumption); conv => whnf) | (apply kT (by decide); conv => whnf) | (apply kF (by decide); conv => whnf) | (apply kB <;> intro _ <;> conv => whnf) | fail))
            (refine ⟨_, _, rfl, hgw, rfl, ?_⟩; conv => whnf)
            (refine ⟨_, rfl, by decide, ?_⟩; conv => whnf)
            (repeat' (first | (apply kT (by with_reducible first | rfl | assumption); conv => whnf) | (apply kF (by with_reducible first | rfl | assumption); conv => whnf) | (apply kT (by decide); conv => whnf) | (apply kF (by decide); conv => whnf) | (apply kB <;> intro _ <;> conv => whnf) | fail))
            refine ⟨m - 1, by omega, _, o, by omega, hj' ▸ hrun, ?_⟩
            rfl
        | true =>
          cases hf : fitsB wk r with
          | false =>
            rw [if_neg (by simp [hf])] at hrun
            rw [hf] at cm
            have hk4 : k = 0 ∨ k = 1 ∨ k = 2 ∨ k = 3 := by omega
            rcases hk4 with rfl | rfl | rfl | rfl
            all_goals
              simp only [Wn.get] at hw
              conv => whnf
              (repeat' (first | (apply kT (by with_reducible first | rfl | assumption); conv => whnf) | (apply kF (by with_reducible first | rfl | assumption); conv => whnf) | (apply kT (by decide); conv => whnf) | (apply kF (by decide); conv => whnf) | (apply kB <;> intro _ <;> conv => whnf) | fail))
              (refine ⟨_, _, rfl, hgw, rfl, ?_⟩; conv => whnf)
              (refine ⟨_, rfl, by decide, ?_⟩; conv => whnf)
              (repeat' (first | (apply kT (by with_reducible first | rfl | assumption); conv => whnf) | (apply kF (by with_reducible first | rfl | assumption); conv => whnf) | (apply kT (by decide); conv => whnf) | (apply kF (by decide); conv => whnf) | (apply kB <;> intro _ <;> conv => whnf) | fail))
              (refine .inr ⟨[0, 1], 2, _, _, cm, ?_⟩; conv => whnf)
              (repeat' (first | (apply kT (by with_reducible first | rfl | assumption); conv => whnf) | (apply kF (by with_reducible first | rfl | assumption); conv => whnf) | (apply kT (by decide); conv => whnf) | (apply kF (by decide); conv => whnf) | (apply kB <;> intro _ <;> conv => whnf) | fail))
              refine ⟨m - 1, by omega, _, o, by omega, hj' ▸ hrun, ?_⟩
              rfl
          | true =>
            rw [hf] at cm
            cases hbt : betB wk.g 0 o.g o.c with
            | false =>
              rw [if_neg (by simp [hbt])] at hrun
              rw [hbt] at cb
              have hk4 : k = 0 ∨ k = 1 ∨ k = 2 ∨ k = 3 := by omega
              rcases hk4 with rfl | rfl | rfl | rfl
              all_goals
                simp only [Wn.get] at hw
                conv => whnf
                (repeat' (first | (apply kT (by with_reducible first | rfl | assumption); conv => whnf) | (apply kF (by with_reducible first | rfl | assumption); conv => whnf) | (apply kT (by decide); conv => whnf) | (apply kF (by decide); conv => whnf) | (apply kB <;> intro _ <;> conv => whnf) | fail))
                (refine ⟨_, _, rfl, hgw, rfl, ?_⟩; conv => whnf)
                (refine ⟨_, rfl, by decide, ?_⟩; conv => whnf)
                (repeat' (first | (apply kT (by with_reducible first | rfl | assumption); conv => whnf) | (apply kF (by with_reducible first | rfl | assumption); conv => whnf) | (apply kT (by decide); conv => whnf) | (apply kF (by decide); conv => whnf) | (apply kB <;> intro _ <;> conv => whnf) | fail))
                (refine .inr ⟨[0, 1], 2, _, _, cm, ?_⟩; conv => whnf)
                (repeat' (first | (apply kT (by with_reducible first | rfl | assumption); conv => whnf) | (apply kF (by with_reducible first | rfl | assumption); conv => whnf) | (apply kT (by decide); conv => whnf) | (apply kF (by decide); conv => whnf) | (apply kB <;> intro _ <;> conv => whnf) | (refine .inl ⟨_, cb, ?_⟩; conv => whnf) | fail))
                refine ⟨m - 1, by omega, _, o, by omega, hj' ▸ hrun, ?_⟩
                rfl
            | true =>
              rw [if_pos ⟨hw, hf, hbt⟩] at hrun
              rw [hbt] at cb
              have hk4 : k = 0 ∨ k = 1 ∨ k = 2 ∨ k = 3 := by omega
              rcases hk4 with rfl | rfl | rfl | rfl
              all_goals
                simp only [Wn.get] at hw
                conv => whnf
                (repeat' (first | (apply kT (by with_reducible first | rfl | assumption); conv => whnf) | (apply kF (by with_reducible first | rfl | assumption); conv => whnf) | (apply kT (by decide); conv => whnf) | (apply kF (by decide); conv => whnf) | (apply kB <;> intro _ <;> conv => whnf) | fail))
                (refine ⟨_, _, rfl, hgw, rfl, ?_⟩; conv => whnf)
                (refine ⟨_, rfl, by decide, ?_⟩; conv => whnf)
                (repeat' (first | (apply kT (by with_reducible first | rfl | assumption); conv => whnf) | (apply kF (by with_reducible first | rfl | assumption); conv => whnf) | (apply kT (by decide); conv => whnf) | (apply kF (by decide); conv => whnf) | (apply kB <;> intro _ <;> conv => whnf) | fail))
                (refine .inr ⟨[0, 1], 2, _, _, cm, ?_⟩; conv => whnf)
                (repeat' (first | (apply kT (by with_reducible first | rfl | assumption); conv => whnf) | (apply kF (by with_reducible first | rfl | assumption); conv => whnf) | (apply kT (by decide); conv => whnf) | (apply kF (by decide); conv => whnf) | (apply kB <;> intro _ <;> conv => whnf) | (refine .inl ⟨_, cb, ?_⟩; conv => whnf) | fail))
                refine ⟨m - 1, by omega, _, _, by omega, hj' ▸ hrun, ?_⟩
                rfl
      · have f2 : decide ((k : Int) < ((p.ws.map wtD).length : Int)) = false := decide_eq_false (by rw [hm]; omega)
        rw [show p.ws.length - k = 0 by omega, useF_zero] at hrun
        rw [← hrun] at e1
        conv => whnf
        (repeat' (first | (apply kT (by with_reducible first | rfl | assumption); conv => whnf) | (apply kF (by with_reducible first | rfl | assumption); conv => whnf) | (apply kT (by decide); conv => whnf) | (apply kF (by decide); conv => whnf) | (apply kB <;> intro _ <;> conv => whnf) | fail))
        (refine .inr ⟨[0, 1], 2, _, _, cc, ?_⟩; conv => whnf)
        obtain ⟨FO, hFO⟩ : ∃ FO : List Ct → Sp → Sp, FO = fun l o => l.foldl (fun o c => (partsW w Wn.none 4).foldl (seeS (bestP p) (partsL r c.ac c.at_ p.s) w c) o) o := ⟨_, rfl⟩
        obtain ⟨FE, hFE⟩ : ∃ FE : List Ct → Es → Es, FE = fun l es => l.foldl (fun es c => (partsW w Wn.none 4).foldl (memF (memN p n) (partsL r c.ac c.at_ p.s) w) es) es := ⟨_, rfl⟩
        refine ⟨[], [2, 3, 4, 5, 76, 77, 78], [0, 1, 2, 3, 4, 5], 6, fun m s => ∃ (k : Nat) (o' : Sp) (es' : Es), k + m = CL.length ∧ FO (CL.drop k) o' = B ∧ FE (CL.drop k) es' = FE CL es ∧ OkM p es' ∧
          s = ⟨[(2, .ref 2 0), (3, .ref 3 0), (4, .ref 4 0), (5, .ref 5 0), (76, .d (ctsD CL)), (77, .d (dI (CL.map ctD).length)), (78, .d (dI k))], O0 o' es', 6⟩, ?_, ?_⟩
        · conv => whnf
          refine ⟨CL.length, 0, o, es, by omega, ?_, rfl, hes, by rw [hO0]; rfl⟩
          rw [hFO, e1]; rfl
        · rintro m' _ ⟨k', o', es', hk', h1, h2, h3, rfl⟩
          rw [hO0]
          by_cases hlt' : k' < CL.length
          · have f3 : decide ((k' : Int) < ((CL.map ctD).length : Int)) = true := decide_eq_true (by rw [hmc]; omega)
            rw [List.drop_eq_getElem_cons hlt', hFO] at h1
            dsimp only at h1
            rw [List.foldl_cons] at h1
            rw [List.drop_eq_getElem_cons hlt', hFE] at h2
            dsimp only at h2
            rw [List.foldl_cons] at h2
            have hq := getc CL k' hlt'
            obtain ⟨_, m1, m2, m3⟩ := hmem _ (List.getElem_mem hlt')
            generalize CL[k'] = c at h1 h2 hq m1 m2 m3
            have cd := collect_bor hr c.ac (a := c.at_) (s := p.s) ⟨by omega, by omega⟩ hs.1 hs.2
            have hl2 := parts_len r c.ac c.at_ p.s
            have hsm := part_small (q := r) (ac := c.ac) (a := c.at_) hs.1 hr.w0 hr.l0
            have hok := parts_ok hr (ac := c.ac) (a := c.at_) hs.1
            generalize partsL r c.ac c.at_ p.s = l at h1 h2 cd hl2 hsm hok m3
            have hlk : ∀ t ∈ l, OkP t ∧ sizeP t ≤ n := fun t ht => ⟨hok t ht, by have := (hsm t ht).1; omega⟩
            have cs := some_bor hW H (q := r) w c o' h3 (l := l) (by have := List.length_pos_iff.2 m3; omega) hlk
            have h3' := fold_ok hW hlk (w := w) (partsW w Wn.none 4) h3
            conv => whnf
            (repeat' (first | (apply kT (by with_reducible first | rfl | assumption); conv => whnf) | (apply kF (by with_reducible first | rfl | assumption); conv => whnf) | (apply kT (by decide); conv => whnf) | (apply kF (by decide); conv => whnf) | (apply kB <;> intro _ <;> conv => whnf) | fail))
            (refine ⟨k', _, rfl, hq, rfl, ?_⟩; conv => whnf)
            (refine .inl ⟨_, of_pure c, ?_⟩; conv => whnf)
            (refine .inr ⟨[], 4, _, _, parts_bor .., ?_⟩; conv => whnf)
            (refine .inr ⟨[95, 96, 97, 98], 4, _, _, cd, ?_⟩; conv => whnf)
            (refine .inr ⟨[111, 3, 2, 5, 6, 0, 1], 7, _, _, cs, ?_⟩; conv => whnf)
            refine ⟨m' - 1, by omega, k' + 1, _, _, by omega, by rw [hFO]; exact h1, by rw [hFE]; exact h2, h3', ?_⟩
            rw [w1 k' (by omega)]
            rfl
          · have f3 : decide ((k' : Int) < ((CL.map ctD).length : Int)) = false := decide_eq_false (by rw [hmc]; omega)
            rw [List.drop_of_length_le (by omega), hFO] at h1
            rw [List.drop_of_length_le (by omega), hFE] at h2
            dsimp only [List.foldl_nil] at h1 h2
            rw [h1]
            rw [← h2]
            conv => whnf
            (repeat' (first | (apply kT (by with_reducible first | rfl | assumption); conv => whnf) | (apply kF (by with_reducible first | rfl | assumption); conv => whnf) | (apply kT (by decide); conv => whnf) | (apply kF (by decide); conv => whnf) | (apply kB <;> intro _ <;> conv => whnf) | fail))
            (refine ⟨_, rfl, ?_⟩; conv => whnf)
            (refine ⟨[0, 1], ?_⟩; conv => whnf)
            exact ⟨rfl, rfl⟩
theorem best_ok {p : Pl} (hp : checkI p = 0) : ∀ n, BestOk p n
  | 0 => fun r w es hr hsz _ => by
    have := hr.w0; have := hr.l0
    unfold sizeP at hsz; omega
  | n + 1 => best_step hp (best_ok hp n)
end Go.Ev.Ytojlbcodfebmgaa

set_option linter.unusedVariables false
set_option linter.unusedSimpArgs false
set_option maxRecDepth 100000
namespace Go.Ev.Ytojlbcodfebmgaa
open Go.Proofs
/-! ### what is done first is a use, or a cut -/
structure UseS (p : Pl) (q : Pc) (w : Wn) (o : Sp) : Prop where
  cutB : o.cut = true → o.use = -1 ∧ o.how ∈ cutsL q p.s ∧ (o.first ∈ partsW w Wn.none 4) ∧ ((partsL q o.how.ac o.how.at_ p.s).length = 1 → o.first = w) ∧
    o.g = (seeG (bestP p) (partsL q o.how.ac o.how.at_ p.s) o.first w).1 ∧ o.c = (seeG (bestP p) (partsL q o.how.ac o.how.at_ p.s) o.first w).2
  noCutB : o.cut = false → (o.use = -1 ∧ o.g = 0 ∧ o.c = 0) ∨ (0 ≤ o.use ∧ o.use < p.ws.length ∧ w.get o.use.toNat = true ∧ fitsB (wtAt p.ws o.use.toNat) q = true ∧ o.g = (wtAt p.ws o.use.toNat).g ∧ o.c = 0)
theorem useF_use {p : Pl} {q : Pc} {w : Wn} : ∀ (k i : Nat) (o : Sp), i + k ≤ p.ws.length → UseS p q w o → UseS p q w (useF p q w k i o)
  | 0, i, o, _, h => by rw [useF]; exact h
  | k + 1, i, o, hi, h => by
    rw [useF]
    refine useF_use k (i + 1) _ (by omega) ?_
    split
    · rename_i hc
      refine ⟨fun h => by simp [spUse] at h, fun _ => .inr ⟨by simp [spUse], by simp only [spUse]; omega, ?_, ?_, ?_, rfl⟩⟩
      · simpa [spUse] using hc.1
      · simpa [spUse] using hc.2.1
      · simp [spUse]
    · exact h
theorem foldl_mem {α β : Type} {P : β → Prop} {f : β → α → β} : ∀ (l : List α) (b : β), P b → (∀ b a, a ∈ l → P b → P (f b a)) → P (l.foldl f b) := fun l b h hf => foldl_inv l b h hf
theorem bestP_use {p : Pl} (hs : 0 ≤ p.s) {q : Pc} (hq : OkP q) (w : Wn) : UseS p q w (bestP p q w) := by
  have h0 : UseS p q w (spUse 0 (-1)) := ⟨fun h => by simp [spUse] at h, fun _ => .inl ⟨rfl, rfl, rfl⟩⟩
  rw [bestP_eq hs w hq.w0 hq.l0]
  unfold bestF
  split
  · exact h0
  · refine foldl_inv (P := UseS p q w) _ _ (useF_use _ _ _ (by omega) h0) fun o c hc ho => foldl_inv (P := UseS p q w) _ _ ho fun o part hpart ho => ?_
    unfold seeS
    split
    · exact ho
    · rename_i hn
      split
      · refine ⟨fun _ => ⟨rfl, hc, hpart, fun h1 => ?_, rfl, rfl⟩, fun h => by simp at h⟩
        exact Decidable.byContradiction fun h => hn ⟨h1, h⟩
      · exact ho
/-! ### how a plan is laid -/
structure Ds where
  (ps : List Pc)
  (cs : List Ct)
  (us : List Int)
  (es : Es)
def useU (us : List Int) (use : Int) (n : Nat) : List Int := if use = -1 then us else us.set use.toNat (n : Int)
def doN (p : Pl) : Nat → Nat → Wn → Ds → Ds
  | 0, _, _, d => d
  | k + 1, n, w, d =>
    if (bestP p (pcAt d.ps n) w).cut = false then ⟨d.ps, d.cs, useU d.us (bestP p (pcAt d.ps n) w).use n, memN p (sizeP (pcAt d.ps n)) (pcAt d.ps n) w d.es⟩ else
    match partsL (pcAt d.ps n) (bestP p (pcAt d.ps n) w).how.ac (bestP p (pcAt d.ps n) w).how.at_ p.s with
    | [a] => doN p k d.ps.length (bestP p (pcAt d.ps n) w).first ⟨d.ps ++ [a], d.cs ++ [⟨n, (bestP p (pcAt d.ps n) w).how.ac, (bestP p (pcAt d.ps n) w).how.at_⟩], d.us, memN p (sizeP (pcAt d.ps n)) (pcAt d.ps n) w d.es⟩
    | [a, b] => doN p k (d.ps.length + 1) (w.less (bestP p (pcAt d.ps n) w).first) (doN p k d.ps.length (bestP p (pcAt d.ps n) w).first ⟨d.ps ++ [a, b], d.cs ++ [⟨n, (bestP p (pcAt d.ps n) w).how.ac, (bestP p (pcAt d.ps n) w).how.at_⟩], d.us, memN p (sizeP (pcAt d.ps n)) (pcAt d.ps n) w d.es⟩)
    | _ => d
structure DsOk (p : Pl) (d : Ds) : Prop where
  pcs : ∀ q ∈ d.ps, OkP q
  es : OkM p d.es
  us : d.us.length = p.ws.length
theorem DsOk.at {p : Pl} {d : Ds} (h : DsOk p d) {n : Nat} (hn : n < d.ps.length) : OkP (pcAt d.ps n) := by
  unfold pcAt
  rw [Int.toNat_natCast, List.getElem?_eq_getElem hn]
  exact h.pcs _ (List.getElem_mem _)
theorem pcAt_app {l r : List Pc} {n : Nat} (h : n < l.length) : pcAt (l ++ r) n = pcAt l n := by
  unfold pcAt
  rw [Int.toNat_natCast, List.getElem?_append_left h]
theorem pcAt_app0 {l r : List Pc} {a : Pc} : pcAt (l ++ a :: r) l.length = a := by
  unfold pcAt
  rw [Int.toNat_natCast, List.getElem?_append_right (Nat.le_refl _), Nat.sub_self]; rfl
theorem pcAt_app1 {l r : List Pc} {a b : Pc} : pcAt (l ++ a :: b :: r) ((l.length + 1 : Nat) : Int) = b := by
  unfold pcAt
  rw [Int.toNat_natCast, List.getElem?_append_right (by omega), show l.length + 1 - l.length = 1 by omega]; rfl
theorem useU_len (us : List Int) (use : Int) (n : Nat) : (useU us use n).length = us.length := by unfold useU; split <;> simp
def unitsP (q : Pc) : Nat := (q.w * q.l).toNat
theorem unitsP_pos {q : Pc} (h : OkP q) : (unitsP q : Int) = q.w * q.l ∧ 1 ≤ unitsP q ∧ unitsP q ≤ 10000 := by
  have := units_le h
  unfold unitsP
  omega
/-- how it grows -/
structure Grows (p : Pl) (u : Nat) (d d' : Ds) : Prop where
  ok : DsOk p d'
  pre : ∃ t, d'.ps = d.ps ++ t ∧ t.length ≤ 2 * (u - 1)
  cuts : ∃ t, d'.cs = d.cs ++ t ∧ t.length ≤ u - 1
theorem doN_grows {p : Pl} (hs : 0 ≤ p.s) : ∀ (k n : Nat) (w : Wn) (d : Ds), DsOk p d → n < d.ps.length → sizeP (pcAt d.ps n) ≤ k → Grows p (unitsP (pcAt d.ps n)) d (doN p k n w d)
  | 0, n, w, d, h, hn, hk => by
    have := (h.at hn).w0; have := (h.at hn).l0
    unfold sizeP at hk; omega
  | k + 1, n, w, d, h, hn, hk => by
    have hq := h.at hn
    have hu := bestP_use hs hq w
    have hes := memN_ok hs (sizeP (pcAt d.ps n)) w d.es hq.w0 hq.l0 (Nat.le_refl _) h.es
    have hsm := fun (ac : Bool) (a : Int) => part_small (q := pcAt d.ps n) (ac := ac) (a := a) hs hq.w0 hq.l0
    have hok := fun (ac : Bool) (a : Int) => parts_ok hq (ac := ac) (a := a) hs
    have hu1 := fun (ac : Bool) (a : Int) r => units_one (q := pcAt d.ps n) (r := r) (ac := ac) (a := a) hs hq
    have hu2 := fun (ac : Bool) (a : Int) r t => units_two (q := pcAt d.ps n) (r := r) (t := t) (ac := ac) (a := a) hs hq
    have huq := unitsP_pos hq
    rw [doN]
    generalize memN p (sizeP (pcAt d.ps n)) (pcAt d.ps n) w d.es = es1 at hes
    generalize hS : bestP p (pcAt d.ps n) w = S at hu
    generalize hQ : pcAt d.ps n = q at hq hu hsm hok hu1 hu2 huq hk
    split
    · exact ⟨⟨h.pcs, hes, by rw [useU_len]; exact h.us⟩, ⟨[], by simp, Nat.zero_le _⟩, ⟨[], by simp, Nat.zero_le _⟩⟩
    · rename_i hc
      have hne := (cutsL_mem hq (hu.cutB ((Bool.not_eq_false _).mp hc)).2.1).2.2.2
      have hsm := hsm S.how.ac S.how.at_
      have hok := hok S.how.ac S.how.at_
      have hu1 := hu1 S.how.ac S.how.at_
      have hu2 := hu2 S.how.ac S.how.at_
      have hl := parts_len q S.how.ac S.how.at_ p.s
      generalize partsL q S.how.ac S.how.at_ p.s = l at hsm hok hu1 hu2 hl hne
      match l, hsm, hok, hu1, hu2, hl, hne with
      | [], _, _, _, _, _, hne => exact absurd rfl hne
      | [a], hsm, hok, hu1, _, _, _ =>
        have ha := hok a (by simp)
        have hau := unitsP_pos ha
        have h1 := hu1 a rfl
        have e1 : pcAt (d.ps ++ [a]) d.ps.length = a := pcAt_app0
        have ih := doN_grows hs k d.ps.length S.first ⟨d.ps ++ [a], d.cs ++ [⟨n, S.how.ac, S.how.at_⟩], d.us, es1⟩ ⟨fun q hq => by
          rcases List.mem_append.1 hq with hq | hq
          · exact h.pcs q hq
          · simp only [List.mem_singleton] at hq; subst hq; exact ha, hes, h.us⟩ (by simp) (by dsimp only; rw [e1]; have := (hsm a (by simp)).1; omega)
        dsimp only at ih
        rw [e1] at ih
        obtain ⟨i1, ⟨t, i2, i3⟩, ⟨t', i4, i5⟩⟩ := ih
        exact ⟨i1, ⟨a :: t, by rw [i2]; simp, by simp; omega⟩, ⟨⟨n, S.how.ac, S.how.at_⟩ :: t', by rw [i4]; simp, by simp; omega⟩⟩
      | [a, b], hsm, hok, _, hu2, _, _ =>
        have ha := hok a (by simp)
        have hb := hok b (by simp)
        have hau := unitsP_pos ha
        have hbu := unitsP_pos hb
        obtain ⟨h1, _, _⟩ := hu2 a b rfl
        have e1 : pcAt (d.ps ++ [a, b]) d.ps.length = a := pcAt_app0
        have ih := doN_grows hs k d.ps.length S.first ⟨d.ps ++ [a, b], d.cs ++ [⟨n, S.how.ac, S.how.at_⟩], d.us, es1⟩ ⟨fun q hq => by
          rcases List.mem_append.1 hq with hq | hq
          · exact h.pcs q hq
          · simp only [List.mem_cons, List.not_mem_nil, or_false] at hq; rcases hq with rfl | rfl <;> first | exact ha | exact hb, hes, h.us⟩ (by simp) (by dsimp only; rw [e1]; have := (hsm a (by simp)).1; omega)
        dsimp only at ih
        rw [e1] at ih
        show Grows p (unitsP q) d (doN p k (d.ps.length + 1) (w.less S.first) (doN p k d.ps.length S.first ⟨d.ps ++ [a, b], d.cs ++ [⟨n, S.how.ac, S.how.at_⟩], d.us, es1⟩))
        generalize doN p k d.ps.length S.first ⟨d.ps ++ [a, b], d.cs ++ [⟨n, S.how.ac, S.how.at_⟩], d.us, es1⟩ = d1 at ih ⊢
        obtain ⟨i1, ⟨t, i2, i3⟩, ⟨t', i4, i5⟩⟩ := ih
        have e2 : pcAt d1.ps ((d.ps.length + 1 : Nat) : Int) = b := by
          rw [i2, List.append_assoc]
          exact pcAt_app1 (r := t)
        have ih2 := doN_grows hs k (d.ps.length + 1) (w.less S.first) d1 i1 (by rw [i2]; simp) (by rw [e2]; have := (hsm b (by simp)).1; omega)
        rw [e2] at ih2
        obtain ⟨j1, ⟨s, j2, j3⟩, ⟨s', j4, j5⟩⟩ := ih2
        exact ⟨j1, ⟨a :: b :: (t ++ s), by rw [j2, i2]; simp, by simp; omega⟩, ⟨⟨n, S.how.ac, S.how.at_⟩ :: (t' ++ s'), by rw [j4, i4]; simp, by simp; omega⟩⟩
      | _ :: _ :: _ :: _, _, _, _, _, hl, _ => simp at hl
end Go.Ev.Ytojlbcodfebmgaa
