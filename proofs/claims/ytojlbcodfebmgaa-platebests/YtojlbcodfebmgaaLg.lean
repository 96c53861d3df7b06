/-
  Contracts of functions, and plain laws, that lead to the statement. Written by an agent.
-/
import Derived.Test.YtojlbcodfebmgaaRows
import Derived.Test.YtojlbcodfebmgaaLf
set_option linter.unusedVariables false
set_option linter.unusedSimpArgs false
set_option maxRecDepth 100000
namespace Go.Ev.Ytojlbcodfebmgaa
open Go.Proofs
attribute [local irreducible] Pure Bor Iter inB wtB partsL stepC useB usesB fitsB runC weighL uIdx betB cutsF bestP seeS memF cutsL partsW useF memN doN
theorem plnI_long {p : Pl} {x : Pn} (hp : checkI p = 0) (h : 40 < x.cs.length) : plnI p x = 3 := by unfold plnI; rw [if_neg (by omega), if_pos h]
theorem plnI_none {p : Pl} {x : Pn} (hp : checkI p = 0) (h : x.cs.length ≤ 40) (hr : runC p.s x.cs (st0 p) = none) : plnI p x = 11 := by unfold plnI; rw [if_neg (by omega), if_neg (by omega), hr]
theorem plnI_some {p : Pl} {x : Pn} (hp : checkI p = 0) (h : x.cs.length ≤ 40) {st : St2} (hr : runC p.s x.cs (st0 p) = some st) : plnI p x = if x.us.length ≠ p.ws.length ∨ x.us.all (useB st) = false then 2 else if usesB p.ws st x.us 0 [] then 0 else 11 := by unfold plnI; rw [if_neg (by omega), if_neg (by omega), hr]
def seenL (us : List Int) (k : Nat) : List Int := (us.take k).filter (· ≠ -1)
theorem seenL_skip {us : List Int} {k : Nat} (h : k < us.length) (hn : us[k] = -1) : seenL us (k + 1) = seenL us k := by
  unfold seenL
  rw [List.take_add_one, List.getElem?_eq_getElem h, List.filter_append, hn]
  simp
theorem seenL_next {us : List Int} {k : Nat} (h : k < us.length) (hn : us[k] ≠ -1) : seenL us (k + 1) = seenL us k ++ [us[k]] := by
  unfold seenL
  rw [List.take_add_one, List.getElem?_eq_getElem h, List.filter_append]
  simp [hn]
theorem seenL_mem {us : List Int} {k : Nat} {n : Int} (hn : n ≠ -1) : n ∈ seenL us k ↔ ∃ (i : Nat) (h : i < us.length), i < k ∧ us[i] = n := by
  unfold seenL
  rw [List.mem_filter, List.mem_take_iff_getElem]
  constructor
  · rintro ⟨⟨i, h, e⟩, _⟩
    exact ⟨i, by omega, by omega, e⟩
  · rintro ⟨i, h, hk, e⟩
    exact ⟨⟨i, by omega, e⟩, by simpa using hn⟩
theorem getiw (l : List Int) (k : Nat) (h : k < l.length) : (l.map fun n => [dI n])[k]? = some [dI l[k]] := geti l k h
set_option maxHeartbeats 4000000 in
theorem planFault_pure {p : Pl} (hp : checkI p = 0) {x : Pn} (hl : x.cs.length ≤ 45) (hul : x.us.length ≤ 100000) :
    Pure Try.prog 32 [plD p, pnD x] (dI (plnI p x)) := by
  have hm : ((x.cs.map ctD).length : Int) = x.cs.length := by rw [List.length_map]
  have hmu : ((x.us.map fun n => [dI n]).length : Int) = x.us.length := by rw [List.length_map]
  have hmw : ((p.ws.map wtD).length : Int) = p.ws.length := by rw [List.length_map]
  by_cases h40 : 40 < x.cs.length
  · have f1 : decide (((x.cs.map ctD).length : Int) > 40) = true := decide_eq_true (by rw [hm]; omega)
    rw [plnI_long hp h40]
    refine pure_of pg Try.func32 (by kernel_rfl) ?_
    conv => whnf
    (repeat' (first | (apply kT (by with_reducible first | rfl | assumption); conv => whnf) | (apply kF (by with_reducible first | rfl | assumption); conv => whnf) | (apply kT (by decide); conv => whnf) | (apply kF (by decide); conv => whnf) | (apply kB <;> intro _ <;> conv => whnf) | fail))
    rfl
  have f1 : decide (((x.cs.map ctD).length : Int) > 40) = false := decide_eq_false (by rw [hm]; omega)
  have cp := piecesR_pure hp (cs := x.cs) hl rfl
  cases hr : runC p.s x.cs (st0 p) with
  | none =>
    rw [hr] at cp
    rw [plnI_none hp (by omega) hr]
    refine pure_of pg Try.func32 (by kernel_rfl) ?_
    conv => whnf
    (repeat' (first | (apply kT (by with_reducible first | rfl | assumption); conv => whnf) | (apply kF (by with_reducible first | rfl | assumption); conv => whnf) | (apply kT (by decide); conv => whnf) | (apply kF (by decide); conv => whnf) | (apply kB <;> intro _ <;> conv => whnf) | (refine .inl ⟨_, cp, ?_⟩; conv => whnf) | fail))
    rfl
  | some st =>
    rw [hr] at cp
    have hok := runC_ok hp (st0_ok hp) hr
    rw [plnI_some hp (by omega) hr]
    by_cases hn : x.us.length ≠ p.ws.length
    · have f2 : (((x.us.map fun n => [dI n]).length : Int) != ((p.ws.map wtD).length : Int)) = true := by rw [hmu, hmw]; simp; omega
      rw [if_pos (.inl hn)]
      refine pure_of pg Try.func32 (by kernel_rfl) ?_
      conv => whnf
      (repeat' (first | (apply kT (by with_reducible first | rfl | assumption); conv => whnf) | (apply kF (by with_reducible first | rfl | assumption); conv => whnf) | (apply kT (by decide); conv => whnf) | (apply kF (by decide); conv => whnf) | (apply kB <;> intro _ <;> conv => whnf) | (refine .inl ⟨_, cp, ?_⟩; conv => whnf) | fail))
      rfl
    have hn := Decidable.not_not.1 hn
    have f2 : (((x.us.map fun n => [dI n]).length : Int) != ((p.ws.map wtD).length : Int)) = false := by rw [hmu, hmw]; simp; omega
    have hsl : st.1.length ≤ 1000 := by have := hok.2; simp only [st0, List.length_singleton] at this; omega
    have hok := hok.1
    have hpl : ((st.1.map pcD).length : Int) = st.1.length := by rw [List.length_map]
    have hbl : (bsE st.2).length = st.1.length := by rw [List.length_map, hok.len]
    have wl : IntKind.i64.wrap (((st.1.map pcD).length : Int) - 1) = (st.1.length : Int) - 1 := by rw [hpl]; exact wS (by omega) (by omega)
    obtain ⟨z, hz⟩ : ∃ z : Int, z = if x.us.length ≠ p.ws.length ∨ x.us.all (useB st) = false then 2 else if usesB p.ws st x.us 0 [] then 0 else 11 := ⟨_, rfl⟩
    rw [← hz]
    refine pure_of pg Try.func32 (by kernel_rfl) ?_
    conv => whnf
    (repeat' (first | (apply kT (by with_reducible first | rfl | assumption); conv => whnf) | (apply kF (by with_reducible first | rfl | assumption); conv => whnf) | (apply kT (by decide); conv => whnf) | (apply kF (by decide); conv => whnf) | (apply kB <;> intro _ <;> conv => whnf) | (refine .inl ⟨_, cp, ?_⟩; conv => whnf) | fail))
    refine ⟨[], [2, 3, 4, 5, 6, 8], [0, 1], 2, fun m s => ∃ k : Nat, k + m = x.us.length ∧ (∀ (i : Nat) (h : i < x.us.length), i < k → useB st x.us[i] = true) ∧
      s = ⟨[(2, .ref 0 0), (3, .ref 1 0), (4, .d (dI 0)), (5, .d (pcsD st.1)), (6, .d (.seq (bsE st.2))), (8, .d (dI k))], [(0, .var false 24 ((plC p).map A.d)), (1, .var false 28 ((pnC x).map A.d))], 2⟩, ?_, ?_⟩
    · conv => whnf
      exact ⟨x.us.length, 0, by omega, fun _ _ h => by omega, rfl⟩
    · rintro m _ ⟨k, hk, hall, rfl⟩
      by_cases hlt : k < x.us.length
      · have f3 : decide ((k : Int) < ((x.us.map fun n => [dI n]).length : Int)) = true := decide_eq_true (by rw [hmu]; omega)
        have ci := in_pure x.us[k] (-1) (IntKind.i64.wrap (((st.1.map pcD).length : Int) - 1))
        have hub : inB x.us[k] (-1) (IntKind.i64.wrap (((st.1.map pcD).length : Int) - 1)) = useB st x.us[k] := by rw [wl]; unfold useB; rfl
        cases hu : useB st x.us[k] with
        | false =>
          have hz2 : z = 2 := by
            rw [hz, if_pos]
            refine .inr ?_
            rw [List.all_eq_false]
            exact ⟨_, List.getElem_mem hlt, by rw [hu]; simp⟩
          rw [hub, hu] at ci
          rw [hz2]
          conv => whnf
          (repeat' (first | (apply kT (by with_reducible first | rfl | assumption); conv => whnf) | (apply kF (by with_reducible first | rfl | assumption); conv => whnf) | (apply kT (by decide); conv => whnf) | (apply kF (by decide); conv => whnf) | (apply kB <;> intro _ <;> conv => whnf) | fail))
          (refine ⟨k, _, rfl, geti x.us k hlt, rfl, ?_⟩; conv => whnf)
          (repeat' (first | (apply kT (by with_reducible first | rfl | assumption); conv => whnf) | (apply kF (by with_reducible first | rfl | assumption); conv => whnf) | (apply kT (by decide); conv => whnf) | (apply kF (by decide); conv => whnf) | (apply kB <;> intro _ <;> conv => whnf) | (refine .inl ⟨_, ci, ?_⟩; conv => whnf) | fail))
          rfl
        | true =>
          rw [hub, hu] at ci
          conv => whnf
          (repeat' (first | (apply kT (by with_reducible first | rfl | assumption); conv => whnf) | (apply kF (by with_reducible first | rfl | assumption); conv => whnf) | (apply kT (by decide); conv => whnf) | (apply kF (by decide); conv => whnf) | (apply kB <;> intro _ <;> conv => whnf) | fail))
          (refine ⟨k, _, rfl, geti x.us k hlt, rfl, ?_⟩; conv => whnf)
          (repeat' (first | (apply kT (by with_reducible first | rfl | assumption); conv => whnf) | (apply kF (by with_reducible first | rfl | assumption); conv => whnf) | (apply kT (by decide); conv => whnf) | (apply kF (by decide); conv => whnf) | (apply kB <;> intro _ <;> conv => whnf) | (refine .inl ⟨_, ci, ?_⟩; conv => whnf) | fail))
          refine ⟨m - 1, by omega, k + 1, by omega, fun i h hi => ?_, ?_⟩
          · rcases Nat.lt_or_ge i k with h' | h'
            · exact hall i h h'
            · have : i = k := by omega
              subst this; exact hu
          · rw [w1 k (by omega)]
            rfl
      · have f3 : decide ((k : Int) < ((x.us.map fun n => [dI n]).length : Int)) = false := decide_eq_false (by rw [hmu]; omega)
        have hall2 : x.us.all (useB st) = true := by
          rw [List.all_eq_true]
          intro y hy
          obtain ⟨i, hi, rfl⟩ := List.getElem_of_mem hy
          exact hall i hi (by omega)
        rw [if_neg (by rw [hall2]; simp [hn])] at hz
        conv => whnf
        (repeat' (first | (apply kT (by with_reducible first | rfl | assumption); conv => whnf) | (apply kF (by with_reducible first | rfl | assumption); conv => whnf) | (apply kT (by decide); conv => whnf) | (apply kF (by decide); conv => whnf) | (apply kB <;> intro _ <;> conv => whnf) | fail))
        refine ⟨[], [2, 3, 4, 5, 6, 9], [0, 1], 2, fun m s => ∃ k : Nat, k + m = x.us.length ∧ usesB p.ws st (x.us.drop k) k (seenL x.us k) = usesB p.ws st x.us 0 [] ∧
          s = ⟨[(2, .ref 0 0), (3, .ref 1 0), (4, .d (dI 0)), (5, .d (pcsD st.1)), (6, .d (.seq (bsE st.2))), (9, .d (dI k))], [(0, .var false 24 ((plC p).map A.d)), (1, .var false 28 ((pnC x).map A.d))], 2⟩, ?_, ?_⟩
        · conv => whnf
          exact ⟨x.us.length, 0, by omega, rfl, rfl⟩
        · rintro m _ ⟨k, hk, hrun, rfl⟩
          by_cases hlt : k < x.us.length
          · have f4 : decide ((k : Int) < ((x.us.map fun n => [dI n]).length : Int)) = true := decide_eq_true (by rw [hmu]; omega)
            have hub := hall k hlt (by omega)
            have hub' : inB x.us[k] (-1) ((st.1.length : Int) - 1) = true := by rw [← hub]; unfold useB; rfl
            have hub2 := inB_true.1 hub'
            rw [List.drop_eq_getElem_cons hlt] at hrun
            by_cases h1 : x.us[k] = -1
            · have f5 : decide (x.us[k] < 0) = true := decide_eq_true (by omega)
              rw [usesB_skip _ _ _ _ _ h1, ← seenL_skip hlt h1] at hrun
              conv => whnf
              (repeat' (first | (apply kT (by with_reducible first | rfl | assumption); conv => whnf) | (apply kF (by with_reducible first | rfl | assumption); conv => whnf) | (apply kT (by decide); conv => whnf) | (apply kF (by decide); conv => whnf) | (apply kB <;> intro _ <;> conv => whnf) | fail))
              (refine ⟨k, _, rfl, geti x.us k hlt, rfl, ?_⟩; conv => whnf)
              (repeat' (first | (apply kT (by with_reducible first | rfl | assumption); conv => whnf) | (apply kF (by with_reducible first | rfl | assumption); conv => whnf) | (apply kT (by decide); conv => whnf) | (apply kF (by decide); conv => whnf) | (apply kB <;> intro _ <;> conv => whnf) | fail))
              refine ⟨m - 1, by omega, k + 1, by omega, hrun, ?_⟩
              rw [w1 k (by omega)]
              rfl
            have f5 : decide (x.us[k] < 0) = false := decide_eq_false (by omega)
            have hn0 : 0 ≤ x.us[k] := by omega
            have hnn : (x.us[k].toNat : Int) = x.us[k] := Int.toNat_of_nonneg hn0
            have hgb := getba (l := st.2) hn0 (by have := hok.len; omega)
            have hgp := getpa (l := st.1) hn0 (by omega)
            have cf := fitsR_pure (wtAt p.ws k) (pcAt st.1 x.us[k])
            cases h2 : cutAt st.2 x.us[k] with
            | true =>
              rw [usesB_bad _ _ _ _ _ h1 (.inr (.inl h2))] at hrun
              rw [h2] at hgb
              rw [hz, ← hrun]
              conv => whnf
              (repeat' (first | (apply kT (by with_reducible first | rfl | assumption); conv => whnf) | (apply kF (by with_reducible first | rfl | assumption); conv => whnf) | (apply kT (by decide); conv => whnf) | (apply kF (by decide); conv => whnf) | (apply kB <;> intro _ <;> conv => whnf) | fail))
              (refine ⟨k, _, rfl, geti x.us k hlt, rfl, ?_⟩; conv => whnf)
              (repeat' (first | (apply kT (by with_reducible first | rfl | assumption); conv => whnf) | (apply kF (by with_reducible first | rfl | assumption); conv => whnf) | (apply kT (by decide); conv => whnf) | (apply kF (by decide); conv => whnf) | (apply kB <;> intro _ <;> conv => whnf) | fail))
              (refine ⟨_, _, hnn.symm, hgb, rfl, ?_⟩; conv => whnf)
              (repeat' (first | (apply kT (by with_reducible first | rfl | assumption); conv => whnf) | (apply kF (by with_reducible first | rfl | assumption); conv => whnf) | (apply kT (by decide); conv => whnf) | (apply kF (by decide); conv => whnf) | (apply kB <;> intro _ <;> conv => whnf) | fail))
              rfl
            | false =>
              rw [h2] at hgb
              cases h3 : fitsB (wtAt p.ws k) (pcAt st.1 x.us[k]) with
              | false =>
                rw [usesB_bad _ _ _ _ _ h1 (.inr (.inr h3))] at hrun
                rw [h3] at cf
                rw [hz, ← hrun]
                conv => whnf
                (repeat' (first | (apply kT (by with_reducible first | rfl | assumption); conv => whnf) | (apply kF (by with_reducible first | rfl | assumption); conv => whnf) | (apply kT (by decide); conv => whnf) | (apply kF (by decide); conv => whnf) | (apply kB <;> intro _ <;> conv => whnf) | fail))
                (refine ⟨k, _, rfl, geti x.us k hlt, rfl, ?_⟩; conv => whnf)
                (repeat' (first | (apply kT (by with_reducible first | rfl | assumption); conv => whnf) | (apply kF (by with_reducible first | rfl | assumption); conv => whnf) | (apply kT (by decide); conv => whnf) | (apply kF (by decide); conv => whnf) | (apply kB <;> intro _ <;> conv => whnf) | fail))
                (refine ⟨_, _, hnn.symm, hgb, rfl, ?_⟩; conv => whnf)
                (repeat' (first | (apply kT (by with_reducible first | rfl | assumption); conv => whnf) | (apply kF (by with_reducible first | rfl | assumption); conv => whnf) | (apply kT (by decide); conv => whnf) | (apply kF (by decide); conv => whnf) | (apply kB <;> intro _ <;> conv => whnf) | fail))
                (refine ⟨k, _, rfl, getwa (l := p.ws) (by omega), rfl, ?_⟩; conv => whnf)
                (repeat' (first | (apply kT (by with_reducible first | rfl | assumption); conv => whnf) | (apply kF (by with_reducible first | rfl | assumption); conv => whnf) | (apply kT (by decide); conv => whnf) | (apply kF (by decide); conv => whnf) | (apply kB <;> intro _ <;> conv => whnf) | fail))
                (refine ⟨_, _, hnn.symm, hgp, rfl, ?_⟩; conv => whnf)
                (repeat' (first | (apply kT (by with_reducible first | rfl | assumption); conv => whnf) | (apply kF (by with_reducible first | rfl | assumption); conv => whnf) | (apply kT (by decide); conv => whnf) | (apply kF (by decide); conv => whnf) | (apply kB <;> intro _ <;> conv => whnf) | (refine .inl ⟨_, cf, ?_⟩; conv => whnf) | fail))
                rfl
              | true =>
                rw [h3] at cf
                conv => whnf
                (repeat' (first | (apply kT (by with_reducible first | rfl | assumption); conv => whnf) | (apply kF (by with_reducible first | rfl | assumption); conv => whnf) | (apply kT (by decide); conv => whnf) | (apply kF (by decide); conv => whnf) | (apply kB <;> intro _ <;> conv => whnf) | fail))
                (refine ⟨k, _, rfl, geti x.us k hlt, rfl, ?_⟩; conv => whnf)
                (repeat' (first | (apply kT (by with_reducible first | rfl | assumption); conv => whnf) | (apply kF (by with_reducible first | rfl | assumption); conv => whnf) | (apply kT (by decide); conv => whnf) | (apply kF (by decide); conv => whnf) | (apply kB <;> intro _ <;> conv => whnf) | fail))
                (refine ⟨_, _, hnn.symm, hgb, rfl, ?_⟩; conv => whnf)
                (repeat' (first | (apply kT (by with_reducible first | rfl | assumption); conv => whnf) | (apply kF (by with_reducible first | rfl | assumption); conv => whnf) | (apply kT (by decide); conv => whnf) | (apply kF (by decide); conv => whnf) | (apply kB <;> intro _ <;> conv => whnf) | fail))
                (refine ⟨k, _, rfl, getwa (l := p.ws) (by omega), rfl, ?_⟩; conv => whnf)
                (repeat' (first | (apply kT (by with_reducible first | rfl | assumption); conv => whnf) | (apply kF (by with_reducible first | rfl | assumption); conv => whnf) | (apply kT (by decide); conv => whnf) | (apply kF (by decide); conv => whnf) | (apply kB <;> intro _ <;> conv => whnf) | fail))
                (refine ⟨_, _, hnn.symm, hgp, rfl, ?_⟩; conv => whnf)
                (repeat' (first | (apply kT (by with_reducible first | rfl | assumption); conv => whnf) | (apply kF (by with_reducible first | rfl | assumption); conv => whnf) | (apply kT (by decide); conv => whnf) | (apply kF (by decide); conv => whnf) | (apply kB <;> intro _ <;> conv => whnf) | (refine .inl ⟨_, cf, ?_⟩; conv => whnf) | fail))
                refine ⟨[], [2, 3, 4, 5, 6, 9, 10, 11], [0, 1], 2, fun j s => ∃ i : Nat, i + j = k ∧ (∀ (i' : Nat) (h : i' < x.us.length), i' < i → x.us[i'] ≠ x.us[k]) ∧
                  s = ⟨[(2, .ref 0 0), (3, .ref 1 0), (4, .d (dI 0)), (5, .d (pcsD st.1)), (6, .d (.seq (bsE st.2))), (9, .d (dI k)), (10, .d (dI x.us[k])), (11, .d (dI i))], [(0, .var false 24 ((plC p).map A.d)), (1, .var false 28 ((pnC x).map A.d))], 2⟩, ?_, ?_⟩
                · conv => whnf
                  exact ⟨k, 0, by omega, fun _ _ h => by omega, rfl⟩
                · rintro j _ ⟨i, hij, hne, rfl⟩
                  by_cases hik : i < k
                  · have f6 : decide ((i : Int) < (k : Int)) = true := decide_eq_true (by omega)
                    by_cases he : x.us[i] = x.us[k]
                    · have f7 : (x.us[i] == x.us[k]) = true := eqT he
                      rw [usesB_bad _ _ _ _ _ h1 (.inl ((seenL_mem h1).2 ⟨i, by omega, hik, he⟩))] at hrun
                      rw [hz, ← hrun]
                      conv => whnf
                      (repeat' (first | (apply kT (by with_reducible first | rfl | assumption); conv => whnf) | (apply kF (by with_reducible first | rfl | assumption); conv => whnf) | (apply kT (by decide); conv => whnf) | (apply kF (by decide); conv => whnf) | (apply kB <;> intro _ <;> conv => whnf) | fail))
                      (refine ⟨i, _, rfl, geti x.us i (by omega), rfl, ?_⟩; conv => whnf)
                      (repeat' (first | (apply kT (by with_reducible first | rfl | assumption); conv => whnf) | (apply kF (by with_reducible first | rfl | assumption); conv => whnf) | (apply kT (by decide); conv => whnf) | (apply kF (by decide); conv => whnf) | (apply kB <;> intro _ <;> conv => whnf) | fail))
                      rfl
                    · have f7 : (x.us[i] == x.us[k]) = false := eqF he
                      conv => whnf
                      (repeat' (first | (apply kT (by with_reducible first | rfl | assumption); conv => whnf) | (apply kF (by with_reducible first | rfl | assumption); conv => whnf) | (apply kT (by decide); conv => whnf) | (apply kF (by decide); conv => whnf) | (apply kB <;> intro _ <;> conv => whnf) | fail))
                      (refine ⟨i, _, rfl, geti x.us i (by omega), rfl, ?_⟩; conv => whnf)
                      (repeat' (first | (apply kT (by with_reducible first | rfl | assumption); conv => whnf) | (apply kF (by with_reducible first | rfl | assumption); conv => whnf) | (apply kT (by decide); conv => whnf) | (apply kF (by decide); conv => whnf) | (apply kB <;> intro _ <;> conv => whnf) | fail))
                      refine ⟨j - 1, by omega, i + 1, by omega, fun i' h hi => ?_, ?_⟩
                      · rcases Nat.lt_or_ge i' i with h' | h'
                        · exact hne i' h h'
                        · have : i' = i := by omega
                          subst this; exact he
                      · rw [w1 i (by omega)]
                        rfl
                  · have f6 : decide ((i : Int) < (k : Int)) = false := decide_eq_false (by omega)
                    have hns : ¬ (x.us[k] ∈ seenL x.us k ∨ cutAt st.2 x.us[k] = true ∨ fitsB (wtAt p.ws k) (pcAt st.1 x.us[k]) = false) := by
                      rw [h2, h3, seenL_mem h1]
                      rintro (⟨i', h', hk', e⟩ | h | h)
                      · exact hne i' h' (by omega) e
                      · cases h
                      · cases h
                    rw [usesB_good _ _ _ _ _ h1 hns, ← seenL_next hlt h1] at hrun
                    conv => whnf
                    (repeat' (first | (apply kT (by with_reducible first | rfl | assumption); conv => whnf) | (apply kF (by with_reducible first | rfl | assumption); conv => whnf) | (apply kT (by decide); conv => whnf) | (apply kF (by decide); conv => whnf) | (apply kB <;> intro _ <;> conv => whnf) | fail))
                    refine ⟨m - 1, by omega, k + 1, by omega, hrun, ?_⟩
                    rw [w1 k (by omega)]
                    rfl
          · have f4 : decide ((k : Int) < ((x.us.map fun n => [dI n]).length : Int)) = false := decide_eq_false (by rw [hmu]; omega)
            rw [List.drop_of_length_le (by omega), usesB_nil] at hrun
            rw [hz, ← hrun]
            conv => whnf
            (repeat' (first | (apply kT (by with_reducible first | rfl | assumption); conv => whnf) | (apply kF (by with_reducible first | rfl | assumption); conv => whnf) | (apply kT (by decide); conv => whnf) | (apply kF (by decide); conv => whnf) | (apply kB <;> intro _ <;> conv => whnf) | fail))
            rfl
end Go.Ev.Ytojlbcodfebmgaa

set_option linter.unusedVariables false
set_option linter.unusedSimpArgs false
set_option maxRecDepth 100000
namespace Go.Ev.Ytojlbcodfebmgaa
open Go.Proofs
attribute [local irreducible] Pure Bor Iter inB wtB partsL stepC useB usesB fitsB runC weighL uIdx betB cutsF bestP seeS memF cutsL partsW useF memN doN covB
theorem usedAs_pure (x : Pn) (hl : x.us.length ≤ 100000) (n : Int) : Pure Try.prog 26 [pnD x, dI n] (dI (uIdx x.us n)) := by
  have hm : ((x.us.map fun n => [dI n]).length : Int) = (x.us.length : Int) := by rw [List.length_map]
  refine pure_of pg Try.func26 (by kernel_rfl) ?_
  conv => whnf
  refine ⟨[], [1, 2, 5], [0], 1, fun m s => ∃ k : Nat, k + m = x.us.length ∧ (∀ i (h : i < k) (h' : i < x.us.length), (n == x.us[i]) = false) ∧ s = ⟨[(1, .d (dI n)), (2, .ref 0 0), (5, .d (dI k))], [(0, .var false 28 ((pnC x).map A.d))], 1⟩, ?_, ?_⟩
  · conv => whnf
    exact ⟨x.us.length, 0, by omega, fun i h => by omega, rfl⟩
  · rintro m _ ⟨k, hk, hall, rfl⟩
    by_cases hlt : k < x.us.length
    · have f1 : decide ((k : Int) < ((x.us.map fun n => [dI n]).length : Int)) = true := decide_eq_true (by rw [hm]; omega)
      by_cases h1 : x.us[k] = n
      · have f2 : (x.us[k] == n) = true := eqT h1
        have hf : x.us.findIdx? (fun x => n == x) = some k := by
          rw [List.findIdx?_eq_some_iff_getElem]
          exact ⟨hlt, by simp [h1], fun j hj => by simp only [hall j hj (by omega)]; decide⟩
        have e : uIdx x.us n = k := by unfold uIdx; rw [hf]
        rw [e]
        conv => whnf
        (repeat' (first | (apply kT (by with_reducible first | rfl | assumption); conv => whnf) | (apply kF (by with_reducible first | rfl | assumption); conv => whnf) | (apply kT (by decide); conv => whnf) | (apply kF (by decide); conv => whnf) | (apply kB <;> intro _ <;> conv => whnf) | fail))
        (refine ⟨k, _, rfl, geti x.us k hlt, rfl, ?_⟩; conv => whnf)
        (repeat' (first | (apply kT (by with_reducible first | rfl | assumption); conv => whnf) | (apply kF (by with_reducible first | rfl | assumption); conv => whnf) | (apply kT (by decide); conv => whnf) | (apply kF (by decide); conv => whnf) | (apply kB <;> intro _ <;> conv => whnf) | fail))
        rfl
      · have f2 : (x.us[k] == n) = false := eqF h1
        conv => whnf
        (repeat' (first | (apply kT (by with_reducible first | rfl | assumption); conv => whnf) | (apply kF (by with_reducible first | rfl | assumption); conv => whnf) | (apply kT (by decide); conv => whnf) | (apply kF (by decide); conv => whnf) | (apply kB <;> intro _ <;> conv => whnf) | fail))
        (refine ⟨k, _, rfl, geti x.us k hlt, rfl, ?_⟩; conv => whnf)
        (repeat' (first | (apply kT (by with_reducible first | rfl | assumption); conv => whnf) | (apply kF (by with_reducible first | rfl | assumption); conv => whnf) | (apply kT (by decide); conv => whnf) | (apply kF (by decide); conv => whnf) | (apply kB <;> intro _ <;> conv => whnf) | fail))
        refine ⟨m - 1, by omega, k + 1, by omega, fun i hi hi' => ?_, ?_⟩
        · rcases Nat.lt_or_ge i k with h2 | h2
          · exact hall i h2 hi'
          · have : i = k := by omega
            subst this
            exact eqF fun h => h1 h.symm
        · rw [w1 k (by omega)]
          rfl
    · have f1 : decide ((k : Int) < ((x.us.map fun n => [dI n]).length : Int)) = false := decide_eq_false (by rw [hm]; omega)
      have hf : x.us.findIdx? (fun x => n == x) = none := by
        rw [List.findIdx?_eq_none_iff]
        intro y hy
        obtain ⟨i, hi, rfl⟩ := List.mem_iff_getElem.1 hy
        exact hall i (by omega) hi
      have e : uIdx x.us n = -1 := by unfold uIdx; rw [hf]
      rw [e]
      conv => whnf
      (repeat' (first | (apply kT (by with_reducible first | rfl | assumption); conv => whnf) | (apply kF (by with_reducible first | rfl | assumption); conv => whnf) | (apply kT (by decide); conv => whnf) | (apply kF (by decide); conv => whnf) | (apply kB <;> intro _ <;> conv => whnf) | fail))
      rfl
def covR (q : Pc) (ux uy : Int) : Bool := inB ux q.x (q.x + q.w - 1) && inB uy q.y (q.y + q.l - 1)
theorem covB_eq {q : Pc} (hq : OkP q) {ux uy : Int} (hx : -1000 ≤ ux ∧ ux ≤ 1000) (hy : -1000 ≤ uy ∧ uy ≤ 1000) : covB q ux uy = covR q ux uy := by
  have := hq.x0; have := hq.y0; have := hq.w0; have := hq.l0; have := hq.x1; have := hq.y1
  unfold covB covR inB
  rw [show wI (ux - q.x) = ux - q.x from wS (by omega) (by omega), show wI (uy - q.y) = uy - q.y from wS (by omega) (by omega), show wI (q.w - 1) = q.w - 1 from wS (by omega) (by omega), show wI (q.l - 1) = q.l - 1 from wS (by omega) (by omega)]
  rw [Bool.eq_iff_iff]
  simp only [Bool.and_eq_true, decide_eq_true_eq]
  omega
theorem covR_iff {q : Pc} {ux uy : Int} : covR q ux uy = true ↔ (q.x ≤ ux ∧ ux < q.x + q.w) ∧ (q.y ≤ uy ∧ uy < q.y + q.l) := by
  unfold covR
  rw [Bool.and_eq_true, inB_true, inB_true]
  omega
theorem traceL_drop {ux uy : Int} {ps : List Pc} {cs : List Bool} {k : Nat} (h : k < ps.length) (h2 : cs.length = ps.length) : traceL ux uy (ps.drop k) (cs.drop k) k = if cutAt cs k = false ∧ covB (pcAt ps k) ux uy = true then (k : Int) else traceL ux uy (ps.drop (k + 1)) (cs.drop (k + 1)) (k + 1) := by
  rw [List.drop_eq_getElem_cons h, List.drop_eq_getElem_cons (i := k) (l := cs) (by omega), traceL_cons]
  have e1 : pcAt ps k = ps[k] := by unfold pcAt; rw [Int.toNat_natCast, List.getElem?_eq_getElem h]; rfl
  have e2 : cutAt cs k = cs[k] := by unfold cutAt; rw [Int.toNat_natCast, List.getElem?_eq_getElem (by omega)]; rfl
  rw [e1, e2]
attribute [local irreducible] traceL
theorem traceR_pure {p : Pl} (hp : checkI p = 0) {x : Pn} (hl : x.cs.length ≤ 45) {st : St2} (hr : runC p.s x.cs (st0 p) = some st) {ux uy : Int} (hx : -1000 ≤ ux ∧ ux ≤ 1000) (hy : -1000 ≤ uy ∧ uy ≤ 1000) :
    Pure Try.prog 25 [plD p, pnD x, dI ux, dI uy] (dI (traceL ux uy st.1 st.2 0)) := by
  have hok := runC_ok hp (st0_ok hp) hr
  have hsl : st.1.length ≤ 1000 := by have := hok.2; simp only [st0, List.length_singleton] at this; omega
  have hok := hok.1
  have cp := piecesR_pure hp hl hr
  have hpl : ((st.1.map pcD).length : Int) = st.1.length := by rw [List.length_map]
  refine pure_of pg Try.func25 (by kernel_rfl) ?_
  conv => whnf
  (repeat' (first | (apply kT (by with_reducible first | rfl | assumption); conv => whnf) | (apply kF (by with_reducible first | rfl | assumption); conv => whnf) | (apply kT (by decide); conv => whnf) | (apply kF (by decide); conv => whnf) | (apply kB <;> intro _ <;> conv => whnf) | (refine .inl ⟨_, cp, ?_⟩; conv => whnf) | fail))
  refine ⟨[], [2, 3, 4, 5, 8, 9, 10, 12], [0, 1], 2, fun m s => ∃ k : Nat, k + m = st.1.length ∧ traceL ux uy (st.1.drop k) (st.2.drop k) k = traceL ux uy st.1 st.2 0 ∧
    s = ⟨[(2, .d (dI ux)), (3, .d (dI uy)), (4, .ref 0 0), (5, .ref 1 0), (8, .d (dI 0)), (9, .d (pcsD st.1)), (10, .d (.seq (bsE st.2))), (12, .d (dI k))], [(0, .var false 24 ((plC p).map A.d)), (1, .var false 28 ((pnC x).map A.d))], 2⟩, ?_, ?_⟩
  · conv => whnf
    exact ⟨st.1.length, 0, by omega, rfl, rfl⟩
  · rintro m _ ⟨k, hk, hrun, rfl⟩
    by_cases hlt : k < st.1.length
    · have f1 : decide ((k : Int) < ((st.1.map pcD).length : Int)) = true := decide_eq_true (by rw [hpl]; omega)
      have hq : OkP (pcAt st.1 k) := hok.at (n := (k : Int)) (by omega) (by omega)
      have hgp : (st.1.map pcD)[k]? = some (pcD (pcAt st.1 k)) := getpa (n := (k : Int)) (by omega) (by omega)
      have hgb : (bsE st.2)[k]? = some [dB (cutAt st.2 k)] := getba (n := (k : Int)) (by omega) (by have := hok.len; omega)
      rw [traceL_drop hlt hok.len, covB_eq hq hx hy] at hrun
      generalize hQ : pcAt st.1 k = q at hq hgp hrun
      have := hq.x0; have := hq.y0; have := hq.w0; have := hq.l0; have := hq.x1; have := hq.y1
      have wx : IntKind.i64.wrap (IntKind.i64.wrap (q.x + q.w) - 1) = q.x + q.w - 1 := by rw [wS (z := q.x + q.w) (by omega) (by omega)]; exact wS (by omega) (by omega)
      have wy : IntKind.i64.wrap (IntKind.i64.wrap (q.y + q.l) - 1) = q.y + q.l - 1 := by rw [wS (z := q.y + q.l) (by omega) (by omega)]; exact wS (by omega) (by omega)
      have cx := in_pure ux q.x (IntKind.i64.wrap (IntKind.i64.wrap (q.x + q.w) - 1))
      have cy := in_pure uy q.y (IntKind.i64.wrap (IntKind.i64.wrap (q.y + q.l) - 1))
      rw [show inB ux q.x (IntKind.i64.wrap (IntKind.i64.wrap (q.x + q.w) - 1)) = inB ux q.x (q.x + q.w - 1) by rw [wx]] at cx
      rw [show inB uy q.y (IntKind.i64.wrap (IntKind.i64.wrap (q.y + q.l) - 1)) = inB uy q.y (q.y + q.l - 1) by rw [wy]] at cy
      cases hb : cutAt st.2 k with
      | true =>
        rw [hb] at hgb
        rw [hb, if_neg (by simp)] at hrun
        conv => whnf
        (repeat' (first | (apply kT (by with_reducible first | rfl | assumption); conv => whnf) | (apply kF (by with_reducible first | rfl | assumption); conv => whnf) | (apply kT (by decide); conv => whnf) | (apply kF (by decide); conv => whnf) | (apply kB <;> intro _ <;> conv => whnf) | fail))
        (refine ⟨k, _, rfl, hgp, rfl, ?_⟩; conv => whnf)
        (repeat' (first | (apply kT (by with_reducible first | rfl | assumption); conv => whnf) | (apply kF (by with_reducible first | rfl | assumption); conv => whnf) | (apply kT (by decide); conv => whnf) | (apply kF (by decide); conv => whnf) | (apply kB <;> intro _ <;> conv => whnf) | fail))
        (refine ⟨k, _, rfl, hgb, rfl, ?_⟩; conv => whnf)
        (repeat' (first | (apply kT (by with_reducible first | rfl | assumption); conv => whnf) | (apply kF (by with_reducible first | rfl | assumption); conv => whnf) | (apply kT (by decide); conv => whnf) | (apply kF (by decide); conv => whnf) | (apply kB <;> intro _ <;> conv => whnf) | fail))
        refine ⟨m - 1, by omega, k + 1, by omega, hrun, ?_⟩
        rw [w1 k (by omega)]
        rfl
      | false =>
        rw [hb] at hgb
        cases h1 : inB ux q.x (q.x + q.w - 1) with
        | false =>
          have hcv : covR q ux uy = false := by unfold covR; rw [h1]; rfl
          rw [h1] at cx
          rw [hb, hcv, if_neg (by simp)] at hrun
          conv => whnf
          (repeat' (first | (apply kT (by with_reducible first | rfl | assumption); conv => whnf) | (apply kF (by with_reducible first | rfl | assumption); conv => whnf) | (apply kT (by decide); conv => whnf) | (apply kF (by decide); conv => whnf) | (apply kB <;> intro _ <;> conv => whnf) | fail))
          (refine ⟨k, _, rfl, hgp, rfl, ?_⟩; conv => whnf)
          (repeat' (first | (apply kT (by with_reducible first | rfl | assumption); conv => whnf) | (apply kF (by with_reducible first | rfl | assumption); conv => whnf) | (apply kT (by decide); conv => whnf) | (apply kF (by decide); conv => whnf) | (apply kB <;> intro _ <;> conv => whnf) | fail))
          (refine ⟨k, _, rfl, hgb, rfl, ?_⟩; conv => whnf)
          (repeat' (first | (apply kT (by with_reducible first | rfl | assumption); conv => whnf) | (apply kF (by with_reducible first | rfl | assumption); conv => whnf) | (apply kT (by decide); conv => whnf) | (apply kF (by decide); conv => whnf) | (apply kB <;> intro _ <;> conv => whnf) | (refine .inl ⟨_, cx, ?_⟩; conv => whnf) | fail))
          refine ⟨m - 1, by omega, k + 1, by omega, hrun, ?_⟩
          rw [w1 k (by omega)]
          rfl
        | true =>
          rw [h1] at cx
          cases h2 : inB uy q.y (q.y + q.l - 1) with
          | false =>
            have hcv : covR q ux uy = false := by unfold covR; rw [h1, h2]; rfl
            rw [h2] at cy
            rw [hb, hcv, if_neg (by simp)] at hrun
            conv => whnf
            (repeat' (first | (apply kT (by with_reducible first | rfl | assumption); conv => whnf) | (apply kF (by with_reducible first | rfl | assumption); conv => whnf) | (apply kT (by decide); conv => whnf) | (apply kF (by decide); conv => whnf) | (apply kB <;> intro _ <;> conv => whnf) | fail))
            (refine ⟨k, _, rfl, hgp, rfl, ?_⟩; conv => whnf)
            (repeat' (first | (apply kT (by with_reducible first | rfl | assumption); conv => whnf) | (apply kF (by with_reducible first | rfl | assumption); conv => whnf) | (apply kT (by decide); conv => whnf) | (apply kF (by decide); conv => whnf) | (apply kB <;> intro _ <;> conv => whnf) | fail))
            (refine ⟨k, _, rfl, hgb, rfl, ?_⟩; conv => whnf)
            (repeat' (first | (apply kT (by with_reducible first | rfl | assumption); conv => whnf) | (apply kF (by with_reducible first | rfl | assumption); conv => whnf) | (apply kT (by decide); conv => whnf) | (apply kF (by decide); conv => whnf) | (apply kB <;> intro _ <;> conv => whnf) | (refine .inl ⟨_, cx, ?_⟩; conv => whnf) | (refine .inl ⟨_, cy, ?_⟩; conv => whnf) | fail))
            refine ⟨m - 1, by omega, k + 1, by omega, hrun, ?_⟩
            rw [w1 k (by omega)]
            rfl
          | true =>
            have hcv : covR q ux uy = true := by unfold covR; rw [h1, h2]; rfl
            rw [h2] at cy
            rw [hb, hcv, if_pos (by simp)] at hrun
            rw [← hrun]
            conv => whnf
            (repeat' (first | (apply kT (by with_reducible first | rfl | assumption); conv => whnf) | (apply kF (by with_reducible first | rfl | assumption); conv => whnf) | (apply kT (by decide); conv => whnf) | (apply kF (by decide); conv => whnf) | (apply kB <;> intro _ <;> conv => whnf) | fail))
            (refine ⟨k, _, rfl, hgp, rfl, ?_⟩; conv => whnf)
            (repeat' (first | (apply kT (by with_reducible first | rfl | assumption); conv => whnf) | (apply kF (by with_reducible first | rfl | assumption); conv => whnf) | (apply kT (by decide); conv => whnf) | (apply kF (by decide); conv => whnf) | (apply kB <;> intro _ <;> conv => whnf) | fail))
            (refine ⟨k, _, rfl, hgb, rfl, ?_⟩; conv => whnf)
            (repeat' (first | (apply kT (by with_reducible first | rfl | assumption); conv => whnf) | (apply kF (by with_reducible first | rfl | assumption); conv => whnf) | (apply kT (by decide); conv => whnf) | (apply kF (by decide); conv => whnf) | (apply kB <;> intro _ <;> conv => whnf) | (refine .inl ⟨_, cx, ?_⟩; conv => whnf) | (refine .inl ⟨_, cy, ?_⟩; conv => whnf) | fail))
            rfl
    · have f1 : decide ((k : Int) < ((st.1.map pcD).length : Int)) = false := decide_eq_false (by rw [hpl]; omega)
      rw [List.drop_of_length_le (by omega), traceL_nil] at hrun
      rw [← hrun]
      conv => whnf
      (repeat' (first | (apply kT (by with_reducible first | rfl | assumption); conv => whnf) | (apply kF (by with_reducible first | rfl | assumption); conv => whnf) | (apply kT (by decide); conv => whnf) | (apply kF (by decide); conv => whnf) | (apply kB <;> intro _ <;> conv => whnf) | fail))
      rfl
end Go.Ev.Ytojlbcodfebmgaa

set_option linter.unusedVariables false
set_option linter.unusedSimpArgs false
set_option maxRecDepth 100000
namespace Go.Ev.Ytojlbcodfebmgaa
open Go.Proofs
attribute [local irreducible] Pure Bor Iter inB wtB partsL stepC useB usesB fitsB runC weighL uIdx betB cutsF bestP seeS memF cutsL partsW useF memN doN covB traceL
def cntC (f : Int → Int → Bool) (x : Int) : Nat → Nat
  | 0 => 0
  | l + 1 => cntC f x l + (if f x l then 1 else 0)
def cntA (f : Int → Int → Bool) (L : Nat) : Nat → Nat
  | 0 => 0
  | w + 1 => cntA f L w + cntC f w L
theorem cntC_le (f : Int → Int → Bool) (x : Int) : ∀ l, cntC f x l ≤ l
  | 0 => Nat.le_refl _
  | l + 1 => by rw [cntC]; have := cntC_le f x l; split <;> omega
theorem cntA_le (f : Int → Int → Bool) (L : Nat) : ∀ w, cntA f L w ≤ L * w
  | 0 => Nat.zero_le _
  | w + 1 => by rw [cntA, Nat.mul_succ]; have := cntA_le f L w; have := cntC_le f w L; omega
/-- what a unit has become: 0 chips, 1 a specimen, 2 a remnant -/
def clsN (st : St2) (us : List Int) (ux uy : Int) : Nat := if traceL ux uy st.1 st.2 0 < 0 then 0 else if 0 ≤ uIdx us (traceL ux uy st.1 st.2 0) then 1 else 2
def clsB (st : St2) (us : List Int) (k : Nat) (ux uy : Int) : Bool := Nat.beq (clsN st us ux uy) k
def usAt (us : List Int) (k : Nat) : Int := (us[k]?).getD (-1)
def wthN (ws : List Wt) (us : List Int) : Nat → Int
  | 0 => 0
  | k + 1 => wthN ws us k + (if 0 ≤ usAt us k then (wtAt ws k).g else 0)
theorem wtB_g {w : Wt} (h : wtB w = true) : 0 ≤ w.g ∧ w.g ≤ 1000 := by
  unfold wtB at h
  simp only [Bool.and_eq_true] at h
  exact inB_true.1 h.1.1.2
theorem wtAt_ok {p : Pl} (hp : checkI p = 0) {k : Nat} (hk : k < p.ws.length) : wtB (wtAt p.ws k) = true := by
  have h := (check_zero hp).2.2.2.2
  unfold wtAt
  rw [List.getElem?_eq_getElem hk]
  exact List.all_eq_true.1 h _ (List.getElem_mem hk)
theorem wthN_bd {p : Pl} (hp : checkI p = 0) (us : List Int) : ∀ k, k ≤ p.ws.length → 0 ≤ wthN p.ws us k ∧ wthN p.ws us k ≤ 1000 * k
  | 0, _ => by simp [wthN]
  | k + 1, h => by
    have ih := wthN_bd hp us k (by omega)
    have hg := wtB_g (wtAt_ok hp (k := k) (by omega))
    rw [wthN]
    split <;> omega
attribute [local irreducible] cntC cntA wthN clsB
set_option maxHeartbeats 4000000 in
theorem weighR_pure {p : Pl} {x : Pn} {st : St2} (o : OkX p x st) :
    Pure Try.prog 22 [plD p, pnD x] (.tup [dI (cntA (clsB st x.us 1) p.l.toNat p.w.toNat), dI (cntA (clsB st x.us 2) p.l.toNat p.w.toNat), dI (cntA (clsB st x.us 0) p.l.toNat p.w.toNat), dI (wthN p.ws x.us x.us.length)]) := by
  have hp := o.chk
  obtain ⟨hw4, hpw, hpl, hs, _⟩ := check_zero hp
  have hus := o.us
  have hmu : ((x.us.map fun n => [dI n]).length : Int) = x.us.length := by rw [List.length_map]
  obtain ⟨W, hW⟩ : ∃ W : Nat, p.w = W := ⟨p.w.toNat, by omega⟩
  obtain ⟨L, hL⟩ : ∃ L : Nat, p.l = L := ⟨p.l.toNat, by omega⟩
  have eW : p.w.toNat = W := by omega
  have eL : p.l.toNat = L := by omega
  rw [eW, eL]
  have hW8 : W ≤ 8 := by omega
  have hL8 : L ≤ 8 := by omega
  have ct := fun ux uy hx hy => traceR_pure hp (by have := o.len; omega) o.run (ux := ux) (uy := uy) hx hy
  have cu := usedAs_pure x (by omega)
  have bd : ∀ k i j : Nat, i ≤ W → j ≤ L → cntA (clsB st x.us k) L i + cntC (clsB st x.us k) i j ≤ 100 := fun k i j hi hj => by
    have h1 := cntA_le (clsB st x.us k) L i
    have h2 := cntC_le (clsB st x.us k) i j
    have h3 : L * i ≤ 8 * 8 := Nat.mul_le_mul (by omega) (by omega)
    omega
  refine pure_of pg Try.func22 (by kernel_rfl) ?_
  conv => whnf
  refine ⟨[], [2, 3, 8, 9, 10, 11, 12], [0, 1], 2, fun m s => ∃ i : Nat, i + m = W ∧
    s = ⟨[(2, .ref 0 0), (3, .ref 1 0), (8, .d (dI (cntA (clsB st x.us 1) L i))), (9, .d (dI (cntA (clsB st x.us 2) L i))), (10, .d (dI (cntA (clsB st x.us 0) L i))), (11, .d (dI 0)), (12, .d (dI i))], [(0, .var false 24 ((plC p).map A.d)), (1, .var false 28 ((pnC x).map A.d))], 2⟩, ?_, ?_⟩
  · conv => whnf
    refine ⟨W, 0, by omega, ?_⟩
    rw [cntA, cntA, cntA]
    rfl
  · rintro m _ ⟨i, him, rfl⟩
    by_cases hi : i < W
    · have f1 : decide ((i : Int) < p.w) = true := decide_eq_true (by omega)
      conv => whnf
      (repeat' (first | (apply kT (by with_reducible first | rfl | assumption); conv => whnf) | (apply kF (by with_reducible first | rfl | assumption); conv => whnf) | (apply kT (by decide); conv => whnf) | (apply kF (by decide); conv => whnf) | (apply kB <;> intro _ <;> conv => whnf) | fail))
      refine ⟨[], [2, 3, 8, 9, 10, 11, 12, 13], [0, 1], 2, fun m s => ∃ j : Nat, j + m = L ∧
        s = ⟨[(2, .ref 0 0), (3, .ref 1 0), (8, .d (dI (cntA (clsB st x.us 1) L i + cntC (clsB st x.us 1) i j : Nat))), (9, .d (dI (cntA (clsB st x.us 2) L i + cntC (clsB st x.us 2) i j : Nat))), (10, .d (dI (cntA (clsB st x.us 0) L i + cntC (clsB st x.us 0) i j : Nat))), (11, .d (dI 0)), (12, .d (dI i)), (13, .d (dI j))], [(0, .var false 24 ((plC p).map A.d)), (1, .var false 28 ((pnC x).map A.d))], 2⟩, ?_, ?_⟩
      · conv => whnf
        refine ⟨L, 0, by omega, ?_⟩
        rw [cntC, cntC, cntC]
        rfl
      · rintro m2 _ ⟨j, hjm, rfl⟩
        by_cases hj : j < L
        · have f2 : decide ((j : Int) < p.l) = true := decide_eq_true (by omega)
          have ct := ct i j (by omega) (by omega)
          have cu := cu (traceL i j st.1 st.2 0)
          have b0 := bd 0 i j (by omega) (by omega)
          have b1 := bd 1 i j (by omega) (by omega)
          have b2 := bd 2 i j (by omega) (by omega)
          have n0 : cntA (clsB st x.us 0) L i + cntC (clsB st x.us 0) i (j + 1) = cntA (clsB st x.us 0) L i + cntC (clsB st x.us 0) i j + (if clsB st x.us 0 i j then 1 else 0) := by rw [cntC, Nat.add_assoc]
          have n1 : cntA (clsB st x.us 1) L i + cntC (clsB st x.us 1) i (j + 1) = cntA (clsB st x.us 1) L i + cntC (clsB st x.us 1) i j + (if clsB st x.us 1 i j then 1 else 0) := by rw [cntC, Nat.add_assoc]
          have n2 : cntA (clsB st x.us 2) L i + cntC (clsB st x.us 2) i (j + 1) = cntA (clsB st x.us 2) L i + cntC (clsB st x.us 2) i j + (if clsB st x.us 2 i j then 1 else 0) := by rw [cntC, Nat.add_assoc]
          have hc : clsN st x.us i j = if traceL i j st.1 st.2 0 < 0 then 0 else if 0 ≤ uIdx x.us (traceL i j st.1 st.2 0) then 1 else 2 := rfl
          have hcb : ∀ k, clsB st x.us k i j = Nat.beq (clsN st x.us i j) k := fun k => by unfold clsB; rfl
          rw [hcb] at n0 n1 n2
          generalize traceL i j st.1 st.2 0 = t at ct cu hc
          have key : ∀ (s' : St), (s' = ⟨[(2, .ref 0 0), (3, .ref 1 0), (8, .d (dI (cntA (clsB st x.us 1) L i + cntC (clsB st x.us 1) i (j + 1) : Nat))), (9, .d (dI (cntA (clsB st x.us 2) L i + cntC (clsB st x.us 2) i (j + 1) : Nat))), (10, .d (dI (cntA (clsB st x.us 0) L i + cntC (clsB st x.us 0) i (j + 1) : Nat))), (11, .d (dI 0)), (12, .d (dI i)), (13, .d (dI ((j + 1 : Nat) : Int)))], [(0, .var false 24 ((plC p).map A.d)), (1, .var false 28 ((pnC x).map A.d))], 2⟩) → ∃ j' : Nat, j' + (m2 - 1) = L ∧
            s' = ⟨[(2, .ref 0 0), (3, .ref 1 0), (8, .d (dI (cntA (clsB st x.us 1) L i + cntC (clsB st x.us 1) i j' : Nat))), (9, .d (dI (cntA (clsB st x.us 2) L i + cntC (clsB st x.us 2) i j' : Nat))), (10, .d (dI (cntA (clsB st x.us 0) L i + cntC (clsB st x.us 0) i j' : Nat))), (11, .d (dI 0)), (12, .d (dI i)), (13, .d (dI j'))], [(0, .var false 24 ((plC p).map A.d)), (1, .var false 28 ((pnC x).map A.d))], 2⟩ := fun s' h => ⟨j + 1, by omega, h⟩
          by_cases ht : t < 0
          · have f3 : decide (t < 0) = true := decide_eq_true ht
            rw [hc, if_pos ht] at n0 n1 n2
            conv => whnf
            (repeat' (first | (apply kT (by with_reducible first | rfl | assumption); conv => whnf) | (apply kF (by with_reducible first | rfl | assumption); conv => whnf) | (apply kT (by decide); conv => whnf) | (apply kF (by decide); conv => whnf) | (apply kB <;> intro _ <;> conv => whnf) | (refine .inl ⟨_, ct, ?_⟩; conv => whnf) | fail))
            refine ⟨m2 - 1, by omega, key _ ?_⟩
            rw [n0, n1, n2]
            simp only [Nat.beq, if_true, if_false, Bool.false_eq_true, Nat.add_zero]
            rw [w1 j (by omega), w1 _ (by omega)]
            rfl
          · have f3 : decide (t < 0) = false := decide_eq_false ht
            by_cases hu : 0 ≤ uIdx x.us t
            · have f4 : decide (uIdx x.us t ≥ 0) = true := decide_eq_true hu
              rw [hc, if_neg ht, if_pos hu] at n0 n1 n2
              conv => whnf
              (repeat' (first | (apply kT (by with_reducible first | rfl | assumption); conv => whnf) | (apply kF (by with_reducible first | rfl | assumption); conv => whnf) | (apply kT (by decide); conv => whnf) | (apply kF (by decide); conv => whnf) | (apply kB <;> intro _ <;> conv => whnf) | (refine .inl ⟨_, ct, ?_⟩; conv => whnf) | (refine .inl ⟨_, cu, ?_⟩; conv => whnf) | fail))
              refine ⟨m2 - 1, by omega, key _ ?_⟩
              rw [n0, n1, n2]
              simp only [Nat.beq, if_true, if_false, Bool.false_eq_true, Nat.add_zero]
              rw [w1 j (by omega), w1 _ (by omega)]
              rfl
            · have f4 : decide (uIdx x.us t ≥ 0) = false := decide_eq_false hu
              rw [hc, if_neg ht, if_neg hu] at n0 n1 n2
              conv => whnf
              (repeat' (first | (apply kT (by with_reducible first | rfl | assumption); conv => whnf) | (apply kF (by with_reducible first | rfl | assumption); conv => whnf) | (apply kT (by decide); conv => whnf) | (apply kF (by decide); conv => whnf) | (apply kB <;> intro _ <;> conv => whnf) | (refine .inl ⟨_, ct, ?_⟩; conv => whnf) | (refine .inl ⟨_, cu, ?_⟩; conv => whnf) | fail))
              refine ⟨m2 - 1, by omega, key _ ?_⟩
              rw [n0, n1, n2]
              simp only [Nat.beq, if_true, if_false, Bool.false_eq_true, Nat.add_zero]
              rw [w1 j (by omega), w1 _ (by omega)]
              rfl
        · have f2 : decide ((j : Int) < p.l) = false := decide_eq_false (by omega)
          have hjL : j = L := by omega
          subst hjL
          conv => whnf
          (repeat' (first | (apply kT (by with_reducible first | rfl | assumption); conv => whnf) | (apply kF (by with_reducible first | rfl | assumption); conv => whnf) | (apply kT (by decide); conv => whnf) | (apply kF (by decide); conv => whnf) | (apply kB <;> intro _ <;> conv => whnf) | fail))
          refine ⟨m - 1, by omega, i + 1, by omega, ?_⟩
          rw [cntA, cntA, cntA, w1 i (by omega)]
          rfl
    · have f1 : decide ((i : Int) < p.w) = false := decide_eq_false (by omega)
      have hiW : i = W := by omega
      subst hiW
      conv => whnf
      (repeat' (first | (apply kT (by with_reducible first | rfl | assumption); conv => whnf) | (apply kF (by with_reducible first | rfl | assumption); conv => whnf) | (apply kT (by decide); conv => whnf) | (apply kF (by decide); conv => whnf) | (apply kB <;> intro _ <;> conv => whnf) | fail))
      refine ⟨[], [2, 3, 8, 9, 10, 11, 15], [0, 1], 2, fun m s => ∃ k : Nat, k + m = x.us.length ∧
        s = ⟨[(2, .ref 0 0), (3, .ref 1 0), (8, .d (dI (cntA (clsB st x.us 1) L i))), (9, .d (dI (cntA (clsB st x.us 2) L i))), (10, .d (dI (cntA (clsB st x.us 0) L i))), (11, .d (dI (wthN p.ws x.us k))), (15, .d (dI k))], [(0, .var false 24 ((plC p).map A.d)), (1, .var false 28 ((pnC x).map A.d))], 2⟩, ?_, ?_⟩
      · conv => whnf
        refine ⟨x.us.length, 0, by omega, ?_⟩
        rw [wthN]
        rfl
      · rintro m _ ⟨k, hkm, rfl⟩
        by_cases hk : k < x.us.length
        · have f3 : decide ((k : Int) < ((x.us.map fun n => [dI n]).length : Int)) = true := decide_eq_true (by rw [hmu]; omega)
          have hbd := wthN_bd hp x.us k (by omega)
          have hg := wtB_g (wtAt_ok hp (k := k) (by omega))
          have eu : usAt x.us k = x.us[k] := by unfold usAt; rw [List.getElem?_eq_getElem hk]; rfl
          by_cases h0 : 0 ≤ x.us[k]
          · have f4 : decide (x.us[k] ≥ 0) = true := decide_eq_true h0
            conv => whnf
            (repeat' (first | (apply kT (by with_reducible first | rfl | assumption); conv => whnf) | (apply kF (by with_reducible first | rfl | assumption); conv => whnf) | (apply kT (by decide); conv => whnf) | (apply kF (by decide); conv => whnf) | (apply kB <;> intro _ <;> conv => whnf) | fail))
            (refine ⟨k, _, rfl, geti x.us k hk, rfl, ?_⟩; conv => whnf)
            (repeat' (first | (apply kT (by with_reducible first | rfl | assumption); conv => whnf) | (apply kF (by with_reducible first | rfl | assumption); conv => whnf) | (apply kT (by decide); conv => whnf) | (apply kF (by decide); conv => whnf) | (apply kB <;> intro _ <;> conv => whnf) | fail))
            (refine ⟨k, _, rfl, getwa (l := p.ws) (by omega), rfl, ?_⟩; conv => whnf)
            refine ⟨m - 1, by omega, k + 1, by omega, ?_⟩
            rw [wthN, eu, if_pos h0, w1 k (by omega), wS (by omega) (by omega)]
            rfl
          · have f4 : decide (x.us[k] ≥ 0) = false := decide_eq_false h0
            conv => whnf
            (repeat' (first | (apply kT (by with_reducible first | rfl | assumption); conv => whnf) | (apply kF (by with_reducible first | rfl | assumption); conv => whnf) | (apply kT (by decide); conv => whnf) | (apply kF (by decide); conv => whnf) | (apply kB <;> intro _ <;> conv => whnf) | fail))
            (refine ⟨k, _, rfl, geti x.us k hk, rfl, ?_⟩; conv => whnf)
            (repeat' (first | (apply kT (by with_reducible first | rfl | assumption); conv => whnf) | (apply kF (by with_reducible first | rfl | assumption); conv => whnf) | (apply kT (by decide); conv => whnf) | (apply kF (by decide); conv => whnf) | (apply kB <;> intro _ <;> conv => whnf) | fail))
            refine ⟨m - 1, by omega, k + 1, by omega, ?_⟩
            rw [wthN, eu, if_neg h0, w1 k (by omega), Int.add_zero]
            rfl
        · have f3 : decide ((k : Int) < ((x.us.map fun n => [dI n]).length : Int)) = false := decide_eq_false (by rw [hmu]; omega)
          have hk' : k = x.us.length := by omega
          subst hk'
          conv => whnf
          (repeat' (first | (apply kT (by with_reducible first | rfl | assumption); conv => whnf) | (apply kF (by with_reducible first | rfl | assumption); conv => whnf) | (apply kT (by decide); conv => whnf) | (apply kF (by decide); conv => whnf) | (apply kB <;> intro _ <;> conv => whnf) | fail))
          rfl
end Go.Ev.Ytojlbcodfebmgaa

set_option linter.unusedVariables false
set_option linter.unusedSimpArgs false
set_option maxRecDepth 100000
namespace Go.Ev.Ytojlbcodfebmgaa
open Go.Proofs
def sawnX : Pn := ⟨[⟨0, false, 2⟩, ⟨2, true, 1⟩], [1, 3, -1]⟩
theorem sawn_w : weighI sheetP sawnX = [dI 11, dI 6, dI 7, dI 9] ∧ plnI sheetP sawnX = 0 := by constructor <;> kernel_rfl
theorem sheet_chk : checkI sheetP = 0 := by decide
theorem sawn_t : traceI sheetP sawnX 4 0 = (3, 1, 0) := by kernel_rfl
attribute [local irreducible] Pure Bor Iter inB wtB partsL stepC useB usesB fitsB runC weighL uIdx betB cutsF bestP seeS memF cutsL partsW useF memN doN covB traceL
theorem sheet_cuts : ((dsAll sheetP).cs.length : Int) = 3 := by
  have hp := sheet_chk
  have hp0 : OkP (wholeP sheetP) := by constructor <;> decide
  have ok0 : DsOk sheetP ⟨[wholeP sheetP], [], List.replicate sheetP.ws.length (-1), []⟩ := ⟨fun q hq => by simp only [List.mem_singleton] at hq; subst hq; exact hp0, (fun q w v h0 h1 hg => by cases hg), by simp⟩
  have h := doN_cuts (p := sheetP) (by decide) (sizeP (wholeP sheetP)) 0 (allW sheetP.ws.length) _ ok0 (by simp) (Nat.le_refl _)
  have e : pcAt [wholeP sheetP] ((0 : Nat) : Int) = ⟨0, 0, 6, 4⟩ := rfl
  have e2 : allW sheetP.ws.length = ⟨true, true, true, false⟩ := rfl
  dsimp only at h
  rw [e, e2, sheet_best.2] at h
  exact h
theorem sheet_pure : Pure Try.prog 45 [] (plD sheetP) := by
  refine pure_of pg Try.func45 (by kernel_rfl) ?_
  conv => whnf
  (refine .l ?_; conv => whnf)
  rfl
theorem sawn_pure : Pure Try.prog 46 [] (pnD sawnX) := by
  refine pure_of pg Try.func46 (by kernel_rfl) ?_
  conv => whnf
  (refine .l ?_; conv => whnf)
  (refine .l ?_; conv => whnf)
  rfl
theorem wakes_pure : Pure Try.prog 17 [] (dB true) := by
  have hp := sheet_chk
  have hi : InX sawnX := by intro c hc; simp only [sawnX, List.mem_cons, List.not_mem_nil, or_false] at hc; rcases hc with rfl | rfl <;> constructor <;> constructor <;> decide
  have c1 := weigh_pure (p := sheetP) (x := sawnX) (by decide) (by decide) hi
  have c2 := trace_pure (p := sheetP) (x := sawnX) (by decide) (by decide) hi 4 0
  have c3 := bestfn_pure hp
  rw [sawn_w.1, sawn_w.2] at c1
  rw [sawn_t] at c2
  dsimp only at c2
  have e3 : (bestP sheetP (wholeP sheetP) (allW sheetP.ws.length)).g = 12 := sheet_best.1
  rw [e3] at c3
  have f1 : ((((dsAll sheetP).cs.map ctD).length : Int) == 3) = true := eqT (by rw [List.length_map]; exact sheet_cuts)
  refine pure_of pg Try.func17 (by kernel_rfl) ?_
  conv => whnf
  (repeat' (first | (apply kT (by with_reducible first | rfl | assumption); conv => whnf) | (apply kF (by with_reducible first | rfl | assumption); conv => whnf) | (apply kT (by decide); conv => whnf) | (apply kF (by decide); conv => whnf) | (apply kB <;> intro _ <;> conv => whnf) | (refine .inl ⟨_, sheet_pure, ?_⟩; conv => whnf) | (refine .inl ⟨_, sawn_pure, ?_⟩; conv => whnf) | (refine .inl ⟨_, c1, ?_⟩; conv => whnf) | (refine .inl ⟨_, c2, ?_⟩; conv => whnf) | (refine .inl ⟨_, c3, ?_⟩; conv => whnf) | fail))
  rw [f1]
  rfl
def thinB (p : Pl) (x : Pn) : Bool := decide (p.ws.length ≤ 6) && decide (x.cs.length ≤ 45) && decide (x.us.length ≤ 6)
theorem thinB_iff {p : Pl} {x : Pn} : thinB p x = true ↔ p.ws.length ≤ 6 ∧ x.cs.length ≤ 45 ∧ x.us.length ≤ 6 := by unfold thinB; simp [and_assoc]
theorem thinB_pure (p : Pl) (x : Pn) : Pure Try.prog 16 [plD p, pnD x] (dB (thinB p x)) := by
  have h := thin_pure p x
  rw [show (decide (((p.ws.map wtD).length : Int) ≤ 6) && decide (((x.cs.map ctD).length : Int) ≤ 45) && decide (((x.us.map fun n => [dI n]).length : Int) ≤ 6)) = thinB p x by
    unfold thinB
    simp only [List.length_map]
    rw [Bool.eq_iff_iff]
    simp only [Bool.and_eq_true, decide_eq_true_eq]
    omega] at h
  exact h
theorem fault_pure (p : Pl) (h : p.ws.length ≤ 100000) : Pure Try.prog 29 [plD p] (dI (checkI p)) := by
  have c := faultR_pure p h
  refine pure_of pg Try.func29 (by kernel_rfl) ?_
  conv => whnf
  (repeat' (first | (apply kT (by with_reducible first | rfl | assumption); conv => whnf) | (apply kF (by with_reducible first | rfl | assumption); conv => whnf) | (apply kT (by decide); conv => whnf) | (apply kF (by decide); conv => whnf) | (apply kB <;> intro _ <;> conv => whnf) | (refine .inl ⟨_, c, ?_⟩; conv => whnf) | fail))
  rfl
theorem plannedR_pure (p : Pl) (x : Pn) (h : p.ws.length ≤ 100000) (hc : x.cs.length ≤ 45) (hu : x.us.length ≤ 100000) : Pure Try.prog 21 [plD p, pnD x] (dI (plnI p x)) := by
  have c := fault_pure p h
  by_cases hp : checkI p = 0
  · have c2 := planFault_pure hp hc hu
    rw [hp] at c
    refine pure_of pg Try.func21 (by kernel_rfl) ?_
    conv => whnf
    (repeat' (first | (apply kT (by with_reducible first | rfl | assumption); conv => whnf) | (apply kF (by with_reducible first | rfl | assumption); conv => whnf) | (apply kT (by decide); conv => whnf) | (apply kF (by decide); conv => whnf) | (apply kB <;> intro _ <;> conv => whnf) | (refine .inl ⟨_, c, ?_⟩; conv => whnf) | (refine .inl ⟨_, c2, ?_⟩; conv => whnf) | fail))
    rfl
  · have e : plnI p x = checkI p := by unfold plnI; rw [if_pos hp]
    have f1 : (checkI p != 0) = true := by simpa using hp
    rw [e]
    refine pure_of pg Try.func21 (by kernel_rfl) ?_
    conv => whnf
    (repeat' (first | (apply kT (by with_reducible first | rfl | assumption); conv => whnf) | (apply kF (by with_reducible first | rfl | assumption); conv => whnf) | (apply kT (by decide); conv => whnf) | (apply kF (by decide); conv => whnf) | (apply kB <;> intro _ <;> conv => whnf) | (refine .inl ⟨_, c, ?_⟩; conv => whnf) | fail))
    rfl
theorem checkI_wl {p : Pl} (hp : checkI p = 0) : IntKind.i64.wrap (p.w * p.l) = p.w * p.l := by
  obtain ⟨_, hw, hl, _⟩ := check_zero hp
  have : p.w * p.l ≤ 8 * 8 := Int.mul_le_mul hw.2 hl.2 (by omega) (by omega)
  have : 0 ≤ p.w * p.l := Int.mul_nonneg (by omega) (by omega)
  exact wS (by omega) (by omega)
def readyB (p : Pl) : Bool := decide (p.ws.length ≤ 6) && decide (checkI p = 0)
theorem ready_pure (p : Pl) : Pure Try.prog 36 [plD p] (dB (readyB p)) := by
  have hm : ((p.ws.map wtD).length : Int) = p.ws.length := by rw [List.length_map]
  by_cases h6 : p.ws.length ≤ 6
  · have f1 : decide (((p.ws.map wtD).length : Int) ≤ 6) = true := decide_eq_true (by rw [hm]; omega)
    have c := faultR_pure p (by omega)
    have e : readyB p = (checkI p == 0) := by unfold readyB; rw [decide_eq_true h6]; rfl
    rw [e]
    refine pure_of pg Try.func36 (by kernel_rfl) ?_
    conv => whnf
    (repeat' (first | (apply kT (by with_reducible first | rfl | assumption); conv => whnf) | (apply kF (by with_reducible first | rfl | assumption); conv => whnf) | (apply kT (by decide); conv => whnf) | (apply kF (by decide); conv => whnf) | (apply kB <;> intro _ <;> conv => whnf) | (refine .inl ⟨_, c, ?_⟩; conv => whnf) | fail))
    rfl
  · have f1 : decide (((p.ws.map wtD).length : Int) ≤ 6) = false := decide_eq_false (by rw [hm]; omega)
    have e : readyB p = false := by unfold readyB; rw [decide_eq_false h6]; rfl
    rw [e]
    refine pure_of pg Try.func36 (by kernel_rfl) ?_
    conv => whnf
    (repeat' (first | (apply kT (by with_reducible first | rfl | assumption); conv => whnf) | (apply kF (by with_reducible first | rfl | assumption); conv => whnf) | (apply kT (by decide); conv => whnf) | (apply kF (by decide); conv => whnf) | (apply kB <;> intro _ <;> conv => whnf) | fail))
    rfl
def lightB (p : Pl) : Bool := readyB p && decide (p.w * p.l ≤ 30) && decide (p.ws.length ≤ 3)
theorem lightB_iff {p : Pl} : lightB p = true ↔ checkI p = 0 ∧ p.w * p.l ≤ 30 ∧ p.ws.length ≤ 3 := by
  unfold lightB readyB
  simp only [Bool.and_eq_true, decide_eq_true_eq]
  constructor
  · rintro ⟨⟨⟨_, h1⟩, h2⟩, h3⟩; exact ⟨h1, h2, h3⟩
  · rintro ⟨h1, h2, h3⟩; exact ⟨⟨⟨by omega, h1⟩, h2⟩, h3⟩
theorem light_pure (p : Pl) : Pure Try.prog 33 [plD p] (dB (lightB p)) := by
  have c := ready_pure p
  have hm : ((p.ws.map wtD).length : Int) = p.ws.length := by rw [List.length_map]
  cases hr : readyB p with
  | false =>
    rw [hr] at c
    have e : lightB p = false := by unfold lightB; rw [hr]; rfl
    rw [e]
    refine pure_of pg Try.func33 (by kernel_rfl) ?_
    conv => whnf
    (repeat' (first | (apply kT (by with_reducible first | rfl | assumption); conv => whnf) | (apply kF (by with_reducible first | rfl | assumption); conv => whnf) | (apply kT (by decide); conv => whnf) | (apply kF (by decide); conv => whnf) | (apply kB <;> intro _ <;> conv => whnf) | (refine .inl ⟨_, c, ?_⟩; conv => whnf) | fail))
    rfl
  | true =>
    rw [hr] at c
    have hp : checkI p = 0 := by unfold readyB at hr; simp only [Bool.and_eq_true, decide_eq_true_eq] at hr; exact hr.2
    have hw := checkI_wl hp
    by_cases h1 : p.w * p.l ≤ 30
    · have f1 : decide (IntKind.i64.wrap (p.w * p.l) ≤ 30) = true := decide_eq_true (by rw [hw]; exact h1)
      have e : lightB p = decide (((p.ws.map wtD).length : Int) ≤ 3) := by
        unfold lightB; rw [hr, decide_eq_true h1, hm, Bool.true_and, Bool.true_and, decide_eq_decide]; omega
      rw [e]
      refine pure_of pg Try.func33 (by kernel_rfl) ?_
      conv => whnf
      (repeat' (first | (apply kT (by with_reducible first | rfl | assumption); conv => whnf) | (apply kF (by with_reducible first | rfl | assumption); conv => whnf) | (apply kT (by decide); conv => whnf) | (apply kF (by decide); conv => whnf) | (apply kB <;> intro _ <;> conv => whnf) | (refine .inl ⟨_, c, ?_⟩; conv => whnf) | fail))
      rfl
    · have f1 : decide (IntKind.i64.wrap (p.w * p.l) ≤ 30) = false := decide_eq_false (by rw [hw]; exact h1)
      have e : lightB p = false := by unfold lightB; rw [hr, decide_eq_false h1]; rfl
      rw [e]
      refine pure_of pg Try.func33 (by kernel_rfl) ?_
      conv => whnf
      (repeat' (first | (apply kT (by with_reducible first | rfl | assumption); conv => whnf) | (apply kF (by with_reducible first | rfl | assumption); conv => whnf) | (apply kT (by decide); conv => whnf) | (apply kF (by decide); conv => whnf) | (apply kB <;> intro _ <;> conv => whnf) | (refine .inl ⟨_, c, ?_⟩; conv => whnf) | fail))
      rfl
def freeB (n s : Int) : Bool := n == 0 || decide (n ≥ max 1 s)
theorem free_pure (n s : Int) : Pure Try.prog 38 [dI n, dI s] (dB (freeB n s)) := by
  cases h : (n == 0) with
  | true =>
    have e : freeB n s = true := by unfold freeB; rw [h]; rfl
    rw [e]
    refine pure_of pg Try.func38 (by kernel_rfl) ?_
    conv => whnf
    (repeat' (first | (apply kT (by with_reducible first | rfl | assumption); conv => whnf) | (apply kF (by with_reducible first | rfl | assumption); conv => whnf) | (apply kT (by decide); conv => whnf) | (apply kF (by decide); conv => whnf) | (apply kB <;> intro _ <;> conv => whnf) | fail))
    rfl
  | false =>
    have e : freeB n s = decide (n ≥ max 1 s) := by unfold freeB; rw [h]; rfl
    rw [e]
    refine pure_of pg Try.func38 (by kernel_rfl) ?_
    conv => whnf
    (repeat' (first | (apply kT (by with_reducible first | rfl | assumption); conv => whnf) | (apply kF (by with_reducible first | rfl | assumption); conv => whnf) | (apply kT (by decide); conv => whnf) | (apply kF (by decide); conv => whnf) | (apply kB <;> intro _ <;> conv => whnf) | fail))
    rfl
/-- worth and cuts of the best -/
def bwP (p : Pl) : Int := (bestP p (wholeP p) (allW p.ws.length)).g
def bcP (p : Pl) : Int := (bestP p (wholeP p) (allW p.ws.length)).c
theorem wholeP_ok {p : Pl} (hp : checkI p = 0) : OkP (wholeP p) := by
  obtain ⟨_, hw, hl, _⟩ := check_zero hp
  unfold wholeP; constructor <;> dsimp only <;> omega
theorem ds0_ok {p : Pl} (hp : checkI p = 0) : DsOk p ⟨[wholeP p], [], List.replicate p.ws.length (-1), []⟩ := ⟨fun q hq => by simp only [List.mem_singleton] at hq; subst hq; exact wholeP_ok hp, (fun q w v h0 h1 hg => by cases hg), by simp⟩
theorem dsAll_cuts {p : Pl} (hp : checkI p = 0) : ((dsAll p).cs.length : Int) = bcP p := by
  have h := doN_cuts (check_zero hp).2.2.2.1.1 (sizeP (wholeP p)) 0 (allW p.ws.length) _ (ds0_ok hp) (by simp) (Nat.le_refl _)
  have e : pcAt [wholeP p] ((0 : Nat) : Int) = wholeP p := rfl
  dsimp only at h
  rw [e] at h
  simp only [List.length_nil, Int.natCast_zero, Int.zero_add] at h
  exact h
theorem worth_pure {p : Pl} (hp : checkI p = 0) : Pure Try.prog 35 [plD p] (.tup [dI (bwP p), dI (bcP p), dB true]) := by
  have h4 := (check_zero hp).1
  have c1 := plateC_pure p (by omega)
  have c2 := bestfn_pure hp
  have hm : (((dsAll p).cs.map ctD).length : Int) = bcP p := by rw [List.length_map]; exact dsAll_cuts hp
  refine pure_of pg Try.func35 (by kernel_rfl) ?_
  conv => whnf
  (repeat' (first | (apply kT (by with_reducible first | rfl | assumption); conv => whnf) | (apply kF (by with_reducible first | rfl | assumption); conv => whnf) | (apply kT (by decide); conv => whnf) | (apply kF (by decide); conv => whnf) | (apply kB <;> intro _ <;> conv => whnf) | (refine .inl ⟨_, c1, ?_⟩; conv => whnf) | (refine .inl ⟨_, c2, ?_⟩; conv => whnf) | fail))
  rw [← hm]
  rfl
end Go.Ev.Ytojlbcodfebmgaa

set_option linter.unusedVariables false
set_option linter.unusedSimpArgs false
namespace Go.Ev.Ytojlbcodfebmgaa
open Go.Proofs
theorem map_of {α β : Type} {f : α → β} {q : α → Prop} : ∀ {es : List β}, (∀ el ∈ es, ∃ x, el = f x ∧ q x) → ∃ l : List α, es = l.map f ∧ ∀ x ∈ l, q x
  | [], _ => ⟨[], rfl, fun x hx => by cases hx⟩
  | e :: es, h => by
    obtain ⟨x, rfl, hq⟩ := h e (by simp)
    obtain ⟨l, rfl, hl⟩ := map_of (es := es) fun el he => h el (by simp [he])
    exact ⟨x :: l, rfl, fun y hy => by
      rcases List.mem_cons.1 hy with rfl | hy
      · exact hq
      · exact hl y hy⟩
theorem inI_of {n : Int} (h : (Lit.int .i64 n).wf = true) : InI n := by
  have := bounds_i64 h
  unfold InI; omega
def InW (w : Wt) : Prop := InI w.w ∧ InI w.l ∧ InI w.g ∧ InI w.x1 ∧ InI w.x2 ∧ InI w.y1 ∧ InI w.y2
theorem okV_plate {d : D} (h : OkV tb 6 24 d) : ∃ p : Pl, d = plD p ∧ p.ws.length ≤ 9223372036854775807 ∧ InI p.w ∧ InI p.l ∧ InI p.s ∧ ∀ w ∈ p.ws, InW w := by
  obtain ⟨y, ds, hy, hd, rfl⟩ := h
  cases hy
  obtain ⟨a1, r1, rfl, ⟨i1, rfl, w1⟩, a2, r2, rfl, ⟨i2, rfl, w2⟩, a3, r3, rfl, ⟨i3, rfl, w3⟩, a4, r4, rfl, h4, rfl⟩ := hd
  obtain ⟨es, rfl, hlen, hel⟩ := h4
  obtain ⟨l, rfl, hl⟩ := map_of (f := wtD) (q := InW) (es := es) fun el he => by
    obtain ⟨b1, s1, rfl, ⟨j1, rfl, v1⟩, b2, s2, rfl, ⟨j2, rfl, v2⟩, b3, s3, rfl, ⟨t, rfl⟩, b4, s4, rfl, ⟨j4, rfl, v4⟩, b5, s5, rfl, ⟨c1, u1, rfl, ⟨x1, rfl, y1⟩, c2, u2, rfl, ⟨x2, rfl, y2⟩, rfl⟩, b6, s6, rfl, ⟨c3, u3, rfl, ⟨x3, rfl, y3⟩, c4, u4, rfl, ⟨x4, rfl, y4⟩, rfl⟩, rfl⟩ := hel el he
    exact ⟨⟨j1, j2, t, j4, x1, x2, x3, x4⟩, rfl, inI_of v1, inI_of v2, inI_of v4, inI_of y1, inI_of y2, inI_of y3, inI_of y4⟩
  exact ⟨⟨i1, i2, i3, l⟩, rfl, by simpa [maxLen] using hlen, inI_of w1, inI_of w2, inI_of w3, hl⟩
theorem okV_wanted {d : D} (h : OkV tb 6 65 d) : ∃ w : Wt, d = .agg (wtD w) ∧ InW w := by
  obtain ⟨y, ds, hy, hd, rfl⟩ := h
  cases hy
  obtain ⟨b1, s1, rfl, ⟨j1, rfl, v1⟩, b2, s2, rfl, ⟨j2, rfl, v2⟩, b3, s3, rfl, ⟨t, rfl⟩, b4, s4, rfl, ⟨j4, rfl, v4⟩, b5, s5, rfl, ⟨c1, u1, rfl, ⟨x1, rfl, y1⟩, c2, u2, rfl, ⟨x2, rfl, y2⟩, rfl⟩, b6, s6, rfl, ⟨c3, u3, rfl, ⟨x3, rfl, y3⟩, c4, u4, rfl, ⟨x4, rfl, y4⟩, rfl⟩, rfl⟩ := hd
  exact ⟨⟨j1, j2, t, j4, x1, x2, x3, x4⟩, rfl, inI_of v1, inI_of v2, inI_of v4, inI_of y1, inI_of y2, inI_of y3, inI_of y4⟩
theorem okV_int {d : D} (h : OkV tb 6 3 d) : ∃ i, d = dI i ∧ InI i := by
  obtain ⟨y, ds, hy, hd, rfl⟩ := h
  cases hy
  obtain ⟨i, rfl, hw⟩ := hd
  exact ⟨i, rfl, inI_of hw⟩
theorem okV_plan {d : D} (h : OkV tb 6 28 d) : ∃ x : Pn, d = pnD x ∧ x.cs.length ≤ 9223372036854775807 ∧ x.us.length ≤ 9223372036854775807 ∧ (∀ c ∈ x.cs, InI c.n ∧ InI c.at_) ∧ ∀ u ∈ x.us, InI u := by
  obtain ⟨y, ds, hy, hd, rfl⟩ := h
  cases hy
  obtain ⟨a1, r1, rfl, ⟨es, rfl, hlen, hel⟩, a2, r2, rfl, ⟨es2, rfl, hlen2, hel2⟩, rfl⟩ := hd
  obtain ⟨l, rfl, hl⟩ := map_of (f := ctD) (q := fun c => InI c.n ∧ InI c.at_) (es := es) fun el he => by
    obtain ⟨b1, s1, rfl, ⟨j1, rfl, v1⟩, b2, s2, rfl, ⟨t, rfl⟩, b3, s3, rfl, ⟨j3, rfl, v3⟩, rfl⟩ := hel el he
    exact ⟨⟨j1, t, j3⟩, rfl, inI_of v1, inI_of v3⟩
  obtain ⟨l2, rfl, hl2⟩ := map_of (f := fun n : Int => [dI n]) (q := InI) (es := es2) fun el he => by
    obtain ⟨i, rfl, hw⟩ := hel2 el he
    exact ⟨i, rfl, inI_of hw⟩
  exact ⟨⟨l, l2⟩, rfl, by simpa [maxLen] using hlen, by simpa [maxLen] using hlen2, hl, hl2⟩
theorem okV_cuts {d : D} (h : OkV tb 6 25 d) : ∃ l, d = ctsD l ∧ l.length ≤ 9223372036854775807 ∧ ∀ c ∈ l, InI c.n ∧ InI c.at_ := by
  obtain ⟨y, ds, hy, hd, rfl⟩ := h
  cases hy
  obtain ⟨es, rfl, hlen, hel⟩ := hd
  obtain ⟨l, rfl, hl⟩ := map_of (f := ctD) (q := fun c => InI c.n ∧ InI c.at_) (es := es) fun el he => by
    obtain ⟨b1, s1, rfl, ⟨j1, rfl, v1⟩, b2, s2, rfl, ⟨t, rfl⟩, b3, s3, rfl, ⟨j3, rfl, v3⟩, rfl⟩ := hel el he
    exact ⟨⟨j1, t, j3⟩, rfl, inI_of v1, inI_of v3⟩
  exact ⟨l, rfl, by simpa [maxLen] using hlen, hl⟩
theorem law_own : ownKnob Try.prog.godebug = none := by kernel_rfl
theorem law_laid : laidOutB Try.prog = true := by kernel_rfl
end Go.Ev.Ytojlbcodfebmgaa

set_option linter.unusedVariables false
set_option linter.unusedSimpArgs false
set_option maxRecDepth 100000
namespace Go.Ev.Ytojlbcodfebmgaa
open Go.Proofs
theorem cov_whole {p : Pl} (hp : checkI p = 0) {ux uy : Int} (hx : InI ux) (hy : InI uy) : covB ⟨0, 0, p.w, p.l⟩ ux uy = (inB ux 0 (p.w - 1) && inB uy 0 (p.l - 1)) := by
  obtain ⟨_, hw, hl, _⟩ := check_zero hp
  unfold InI at hx hy
  unfold covB
  rw [show wI (ux - 0) = ux by unfold wI; rw [Int.sub_zero]; exact wrapI (by omega) (by omega), show wI (uy - 0) = uy by unfold wI; rw [Int.sub_zero]; exact wrapI (by omega) (by omega), show wI (p.w - 1) = p.w - 1 from wS (by omega) (by omega), show wI (p.l - 1) = p.l - 1 from wS (by omega) (by omega)]
theorem traceL_ge {ux uy : Int} : ∀ (ps : List Pc) (cs : List Bool) (n : Nat), traceL ux uy ps cs n = -1 ∨ 0 ≤ traceL ux uy ps cs n
  | [], cs, n => by rw [traceL_nil]; exact .inl rfl
  | q :: ps, [], n => by rw [traceL]; exact .inl rfl; intros; contradiction
  | q :: ps, c :: cs, n => by
    rw [traceL_cons]
    split
    · right; omega
    · exact traceL_ge ps cs (n + 1)
attribute [local irreducible] Pure Bor Iter inB wtB partsL stepC useB usesB fitsB runC weighL uIdx betB cutsF bestP seeS memF cutsL partsW useF memN doN covB traceL thinB
set_option maxHeartbeats 4000000 in
theorem plateTraces_pure (p : Pl) (x : Pn) (hi : InX x) (ux uy : Int) (hx : InI ux) (hy : InI uy) : Pure Try.prog 4 [plD p, pnD x, dI ux, dI uy] (dB true) := by
  have ct := thinB_pure p x
  cases hth : thinB p x with
  | false =>
    rw [hth] at ct
    refine pure_of pg Try.func4 (by kernel_rfl) ?_
    conv => whnf
    (repeat' (first | (apply kT (by with_reducible first | rfl | assumption); conv => whnf) | (apply kF (by with_reducible first | rfl | assumption); conv => whnf) | (apply kT (by decide); conv => whnf) | (apply kF (by decide); conv => whnf) | (apply kB <;> intro _ <;> conv => whnf) | (refine .inl ⟨_, ct, ?_⟩; conv => whnf) | (refine .inl ⟨_, wakes_pure, ?_⟩; conv => whnf) | fail))
    rfl
  | true =>
    rw [hth] at ct
    obtain ⟨h1, h2, h3⟩ := thinB_iff.1 hth
    have c1 := plateC_pure p (by omega)
    have c2 := planC_pure x (by omega) (by omega)
    have c3 := trace_pure (p := p) (x := x) (by omega) (by omega) hi ux uy
    have c4 := plannedR_pure p x (by omega) h2 (by omega)
    by_cases hpl : plnI p x = 0
    case neg =>
      have e : traceI p x ux uy = (0, 0, plnI p x) := by unfold traceI; rw [if_pos hpl]
      have f1 : (plnI p x == 0) = false := eqF hpl
      have f2 : (plnI p x != 0) = true := by simpa using hpl
      have f3 : (plnI p x == plnI p x) = true := by simp
      rw [e] at c3
      dsimp only at c3
      refine pure_of pg Try.func4 (by kernel_rfl) ?_
      conv => whnf
      (repeat' (first | (apply kT (by with_reducible first | rfl | assumption); conv => whnf) | (apply kF (by with_reducible first | rfl | assumption); conv => whnf) | (apply kT (by decide); conv => whnf) | (apply kF (by decide); conv => whnf) | (apply kB <;> intro _ <;> conv => whnf) | (refine .inl ⟨_, ct, ?_⟩; conv => whnf) | (refine .inl ⟨_, c1, ?_⟩; conv => whnf) | (refine .inl ⟨_, c2, ?_⟩; conv => whnf) | (refine .inl ⟨_, c3, ?_⟩; conv => whnf) | (refine .inl ⟨_, c4, ?_⟩; conv => whnf) | (refine .inl ⟨_, wakes_pure, ?_⟩; conv => whnf) | fail))
      rfl
    obtain ⟨st, o, hst⟩ := plnI_ok hpl
    have hp := o.chk
    obtain ⟨_, hw, hl, _⟩ := check_zero hp
    have wx : IntKind.i64.wrap (p.w - 1) = p.w - 1 := wS (by omega) (by omega)
    have wy : IntKind.i64.wrap (p.l - 1) = p.l - 1 := wS (by omega) (by omega)
    have cx := in_pure ux 0 (IntKind.i64.wrap (p.w - 1))
    have cy := in_pure uy 0 (IntKind.i64.wrap (p.l - 1))
    rw [show inB ux 0 (IntKind.i64.wrap (p.w - 1)) = inB ux 0 (p.w - 1) by rw [wx]] at cx
    rw [show inB uy 0 (IntKind.i64.wrap (p.l - 1)) = inB uy 0 (p.l - 1) by rw [wy]] at cy
    rw [hpl] at c4
    have hcv := cov_whole hp hx hy
    cases hbx : inB ux 0 (p.w - 1) with
    | false =>
      have e : traceI p x ux uy = (0, 0, 2) := by unfold traceI; rw [if_neg (by omega), if_pos (by rw [hcv, hbx]; rfl)]
      rw [e] at c3
      rw [hbx] at cx
      dsimp only at c3
      refine pure_of pg Try.func4 (by kernel_rfl) ?_
      conv => whnf
      (repeat' (first | (apply kT (by with_reducible first | rfl | assumption); conv => whnf) | (apply kF (by with_reducible first | rfl | assumption); conv => whnf) | (apply kT (by decide); conv => whnf) | (apply kF (by decide); conv => whnf) | (apply kB <;> intro _ <;> conv => whnf) | (refine .inl ⟨_, ct, ?_⟩; conv => whnf) | (refine .inl ⟨_, c1, ?_⟩; conv => whnf) | (refine .inl ⟨_, c2, ?_⟩; conv => whnf) | (refine .inl ⟨_, c3, ?_⟩; conv => whnf) | (refine .inl ⟨_, c4, ?_⟩; conv => whnf) | (refine .inl ⟨_, cx, ?_⟩; conv => whnf) | (refine .inl ⟨_, wakes_pure, ?_⟩; conv => whnf) | fail))
      rfl
    | true =>
      rw [hbx] at cx
      cases hby : inB uy 0 (p.l - 1) with
      | false =>
        have e : traceI p x ux uy = (0, 0, 2) := by unfold traceI; rw [if_neg (by omega), if_pos (by rw [hcv, hbx, hby]; rfl)]
        rw [e] at c3
        rw [hby] at cy
        dsimp only at c3
        refine pure_of pg Try.func4 (by kernel_rfl) ?_
        conv => whnf
        (repeat' (first | (apply kT (by with_reducible first | rfl | assumption); conv => whnf) | (apply kF (by with_reducible first | rfl | assumption); conv => whnf) | (apply kT (by decide); conv => whnf) | (apply kF (by decide); conv => whnf) | (apply kB <;> intro _ <;> conv => whnf) | (refine .inl ⟨_, ct, ?_⟩; conv => whnf) | (refine .inl ⟨_, c1, ?_⟩; conv => whnf) | (refine .inl ⟨_, c2, ?_⟩; conv => whnf) | (refine .inl ⟨_, c3, ?_⟩; conv => whnf) | (refine .inl ⟨_, c4, ?_⟩; conv => whnf) | (refine .inl ⟨_, cx, ?_⟩; conv => whnf) | (refine .inl ⟨_, cy, ?_⟩; conv => whnf) | (refine .inl ⟨_, wakes_pure, ?_⟩; conv => whnf) | fail))
        rfl
      | true =>
        rw [hby] at cy
        have hbx' := inB_true.1 hbx
        have hby' := inB_true.1 hby
        have c5 := traceR_pure hp (by omega) o.run (ux := ux) (uy := uy) (by omega) (by omega)
        have c6 := usedAs_pure x (by omega) (traceL ux uy st.1 st.2 0)
        have e : traceI p x ux uy = if traceL ux uy st.1 st.2 0 = -1 then (-1, -1, 0) else (traceL ux uy st.1 st.2 0, uIdx x.us (traceL ux uy st.1 st.2 0), 0) := by
          unfold traceI; rw [if_neg (by omega), if_neg (by rw [hcv, hbx, hby]; simp), hst]
        have hge := traceL_ge (ux := ux) (uy := uy) st.1 st.2 0
        rw [e] at c3
        generalize traceL ux uy st.1 st.2 0 = t at c3 c5 c6 hge
        by_cases ht : t = -1
        · rw [if_pos ht] at c3
          have f1 : decide (t ≥ 0) = false := decide_eq_false (by omega)
          have f2 : (-1 == t) = true := eqT ht.symm
          dsimp only at c3
          refine pure_of pg Try.func4 (by kernel_rfl) ?_
          conv => whnf
          (repeat' (first | (apply kT (by with_reducible first | rfl | assumption); conv => whnf) | (apply kF (by with_reducible first | rfl | assumption); conv => whnf) | (apply kT (by decide); conv => whnf) | (apply kF (by decide); conv => whnf) | (apply kB <;> intro _ <;> conv => whnf) | (refine .inl ⟨_, ct, ?_⟩; conv => whnf) | (refine .inl ⟨_, c1, ?_⟩; conv => whnf) | (refine .inl ⟨_, c2, ?_⟩; conv => whnf) | (refine .inl ⟨_, c3, ?_⟩; conv => whnf) | (refine .inl ⟨_, c4, ?_⟩; conv => whnf) | (refine .inl ⟨_, cx, ?_⟩; conv => whnf) | (refine .inl ⟨_, cy, ?_⟩; conv => whnf) | (refine .inl ⟨_, c5, ?_⟩; conv => whnf) | (refine .inl ⟨_, c6, ?_⟩; conv => whnf) | (refine .inl ⟨_, wakes_pure, ?_⟩; conv => whnf) | fail))
          rfl
        · rw [if_neg ht] at c3
          have f1 : decide (t ≥ 0) = true := decide_eq_true (by omega)
          have f2 : (t == t) = true := by simp
          have f3 : (uIdx x.us t == uIdx x.us t) = true := by simp
          dsimp only at c3
          refine pure_of pg Try.func4 (by kernel_rfl) ?_
          conv => whnf
          (repeat' (first | (apply kT (by with_reducible first | rfl | assumption); conv => whnf) | (apply kF (by with_reducible first | rfl | assumption); conv => whnf) | (apply kT (by decide); conv => whnf) | (apply kF (by decide); conv => whnf) | (apply kB <;> intro _ <;> conv => whnf) | (refine .inl ⟨_, ct, ?_⟩; conv => whnf) | (refine .inl ⟨_, c1, ?_⟩; conv => whnf) | (refine .inl ⟨_, c2, ?_⟩; conv => whnf) | (refine .inl ⟨_, c3, ?_⟩; conv => whnf) | (refine .inl ⟨_, c4, ?_⟩; conv => whnf) | (refine .inl ⟨_, cx, ?_⟩; conv => whnf) | (refine .inl ⟨_, cy, ?_⟩; conv => whnf) | (refine .inl ⟨_, c5, ?_⟩; conv => whnf) | (refine .inl ⟨_, c6, ?_⟩; conv => whnf) | (refine .inl ⟨_, wakes_pure, ?_⟩; conv => whnf) | fail))
          rfl
end Go.Ev.Ytojlbcodfebmgaa

set_option linter.unusedVariables false
set_option linter.unusedSimpArgs false
set_option maxRecDepth 100000
namespace Go.Ev.Ytojlbcodfebmgaa
open Go.Proofs
def sumN (f : Nat → Int) : Nat → Int
  | 0 => 0
  | n + 1 => sumN f n + f n
theorem sumN_congr {f g : Nat → Int} : ∀ (n : Nat), (∀ i, i < n → f i = g i) → sumN f n = sumN g n
  | 0, _ => rfl
  | n + 1, h => by rw [sumN, sumN, sumN_congr n fun i hi => h i (by omega), h n (by omega)]
theorem sumN_zero {f : Nat → Int} (n : Nat) (h : ∀ i, i < n → f i = 0) : sumN f n = 0 := by
  rw [sumN_congr (g := fun _ => 0) n h]
  induction n with
  | zero => rfl
  | succ n ih => rw [sumN, ih fun i hi => h i (by omega)]; rfl
theorem sumN_add (f g : Nat → Int) : ∀ n, sumN (fun i => f i + g i) n = sumN f n + sumN g n
  | 0 => rfl
  | n + 1 => by rw [sumN, sumN, sumN, sumN_add f g n]; omega
theorem sumN_mul (c : Int) (f : Nat → Int) : ∀ n, sumN (fun i => c * f i) n = c * sumN f n
  | 0 => by simp [sumN]
  | n + 1 => by rw [sumN, sumN, sumN_mul c f n, Int.mul_add]
theorem sumN_single {f : Nat → Int} {k : Nat} : ∀ (n : Nat), k < n → (∀ i, i < n → i ≠ k → f i = 0) → sumN f n = f k
  | 0, h, _ => by omega
  | n + 1, h, h0 => by
    rw [sumN]
    by_cases hk : k = n
    · subst hk
      rw [sumN_zero k fun i hi => h0 i (by omega) (by omega), Int.zero_add]
    · rw [sumN_single n (by omega) fun i hi hne => h0 i (by omega) hne, h0 n (by omega) (fun h => hk h.symm), Int.add_zero]
theorem sumN_swap (f : Nat → Nat → Int) (m : Nat) : ∀ n, sumN (fun i => sumN (fun j => f i j) m) n = sumN (fun j => sumN (fun i => f i j) n) m
  | 0 => by
    rw [sumN, sumN_zero]
    intros; rfl
  | n + 1 => by
    rw [sumN, sumN_swap f m n, ← sumN_add]
    rfl
theorem sumN_nonneg {f : Nat → Int} : ∀ (n : Nat), (∀ i, i < n → 0 ≤ f i) → 0 ≤ sumN f n
  | 0, _ => Int.le_refl _
  | n + 1, h => by rw [sumN]; have := sumN_nonneg n fun i hi => h i (by omega); have := h n (by omega); omega
theorem sumN_le {f g : Nat → Int} : ∀ (n : Nat), (∀ i, i < n → f i ≤ g i) → sumN f n ≤ sumN g n
  | 0, _ => Int.le_refl _
  | n + 1, h => by rw [sumN, sumN]; have := sumN_le n fun i hi => h i (by omega); have := h n (by omega); omega
def ind (b : Bool) : Int := if b then 1 else 0
def sumA (f : Nat → Nat → Int) (L W : Nat) : Int := sumN (fun x => sumN (fun y => f x y) L) W
theorem cntC_sum (f : Int → Int → Bool) (x : Nat) : ∀ L, (cntC f x L : Int) = sumN (fun y => ind (f x y)) L
  | 0 => by simp [cntC, sumN]
  | L + 1 => by
    rw [cntC, sumN, ← cntC_sum f x L]
    unfold ind
    split <;> simp
theorem cntA_sum (f : Int → Int → Bool) (L : Nat) : ∀ W, (cntA f L W : Int) = sumA (fun x y => ind (f x y)) L W
  | 0 => by simp [cntA, sumA, sumN]
  | W + 1 => by
    have ih := cntA_sum f L W
    unfold sumA at ih ⊢
    rw [cntA, sumN, ← ih, ← cntC_sum]
    omega
theorem sumA_congr {f g : Nat → Nat → Int} {L W : Nat} (h : ∀ x y, x < W → y < L → f x y = g x y) : sumA f L W = sumA g L W := by
  unfold sumA
  exact sumN_congr _ fun x hx => sumN_congr _ fun y hy => h x y hx hy
theorem sumA_add (f g : Nat → Nat → Int) (L W : Nat) : sumA (fun x y => f x y + g x y) L W = sumA f L W + sumA g L W := by
  unfold sumA
  rw [← sumN_add]
  exact sumN_congr _ fun x _ => sumN_add _ _ _
theorem sumA_sum (f : Nat → Nat → Nat → Int) (L W n : Nat) : sumA (fun x y => sumN (fun i => f i x y) n) L W = sumN (fun i => sumA (f i) L W) n := by
  unfold sumA
  rw [sumN_congr W fun x _ => sumN_swap (fun y i => f i x y) n L]
  exact sumN_swap _ _ _
theorem sumN_const (c : Int) : ∀ n : Nat, sumN (fun _ => c) n = c * n
  | 0 => by simp [sumN]
  | n + 1 => by rw [sumN, sumN_const c n, Int.natCast_add, Int.mul_add]; simp
theorem sumN_span {a m : Int} (ha : 0 ≤ a) (hm : 0 ≤ m) : ∀ n : Nat, sumN (fun k => ind (decide (a ≤ k ∧ (k : Int) < a + m))) n = if a + m ≤ n then m else if a ≤ n then n - a else 0
  | 0 => by
    rw [sumN]
    split
    · omega
    · split <;> simp <;> omega
  | n + 1 => by
    rw [sumN, sumN_span ha hm n]
    unfold ind
    by_cases h : a ≤ n ∧ (n : Int) < a + m
    · rw [if_pos (decide_eq_true h)]
      split <;> split <;> (try split) <;> omega
    · rw [if_neg fun h' => h (of_decide_eq_true h')]
      split <;> split <;> (try split) <;> (try split) <;> omega
theorem sumA_cov {q : Pc} {L W : Nat} (hx : 0 ≤ q.x) (hy : 0 ≤ q.y) (hw : 0 ≤ q.w) (hl : 0 ≤ q.l) (h1 : q.x + q.w ≤ W) (h2 : q.y + q.l ≤ L) : sumA (fun x y => ind (covR q x y)) L W = q.w * q.l := by
  have e : ∀ x y : Nat, ind (covR q x y) = ind (decide (q.x ≤ x ∧ (x : Int) < q.x + q.w)) * ind (decide (q.y ≤ y ∧ (y : Int) < q.y + q.l)) := fun x y => by
    unfold ind
    by_cases h : covR q x y = true
    · have := covR_iff.1 h
      rw [if_pos h, if_pos (decide_eq_true this.1), if_pos (decide_eq_true this.2)]; rfl
    · rw [if_neg h]
      by_cases h3 : q.x ≤ x ∧ (x : Int) < q.x + q.w
      · rw [if_neg (c := decide (q.y ≤ y ∧ (y : Int) < q.y + q.l) = true)]
        · simp
        · intro h4; exact h (covR_iff.2 ⟨h3, of_decide_eq_true h4⟩)
      · rw [if_neg (c := decide (q.x ≤ x ∧ (x : Int) < q.x + q.w) = true)]
        · simp
        · intro h4; exact h3 (of_decide_eq_true h4)
  rw [sumA_congr fun x y _ _ => e x y]
  unfold sumA
  rw [sumN_congr (g := fun x => q.l * ind (decide (q.x ≤ x ∧ (x : Int) < q.x + q.w))) W fun x _ => by
    rw [sumN_mul, sumN_span hy hl, if_pos (by omega), Int.mul_comm]]
  rw [sumN_mul, sumN_span hx hw, if_pos (by omega), Int.mul_comm]
/-! ### what cuts keep -/
structure Lay (p : Pl) (st : St2) : Prop where
  len : st.2.length = st.1.length
  pcs : ∀ q ∈ st.1, 0 ≤ q.x ∧ 0 ≤ q.y ∧ 1 ≤ q.w ∧ 1 ≤ q.l ∧ q.x + q.w ≤ p.w ∧ q.y + q.l ≤ p.l
  apart : ∀ i j : Nat, i ≠ j → i < st.1.length → j < st.1.length → cutAt st.2 i = false → cutAt st.2 j = false → ∀ ux uy, covR (pcAt st.1 i) ux uy = true → covR (pcAt st.1 j) ux uy = true → False
theorem pcAt_mem {l : List Pc} {n : Nat} (h : n < l.length) : pcAt l n ∈ l := by
  unfold pcAt
  rw [Int.toNat_natCast, List.getElem?_eq_getElem h]
  exact List.getElem_mem h
theorem pcAt_left {l r : List Pc} {n : Nat} (h : n < l.length) : pcAt (l ++ r) n = pcAt l n := by
  unfold pcAt; rw [Int.toNat_natCast, List.getElem?_append_left h]
theorem pcAt_right {l r : List Pc} {n : Nat} (h : l.length ≤ n) : pcAt (l ++ r) n = pcAt r (n - l.length : Nat) := by
  unfold pcAt; rw [Int.toNat_natCast, Int.toNat_natCast, List.getElem?_append_right h]
theorem cutAt_left {l r : List Bool} {n : Nat} (h : n < l.length) : cutAt (l ++ r) n = cutAt l n := by
  unfold cutAt; rw [Int.toNat_natCast, List.getElem?_append_left h]
theorem cutAt_set {l : List Bool} {n i : Nat} : cutAt (l.set n true) i = false ↔ i ≠ n ∧ cutAt l i = false := by
  unfold cutAt
  rw [Int.toNat_natCast, List.getElem?_set]
  by_cases h : n = i
  · subst h
    simp only [if_true]
    constructor
    · intro h
      split at h <;> simp at h
    · rintro ⟨h, _⟩; exact absurd rfl h
  · rw [if_neg h]
    exact ⟨fun h' => ⟨fun e => h e.symm, h'⟩, fun h' => h'.2⟩
theorem parts_cov {q r : Pc} {ac : Bool} {a s : Int} (hs : 0 ≤ s) (hr : r ∈ partsL q ac a s) : ∀ ux uy, covR r ux uy = true → covR q ux uy = true := by
  intro ux uy h
  rw [covR_iff] at h ⊢
  unfold partsL at hr
  split at hr
  · cases hr
  · rename_i hc
    unfold noCut at hc
    rcases List.mem_append.1 hr with hr | hr
    all_goals
      split at hr
      · simp only [List.mem_singleton] at hr
        subst hr
        unfold partP farP at *
        cases ac <;> simp only [cond_true, cond_false] at * <;> omega
      · cases hr
theorem parts_in {q r : Pc} {ac : Bool} {a s : Int} (hs : 0 ≤ s) (hw : 1 ≤ q.w) (hl : 1 ≤ q.l) (hr : r ∈ partsL q ac a s) : q.x ≤ r.x ∧ q.y ≤ r.y ∧ 1 ≤ r.w ∧ 1 ≤ r.l ∧ r.x + r.w ≤ q.x + q.w ∧ r.y + r.l ≤ q.y + q.l := by
  unfold partsL at hr
  split at hr
  · cases hr
  · rename_i hc
    unfold noCut at hc
    rcases List.mem_append.1 hr with hr | hr
    all_goals
      split at hr
      · simp only [List.mem_singleton] at hr
        subst hr
        unfold partP farP at *
        cases ac <;> simp only [cond_true, cond_false] at * <;> omega
      · cases hr
theorem parts_apart {q a' b' : Pc} {ac : Bool} {a s : Int} (hs : 0 ≤ s) (h : partsL q ac a s = [a', b']) : ∀ ux uy, covR a' ux uy = true → covR b' ux uy = true → False := by
  intro ux uy h1 h2
  rw [covR_iff] at h1 h2
  unfold partsL at h
  split at h
  · cases h
  · rename_i hc
    unfold noCut at hc
    split at h <;> split at h <;> try (simp at h)
    obtain ⟨rfl, rfl⟩ := h
    unfold partP farP at *
    cases ac <;> simp only [cond_true, cond_false] at * <;> omega
theorem Lay.step {p : Pl} (hs : 0 ≤ p.s) {st st' : St2} {c : Ct} (h : Lay p st) (e : stepC p.s st c = some st') : Lay p st' := by
  unfold stepC at e
  split at e
  · cases e
  · rename_i hc
    simp only [not_or, Bool.not_eq_false, inB_true] at hc
    obtain ⟨⟨hn0, hn1⟩, hcut, hne⟩ := hc
    simp only [Option.some.injEq] at e
    subst e
    obtain ⟨n, hn⟩ : ∃ n : Nat, c.n = n := ⟨c.n.toNat, by omega⟩
    rw [hn] at hcut hne ⊢
    have hnl : n < st.1.length := by omega
    have hcut : cutAt st.2 n = false := (Bool.not_eq_true _).mp hcut
    have hq := h.pcs _ (pcAt_mem hnl)
    have hin := fun r => parts_in (r := r) (q := pcAt st.1 n) (ac := c.ac) (a := c.at_) hs hq.2.2.1 hq.2.2.2.1
    have hcv := fun r => parts_cov (r := r) (q := pcAt st.1 n) (ac := c.ac) (a := c.at_) hs
    have hap := fun a' b' => parts_apart (a' := a') (b' := b') (q := pcAt st.1 n) (ac := c.ac) (a := c.at_) hs
    have hpl := parts_len (pcAt st.1 n) c.ac c.at_ p.s
    generalize partsL (pcAt st.1 n) c.ac c.at_ p.s = l at *
    rw [Int.toNat_natCast]
    refine ⟨by simp [h.len], ?_, ?_⟩
    · intro q hq'
      rcases List.mem_append.1 hq' with hq' | hq'
      · exact h.pcs q hq'
      · have := hin q hq'
        omega
    · -- a new piece is apart from an old one
      have old : ∀ i : Nat, i < st.1.length → cutAt (st.2.set n true ++ List.replicate l.length false) i = false → i ≠ n ∧ cutAt st.2 i = false := fun i hi hc => by
        rw [cutAt_left (by rw [List.length_set, h.len]; exact hi)] at hc
        exact cutAt_set.1 hc
      have new : ∀ i j : Nat, i < st.1.length → st.1.length ≤ j → j < st.1.length + l.length → cutAt (st.2.set n true ++ List.replicate l.length false) i = false → ∀ ux uy, covR (pcAt (st.1 ++ l) i) ux uy = true → covR (pcAt (st.1 ++ l) j) ux uy = true → False := fun i j hi hj hj2 hc ux uy h1 h2 => by
        rw [pcAt_left hi] at h1
        rw [pcAt_right hj] at h2
        have := old i hi hc
        exact h.apart i n this.1 hi hnl this.2 hcut ux uy h1 (hcv _ (pcAt_mem (by omega)) ux uy h2)
      intro i j hij hi hj ci cj ux uy h1 h2
      simp only [List.length_append] at hi hj
      rcases Nat.lt_or_ge i st.1.length with hi' | hi' <;> rcases Nat.lt_or_ge j st.1.length with hj' | hj'
      · have a1 := old i hi' ci
        have a2 := old j hj' cj
        rw [pcAt_left hi'] at h1
        rw [pcAt_left hj'] at h2
        exact h.apart i j hij hi' hj' a1.2 a2.2 ux uy h1 h2
      · exact new i j hi' hj' hj ci ux uy h1 h2
      · exact new j i hj' hi' hi cj ux uy h2 h1
      · rw [pcAt_right hi'] at h1
        rw [pcAt_right hj'] at h2
        match l, hpl, hap, hi, hj, h1, h2 with
        | [], _, _, hi, _, _, _ => simp at hi; omega
        | [a'], _, _, hi, hj, _, _ => simp at hi hj; omega
        | [a', b'], _, hap, hi, hj, h1, h2 =>
          simp only [List.length_cons, List.length_nil] at hi hj
          obtain ⟨e1, e2⟩ | ⟨e1, e2⟩ : (i - st.1.length = 0 ∧ j - st.1.length = 1) ∨ (i - st.1.length = 1 ∧ j - st.1.length = 0) := by omega
          · rw [e1] at h1; rw [e2] at h2; exact hap a' b' rfl ux uy h1 h2
          · rw [e1] at h1; rw [e2] at h2; exact hap a' b' rfl ux uy h2 h1
        | _ :: _ :: _ :: _, hpl, _, _, _, _, _ => simp at hpl
theorem Lay.run {p : Pl} (hs : 0 ≤ p.s) : ∀ (cs : List Ct) {st st' : St2}, Lay p st → runC p.s cs st = some st' → Lay p st'
  | [], st, st', h, e => by rw [runC] at e; cases e; exact h
  | c :: cs, st, st', h, e => by
    rw [runC] at e
    split at e
    · rename_i st1 h1; exact Lay.run hs cs (h.step hs h1) e
    · cases e
theorem lay0 {p : Pl} (hp : checkI p = 0) : Lay p (st0 p) := by
  obtain ⟨_, hw, hl, _⟩ := check_zero hp
  refine ⟨rfl, fun q hq => ?_, fun i j hij hi hj => ?_⟩
  · simp only [st0, List.mem_singleton] at hq
    subst hq
    dsimp only
    omega
  · simp only [st0, List.length_singleton] at hi hj
    omega
end Go.Ev.Ytojlbcodfebmgaa

set_option linter.unusedVariables false
set_option linter.unusedSimpArgs false
set_option maxRecDepth 100000
namespace Go.Ev.Ytojlbcodfebmgaa
open Go.Proofs
theorem usesB_fact (ws : List Wt) (st : St2) : ∀ (us : List Int) (i : Nat) (seen : List Int), usesB ws st us i seen = true → ∀ (k : Nat) (h : k < us.length), us[k] ≠ -1 →
    us[k] ∉ seen ∧ cutAt st.2 us[k] = false ∧ fitsB (wtAt ws (i + k)) (pcAt st.1 us[k]) = true ∧ ∀ (j : Nat) (hj : j < k), us[j] ≠ us[k]
  | [], i, seen, _, k, h, _ => by simp at h
  | n :: r, i, seen, hu, 0, h, hn => by
    simp only [List.getElem_cons_zero] at hn ⊢
    rw [usesB, if_neg hn] at hu
    split at hu
    · cases hu
    · rename_i hc
      simp only [not_or, Bool.not_eq_true, Bool.not_eq_false] at hc
      exact ⟨hc.1, hc.2.1, hc.2.2, fun j hj => by omega⟩
  | n :: r, i, seen, hu, k + 1, h, hn => by
    simp only [List.getElem_cons_succ] at hn ⊢
    rw [usesB] at hu
    have e : i + (k + 1) = i + 1 + k := by omega
    rw [e]
    split at hu
    · rename_i h1
      have ih := usesB_fact ws st r (i + 1) seen hu k (by simpa using h) hn
      refine ⟨ih.1, ih.2.1, ih.2.2.1, fun j hj => ?_⟩
      cases j with
      | zero => simp only [List.getElem_cons_zero]; rw [h1]; exact fun h => hn h.symm
      | succ j => simp only [List.getElem_cons_succ]; exact ih.2.2.2 j (by omega)
    · split at hu
      · cases hu
      · have ih := usesB_fact ws st r (i + 1) (seen ++ [n]) hu k (by simpa using h) hn
        simp only [List.mem_append, List.mem_singleton, not_or] at ih
        refine ⟨ih.1.1, ih.2.1, ih.2.2.1, fun j hj => ?_⟩
        cases j with
        | zero => simp only [List.getElem_cons_zero]; exact fun h => ih.1.2 h.symm
        | succ j => simp only [List.getElem_cons_succ]; exact ih.2.2.2 j (by omega)
/-- what uses are -/
structure UsF (p : Pl) (us : List Int) (st : St2) : Prop where
  len : us.length = p.ws.length
  use : ∀ (i : Nat) (h : i < us.length), us[i] = -1 ∨ (0 ≤ us[i] ∧ us[i] < st.1.length ∧ cutAt st.2 us[i] = false ∧ fitsB (wtAt p.ws i) (pcAt st.1 us[i]) = true)
  one : ∀ (i j : Nat) (hi : i < us.length) (hj : j < us.length), i ≠ j → us[i] = us[j] → us[i] = -1
theorem OkX.usF {p : Pl} {x : Pn} {st : St2} (o : OkX p x st) : UsF p x.us st := by
  have hf := usesB_fact p.ws st x.us 0 [] o.good
  refine ⟨o.us, fun i h => ?_, fun i j hi hj hij he => ?_⟩
  · by_cases hn : x.us[i] = -1
    · exact .inl hn
    · have hu := List.all_eq_true.1 o.uses _ (List.getElem_mem h)
      unfold useB at hu
      have := inB_true.1 hu
      have f := hf i h hn
      rw [Nat.zero_add] at f
      exact .inr ⟨by omega, by omega, f.2.1, f.2.2.1⟩
  · refine Decidable.byContradiction fun hn => ?_
    rcases Nat.lt_or_ge i j with h | h
    · exact (hf j hj (by rw [← he]; exact hn)).2.2.2 i h he
    · exact (hf i hi hn).2.2.2 j (by omega) he.symm
theorem uIdx_some {l : List Int} {n : Int} (h : 0 ≤ uIdx l n) : ∃ (i : Nat) (hi : i < l.length), uIdx l n = i ∧ l[i] = n := by
  unfold uIdx at h ⊢
  split at h
  · rename_i i hi
    obtain ⟨h1, h2, _⟩ := List.findIdx?_eq_some_iff_getElem.1 hi
    exact ⟨i, h1, rfl, by simpa using (beq_iff_eq.1 h2).symm⟩
  · omega
theorem uIdx_none {l : List Int} {n : Int} (h : ¬ 0 ≤ uIdx l n) : ∀ (i : Nat) (hi : i < l.length), l[i] ≠ n := by
  unfold uIdx at h
  split at h
  · omega
  · rename_i hi
    intro i hl he
    have := List.findIdx?_eq_none_iff.1 hi _ (List.getElem_mem hl)
    rw [he] at this
    simp at this
theorem usAt_eq {us : List Int} {i : Nat} (h : i < us.length) : usAt us i = us[i] := by unfold usAt; rw [List.getElem?_eq_getElem h]; rfl
/-! ### what has a unit -/
theorem traceL_spec {p : Pl} {st : St2} (hy : Lay p st) (hok : OkS st) {ux uy : Int} (h1 : -1000 ≤ ux ∧ ux ≤ 1000) (h2 : -1000 ≤ uy ∧ uy ≤ 1000) : ∀ (m k : Nat), k + m = st.1.length →
    (traceL ux uy (st.1.drop k) (st.2.drop k) k = -1 ∧ ∀ n, k ≤ n → n < st.1.length → cutAt st.2 n = false → covR (pcAt st.1 n) ux uy = false) ∨
      ∃ n, k ≤ n ∧ n < st.1.length ∧ traceL ux uy (st.1.drop k) (st.2.drop k) k = n ∧ cutAt st.2 n = false ∧ covR (pcAt st.1 n) ux uy = true
  | 0, k, hk => by
    left
    rw [List.drop_of_length_le (by omega), traceL_nil]
    exact ⟨rfl, fun n h1 h2 => by omega⟩
  | m + 1, k, hk => by
    have hlt : k < st.1.length := by omega
    rw [traceL_drop hlt hok.len, covB_eq (hok.at (n := (k : Int)) (by omega) (by omega)) h1 h2]
    split
    · rename_i hc
      exact .inr ⟨k, Nat.le_refl _, hlt, rfl, hc.1, hc.2⟩
    · rename_i hc
      rcases traceL_spec hy hok h1 h2 m (k + 1) (by omega) with ⟨e, ih⟩ | ⟨n, a, b, c, d⟩
      · refine .inl ⟨e, fun n h3 h4 h5 => ?_⟩
        by_cases hn : n = k
        · subst hn
          refine (Bool.not_eq_true _).mp fun h => hc ⟨h5, h⟩
        · exact ih n (by omega) h4 h5
      · exact .inr ⟨n, by omega, b, c, d⟩
def hasI (st : St2) (F : Nat → Bool) (ux uy : Int) : Bool := decide (0 ≤ traceL ux uy st.1 st.2 0) && F (traceL ux uy st.1 st.2 0).toNat
theorem hasI_sum {p : Pl} {st : St2} (hy : Lay p st) (hok : OkS st) (F : Nat → Bool) {ux uy : Int} (h1 : -1000 ≤ ux ∧ ux ≤ 1000) (h2 : -1000 ≤ uy ∧ uy ≤ 1000) :
    ind (hasI st F ux uy) = sumN (fun n => (if cutAt st.2 n = false ∧ F n = true then 1 else 0) * ind (covR (pcAt st.1 n) ux uy)) st.1.length := by
  have hs := traceL_spec hy hok h1 h2 st.1.length 0 (by omega)
  rw [List.drop_zero, List.drop_zero] at hs
  unfold hasI
  rcases hs with ⟨e, h⟩ | ⟨n, _, hn, e, hc, hv⟩
  · rw [e, sumN_zero]
    · rfl
    · intro n hn
      cases hc : cutAt st.2 n with
      | true => simp
      | false => rw [h n (by omega) hn hc]; simp [ind]
  · rw [e, sumN_single _ hn]
    · rw [hc, hv, Int.toNat_natCast, decide_eq_true (by omega)]
      unfold ind
      cases F n <;> simp
    · intro i hi hne
      cases hci : cutAt st.2 i with
      | true => simp
      | false =>
        cases hvi : covR (pcAt st.1 i) ux uy with
        | false => simp [ind]
        | true => exact (hy.apart i n hne hi hn hci hc ux uy hvi hv).elim
theorem hasI_all {p : Pl} (hp : checkI p = 0) {st : St2} (hy : Lay p st) (hok : OkS st) (F : Nat → Bool) : sumA (fun x y => ind (hasI st F x y)) p.l.toNat p.w.toNat = sumN (fun n => if cutAt st.2 n = false ∧ F n = true then (pcAt st.1 n).w * (pcAt st.1 n).l else 0) st.1.length := by
  obtain ⟨_, hw, hl, _⟩ := check_zero hp
  rw [sumA_congr fun x y hx hy' => hasI_sum hy hok F (ux := x) (uy := y) (by omega) (by omega), sumA_sum]
  refine sumN_congr _ fun n hn => ?_
  have hq := hy.pcs _ (pcAt_mem hn)
  by_cases hc : cutAt st.2 n = false ∧ F n = true
  · simp only [if_pos hc, Int.one_mul]
    exact sumA_cov hq.1 hq.2.1 (by omega) (by omega) (by omega) (by omega)
  · simp only [if_neg hc, Int.zero_mul]
    unfold sumA
    exact sumN_zero _ fun _ _ => sumN_zero _ fun _ _ => rfl
/-! ### the weights -/
def isU (us : List Int) (n : Nat) : Bool := decide (0 ≤ uIdx us n)
def wF1 (st : St2) (us : List Int) (n : Nat) : Int := if cutAt st.2 n = false ∧ isU us n = true then (pcAt st.1 n).w * (pcAt st.1 n).l else 0
def wF2 (st : St2) (us : List Int) (n : Nat) : Int := if cutAt st.2 n = false ∧ (!isU us n) = true then (pcAt st.1 n).w * (pcAt st.1 n).l else 0
def wF3 (ws : List Wt) (st : St2) (us : List Int) (n : Nat) : Int := if cutAt st.2 n = false ∧ isU us n = true then (wtAt ws (uIdx us n).toNat).g else 0
theorem weighL_sum {ws : List Wt} {us : List Int} {st : St2} (hok : st.2.length = st.1.length) : ∀ (m k : Nat), k + m = st.1.length →
    weighL ws us (st.1.drop k) (st.2.drop k) k (sumN (wF1 st us) k, sumN (wF2 st us) k, sumN (wF3 ws st us) k) = (sumN (wF1 st us) st.1.length, sumN (wF2 st us) st.1.length, sumN (wF3 ws st us) st.1.length)
  | 0, k, hk => by
    rw [List.drop_of_length_le (by omega), weighL_nil, show k = st.1.length by omega]
  | m + 1, k, hk => by
    have hlt : k < st.1.length := by omega
    rw [List.drop_eq_getElem_cons hlt, List.drop_eq_getElem_cons (i := k) (l := st.2) (by omega), weighL_cons]
    have e1 : pcAt st.1 k = st.1[k] := by unfold pcAt; rw [Int.toNat_natCast, List.getElem?_eq_getElem hlt]; rfl
    have e2 : cutAt st.2 k = st.2[k] := by unfold cutAt; rw [Int.toNat_natCast, List.getElem?_eq_getElem (by omega)]; rfl
    rw [← e1, ← e2, ← weighL_sum hok m (k + 1) (by omega)]
    congr 1
    rw [sumN, sumN, sumN]
    unfold wF1 wF2 wF3 isU
    cases hc : cutAt st.2 k with
    | true => simp
    | false =>
      by_cases hu : 0 ≤ uIdx us k
      · simp [hu]
      · simp [hu]
theorem wthN_sum (ws : List Wt) (us : List Int) : ∀ k, wthN ws us k = sumN (fun i => if 0 ≤ usAt us i then (wtAt ws i).g else 0) k
  | 0 => rfl
  | k + 1 => by rw [wthN, sumN, wthN_sum ws us k]
theorem worth_law {p : Pl} {us : List Int} {st : St2} (hu : UsF p us st) : sumN (wF3 p.ws st us) st.1.length = wthN p.ws us us.length := by
  rw [wthN_sum]
  have a1 : ∀ n, n < st.1.length → wF3 p.ws st us n = sumN (fun i => if cutAt st.2 n = false ∧ usAt us i = n then (wtAt p.ws i).g else 0) us.length := fun n hn => by
    unfold wF3 isU
    cases hc : cutAt st.2 n with
    | true => rw [if_neg (by simp), sumN_zero]; intros; rw [if_neg (by simp)]
    | false =>
      by_cases hx : 0 ≤ uIdx us n
      · obtain ⟨i, hi, e1, e2⟩ := uIdx_some hx
        rw [if_pos ⟨rfl, decide_eq_true hx⟩, sumN_single _ hi]
        · rw [if_pos ⟨rfl, by rw [usAt_eq hi]; exact e2⟩, e1, Int.toNat_natCast]
        · intro j hj hne
          rw [if_neg]
          rintro ⟨_, e3⟩
          rw [usAt_eq hj] at e3
          have := hu.one j i hj hi hne (by rw [e3, e2])
          omega
      · rw [if_neg (by simp [hx]), sumN_zero]
        intro i hi
        rw [if_neg]
        rintro ⟨_, e3⟩
        rw [usAt_eq hi] at e3
        exact uIdx_none hx i hi e3
  rw [sumN_congr _ a1, sumN_swap]
  refine sumN_congr _ fun i hi => ?_
  rw [usAt_eq hi]
  rcases hu.use i hi with h | ⟨h0, h1, h2, _⟩
  · rw [if_neg (by omega), sumN_zero]
    intro n hn
    rw [if_neg]
    rintro ⟨_, e⟩
    omega
  · have e : ((us[i].toNat : Nat) : Int) = us[i] := Int.toNat_of_nonneg h0
    rw [if_pos h0, sumN_single (k := us[i].toNat) _ (by omega)]
    · rw [if_pos ⟨by rw [e]; exact h2, e.symm⟩]
    · intro n hn hne
      rw [if_neg]
      rintro ⟨_, e2⟩
      omega
theorem OkX.lay {p : Pl} {x : Pn} {st : St2} (o : OkX p x st) : Lay p st := Lay.run (check_zero o.chk).2.2.2.1.1 x.cs (lay0 o.chk) o.run
theorem weigh_law {p : Pl} {x : Pn} {st : St2} (o : OkX p x st) :
    (weighL p.ws x.us st.1 st.2 0 (0, 0, 0)).1 = cntA (clsB st x.us 1) p.l.toNat p.w.toNat ∧ (weighL p.ws x.us st.1 st.2 0 (0, 0, 0)).2.1 = cntA (clsB st x.us 2) p.l.toNat p.w.toNat ∧
      (weighL p.ws x.us st.1 st.2 0 (0, 0, 0)).2.2 = wthN p.ws x.us x.us.length ∧
      p.w * p.l = cntA (clsB st x.us 0) p.l.toNat p.w.toNat + (cntA (clsB st x.us 1) p.l.toNat p.w.toNat + cntA (clsB st x.us 2) p.l.toNat p.w.toNat) := by
  obtain ⟨_, hw, hl, _⟩ := check_zero o.chk
  have h := weighL_sum (ws := p.ws) (us := x.us) o.ok.len st.1.length 0 (by omega)
  rw [List.drop_zero, List.drop_zero] at h
  have h : weighL p.ws x.us st.1 st.2 0 (0, 0, 0) = _ := h
  rw [h]
  have c1 : ∀ ux uy : Int, clsB st x.us 1 ux uy = hasI st (isU x.us) ux uy := fun ux uy => by
    have hge := traceL_ge (ux := ux) (uy := uy) st.1 st.2 0
    unfold clsB clsN hasI isU
    generalize traceL ux uy st.1 st.2 0 = t at hge
    rcases hge with rfl | ht
    · rfl
    · rw [if_neg (by omega), decide_eq_true ht, Int.toNat_of_nonneg ht, Bool.true_and]
      split
      · rename_i h; rw [decide_eq_true h]; rfl
      · rename_i h; rw [decide_eq_false h]; rfl
  have c2 : ∀ ux uy : Int, clsB st x.us 2 ux uy = hasI st (fun n => !isU x.us n) ux uy := fun ux uy => by
    have hge := traceL_ge (ux := ux) (uy := uy) st.1 st.2 0
    unfold clsB clsN hasI isU
    generalize traceL ux uy st.1 st.2 0 = t at hge
    rcases hge with rfl | ht
    · rfl
    · dsimp only
      rw [if_neg (by omega), decide_eq_true ht, Int.toNat_of_nonneg ht, Bool.true_and]
      split
      · rename_i h; rw [decide_eq_true h]; rfl
      · rename_i h; rw [decide_eq_false h]; rfl
  have c0 : ∀ ux uy : Int, ind (clsB st x.us 0 ux uy) + (ind (clsB st x.us 1 ux uy) + ind (clsB st x.us 2 ux uy)) = 1 := fun ux uy => by
    unfold clsB clsN ind
    split
    · rfl
    · split <;> rfl
  have s1 : (cntA (clsB st x.us 1) p.l.toNat p.w.toNat : Int) = sumN (wF1 st x.us) st.1.length := by
    rw [cntA_sum, sumA_congr (g := fun x' y => ind (hasI st (isU x.us) x' y)) fun a b _ _ => by rw [c1], hasI_all o.chk o.lay o.ok]
    rfl
  have s2 : (cntA (clsB st x.us 2) p.l.toNat p.w.toNat : Int) = sumN (wF2 st x.us) st.1.length := by
    rw [cntA_sum, sumA_congr (g := fun x' y => ind (hasI st (fun n => !isU x.us n) x' y)) fun a b _ _ => by rw [c2], hasI_all o.chk o.lay o.ok]
    rfl
  refine ⟨s1.symm, s2.symm, worth_law o.usF, ?_⟩
  rw [cntA_sum, cntA_sum, cntA_sum, ← sumA_add, ← sumA_add, sumA_congr (g := fun _ _ => 1) fun a b _ _ => c0 a b]
  unfold sumA
  rw [sumN_congr (g := fun _ => p.l) _ fun a _ => by rw [sumN_const]; omega, sumN_const, Int.toNat_of_nonneg (by omega), Int.mul_comm]
end Go.Ev.Ytojlbcodfebmgaa

set_option linter.unusedVariables false
set_option linter.unusedSimpArgs false
set_option maxRecDepth 100000
namespace Go.Ev.Ytojlbcodfebmgaa
open Go.Proofs
/-- a piece within a plate -/
structure InP (p : Pl) (q : Pc) : Prop where
  x0 : 0 ≤ q.x
  y0 : 0 ≤ q.y
  w0 : 1 ≤ q.w
  l0 : 1 ≤ q.l
  x1 : q.x + q.w ≤ p.w
  y1 : q.y + q.l ≤ p.l
theorem parts_inP {p : Pl} {q : Pc} {ac : Bool} {a s : Int} (hs : 0 ≤ s) (h : InP p q) : ∀ r ∈ partsL q ac a s, InP p r := by
  intro r hr
  obtain ⟨p1, p2, p3, p4, p5, p6⟩ := h
  unfold partsL at hr
  split at hr
  · cases hr
  · rename_i hc
    unfold noCut at hc
    rcases List.mem_append.1 hr with hr | hr
    all_goals
      split at hr
      · simp only [List.mem_singleton] at hr
        subst hr
        unfold partP farP at *
        cases ac <;> simp only [cond_true, cond_false] at * <;> constructor <;> dsimp only <;> omega
      · cases hr
theorem InP.ok {p : Pl} (hp : checkI p = 0) {q : Pc} (h : InP p q) : OkP q := by
  obtain ⟨_, hw, hl, _⟩ := check_zero hp
  have := h.x0; have := h.y0; have := h.w0; have := h.l0; have := h.x1; have := h.y1
  constructor <;> omega
theorem whole_in {p : Pl} (hp : checkI p = 0) : InP p (wholeP p) := by
  obtain ⟨_, hw, hl, _⟩ := check_zero hp
  unfold wholeP
  constructor <;> dsimp only <;> omega
theorem less_less {v w : Wn} (h : v.sub w = true) : w.less (w.less v) = v := by
  obtain ⟨a, b, c, d⟩ := v
  obtain ⟨e, f, g, h'⟩ := w
  revert h
  cases a <;> cases b <;> cases c <;> cases d <;> cases e <;> cases f <;> cases g <;> cases h' <;> decide
theorem less_sub (v w : Wn) : (w.less v).sub w = true := by
  obtain ⟨a, b, c, d⟩ := v
  obtain ⟨e, f, g, h'⟩ := w
  cases a <;> cases b <;> cases c <;> cases d <;> cases e <;> cases f <;> cases g <;> cases h' <;> decide
theorem ach_carry {p p' : Pl} (φ : Pc → Pc) (hs : 0 ≤ p.s) (hn : p'.ws.length = p.ws.length) (hgain : ∀ i, (wtAt p'.ws i).g = (wtAt p.ws i).g)
    (hfit : ∀ q i, InP p q → i < p.ws.length → fitsB (wtAt p.ws i) q = true → fitsB (wtAt p'.ws i) (φ q) = true)
    (hcut : ∀ q ac a, InP p q → partsL q ac a p.s ≠ [] → ∃ ac' a', partsL (φ q) ac' a' p'.s = (partsL q ac a p.s).map φ ∨ partsL (φ q) ac' a' p'.s = ((partsL q ac a p.s).map φ).reverse)
    {q : Pc} {w : Wn} {g c : Int} (h : Ach p q w g c) : InP p q → Ach p' (φ q) w g c := by
  induction h with
  | stop => intro _; exact .stop _ _
  | @use q w i h0 h1 h2 =>
    intro hq
    rw [← hgain]
    exact .use (by omega) h1 (hfit q i hq h0 h2)
  | @one q w ac a r g c h t ih =>
    intro hq
    have hr := parts_inP hs hq (ac := ac) (a := a) r (by rw [h]; simp)
    obtain ⟨ac', a', e⟩ := hcut q ac a hq (by rw [h]; simp)
    rw [h] at e
    simp only [List.map_cons, List.map_nil, List.reverse_cons, List.reverse_nil, List.nil_append, or_self] at e
    exact .one e (ih hr)
  | @two q w ac a r t v g c g' c' h hv t1 t2 ih1 ih2 =>
    intro hq
    have hr := parts_inP hs hq (ac := ac) (a := a) r (by rw [h]; simp)
    have ht := parts_inP hs hq (ac := ac) (a := a) t (by rw [h]; simp)
    obtain ⟨ac', a', e⟩ := hcut q ac a hq (by rw [h]; simp)
    rw [h] at e
    rcases e with e | e
    · exact .two e hv (ih1 hr) (ih2 ht)
    · rw [Int.add_comm g g', Int.add_comm c c']
      refine .two (r := φ t) (t := φ r) (v := w.less v) (by rw [e]; rfl) (less_sub v w) (ih2 ht) ?_
      rw [less_less hv]
      exact ih1 hr
theorem best_same {p p' : Pl} (hp : checkI p = 0) (hp' : checkI p' = 0) {q q' : Pc} {w w' : Wn} (hq : OkP q) (hq' : OkP q') (h1 : ∀ g c, Ach p q w g c → Ach p' q' w' g c) (h2 : ∀ g c, Ach p' q' w' g c → Ach p q w g c) :
    (bestP p q w).g = (bestP p' q' w').g ∧ (bestP p q w).c = (bestP p' q' w').c := by
  have a1 := best_opt hp' (h1 _ _ (best_ach (check_zero hp).2.2.2.1.1 _ w hq (Nat.le_refl _))) hq'
  have a2 := best_opt hp (h2 _ _ (best_ach (check_zero hp').2.2.2.1.1 _ w' hq' (Nat.le_refl _))) hq
  unfold LeG at a1 a2
  omega
/-! ### width and length exchanged -/
def swQ (q : Pc) : Pc := ⟨q.y, q.x, q.l, q.w⟩
def swW (w : Wt) : Wt := ⟨w.l, w.w, w.t, w.g, w.y1, w.y2, w.x1, w.x2⟩
def swP (p : Pl) : Pl := ⟨p.l, p.w, p.s, p.ws.map swW⟩
theorem swP_swP (p : Pl) : swP (swP p) = p := by
  unfold swP
  simp only [List.map_map]
  rw [show swW ∘ swW = id from rfl, List.map_id]
theorem swQ_swQ (q : Pc) : swQ (swQ q) = q := rfl
theorem sw_parts (q : Pc) (ac : Bool) (a s : Int) : partsL (swQ q) (!ac) a s = (partsL q ac a s).map swQ := by
  have e : farP (swQ q) (!ac) = farP q ac := by cases ac <;> rfl
  unfold partsL
  rw [e]
  split
  · rfl
  · rw [List.map_append]
    congr 1
    · split
      · cases ac <;> rfl
      · rfl
    · split
      · cases ac <;> rfl
      · rfl
theorem sw_fits (w : Wt) (q : Pc) : fitsB (swW w) (swQ q) = fitsB w q := by
  unfold fitsB sizeB swW swQ
  dsimp only
  rw [Bool.and_comm (q.l == w.l), Bool.and_comm (w.t && q.l == w.w)]
  rw [Bool.and_assoc, Bool.and_assoc, Bool.and_comm (hasB w.y1 w.y2 q.y q.l)]
  cases w.t <;> simp [Bool.and_comm]
theorem sw_wt (p : Pl) (i : Nat) : (wtAt (swP p).ws i).g = (wtAt p.ws i).g := by
  unfold wtAt swP
  simp only [List.getElem?_map]
  cases p.ws[i]? <;> rfl
theorem sw_at {p : Pl} {i : Nat} (h : i < p.ws.length) : wtAt (swP p).ws i = swW (wtAt p.ws i) := by
  unfold wtAt swP
  simp only [List.getElem?_map, List.getElem?_eq_getElem h]
  rfl
theorem sw_valid (w : Wt) : wtB (swW w) = wtB w := by
  unfold wtB swW
  dsimp only
  cases inB w.w 1 8 <;> cases inB w.l 1 8 <;> cases inB w.g 0 1000 <;> cases zoneB w.x1 w.x2 <;> cases zoneB w.y1 w.y2 <;> rfl
theorem sw_check (p : Pl) : checkI (swP p) = checkI p := by
  unfold checkI swP
  dsimp only
  rw [List.length_map, List.all_map]
  rw [show (wtB ∘ swW) = wtB from funext sw_valid]
  cases inB p.w 1 8 <;> cases inB p.l 1 8 <;> rfl
theorem sw_ach {p : Pl} (hs : 0 ≤ p.s) {q : Pc} {w : Wn} {g c : Int} (h : Ach p q w g c) (hq : InP p q) : Ach (swP p) (swQ q) w g c :=
  ach_carry swQ hs (by simp [swP]) (sw_wt p) (fun q i _ hi h => by rw [sw_at hi, sw_fits]; exact h) (fun q ac a _ _ => ⟨!ac, a, .inl (sw_parts q ac a p.s)⟩) h hq
theorem swap_law {p : Pl} (hp : checkI p = 0) : bwP (swP p) = bwP p ∧ bcP (swP p) = bcP p := by
  have hp' : checkI (swP p) = 0 := by rw [sw_check]; exact hp
  have hs := (check_zero hp).2.2.2.1.1
  have el : (swP p).ws.length = p.ws.length := by simp [swP]
  have h := best_same hp hp' (q := wholeP p) (q' := wholeP (swP p)) (w := allW p.ws.length) (w' := allW p.ws.length) (wholeP_ok hp) (wholeP_ok hp')
    (fun g c h => sw_ach hs h (whole_in hp)) (fun g c h => by
      have := sw_ach (p := swP p) hs h (whole_in hp')
      rw [swP_swP] at this
      exact this)
  unfold bwP bcP
  rw [el]
  exact ⟨h.1.symm, h.2.symm⟩
end Go.Ev.Ytojlbcodfebmgaa

set_option linter.unusedVariables false
set_option linter.unusedSimpArgs false
set_option maxRecDepth 100000
namespace Go.Ev.Ytojlbcodfebmgaa
open Go.Proofs
def omW (ρ : Nat → Nat) (w : Wn) : Wn := ⟨w.get (ρ 0), w.get (ρ 1), w.get (ρ 2), w.get (ρ 3)⟩
theorem omW_get (ρ : Nat → Nat) (w : Wn) {j : Nat} (h : j < 4) : (omW ρ w).get j = w.get (ρ j) := by
  obtain rfl | rfl | rfl | rfl : j = 0 ∨ j = 1 ∨ j = 2 ∨ j = 3 := by omega
  all_goals rfl
theorem less_get (w v : Wn) (i : Nat) : (w.less v).get i = (w.get i && !v.get i) := by
  match i with
  | 0 => rfl
  | 1 => rfl
  | 2 => rfl
  | 3 => rfl
  | _ + 4 => rfl
theorem omW_less (ρ : Nat → Nat) (w v : Wn) : (omW ρ w).less (omW ρ v) = omW ρ (w.less v) := by
  unfold omW
  rw [less_get, less_get, less_get, less_get]
  rfl
theorem sub_get {v w : Wn} : v.sub w = true ↔ ∀ i, v.get i = true → w.get i = true := by
  obtain ⟨a, b, c, d⟩ := v
  obtain ⟨e, f, g, h⟩ := w
  constructor
  · intro hs i
    match i with
    | 0 => revert hs; cases a <;> cases e <;> simp [Wn.sub, Wn.get]
    | 1 => revert hs; cases b <;> cases f <;> simp [Wn.sub, Wn.get]
    | 2 => revert hs; cases c <;> cases g <;> simp [Wn.sub, Wn.get]
    | 3 => revert hs; cases d <;> cases h <;> simp [Wn.sub, Wn.get]
    | _ + 4 => intro h; exact h
  · intro hs
    have h0 := hs 0
    have h1 := hs 1
    have h2 := hs 2
    have h3 := hs 3
    simp only [Wn.get] at h0 h1 h2 h3
    unfold Wn.sub
    dsimp only
    revert h0 h1 h2 h3
    cases a <;> cases b <;> cases c <;> cases d <;> cases e <;> cases f <;> cases g <;> cases h <;> simp
theorem omW_sub {ρ : Nat → Nat} {v w : Wn} (h : v.sub w = true) : (omW ρ v).sub (omW ρ w) = true := by
  rw [sub_get] at h ⊢
  intro i hi
  by_cases h4 : i < 4
  · rw [omW_get ρ _ h4] at hi ⊢
    exact h _ hi
  · obtain ⟨k, rfl⟩ : ∃ k, i = k + 4 := ⟨i - 4, by omega⟩
    cases hi
theorem ach_perm {p p' : Pl} (ρ : Nat → Nat) (hs : p'.s = p.s) (h : ∀ i, i < p.ws.length → ∃ j, j < p'.ws.length ∧ j < 4 ∧ ρ j = i ∧ wtAt p'.ws j = wtAt p.ws i)
    {q : Pc} {w : Wn} {g c : Int} (ha : Ach p q w g c) : Ach p' q (omW ρ w) g c := by
  induction ha with
  | stop => exact .stop _ _
  | @use q w i h0 h1 h2 =>
    obtain ⟨j, j1, j2, j3, j4⟩ := h i h0
    rw [← j4] at h2 ⊢
    exact .use j1 (by rw [omW_get ρ _ j2, j3]; exact h1) h2
  | one e t ih => exact .one (by rw [hs]; exact e) ih
  | two e hv t1 t2 ih1 ih2 =>
    rw [← omW_less] at ih2
    exact .two (by rw [hs]; exact e) (omW_sub hv) ih1 ih2
theorem ach_mono {p : Pl} {q : Pc} {w : Wn} {g c : Int} (ha : Ach p q w g c) : ∀ w', w.sub w' = true → Ach p q w' g c := by
  induction ha with
  | stop => intro w' _; exact .stop _ _
  | use h0 h1 h2 => intro w' hw; exact .use h0 (sub_get.1 hw _ h1) h2
  | one e t ih => intro w' hw; exact .one e (ih w' hw)
  | @two q w ac a r t v g c g' c' e hv t1 t2 ih1 ih2 =>
    intro w' hw
    rw [sub_get] at hv hw
    refine .two e (v := v) (sub_get.2 fun i hi => hw i (hv i hi)) t1 (ih2 _ (sub_get.2 fun i hi => ?_))
    rw [less_get, Bool.and_eq_true] at hi ⊢
    exact ⟨hw i hi.1, hi.2⟩
theorem allW_get {n i : Nat} (h : i < n) (h4 : i < 4) : (allW n).get i = true := by
  unfold allW
  obtain rfl | rfl | rfl | rfl : i = 0 ∨ i = 1 ∨ i = 2 ∨ i = 3 := by omega
  all_goals simpa [Wn.get, Nat.blt_eq] using h
theorem sub_allW {n : Nat} {w : Wn} (h : ∀ i, i < 4 → w.get i = true → i < n) : w.sub (allW n) = true := by
  rw [sub_get]
  intro i hi
  by_cases h4 : i < 4
  · exact allW_get (h i h4 hi) h4
  · obtain ⟨k, rfl⟩ : ∃ k, i = k + 4 := ⟨i - 4, by omega⟩
    cases hi
theorem allW_lt {n i : Nat} (h : (allW n).get i = true) : i < n := by
  unfold allW at h
  match i with
  | 0 => simpa [Wn.get, Nat.blt_eq] using h
  | 1 => simpa [Wn.get, Nat.blt_eq] using h
  | 2 => simpa [Wn.get, Nat.blt_eq] using h
  | 3 => simpa [Wn.get, Nat.blt_eq] using h
  | _ + 4 => cases h
/-! ### turned by some -/
def rotP (p : Pl) (t : Nat) : Pl := ⟨p.w, p.l, p.s, p.ws.drop t ++ p.ws.take t⟩
def roN (n t j : Nat) : Nat := if j + t < n then j + t else if j < n then j + t - n else j
theorem wtAt_rot (ws : List Wt) {t j : Nat} (ht : t < ws.length) (hj : j < ws.length) : wtAt (ws.drop t ++ ws.take t) j = wtAt ws (roN ws.length t j) := by
  unfold wtAt roN
  by_cases h : j + t < ws.length
  · rw [if_pos h, List.getElem?_append_left (by rw [List.length_drop]; omega), List.getElem?_drop, Nat.add_comm]
  · rw [if_neg h, if_pos hj, List.getElem?_append_right (by rw [List.length_drop]; omega), List.length_drop, List.getElem?_take, if_pos (by omega), show j - (ws.length - t) = j + t - ws.length by omega]
theorem rot_check {p : Pl} (hp : checkI p = 0) {t : Nat} (ht : t < p.ws.length) : checkI (rotP p t) = 0 := by
  obtain ⟨h4, hw, hl, hs, hv⟩ := check_zero hp
  have hd : (inB p.w 1 8 && inB p.l 1 8 && inB p.s 0 2) = true := by
    rw [inB_true.2 hw, inB_true.2 hl, inB_true.2 hs]; rfl
  refine checkI_ok (p := rotP p t) (by simp [rotP]; omega) hd fun i hi => ?_
  refine List.all_eq_true.1 hv _ ?_
  have hm := List.getElem_mem hi
  rcases List.mem_append.1 hm with h | h
  · exact List.mem_of_mem_drop h
  · exact List.mem_of_mem_take h
theorem order_law {p : Pl} (hp : checkI p = 0) {t : Nat} (ht : t < p.ws.length) : bwP (rotP p t) = bwP p ∧ bcP (rotP p t) = bcP p ∧ checkI (rotP p t) = 0 := by
  have hp' := rot_check hp ht
  have h4 := (check_zero hp).1
  have el : (rotP p t).ws.length = p.ws.length := by simp [rotP]; omega
  have h := best_same hp hp' (q := wholeP p) (q' := wholeP p) (w := allW p.ws.length) (w' := allW p.ws.length) (wholeP_ok hp) (wholeP_ok hp)
    (fun g c h => by
      refine ach_mono (ach_perm (p := p) (p' := rotP p t) (roN p.ws.length t) rfl (fun i hi => ⟨roN p.ws.length (p.ws.length - t) i, ?_, ?_, ?_, ?_⟩) h) _ (sub_allW fun j j4 hj => ?_)
      · rw [el]; unfold roN; split <;> (try split) <;> omega
      · unfold roN; split <;> (try split) <;> omega
      · unfold roN; split <;> (try split) <;> (try split) <;> omega
      · have e : roN p.ws.length t (roN p.ws.length (p.ws.length - t) i) = i := by unfold roN; split <;> (try split) <;> (try split) <;> omega
        show wtAt (p.ws.drop t ++ p.ws.take t) _ = _
        rw [wtAt_rot p.ws ht (by unfold roN; split <;> (try split) <;> omega), e]
      · rw [omW_get _ _ j4] at hj
        have := allW_lt hj
        unfold roN at this
        split at this
        · omega
        · split at this <;> omega)
    (fun g c h => by
      refine ach_mono (ach_perm (p := rotP p t) (p' := p) (roN p.ws.length (p.ws.length - t)) rfl (fun j hj => ⟨roN p.ws.length t j, ?_, ?_, ?_, ?_⟩) h) _ (sub_allW fun j j4 hj => ?_)
      · rw [el] at hj; unfold roN; split <;> (try split) <;> omega
      · rw [el] at hj; unfold roN; split <;> (try split) <;> omega
      · rw [el] at hj; unfold roN; split <;> (try split) <;> (try split) <;> omega
      · rw [el] at hj
        exact (wtAt_rot p.ws ht hj).symm
      · rw [omW_get _ _ j4] at hj
        have := allW_lt hj
        unfold roN at this
        split at this
        · omega
        · split at this <;> omega)
  have e : wholeP (rotP p t) = wholeP p := rfl
  unfold bwP bcP
  rw [el, e]
  exact ⟨h.1.symm, h.2.symm, hp'⟩
end Go.Ev.Ytojlbcodfebmgaa

set_option linter.unusedVariables false
set_option linter.unusedSimpArgs false
namespace Go.Ev.Ytojlbcodfebmgaa
open Go.Proofs
theorem bounds_u8' {n : Int} (h : (Lit.int .u8 n).wf = true) : 0 ≤ n ∧ n ≤ 255 := by
  have h1 : IntKind.u8.min ≤ n ∧ n ≤ IntKind.u8.max := by simpa [Lit.wf] using h
  have h2 : IntKind.u8.min = 0 := by decide
  have h3 : IntKind.u8.max = 255 := by decide
  omega
theorem bounds_u16 {n : Int} (h : (Lit.int .u16 n).wf = true) : 0 ≤ n ∧ n ≤ 65535 := by
  have h1 : IntKind.u16.min ≤ n ∧ n ≤ IntKind.u16.max := by simpa [Lit.wf] using h
  have h2 : IntKind.u16.min = 0 := by decide
  have h3 : IntKind.u16.max = 65535 := by decide
  omega
theorem okV_u8 {d : D} (h : OkV tb 6 5 d) : ∃ i, d = .v (.int .u8 i) ∧ 0 ≤ i ∧ i ≤ 255 := by
  obtain ⟨y, ds, hy, hd, rfl⟩ := h
  cases hy
  obtain ⟨i, rfl, hw⟩ := hd
  have := bounds_u8' hw
  exact ⟨i, rfl, this.1, this.2⟩
theorem okV_words {d : D} (h : OkV tb 6 77 d) : ∃ ws : List Int, d = .seq (ws.map fun w => [.v (.int .u16 w)]) ∧ ws.length ≤ 9223372036854775807 ∧ ∀ x ∈ ws, 0 ≤ x ∧ x ≤ 65535 := by
  obtain ⟨y, ds, hy, hd, rfl⟩ := h
  cases hy
  obtain ⟨es, rfl, hlen, hel⟩ := hd
  obtain ⟨l, rfl, hl⟩ := map_of (f := fun w : Int => [D.v (.int .u16 w)]) (q := fun x => 0 ≤ x ∧ x ≤ 65535) (es := es) fun el he => by
    obtain ⟨i, rfl, hw⟩ := hel el he
    exact ⟨i, rfl, bounds_u16 hw⟩
  exact ⟨l, rfl, by simpa [maxLen] using hlen, hl⟩
end Go.Ev.Ytojlbcodfebmgaa

set_option linter.unusedVariables false
set_option linter.unusedSimpArgs false
set_option maxRecDepth 100000
namespace Go.Ev.Ytojlbcodfebmgaa
open Go.Proofs
/-- a margin that a saw can bring about -/
def FrN (n s : Int) : Prop := n = 0 ∨ (1 ≤ n ∧ s ≤ n)
theorem FrN.add {a b s : Int} (h1 : FrN a s) (h2 : FrN b s) : FrN (a + b) s := by unfold FrN at *; omega
structure FreeIn (s : Int) (q y : Pc) : Prop where
  l : FrN (y.x - q.x) s
  r : FrN (q.x + q.w - (y.x + y.w)) s
  n : FrN (y.y - q.y) s
  f : FrN (q.y + q.l - (y.y + y.l)) s
theorem FreeIn.refl (s : Int) (q : Pc) : FreeIn s q q := by constructor <;> unfold FrN <;> omega
theorem FreeIn.trans {s : Int} {q r y : Pc} (h1 : FreeIn s q r) (h2 : FreeIn s r y) : FreeIn s q y := by
  have a := h1.l.add h2.l
  have b := h1.r.add h2.r
  have c := h1.n.add h2.n
  have d := h1.f.add h2.f
  constructor
  · rw [show y.x - q.x = r.x - q.x + (y.x - r.x) by omega]; exact a
  · rw [show q.x + q.w - (y.x + y.w) = q.x + q.w - (r.x + r.w) + (r.x + r.w - (y.x + y.w)) by omega]; exact b
  · rw [show y.y - q.y = r.y - q.y + (y.y - r.y) by omega]; exact c
  · rw [show q.y + q.l - (y.y + y.l) = q.y + q.l - (r.y + r.l) + (r.y + r.l - (y.y + y.l)) by omega]; exact d
theorem parts_free {q r : Pc} {ac : Bool} {a s : Int} (hs : 0 ≤ s) (hr : r ∈ partsL q ac a s) : FreeIn s q r := by
  unfold partsL at hr
  split at hr
  · cases hr
  · rename_i hc
    unfold noCut at hc
    rcases List.mem_append.1 hr with hr | hr
    all_goals
      split at hr
      · simp only [List.mem_singleton] at hr
        subst hr
        unfold partP farP at *
        cases ac <;> simp only [cond_true, cond_false] at * <;> constructor <;> unfold FrN <;> dsimp only <;> omega
      · cases hr
theorem ach_leaf {p : Pl} {w0 : Wt} (hs : 0 ≤ p.s) (hw : p.ws = [w0]) {q : Pc} {w : Wn} {g c : Int} (h : Ach p q w g c) : InP p q → (w.get 0 = false → g = 0) ∧ (g = 0 ∨ g = w0.g ∧ ∃ y, FreeIn p.s q y ∧ InP p y ∧ fitsB w0 y = true) := by
  induction h with
  | stop => intro _; exact ⟨fun _ => rfl, .inl rfl⟩
  | @use q w i h0 h1 h2 =>
    intro hq
    rw [hw] at h0 h2 ⊢
    have : i = 0 := by simpa using h0
    subst this
    exact ⟨fun h => (by rw [h] at h1; cases h1), .inr ⟨rfl, q, FreeIn.refl _ _, hq, h2⟩⟩
  | @one q w ac a r g c h t ih =>
    intro hq
    have hm : r ∈ partsL q ac a p.s := by rw [h]; simp
    obtain ⟨i1, i2⟩ := ih (parts_inP hs hq r hm)
    refine ⟨i1, i2.imp id fun ⟨e, y, y1, y2⟩ => ⟨e, y, (parts_free hs hm).trans y1, y2⟩⟩
  | @two q w ac a r t v g c g' c' h hv t1 t2 ih1 ih2 =>
    intro hq
    have hm1 : r ∈ partsL q ac a p.s := by rw [h]; simp
    have hm2 : t ∈ partsL q ac a p.s := by rw [h]; simp
    obtain ⟨i1, i2⟩ := ih1 (parts_inP hs hq r hm1)
    obtain ⟨j1, j2⟩ := ih2 (parts_inP hs hq t hm2)
    have hlg := less_get w v 0
    have hvw := sub_get.1 hv 0
    cases hv0 : v.get 0 with
    | false =>
      have e := i1 hv0
      rw [hv0] at hlg
      simp only [Bool.not_false, Bool.and_true] at hlg
      rw [e, Int.zero_add]
      exact ⟨fun h => j1 (by rw [hlg]; exact h), j2.imp id fun ⟨e, y, y1, y2⟩ => ⟨e, y, (parts_free hs hm2).trans y1, y2⟩⟩
    | true =>
      rw [hv0] at hlg
      have e := j1 (by rw [hlg]; simp)
      rw [e, Int.add_zero]
      exact ⟨fun h => (by rw [hvw hv0] at h; cases h), i2.imp id fun ⟨e, y, y1, y2⟩ => ⟨e, y, (parts_free hs hm1).trans y1, y2⟩⟩
theorem sub_refl (w : Wn) : w.sub w = true := sub_get.2 fun _ h => h
theorem none_sub (w : Wn) : Wn.none.sub w = true := sub_get.2 fun i h => by rw [get_none] at h; cases h
theorem less_none' (w : Wn) : w.less Wn.none = w := by obtain ⟨a, b, c, d⟩ := w; simp [Wn.less, Wn.none]
theorem ach_first {p : Pl} (hs : 0 ≤ p.s) {q : Pc} {ac : Bool} {m : Int} {w : Wn} {g c : Int} (h0 : 1 ≤ m) (h1 : FrN (farP q ac - m) p.s) (h : Ach p (partP q ac 0 m) w g c) : ∃ c', Ach p q w g c' := by
  unfold FrN at h1
  by_cases he : farP q ac = m
  · have e : partP q ac 0 m = q := by
      rw [← he]
      unfold partP farP
      cases ac <;> simp
    rw [e] at h
    exact ⟨c, h⟩
  · by_cases hr : 0 < farP q ac - m - p.s
    · have e : partsL q ac m p.s = [partP q ac 0 m, partP q ac (m + p.s) (farP q ac - m - p.s)] := by
        unfold partsL
        rw [if_neg (by unfold noCut; omega), if_pos (by omega), if_pos hr]
        rfl
      have h' := Ach.two e (sub_refl w) h (.stop _ _)
      rw [Int.add_zero] at h'
      exact ⟨_, h'⟩
    · have e : partsL q ac m p.s = [partP q ac 0 m] := by
        unfold partsL
        rw [if_neg (by unfold noCut; omega), if_pos (by omega), if_neg hr]
        rfl
      exact ⟨_, .one e h⟩
theorem ach_last {p : Pl} (hs : 0 ≤ p.s) {q : Pc} {ac : Bool} {m : Int} {w : Wn} {g c : Int} (h0 : FrN m p.s) (h1 : m < farP q ac) (h : Ach p (partP q ac m (farP q ac - m)) w g c) : ∃ c', Ach p q w g c' := by
  unfold FrN at h0
  by_cases he : m = 0
  · subst he
    have e : partP q ac 0 (farP q ac - 0) = q := by
      unfold partP farP
      cases ac <;> simp
    rw [e] at h
    exact ⟨c, h⟩
  · have e2 : m - p.s + p.s = m := by omega
    have e3 : farP q ac - (m - p.s) - p.s = farP q ac - m := by omega
    by_cases hr : 0 < m - p.s
    · have e : partsL q ac (m - p.s) p.s = [partP q ac 0 (m - p.s), partP q ac m (farP q ac - m)] := by
        unfold partsL
        rw [if_neg (by unfold noCut; omega), if_pos hr, if_pos (by omega), e2, e3]
        rfl
      have h' := Ach.two (g := 0) (c := 0) (g' := g) (c' := c) e (none_sub w) (.stop _ _) (by rw [less_none']; exact h)
      rw [Int.zero_add] at h'
      exact ⟨_, h'⟩
    · have e : partsL q ac (m - p.s) p.s = [partP q ac m (farP q ac - m)] := by
        unfold partsL
        rw [if_neg (by unfold noCut; omega), if_neg hr, if_pos (by omega), e2, e3]
        rfl
      exact ⟨_, .one e h⟩
/-- what is free can be cut out -/
theorem ach_free {p : Pl} (hs : 0 ≤ p.s) {q y : Pc} {w : Wn} {g c : Int} (hw : 1 ≤ y.w) (hl : 1 ≤ y.l) (hf : FreeIn p.s q y) (h : Ach p y w g c) : ∃ c', Ach p q w g c' := by
  obtain ⟨f1, f2, f3, f4⟩ := hf
  have n1 := f1
  have n2 := f2
  have n3 := f3
  have n4 := f4
  unfold FrN at n1 n2 n3 n4
  -- from the piece with the same length as q
  have s4 : ∃ c', Ach p ⟨y.x, y.y, y.w, q.y + q.l - y.y⟩ w g c' := by
    refine ach_first hs (q := ⟨y.x, y.y, y.w, q.y + q.l - y.y⟩) (ac := true) (m := y.l) hl ?_ (c := c) ?_
    · show FrN (q.y + q.l - y.y - y.l) p.s
      rw [show q.y + q.l - y.y - y.l = q.y + q.l - (y.y + y.l) by omega]; exact f4
    · have e : partP ⟨y.x, y.y, y.w, q.y + q.l - y.y⟩ true 0 y.l = y := by unfold partP; cases y; simp
      rw [e]; exact h
  obtain ⟨c4, s4⟩ := s4
  have s3 : ∃ c', Ach p ⟨y.x, q.y, y.w, q.l⟩ w g c' := by
    refine ach_last hs (q := ⟨y.x, q.y, y.w, q.l⟩) (ac := true) (m := y.y - q.y) f3 ?_ (c := c4) ?_
    · show y.y - q.y < q.l; omega
    · have e : partP ⟨y.x, q.y, y.w, q.l⟩ true (y.y - q.y) (q.l - (y.y - q.y)) = ⟨y.x, y.y, y.w, q.y + q.l - y.y⟩ := by
        unfold partP; simp only [cond_true, Pc.mk.injEq, true_and]; omega
      show Ach p (partP ⟨y.x, q.y, y.w, q.l⟩ true (y.y - q.y) (q.l - (y.y - q.y))) w g c4
      rw [e]; exact s4
  obtain ⟨c3, s3⟩ := s3
  have s2 : ∃ c', Ach p ⟨y.x, q.y, q.x + q.w - y.x, q.l⟩ w g c' := by
    refine ach_first hs (q := ⟨y.x, q.y, q.x + q.w - y.x, q.l⟩) (ac := false) (m := y.w) hw ?_ (c := c3) ?_
    · show FrN (q.x + q.w - y.x - y.w) p.s
      rw [show q.x + q.w - y.x - y.w = q.x + q.w - (y.x + y.w) by omega]; exact f2
    · have e : partP ⟨y.x, q.y, q.x + q.w - y.x, q.l⟩ false 0 y.w = ⟨y.x, q.y, y.w, q.l⟩ := by unfold partP; simp
      rw [e]; exact s3
  obtain ⟨c2, s2⟩ := s2
  refine ach_last hs (q := q) (ac := false) (m := y.x - q.x) f1 ?_ (c := c2) ?_
  · show y.x - q.x < q.w; omega
  · have e : partP q false (y.x - q.x) (farP q false - (y.x - q.x)) = ⟨y.x, q.y, q.x + q.w - y.x, q.l⟩ := by
      unfold partP farP; simp only [cond_false, Pc.mk.injEq, true_and, and_true]; omega
    rw [e]; exact s2
/-- a specimen alone is used just if some place is free -/
theorem alone_law {p : Pl} {w0 : Wt} (hp : checkI p = 0) (hw : p.ws = [w0]) (hg : w0.g ≠ 0) :
    ((∃ y, FreeIn p.s (wholeP p) y ∧ InP p y ∧ fitsB w0 y = true) → bwP p = w0.g) ∧ (¬ (∃ y, FreeIn p.s (wholeP p) y ∧ InP p y ∧ fitsB w0 y = true) → bwP p = 0) := by
  obtain ⟨_, _, _, hs, hv⟩ := check_zero hp
  have hwv := List.all_eq_true.1 hv w0 (by rw [hw]; simp)
  have hg0 := wtB_g hwv
  have hb := ach_leaf hs.1 hw (best_ach (p := p) hs.1 _ (allW p.ws.length) (wholeP_ok hp) (Nat.le_refl _)) (whole_in hp)
  have hn : p.ws.length = 1 := by rw [hw]; rfl
  have e0 : wtAt p.ws 0 = w0 := by rw [hw]; rfl
  constructor
  · rintro ⟨y, y1, y2, y3⟩
    have ha : Ach p y (allW p.ws.length) (wtAt p.ws 0).g 0 := .use (by omega) (by rw [hn]; rfl) (by rw [e0]; exact y3)
    rw [e0] at ha
    obtain ⟨c', h⟩ := ach_free hs.1 y2.w0 y2.l0 y1 ha
    have ho := best_opt hp h (wholeP_ok hp)
    unfold LeG at ho
    unfold bwP
    rcases hb.2 with h | h
    · rw [h] at ho; omega
    · exact h.1
  · intro hno
    rcases hb.2 with h | h
    · exact h
    · exact (hno h.2).elim
end Go.Ev.Ytojlbcodfebmgaa

set_option linter.unusedVariables false
set_option linter.unusedSimpArgs false
set_option maxRecDepth 100000
namespace Go.Ev.Ytojlbcodfebmgaa
open Go.Proofs
theorem FrN.mono {n s s' : Int} (h : s' ≤ s) (hf : FrN n s) : FrN n s' := by unfold FrN at *; omega
theorem FreeIn.mono {s s' : Int} {q y : Pc} (h : s' ≤ s) (hf : FreeIn s q y) : FreeIn s' q y := ⟨hf.l.mono h, hf.r.mono h, hf.n.mono h, hf.f.mono h⟩
/-- specimens that are easier -/
theorem ach_easy {p p' : Pl} (hs : p'.s = p.s) (h0 : 0 ≤ p.s) (h : ∀ i, i < p.ws.length → i < p'.ws.length ∧ (wtAt p.ws i).g ≤ (wtAt p'.ws i).g ∧ ∀ q, InP p q → fitsB (wtAt p.ws i) q = true → fitsB (wtAt p'.ws i) q = true)
    {q : Pc} {w : Wn} {g c : Int} (ha : Ach p q w g c) : InP p q → ∃ g', g ≤ g' ∧ Ach p' q w g' c := by
  induction ha with
  | stop => intro _; exact ⟨0, Int.le_refl _, .stop _ _⟩
  | @use q w i h1 h2 h3 =>
    intro hq
    obtain ⟨a, b, d⟩ := h i h1
    exact ⟨_, b, .use a h2 (d q hq h3)⟩
  | @one q w ac a r g c e t ih =>
    intro hq
    obtain ⟨g', h1, h2⟩ := ih (parts_inP h0 hq (ac := ac) (a := a) r (by rw [e]; simp))
    exact ⟨g', h1, .one (by rw [hs]; exact e) h2⟩
  | @two q w ac a r t v g c g' c' e hv t1 t2 ih1 ih2 =>
    intro hq
    obtain ⟨g1, h1, h2⟩ := ih1 (parts_inP h0 hq (ac := ac) (a := a) r (by rw [e]; simp))
    obtain ⟨g2, h3, h4⟩ := ih2 (parts_inP h0 hq (ac := ac) (a := a) t (by rw [e]; simp))
    exact ⟨g1 + g2, by omega, .two (by rw [hs]; exact e) hv h2 h4⟩
theorem parts_two {q r t : Pc} {ac : Bool} {a s : Int} (h : partsL q ac a s = [r, t]) : 0 < a ∧ 0 < farP q ac - a - s ∧ r = partP q ac 0 a ∧ t = partP q ac (a + s) (farP q ac - a - s) := by
  unfold partsL at h
  split at h
  · cases h
  · split at h <;> split at h <;> simp at h
    rename_i h1 h2
    exact ⟨h1, h2, h.1.symm, h.2.symm⟩
/-- a narrower saw -/
theorem ach_saw {p p' : Pl} (hw : p'.ws = p.ws) (h1 : 0 ≤ p'.s) (h2 : p'.s ≤ p.s) (h3 : p.s ≤ 2) {q : Pc} {w : Wn} {g c : Int} (ha : Ach p q w g c) : InP p q → ∃ c', Ach p' q w g c' := by
  have h0 : 0 ≤ p.s := by omega
  induction ha with
  | stop => intro _; exact ⟨0, .stop _ _⟩
  | @use q w i a1 a2 a3 =>
    intro hq
    rw [← hw] at a1 a3 ⊢
    exact ⟨0, .use a1 a2 a3⟩
  | @one q w ac a r g c e t ih =>
    intro hq
    have hm : r ∈ partsL q ac a p.s := by rw [e]; simp
    have hr := parts_inP h0 hq r hm
    obtain ⟨c', h'⟩ := ih hr
    exact ach_free h1 hr.w0 hr.l0 ((parts_free h0 hm).mono h2) h'
  | @two q w ac a r t v g c g' c' e hv t1 t2 ih1 ih2 =>
    intro hq
    have hr := parts_inP h0 hq (ac := ac) (a := a) r (by rw [e]; simp)
    have ht := parts_inP h0 hq (ac := ac) (a := a) t (by rw [e]; simp)
    obtain ⟨c1, i1⟩ := ih1 hr
    obtain ⟨c2, i2⟩ := ih2 ht
    obtain ⟨e1, e2, e3, e4⟩ := parts_two e
    have en : partsL q ac a p'.s = [r, partP q ac (a + p'.s) (farP q ac - a - p'.s)] := by
      unfold partsL
      rw [if_neg (by unfold noCut; omega), if_pos e1, if_pos (by omega), e3]
      rfl
    have hf : FreeIn p'.s (partP q ac (a + p'.s) (farP q ac - a - p'.s)) t := by
      rw [e4]
      unfold partP farP at *
      cases ac <;> simp only [cond_true, cond_false] at * <;> constructor <;> unfold FrN <;> dsimp only <;> omega
    obtain ⟨c3, i3⟩ := ach_free h1 ht.w0 ht.l0 hf i2
    exact ⟨_, .two en hv i1 i3⟩
/-- a plate that is wider or longer: what was had is had -/
theorem ach_same {p p' : Pl} (hw : p'.ws = p.ws) (hs : p'.s = p.s) {q : Pc} {w : Wn} {g c : Int} (ha : Ach p q w g c) : Ach p' q w g c := by
  induction ha with
  | stop => exact .stop _ _
  | use a1 a2 a3 => rw [← hw] at a1 a3 ⊢; exact .use a1 a2 a3
  | one e t ih => exact .one (by rw [hs]; exact e) ih
  | two e hv t1 t2 ih1 ih2 => exact .two (by rw [hs]; exact e) hv ih1 ih2
theorem ach_wide {p p' : Pl} (hw : p'.ws = p.ws) (hs : p'.s = p.s) (h0 : 0 ≤ p.s) (hpw : 1 ≤ p.w) (hpl : 1 ≤ p.l) (h1 : FrN (p'.w - p.w) p.s) (h2 : FrN (p'.l - p.l) p.s) {w : Wn} {g c : Int} (ha : Ach p (wholeP p) w g c) : ∃ c', Ach p' (wholeP p') w g c' := by
  refine ach_free (p := p') (by omega) (y := wholeP p) hpw hpl ⟨?_, ?_, ?_, ?_⟩ (ach_same hw hs ha)
  · exact .inl (by unfold wholeP; dsimp only; omega)
  · rw [hs]; unfold wholeP; dsimp only; rw [show 0 + p'.w - (0 + p.w) = p'.w - p.w by omega]; exact h1
  · exact .inl (by unfold wholeP; dsimp only; omega)
  · rw [hs]; unfold wholeP; dsimp only; rw [show 0 + p'.l - (0 + p.l) = p'.l - p.l by omega]; exact h2
end Go.Ev.Ytojlbcodfebmgaa

set_option linter.unusedVariables false
set_option linter.unusedSimpArgs false
set_option maxRecDepth 100000
namespace Go.Ev.Ytojlbcodfebmgaa
open Go.Proofs
theorem bw_mono {p p' : Pl} (hp : checkI p = 0) (hp' : checkI p' = 0) (h : ∀ g c, Ach p (wholeP p) (allW p.ws.length) g c → ∃ g' c', g ≤ g' ∧ Ach p' (wholeP p') (allW p'.ws.length) g' c') : bwP p ≤ bwP p' := by
  have hs := (check_zero hp).2.2.2.1.1
  obtain ⟨g', c', h1, h2⟩ := h _ _ (best_ach (p := p) hs _ (allW p.ws.length) (wholeP_ok hp) (Nat.le_refl _))
  have h3 := best_opt hp' h2 (wholeP_ok hp')
  unfold LeG at h3
  unfold bwP
  omega
theorem easy_saw {p : Pl} (hp : checkI p = 0) {s : Int} (h0 : 0 ≤ s) (h1 : s ≤ p.s) (hp' : checkI ⟨p.w, p.l, s, p.ws⟩ = 0) : bwP p ≤ bwP ⟨p.w, p.l, s, p.ws⟩ := by
  have hs := (check_zero hp).2.2.2.1
  refine bw_mono hp hp' fun g c h => ?_
  obtain ⟨c', h'⟩ := ach_saw (p := p) (p' := ⟨p.w, p.l, s, p.ws⟩) rfl h0 h1 hs.2 h (whole_in hp)
  exact ⟨g, c', Int.le_refl _, h'⟩
theorem easy_big {p p' : Pl} (hp : checkI p = 0) (hp' : checkI p' = 0) (hw : p'.ws = p.ws) (hs : p'.s = p.s) (h1 : FrN (p'.w - p.w) p.s) (h2 : FrN (p'.l - p.l) p.s) : bwP p ≤ bwP p' := by
  obtain ⟨_, pw, pl, ps, _⟩ := check_zero hp
  refine bw_mono hp hp' fun g c h => ?_
  obtain ⟨c', h'⟩ := ach_wide (p := p) (p' := p') hw hs ps.1 pw.1 pl.1 h1 h2 h
  rw [← hw] at h'
  exact ⟨g, c', Int.le_refl _, h'⟩
theorem wtAt_app {l r : List Wt} {i : Nat} (h : i < l.length) : wtAt (l ++ r) i = wtAt l i := by
  unfold wtAt; rw [List.getElem?_append_left h]
theorem easy_more {p : Pl} (hp : checkI p = 0) (m : Wt) (hp' : checkI ⟨p.w, p.l, p.s, p.ws ++ [m]⟩ = 0) : bwP p ≤ bwP ⟨p.w, p.l, p.s, p.ws ++ [m]⟩ := by
  obtain ⟨_, pw, pl, ps, _⟩ := check_zero hp
  refine bw_mono hp hp' fun g c h => ?_
  have h' := ach_mono h (allW (p.ws ++ [m]).length) (sub_allW fun i _ hi => by have := allW_lt hi; simp; omega)
  obtain ⟨g', h1, h2⟩ := ach_easy (p := p) (p' := ⟨p.w, p.l, p.s, p.ws ++ [m]⟩) rfl ps.1 (fun i hi => ⟨by simp; omega, by show _ ≤ (wtAt (p.ws ++ [m]) i).g; rw [wtAt_app hi]; exact Int.le_refl _, fun q _ hq => by show fitsB (wtAt (p.ws ++ [m]) i) q = true; rw [wtAt_app hi]; exact hq⟩) h' (whole_in hp)
  exact ⟨g', c, h1, h2⟩
theorem wtAt_set {l : List Wt} {i t : Nat} (m : Wt) (h : t < l.length) : wtAt (l.set t m) i = if t = i then m else wtAt l i := by
  unfold wtAt
  by_cases e : t = i
  · subst e; rw [List.getElem?_set_self h, if_pos rfl]; rfl
  · rw [List.getElem?_set_ne e, if_neg e]
theorem easy_set {p : Pl} (hp : checkI p = 0) {t : Nat} (ht : t < p.ws.length) {m : Wt} (hp' : checkI ⟨p.w, p.l, p.s, p.ws.set t m⟩ = 0)
    (hg : (p.ws[t]).g ≤ m.g) (hf : ∀ q, InP p q → fitsB p.ws[t] q = true → fitsB m q = true) : bwP p ≤ bwP ⟨p.w, p.l, p.s, p.ws.set t m⟩ := by
  obtain ⟨_, pw, pl, ps, _⟩ := check_zero hp
  refine bw_mono hp hp' fun g c h => ?_
  have e : wtAt p.ws t = p.ws[t] := by unfold wtAt; rw [List.getElem?_eq_getElem ht]; rfl
  obtain ⟨g', h1, h2⟩ := ach_easy (p := p) (p' := ⟨p.w, p.l, p.s, p.ws.set t m⟩) rfl ps.1 (fun i hi => ⟨by simpa using hi, by
      show _ ≤ (wtAt (p.ws.set t m) i).g
      rw [wtAt_set m ht]
      split
      · rename_i e'; subst e'; rw [e]; exact hg
      · exact Int.le_refl _, fun q hqi hq => by
      show fitsB (wtAt (p.ws.set t m) i) q = true
      rw [wtAt_set m ht]
      split
      · rename_i e'; subst e'; rw [e] at hq; exact hf q hqi hq
      · exact hq⟩) h (whole_in hp)
  exact ⟨g', c, h1, by rw [show (p.ws.set t m).length = p.ws.length by simp]; exact h2⟩
theorem hasB_mono {a b a' b' f m : Int} (h1 : a' ≤ a) (h2 : b ≤ b' ∨ wI (wI (f + m) - 1) ≤ b') (h : hasB a b f m = true) : hasB a' b' f m = true := by
  unfold hasB at *
  simp only [Bool.and_eq_true, decide_eq_true_eq] at *
  omega
theorem inP_hi {p : Pl} (hp : checkI p = 0) {q : Pc} (h : InP p q) : wI (wI (q.x + q.w) - 1) ≤ 7 ∧ wI (wI (q.y + q.l) - 1) ≤ 7 := by
  obtain ⟨_, pw, pl, ps, _⟩ := check_zero hp
  have := h.x0; have := h.y0; have := h.w0; have := h.l0; have := h.x1; have := h.y1
  unfold wI
  rw [wS (z := q.x + q.w) (by omega) (by omega), wS (z := q.y + q.l) (by omega) (by omega), wS (by omega) (by omega), wS (by omega) (by omega)]
  omega
theorem fits_x {p : Pl} (hp : checkI p = 0) {w : Wt} {a b : Int} (h1 : a ≤ w.x1) (h2 : w.x2 ≤ b ∨ 7 ≤ b) {q : Pc} (hq : InP p q) (h : fitsB w q = true) : fitsB ⟨w.w, w.l, w.t, w.g, a, b, w.y1, w.y2⟩ q = true := by
  have := inP_hi hp hq
  unfold fitsB at *
  simp only [Bool.and_eq_true] at *
  refine ⟨⟨h.1.1, hasB_mono h1 ?_ h.1.2⟩, h.2⟩
  omega
theorem fits_y {p : Pl} (hp : checkI p = 0) {w : Wt} {a b : Int} (h1 : a ≤ w.y1) (h2 : w.y2 ≤ b ∨ 7 ≤ b) {q : Pc} (hq : InP p q) (h : fitsB w q = true) : fitsB ⟨w.w, w.l, w.t, w.g, w.x1, w.x2, a, b⟩ q = true := by
  have := inP_hi hp hq
  unfold fitsB at *
  simp only [Bool.and_eq_true] at *
  refine ⟨⟨h.1.1, h.1.2⟩, hasB_mono h1 ?_ h.2⟩
  omega
theorem fits_t {w : Wt} {q : Pc} (h : fitsB w q = true) : fitsB ⟨w.w, w.l, true, w.g, w.x1, w.x2, w.y1, w.y2⟩ q = true := by
  unfold fitsB sizeB at *
  simp only [Bool.and_eq_true, Bool.or_eq_true] at *
  refine ⟨⟨?_, h.1.2⟩, h.2⟩
  rcases h.1.1 with h | h
  · exact .inl h
  · exact .inr ⟨⟨trivial, h.1.2⟩, h.2⟩
theorem fits_g {w : Wt} {g : Int} {q : Pc} (h : fitsB w q = true) : fitsB ⟨w.w, w.l, w.t, g, w.x1, w.x2, w.y1, w.y2⟩ q = true := h
end Go.Ev.Ytojlbcodfebmgaa
