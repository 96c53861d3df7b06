/-
  Contracts of functions, and plain laws, that lead to the statement. Written by an agent.
-/
import Derived.Test.YtojlbcodfebmgaaLa
set_option linter.unusedVariables false
set_option linter.unusedSimpArgs false
set_option maxRecDepth 100000
namespace Go.Ev.Ytojlbcodfebmgaa
open Go.Proofs
attribute [local irreducible] Pure Bor Iter inB wtB partsL runC stepC
abbrev pvO (i : Nat) : Ob := .var false 100 [.ref i 0]
abbrev psO (st : St2) : Ob := .arr 90 (st.1.map pcD)
abbrev csO (st : St2) : Ob := .arr 4 (bsE st.2)
def useB (st : St2) (n : Int) : Bool := inB n (-1) ((st.1.length : Int) - 1)
theorem use_bor (p : Pl) (st : St2) (hl : st.1.length ≤ 100000) (n : Int) : Bor tb Try.prog 69 [.d (dI n), .ref 0 0] [pvO 1, wkO p 2 3, psO st, csO st] 4 (.d (dB (useB st n)))
    [(0, pvO 1), (1, wkO p 2 3), (2, psO st), (3, csO st)] := by
  have hpl : ((st.1.map pcD).length : Int) = st.1.length := by rw [List.length_map]
  have wl : IntKind.i64.wrap (((st.1.map pcD).length : Int) - 1) = (st.1.length : Int) - 1 := by rw [hpl]; exact wS (by omega) (by omega)
  refine bor_ofO pg Try.func69 (by kernel_rfl) ?_
  conv => whnf
  have cw' := within_pure n (-1) (IntKind.i64.wrap (((st.1.map pcD).length : Int) - 1))
  rw [wl] at cw'
  have e : useB st n = inB n (-1) ((st.1.length : Int) - 1) := by unfold useB; rfl
  rw [e]
  rw [← wl] at cw' ⊢
  (refine .inl ⟨_, cw', ?_⟩; conv => whnf)
  (refine ⟨[0, 1, 2, 3], ?_⟩; conv => whnf)
  exact ⟨rfl, rfl⟩
abbrev rgO : Ob := .var false 145 [.fn (.func 69) [] [.ref 1 0]]
abbrev preU (p : Pl) (st : St2) : List Ob := [rgO, pvO 2, wkO p 3 4, psO st, csO st]
abbrev postU (p : Pl) (st : St2) : List (Nat × Ob) := [(0, rgO), (1, pvO 2), (2, wkO p 3 4), (3, psO st), (4, csO st)]
attribute [local irreducible] useB
theorem us_all1_bor (p : Pl) (st : St2) (hl : st.1.length ≤ 100000) (n : Int) : Bor tb Try.prog 87 [.d (dI n), .ref 0 0] (preU p st) 5 (.d (dB (!useB st n))) (postU p st) := by
  refine bor_ofO pg Try.func87 (by kernel_rfl) ?_
  conv => whnf
  (refine .inr ⟨[1, 2, 3, 4], 4, _, _, use_bor p st hl n, ?_⟩; conv => whnf)
  (refine ⟨[0, 1, 2, 3, 4], ?_⟩; conv => whnf)
  exact ⟨rfl, rfl⟩
theorem us_index_bor (p : Pl) (st : St2) (hp : st.1.length ≤ 100000) (l : List Int) (hl : l.length ≤ 100000) : Bor tb Try.prog 95 [.d (isD l), .fn (.func 87) [] [.ref 0 0]] (preU p st) 5 (.d (dI (match l.findIdx? (fun x => !useB st x) with | some i => (i : Int) | none => -1))) (postU p st) := by
  have hm : ((l.map fun n => [dI n]).length : Int) = (l.length : Int) := by rw [List.length_map]
  refine bor_ofO pg Try.func95 (by kernel_rfl) ?_
  conv => whnf
  refine ⟨[], [0, 1, 7, 8], [0, 1, 2, 3, 4], 5, fun m s => ∃ k : Nat, k + m = l.length ∧ (∀ i (h : i < k) (h' : i < l.length), useB st l[i] = true) ∧ s = ⟨[(0, .d (isD l)), (1, .fn (.func 87) [] [.ref 0 0]), (7, .d (dI (l.map fun n => [dI n]).length)), (8, .d (dI k))], postU p st, 5⟩, ?_, ?_⟩
  · conv => whnf
    exact ⟨l.length, 0, by simp, by simp, rfl⟩
  · rintro m _ ⟨k, hk, hall, rfl⟩
    conv => whnf
    (apply kB <;> intro h <;> conv => whnf)
    · have hlt : k < l.length := by rw [decide_eq_true_eq, hm] at h; omega
      (refine ⟨k, [dI l[k]], rfl, geti l k hlt, rfl, ?_⟩; conv => whnf)
      (refine .inr ⟨[0, 1, 2, 3, 4], 5, _, _, us_all1_bor p st hp l[k], ?_⟩; conv => whnf)
      (apply kB <;> intro h1 <;> conv => whnf)
      · refine ⟨[0, 1, 2, 3, 4], ?_⟩
        conv => whnf
        refine ⟨?_, rfl⟩
        have hf : l.findIdx? (fun x => !useB st x) = some k := by
          rw [List.findIdx?_eq_some_iff_getElem]
          exact ⟨hlt, h1, fun j hj => by simp [hall j hj (by omega)]⟩
        rw [hf]
        rfl
      · refine ⟨m - 1, by omega, k + 1, by omega, fun i hi hi' => ?_, ?_⟩
        · rcases Nat.lt_or_ge i k with h2 | h2
          · exact hall i h2 hi'
          · have : i = k := by omega
            subst this
            simpa using h1
        · rw [w1 k (by omega)]
          rfl
    · have hge : l.length ≤ k := by rw [decide_eq_false_iff_not, hm] at h; omega
      refine ⟨[0, 1, 2, 3, 4], ?_⟩
      conv => whnf
      refine ⟨?_, rfl⟩
      have hf : l.findIdx? (fun x => !useB st x) = none := by
        rw [List.findIdx?_eq_none_iff]
        intro x hx
        obtain ⟨i, hi, rfl⟩ := List.mem_iff_getElem.1 hx
        simp [hall i (by omega) hi]
      rw [hf]
      rfl
theorem us_contains_bor (p : Pl) (st : St2) (hp : st.1.length ≤ 100000) (l : List Int) (hl : l.length ≤ 100000) : Bor tb Try.prog 86 [.d (isD l), .fn (.func 87) [] [.ref 0 0]] (preU p st) 5 (.d (dB (!l.all (useB st)))) (postU p st) := by
  refine bor_ofO pg Try.func86 (by kernel_rfl) ?_
  conv => whnf
  (refine .inr ⟨[0, 1, 2, 3, 4], 5, _, _, us_index_bor p st hp l hl, ?_⟩; conv => whnf)
  refine ⟨[0, 1, 2, 3, 4], ?_⟩
  conv => whnf
  refine ⟨?_, rfl⟩
  show A.d (dB (decide ((match l.findIdx? (fun x => !useB st x) with | some i => (i : Int) | none => -1) ≥ 0))) = _
  congr 1
  cases h : l.findIdx? (fun x => !useB st x) with
  | none =>
    rw [List.findIdx?_eq_none_iff] at h
    have : l.all (useB st) = true := by
      rw [List.all_eq_true]
      intro x hx
      simpa using h x hx
    simp [this]
  | some i =>
    rw [List.findIdx?_eq_some_iff_getElem] at h
    obtain ⟨h1, h2, _⟩ := h
    have : l.all (useB st) = false := by
      rw [Bool.eq_false_iff]
      intro h3
      have := List.all_eq_true.1 h3 _ (List.getElem_mem h1)
      rw [this] at h2
      cases h2
    rw [this]
    have : (i : Int) ≥ 0 := by omega
    simp [this]
theorem us_all_bor (p : Pl) (st : St2) (hp : st.1.length ≤ 100000) (l : List Int) (hl : l.length ≤ 100000) : Bor tb Try.prog 68 [.d (isD l), .fn (.func 69) [] [.ref 0 0]] [pvO 1, wkO p 2 3, psO st, csO st] 4 (.d (dB (l.all (useB st))))
    [(0, pvO 1), (1, wkO p 2 3), (2, psO st), (3, csO st)] := by
  refine bor_ofO pg Try.func68 (by kernel_rfl) ?_
  conv => whnf
  (refine .inr ⟨[4, 0, 1, 2, 3], 5, _, _, us_contains_bor p st hp l hl, ?_⟩; conv => whnf)
  refine ⟨[0, 1, 2, 3], ?_⟩
  conv => whnf
  refine ⟨?_, rfl⟩
  rw [Bool.not_not]
  rfl
end Go.Ev.Ytojlbcodfebmgaa

set_option linter.unusedVariables false
set_option linter.unusedSimpArgs false
set_option maxRecDepth 100000
namespace Go.Ev.Ytojlbcodfebmgaa
open Go.Proofs
attribute [local irreducible] Pure Bor Iter inB wtB partsL runC stepC useB
structure Pn where
  (cs : List Ct)
  (us : List Int)
abbrev pnC (x : Pn) : List D := [ctsD x.cs, isD x.us]
abbrev pnD (x : Pn) : D := .agg (pnC x)
/-- the numbers that are used, in their order -/
abbrev usedM (l : List Int) : List (D × D) := l.map fun n => (dI n, dB true)
theorem keyEq_int (a b : Int) : keyEq (dI a) (dI b) = (a == b) := by
  show (decide (IntKind.i64 = IntKind.i64) && a == b) = (a == b)
  simp
theorem used_get : ∀ (l : List Int) (n : Int), mapGet (usedM l) (dI n) = if n ∈ l then some (dB true) else none
  | [], n => by simp [mapGet]
  | a :: l, n => by
    rw [usedM, List.map_cons, mapGet]
    dsimp only
    rw [keyEq_int]
    by_cases h : n = a
    · subst h; simp
    · rw [show (n == a) = false by simp [h], cond_false]
      have := used_get l n
      rw [usedM] at this
      rw [this]
      simp [h]
theorem used_set : ∀ (l : List Int) (n : Int), n ∉ l → mapSet (usedM l) (dI n) (dB true) = usedM (l ++ [n])
  | [], n, _ => rfl
  | a :: l, n, h => by
    simp only [List.mem_cons, not_or] at h
    rw [usedM, List.map_cons, mapSet]
    dsimp only
    rw [keyEq_int, show (n == a) = false by simp [h.1], cond_false]
    have := used_set l n h.2
    rw [usedM] at this
    rw [this]
    rfl
def wtAt (l : List Wt) (n : Nat) : Wt := (l[n]?).getD ⟨0, 0, false, 0, 0, 0, 0, 0⟩
/-- may the pieces be used so, from the i-th specimen on -/
def usesB (ws : List Wt) (st : St2) : List Int → Nat → List Int → Bool
  | [], _, _ => true
  | n :: r, i, seen => if n = -1 then usesB ws st r (i + 1) seen
    else if n ∈ seen ∨ cutAt st.2 n = true ∨ fitsB (wtAt ws i) (pcAt st.1 n) = false then false else usesB ws st r (i + 1) (seen ++ [n])
theorem usesB_nil (ws : List Wt) (st : St2) (i : Nat) (seen : List Int) : usesB ws st [] i seen = true := by rw [usesB]
theorem usesB_skip (ws : List Wt) (st : St2) {n : Int} (r : List Int) (i : Nat) (seen : List Int) (h : n = -1) : usesB ws st (n :: r) i seen = usesB ws st r (i + 1) seen := by rw [usesB, if_pos h]
theorem usesB_bad (ws : List Wt) (st : St2) {n : Int} (r : List Int) (i : Nat) (seen : List Int) (h : n ≠ -1) (h2 : n ∈ seen ∨ cutAt st.2 n = true ∨ fitsB (wtAt ws i) (pcAt st.1 n) = false) : usesB ws st (n :: r) i seen = false := by rw [usesB, if_neg h, if_pos h2]
theorem usesB_good (ws : List Wt) (st : St2) {n : Int} (r : List Int) (i : Nat) (seen : List Int) (h : n ≠ -1) (h2 : ¬ (n ∈ seen ∨ cutAt st.2 n = true ∨ fitsB (wtAt ws i) (pcAt st.1 n) = false)) : usesB ws st (n :: r) i seen = usesB ws st r (i + 1) (seen ++ [n]) := by rw [usesB, if_neg h, if_neg h2]
theorem getwa {l : List Wt} {k : Nat} (h : k < l.length) : (l.map wtD)[k]? = some (wtD (wtAt l k)) := by
  unfold wtAt
  rw [List.getElem?_map, List.getElem?_eq_getElem h]
  rfl
attribute [local irreducible] usesB fitsB
def plnR : Bool → Nat → A
  | true, i => .tup [.ref i 0, .d (dI 0)]
  | false, _ => .d (.tup [.v (.pointer none), dI 11])
def plnPost (p : Pl) (st : St2) : Bool → Nat → Nat → Nat → List (Nat × Ob)
  | true, i, j, k => [(i, wkO p j k), (j, psO st), (k, csO st)]
  | false, _, _, _ => []
set_option maxHeartbeats 4000000 in
theorem planned_raw {p : Pl} (hp : checkI p = 0) {x : Pn} (hl : x.cs.length ≤ 40) (hi : ∀ c ∈ x.cs, InI c.n ∧ InI c.at_) {st : St2} (hr : runC p.s x.cs (st0 p) = some st) (hs : st.1.length ≤ 1000) (hok : OkS st)
    (hu : x.us.length = p.ws.length) (ha : x.us.all (useB st) = true) {b : Bool} (hb : usesB p.ws st x.us 0 [] = b) :
    Bor tb Try.prog 47 [.d (plD p), .d (pnD x)] [] 66 (plnR b 2) (plnPost p st b 2 3 4) := by
  have hw := (check_zero hp).1
  have cd := do_ok hp hl hi hr
  have hm : ((x.us.map fun n => [dI n]).length : Int) = x.us.length := by rw [List.length_map]
  have hm2 : ((p.ws.map wtD).length : Int) = p.ws.length := by rw [List.length_map]
  have f1 : (((x.us.map fun n => [dI n]).length : Int) != ((p.ws.map wtD).length : Int)) = false := by rw [hm, hm2, hu]; simp
  have cu := us_all_bor p st (by omega) x.us (by omega)
  rw [ha] at cu
  refine bor_ofO pg Try.func47 (by kernel_rfl) ?_
  conv => whnf
  (refine .inr ⟨[], 3, _, _, cd, ?_⟩; conv => whnf)
  (apply kF (rfl); conv => whnf)
  (repeat' (first | (apply kT (by with_reducible first | rfl | assumption); conv => whnf) | (apply kF (by with_reducible first | rfl | assumption); conv => whnf) | (apply kT (by decide); conv => whnf) | (apply kF (by decide); conv => whnf) | (apply kB <;> intro _ <;> conv => whnf) | fail))
  (refine .inr ⟨[5, 2, 3, 4], 4, _, _, cu, ?_⟩; conv => whnf)
  (repeat' (first | (apply kT (by with_reducible first | rfl | assumption); conv => whnf) | (apply kF (by with_reducible first | rfl | assumption); conv => whnf) | (apply kT (by decide); conv => whnf) | (apply kF (by decide); conv => whnf) | (apply kB <;> intro _ <;> conv => whnf) | fail))
  refine ⟨[], [2, 3, 4, 5, 6, 7, 8, 37, 38, 39], [0, 1, 2, 3, 4, 5, 6], 7, fun m s => ∃ (k : Nat) (seen : List Int), k + m = x.us.length ∧ usesB p.ws st (x.us.drop k) k seen = b ∧
    s = ⟨[(2, .ref 0 0), (3, .ref 1 0), (4, .d (.v (.pointer none))), (5, .d (dI 0)), (6, .ref 5 0), (7, .d (dI 0)), (8, .own 6), (37, .d (isD x.us)), (38, .d (dI (x.us.map fun n => [dI n]).length)), (39, .d (dI k))],
      [(0, .var false 38 ((plC p).map A.d)), (1, .var false 42 ((pnC x).map A.d)), (2, wkO p 3 4), (3, psO st), (4, csO st), (5, pvO 2), (6, .map 3 4 (usedM seen))], 7⟩, ?_, ?_⟩
  · conv => whnf
    exact ⟨x.us.length, 0, [], by omega, hb, rfl⟩
  · rintro m _ ⟨k, seen, hk, hrun, rfl⟩
    by_cases hlt : k < x.us.length
    · have f2 : decide ((k : Int) < ((x.us.map fun n => [dI n]).length : Int)) = true := decide_eq_true (by rw [hm]; omega)
      rw [List.drop_eq_getElem_cons hlt] at hrun
      have hq := geti x.us k hlt
      have hub := List.all_eq_true.1 ha _ (List.getElem_mem hlt)
      generalize x.us[k] = n at hrun hq hub
      have hub' : inB n (-1) ((st.1.length : Int) - 1) = true := by rw [← hub]; unfold useB; rfl
      have hub2 := inB_true.1 hub'
      by_cases h1 : n = -1
      · rw [usesB_skip _ _ _ _ _ h1] at hrun
        have f3 := eqT h1
        conv => whnf
        (repeat' (first | (apply kT (by with_reducible first | rfl | assumption); conv => whnf) | (apply kF (by with_reducible first | rfl | assumption); conv => whnf) | (apply kT (by decide); conv => whnf) | (apply kF (by decide); conv => whnf) | (apply kB <;> intro _ <;> conv => whnf) | fail))
        (refine ⟨k, [dI n], rfl, hq, rfl, ?_⟩; conv => whnf)
        (repeat' (first | (apply kT (by with_reducible first | rfl | assumption); conv => whnf) | (apply kF (by with_reducible first | rfl | assumption); conv => whnf) | (apply kT (by decide); conv => whnf) | (apply kF (by decide); conv => whnf) | (apply kB <;> intro _ <;> conv => whnf) | fail))
        refine ⟨m - 1, by omega, k + 1, seen, by omega, hrun, ?_⟩
        rw [w1 k (by omega)]
        rfl
      have f3 := eqF h1
      have hn0 : 0 ≤ n := by omega
      have hn : (n.toNat : Int) = n := Int.toNat_of_nonneg hn0
      have hg := used_get seen n
      by_cases h2 : n ∈ seen
      · rw [usesB_bad _ _ _ _ _ h1 (.inl h2)] at hrun
        rw [if_pos h2] at hg
        subst hrun
        conv => whnf
        (repeat' (first | (apply kT (by with_reducible first | rfl | assumption); conv => whnf) | (apply kF (by with_reducible first | rfl | assumption); conv => whnf) | (apply kT (by decide); conv => whnf) | (apply kF (by decide); conv => whnf) | (apply kB <;> intro _ <;> conv => whnf) | fail))
        (refine ⟨k, [dI n], rfl, hq, rfl, ?_⟩; conv => whnf)
        (repeat' (first | (apply kT (by with_reducible first | rfl | assumption); conv => whnf) | (apply kF (by with_reducible first | rfl | assumption); conv => whnf) | (apply kT (by decide); conv => whnf) | (apply kF (by decide); conv => whnf) | (apply kB <;> intro _ <;> conv => whnf) | fail))
        (refine ⟨some (dB true), hg, ?_⟩; conv => whnf)
        (repeat' (first | (apply kT (by with_reducible first | rfl | assumption); conv => whnf) | (apply kF (by with_reducible first | rfl | assumption); conv => whnf) | (apply kT (by decide); conv => whnf) | (apply kF (by decide); conv => whnf) | (apply kB <;> intro _ <;> conv => whnf) | fail))
        (refine ⟨[], ?_⟩; conv => whnf)
        exact ⟨rfl, rfl⟩
      rw [if_neg h2] at hg
      have hlc : n < st.2.length := by rw [hok.len]; omega
      by_cases h3 : cutAt st.2 n = true
      · rw [usesB_bad _ _ _ _ _ h1 (.inr (.inl h3))] at hrun
        subst hrun
        conv => whnf
        (repeat' (first | (apply kT (by with_reducible first | rfl | assumption); conv => whnf) | (apply kF (by with_reducible first | rfl | assumption); conv => whnf) | (apply kT (by decide); conv => whnf) | (apply kF (by decide); conv => whnf) | (apply kB <;> intro _ <;> conv => whnf) | fail))
        (refine ⟨k, [dI n], rfl, hq, rfl, ?_⟩; conv => whnf)
        (repeat' (first | (apply kT (by with_reducible first | rfl | assumption); conv => whnf) | (apply kF (by with_reducible first | rfl | assumption); conv => whnf) | (apply kT (by decide); conv => whnf) | (apply kF (by decide); conv => whnf) | (apply kB <;> intro _ <;> conv => whnf) | fail))
        (refine ⟨none, hg, ?_⟩; conv => whnf)
        (repeat' (first | (apply kT (by with_reducible first | rfl | assumption); conv => whnf) | (apply kF (by with_reducible first | rfl | assumption); conv => whnf) | (apply kT (by decide); conv => whnf) | (apply kF (by decide); conv => whnf) | (apply kB <;> intro _ <;> conv => whnf) | fail))
        (refine ⟨n.toNat, hn.symm, by rw [List.length_map]; omega, ?_⟩; conv => whnf)
        (repeat' (first | (apply kT (by with_reducible first | rfl | assumption); conv => whnf) | (apply kF (by with_reducible first | rfl | assumption); conv => whnf) | (apply kT (by decide); conv => whnf) | (apply kF (by decide); conv => whnf) | (apply kB <;> intro _ <;> conv => whnf) | fail))
        (refine ⟨_, getba hn0 hlc, ?_⟩; conv => whnf)
        (refine ⟨_, rfl, ?_⟩; conv => whnf)
        (repeat' (first | (apply kT (by with_reducible first | rfl | assumption); conv => whnf) | (apply kF (by with_reducible first | rfl | assumption); conv => whnf) | (apply kT (by decide); conv => whnf) | (apply kF (by decide); conv => whnf) | (apply kB <;> intro _ <;> conv => whnf) | fail))
        (refine ⟨[], ?_⟩; conv => whnf)
        exact ⟨rfl, rfl⟩
      have h3 := (Bool.not_eq_true _).mp h3
      have cf := fits_pure (wtAt p.ws k) (pcAt st.1 n)
      have hkw : k < p.ws.length := by omega
      by_cases h4 : fitsB (wtAt p.ws k) (pcAt st.1 n) = false
      · rw [usesB_bad _ _ _ _ _ h1 (.inr (.inr h4))] at hrun
        rw [h4] at cf
        subst hrun
        conv => whnf
        (repeat' (first | (apply kT (by with_reducible first | rfl | assumption); conv => whnf) | (apply kF (by with_reducible first | rfl | assumption); conv => whnf) | (apply kT (by decide); conv => whnf) | (apply kF (by decide); conv => whnf) | (apply kB <;> intro _ <;> conv => whnf) | fail))
        (refine ⟨k, [dI n], rfl, hq, rfl, ?_⟩; conv => whnf)
        (repeat' (first | (apply kT (by with_reducible first | rfl | assumption); conv => whnf) | (apply kF (by with_reducible first | rfl | assumption); conv => whnf) | (apply kT (by decide); conv => whnf) | (apply kF (by decide); conv => whnf) | (apply kB <;> intro _ <;> conv => whnf) | fail))
        (refine ⟨none, hg, ?_⟩; conv => whnf)
        (repeat' (first | (apply kT (by with_reducible first | rfl | assumption); conv => whnf) | (apply kF (by with_reducible first | rfl | assumption); conv => whnf) | (apply kT (by decide); conv => whnf) | (apply kF (by decide); conv => whnf) | (apply kB <;> intro _ <;> conv => whnf) | fail))
        (refine ⟨n.toNat, hn.symm, by rw [List.length_map]; omega, ?_⟩; conv => whnf)
        (repeat' (first | (apply kT (by with_reducible first | rfl | assumption); conv => whnf) | (apply kF (by with_reducible first | rfl | assumption); conv => whnf) | (apply kT (by decide); conv => whnf) | (apply kF (by decide); conv => whnf) | (apply kB <;> intro _ <;> conv => whnf) | fail))
        (refine ⟨_, getba hn0 hlc, ?_⟩; conv => whnf)
        (refine ⟨_, rfl, ?_⟩; conv => whnf)
        (repeat' (first | (apply kT (by with_reducible first | rfl | assumption); conv => whnf) | (apply kF (by with_reducible first | rfl | assumption); conv => whnf) | (apply kT (by decide); conv => whnf) | (apply kF (by decide); conv => whnf) | (apply kB <;> intro _ <;> conv => whnf) | fail))
        (refine ⟨k, wtD (wtAt p.ws k), rfl, getwa hkw, rfl, ?_⟩; conv => whnf)
        (repeat' (first | (apply kT (by with_reducible first | rfl | assumption); conv => whnf) | (apply kF (by with_reducible first | rfl | assumption); conv => whnf) | (apply kT (by decide); conv => whnf) | (apply kF (by decide); conv => whnf) | (apply kB <;> intro _ <;> conv => whnf) | fail))
        (refine ⟨n.toNat, hn.symm, by rw [List.length_map]; omega, ?_⟩; conv => whnf)
        (repeat' (first | (apply kT (by with_reducible first | rfl | assumption); conv => whnf) | (apply kF (by with_reducible first | rfl | assumption); conv => whnf) | (apply kT (by decide); conv => whnf) | (apply kF (by decide); conv => whnf) | (apply kB <;> intro _ <;> conv => whnf) | fail))
        (refine ⟨_, getpa hn0 (by omega), ?_⟩; conv => whnf)
        (refine ⟨rfl, ?_⟩; conv => whnf)
        (repeat' (first | (apply kT (by with_reducible first | rfl | assumption); conv => whnf) | (apply kF (by with_reducible first | rfl | assumption); conv => whnf) | (apply kT (by decide); conv => whnf) | (apply kF (by decide); conv => whnf) | (apply kB <;> intro _ <;> conv => whnf) | (refine .inl ⟨_, cf, ?_⟩; conv => whnf) | fail))
        (refine ⟨[], ?_⟩; conv => whnf)
        exact ⟨rfl, rfl⟩
      · have h4 := (Bool.not_eq_false _).mp h4
        rw [usesB_good _ _ _ _ _ h1 (by rw [h3, h4]; simp [h2])] at hrun
        rw [h4] at cf
        conv => whnf
        (repeat' (first | (apply kT (by with_reducible first | rfl | assumption); conv => whnf) | (apply kF (by with_reducible first | rfl | assumption); conv => whnf) | (apply kT (by decide); conv => whnf) | (apply kF (by decide); conv => whnf) | (apply kB <;> intro _ <;> conv => whnf) | fail))
        (refine ⟨k, [dI n], rfl, hq, rfl, ?_⟩; conv => whnf)
        (repeat' (first | (apply kT (by with_reducible first | rfl | assumption); conv => whnf) | (apply kF (by with_reducible first | rfl | assumption); conv => whnf) | (apply kT (by decide); conv => whnf) | (apply kF (by decide); conv => whnf) | (apply kB <;> intro _ <;> conv => whnf) | fail))
        (refine ⟨none, hg, ?_⟩; conv => whnf)
        (repeat' (first | (apply kT (by with_reducible first | rfl | assumption); conv => whnf) | (apply kF (by with_reducible first | rfl | assumption); conv => whnf) | (apply kT (by decide); conv => whnf) | (apply kF (by decide); conv => whnf) | (apply kB <;> intro _ <;> conv => whnf) | fail))
        (refine ⟨n.toNat, hn.symm, by rw [List.length_map]; omega, ?_⟩; conv => whnf)
        (repeat' (first | (apply kT (by with_reducible first | rfl | assumption); conv => whnf) | (apply kF (by with_reducible first | rfl | assumption); conv => whnf) | (apply kT (by decide); conv => whnf) | (apply kF (by decide); conv => whnf) | (apply kB <;> intro _ <;> conv => whnf) | fail))
        (refine ⟨_, getba hn0 hlc, ?_⟩; conv => whnf)
        (refine ⟨_, rfl, ?_⟩; conv => whnf)
        (repeat' (first | (apply kT (by with_reducible first | rfl | assumption); conv => whnf) | (apply kF (by with_reducible first | rfl | assumption); conv => whnf) | (apply kT (by decide); conv => whnf) | (apply kF (by decide); conv => whnf) | (apply kB <;> intro _ <;> conv => whnf) | fail))
        (refine ⟨k, wtD (wtAt p.ws k), rfl, getwa hkw, rfl, ?_⟩; conv => whnf)
        (repeat' (first | (apply kT (by with_reducible first | rfl | assumption); conv => whnf) | (apply kF (by with_reducible first | rfl | assumption); conv => whnf) | (apply kT (by decide); conv => whnf) | (apply kF (by decide); conv => whnf) | (apply kB <;> intro _ <;> conv => whnf) | fail))
        (refine ⟨n.toNat, hn.symm, by rw [List.length_map]; omega, ?_⟩; conv => whnf)
        (repeat' (first | (apply kT (by with_reducible first | rfl | assumption); conv => whnf) | (apply kF (by with_reducible first | rfl | assumption); conv => whnf) | (apply kT (by decide); conv => whnf) | (apply kF (by decide); conv => whnf) | (apply kB <;> intro _ <;> conv => whnf) | fail))
        (refine ⟨_, getpa hn0 (by omega), ?_⟩; conv => whnf)
        (refine ⟨rfl, ?_⟩; conv => whnf)
        (repeat' (first | (apply kT (by with_reducible first | rfl | assumption); conv => whnf) | (apply kF (by with_reducible first | rfl | assumption); conv => whnf) | (apply kT (by decide); conv => whnf) | (apply kF (by decide); conv => whnf) | (apply kB <;> intro _ <;> conv => whnf) | (refine .inl ⟨_, cf, ?_⟩; conv => whnf) | fail))
        (refine ⟨_, used_set seen n h2, ?_⟩; conv => whnf)
        refine ⟨m - 1, by omega, k + 1, seen ++ [n], by omega, hrun, ?_⟩
        rw [w1 k (by omega)]
        rfl
    · have f2 : decide ((k : Int) < ((x.us.map fun n => [dI n]).length : Int)) = false := decide_eq_false (by rw [hm]; omega)
      rw [List.drop_of_length_le (by omega), usesB_nil] at hrun
      subst hrun
      conv => whnf
      (repeat' (first | (apply kT (by with_reducible first | rfl | assumption); conv => whnf) | (apply kF (by with_reducible first | rfl | assumption); conv => whnf) | (apply kT (by decide); conv => whnf) | (apply kF (by decide); conv => whnf) | (apply kB <;> intro _ <;> conv => whnf) | fail))
      (refine ⟨[2, 3, 4], ?_⟩; conv => whnf)
      exact ⟨rfl, rfl⟩
/-- the error of a plan; that of a plate, ahead -/
def plnI (p : Pl) (x : Pn) : Int :=
  if checkI p ≠ 0 then checkI p else if 40 < x.cs.length then 3 else
  match runC p.s x.cs (st0 p) with
  | none => 11
  | some st => if x.us.length ≠ p.ws.length ∨ x.us.all (useB st) = false then 2 else if usesB p.ws st x.us 0 [] then 0 else 11
end Go.Ev.Ytojlbcodfebmgaa

set_option linter.unusedVariables false
set_option linter.unusedSimpArgs false
set_option maxRecDepth 100000
namespace Go.Ev.Ytojlbcodfebmgaa
open Go.Proofs
attribute [local irreducible] Pure Bor Iter inB wtB partsL stepC useB usesB fitsB
theorem runC_ok {p : Pl} (hp : checkI p = 0) : ∀ {cs : List Ct} {st st' : St2}, OkS st → runC p.s cs st = some st' → OkS st' ∧ st'.1.length ≤ st.1.length + 2 * cs.length
  | [], st, st', h, e => by
    rw [runC] at e
    cases e
    exact ⟨h, by simp⟩
  | c :: cs, st, st', h, e => by
    rw [runC] at e
    split at e
    · rename_i st1 h1
      obtain ⟨q1, q2⟩ := h.step (check_zero hp).2.2.2.1.1 h1
      obtain ⟨q3, q4⟩ := runC_ok hp q1 e
      exact ⟨q3, by simp; omega⟩
    · cases e
attribute [local irreducible] runC
theorem planned_ok {p : Pl} {x : Pn} (hi : ∀ c ∈ x.cs, InI c.n ∧ InI c.at_) (h : plnI p x = 0) {st : St2} (hr : runC p.s x.cs (st0 p) = some st) :
    Bor tb Try.prog 47 [.d (plD p), .d (pnD x)] [] 3 (.tup [.ref 0 0, .d (dI 0)]) [(0, wkO p 1 2), (1, psO st), (2, csO st)] := by
  unfold plnI at h
  split at h
  · contradiction
  rename_i hp
  have hp := Decidable.not_not.1 hp
  split at h
  · cases h
  rename_i hl
  rw [hr] at h
  dsimp only at h
  split at h
  · cases h
  rename_i hu
  simp only [not_or, ne_eq, Decidable.not_not, Bool.not_eq_false] at hu
  split at h
  · rename_i hb
    obtain ⟨ok, hlen⟩ := runC_ok hp (st0_ok hp) hr
    have : (st0 p).1.length = 1 := rfl
    exact Bor.mv (planned_raw hp (by omega) hi hr (by omega) ok hu.1 hu.2 hb) [2, 3, 4] rfl rfl rfl
  · cases h
theorem planned_err {p : Pl} {x : Pn} (hw : p.ws.length ≤ 100000) (hus : x.us.length ≤ 100000) (hi : ∀ c ∈ x.cs, InI c.n ∧ InI c.at_) (h : plnI p x ≠ 0) :
    Bor tb Try.prog 47 [.d (plD p), .d (pnD x)] [] 0 (.d (.tup [.v (.pointer none), dI (plnI p x)])) [] := by
  by_cases hp : checkI p = 0
  case neg =>
    have e : plnI p x = checkI p := by unfold plnI; rw [if_pos hp]
    rw [e]
    have cd := do_bad hp hw x.cs
    have f1 : (checkI p != 0) = true := by simpa using hp
    refine Bor.mv (N := 4) (post := []) (r := .d (.tup [.v (.pointer none), dI (checkI p)])) ?_ [] rfl rfl rfl
    refine bor_ofO pg Try.func47 (by kernel_rfl) ?_
    conv => whnf
    (refine .inl ⟨_, cd, ?_⟩; conv => whnf)
    (repeat' (first | (apply kT (by with_reducible first | rfl | assumption); conv => whnf) | (apply kF (by with_reducible first | rfl | assumption); conv => whnf) | (apply kT (by decide); conv => whnf) | (apply kF (by decide); conv => whnf) | (apply kB <;> intro _ <;> conv => whnf) | fail))
    (refine ⟨[], ?_⟩; conv => whnf)
    exact ⟨rfl, rfl⟩
  by_cases hl : 40 < x.cs.length
  · have e : plnI p x = 3 := by unfold plnI; rw [if_neg (by simp [hp]), if_pos hl]
    rw [e]
    have cd := do_long hp hl
    refine Bor.mv (N := 4) (post := []) (r := .d (.tup [.v (.pointer none), dI 3])) ?_ [] rfl rfl rfl
    refine bor_ofO pg Try.func47 (by kernel_rfl) ?_
    conv => whnf
    (refine .inl ⟨_, cd, ?_⟩; conv => whnf)
    (repeat' (first | (apply kT (by with_reducible first | rfl | assumption); conv => whnf) | (apply kF (by with_reducible first | rfl | assumption); conv => whnf) | (apply kT (by decide); conv => whnf) | (apply kF (by decide); conv => whnf) | (apply kB <;> intro _ <;> conv => whnf) | fail))
    (refine ⟨[], ?_⟩; conv => whnf)
    exact ⟨rfl, rfl⟩
  cases hr : runC p.s x.cs (st0 p) with
  | none =>
    have e : plnI p x = 11 := by unfold plnI; rw [if_neg (by simp [hp]), if_neg hl, hr]
    rw [e]
    have cd := do_none hp (by omega) hi hr
    refine Bor.mv (N := 4) (post := []) (r := .d (.tup [.v (.pointer none), dI 11])) ?_ [] rfl rfl rfl
    refine bor_ofO pg Try.func47 (by kernel_rfl) ?_
    conv => whnf
    (refine .inr ⟨[], 0, _, _, cd, ?_⟩; conv => whnf)
    (repeat' (first | (apply kT (by with_reducible first | rfl | assumption); conv => whnf) | (apply kF (by with_reducible first | rfl | assumption); conv => whnf) | (apply kT (by decide); conv => whnf) | (apply kF (by decide); conv => whnf) | (apply kB <;> intro _ <;> conv => whnf) | fail))
    (refine ⟨[], ?_⟩; conv => whnf)
    exact ⟨rfl, rfl⟩
  | some st =>
    have e : plnI p x = if x.us.length ≠ p.ws.length ∨ x.us.all (useB st) = false then 2 else if usesB p.ws st x.us 0 [] then 0 else 11 := by
      unfold plnI; rw [if_neg (by simp [hp]), if_neg hl, hr]
    obtain ⟨ok, hlen⟩ := runC_ok hp (st0_ok hp) hr
    have h1 : (st0 p).1.length = 1 := rfl
    by_cases hu : x.us.length ≠ p.ws.length ∨ x.us.all (useB st) = false
    · rw [if_pos hu] at e
      rw [e]
      have cd := do_ok hp (by omega) hi hr
      have cu := us_all_bor p st (by omega) x.us hus
      have hm : ((x.us.map fun n => [dI n]).length : Int) = x.us.length := by rw [List.length_map]
      have hm2 : ((p.ws.map wtD).length : Int) = p.ws.length := by rw [List.length_map]
      refine Bor.mv (N := 4) (post := []) (r := .d (.tup [.v (.pointer none), dI 2])) ?_ [] rfl rfl rfl
      refine bor_ofO pg Try.func47 (by kernel_rfl) ?_
      by_cases hq : x.us.length = p.ws.length
      · have f1 : (((x.us.map fun n => [dI n]).length : Int) != ((p.ws.map wtD).length : Int)) = false := by rw [hm, hm2, hq]; simp
        rw [hu.resolve_left (by simp [hq])] at cu
        conv => whnf
        (refine .inr ⟨[], 3, _, _, cd, ?_⟩; conv => whnf)
        (repeat' (first | (apply kT (by with_reducible first | rfl | assumption); conv => whnf) | (apply kF (by with_reducible first | rfl | assumption); conv => whnf) | (apply kT (by decide); conv => whnf) | (apply kF (by decide); conv => whnf) | (apply kB <;> intro _ <;> conv => whnf) | fail))
        (refine .inr ⟨[5, 2, 3, 4], 4, _, _, cu, ?_⟩; conv => whnf)
        (repeat' (first | (apply kT (by with_reducible first | rfl | assumption); conv => whnf) | (apply kF (by with_reducible first | rfl | assumption); conv => whnf) | (apply kT (by decide); conv => whnf) | (apply kF (by decide); conv => whnf) | (apply kB <;> intro _ <;> conv => whnf) | fail))
        (refine ⟨[], ?_⟩; conv => whnf)
        exact ⟨rfl, rfl⟩
      · have f1 : (((x.us.map fun n => [dI n]).length : Int) != ((p.ws.map wtD).length : Int)) = true := by rw [hm, hm2]; simp; omega
        conv => whnf
        (refine .inr ⟨[], 3, _, _, cd, ?_⟩; conv => whnf)
        (repeat' (first | (apply kT (by with_reducible first | rfl | assumption); conv => whnf) | (apply kF (by with_reducible first | rfl | assumption); conv => whnf) | (apply kT (by decide); conv => whnf) | (apply kF (by decide); conv => whnf) | (apply kB <;> intro _ <;> conv => whnf) | fail))
        (refine ⟨[], ?_⟩; conv => whnf)
        exact ⟨rfl, rfl⟩
    · rw [if_neg hu] at e
      cases hb : usesB p.ws st x.us 0 [] with
      | true => rw [hb, if_pos rfl] at e; exact absurd e h
      | false =>
        rw [hb, if_neg (by simp)] at e
        rw [e]
        simp only [not_or, ne_eq, Decidable.not_not, Bool.not_eq_false] at hu
        exact Bor.mv (planned_raw hp (by omega) hi hr (by omega) ok hu.1 hu.2 hb) [] rfl rfl rfl
/-- the pieces behind cuts, or the error -/
def piecesI (p : Pl) (cs : List Ct) : List Pc × Int :=
  if checkI p ≠ 0 then ([], checkI p) else if 40 < cs.length then ([], 3) else
  match runC p.s cs (st0 p) with
  | none => ([], 11)
  | some st => (st.1, 0)
theorem pieces_pure {p : Pl} (hw : p.ws.length ≤ 100000) {cs : List Ct} (hi : ∀ c ∈ cs, InI c.n ∧ InI c.at_) : Pure Try.prog 42 [plD p, ctsD cs] (.tup [pcsD (piecesI p cs).1, dI (piecesI p cs).2]) := by
  by_cases hp : checkI p = 0
  case neg =>
    have e : piecesI p cs = ([], checkI p) := by unfold piecesI; rw [if_pos hp]
    rw [e]
    have cd := do_bad hp hw cs
    have f1 : (checkI p != 0) = true := by simpa using hp
    refine pure_of_n pg Try.func42 (by kernel_rfl) ?_
    conv => whnf
    (refine .inl ⟨_, cd, ?_⟩; conv => whnf)
    (repeat' (first | (apply kT (by with_reducible first | rfl | assumption); conv => whnf) | (apply kF (by with_reducible first | rfl | assumption); conv => whnf) | (apply kT (by decide); conv => whnf) | (apply kF (by decide); conv => whnf) | (apply kB <;> intro _ <;> conv => whnf) | fail))
    rfl
  by_cases hl : 40 < cs.length
  · have e : piecesI p cs = ([], 3) := by unfold piecesI; rw [if_neg (by simp [hp]), if_pos hl]
    rw [e]
    have cd := do_long hp hl
    refine pure_of_n pg Try.func42 (by kernel_rfl) ?_
    conv => whnf
    (refine .inl ⟨_, cd, ?_⟩; conv => whnf)
    (repeat' (first | (apply kT (by with_reducible first | rfl | assumption); conv => whnf) | (apply kF (by with_reducible first | rfl | assumption); conv => whnf) | (apply kT (by decide); conv => whnf) | (apply kF (by decide); conv => whnf) | (apply kB <;> intro _ <;> conv => whnf) | fail))
    rfl
  cases hr : runC p.s cs (st0 p) with
  | none =>
    have e : piecesI p cs = ([], 11) := by unfold piecesI; rw [if_neg (by simp [hp]), if_neg hl, hr]
    rw [e]
    have cd := do_none hp (by omega) hi hr
    refine pure_of_n pg Try.func42 (by kernel_rfl) ?_
    conv => whnf
    (refine .inr ⟨[], 0, _, _, cd, ?_⟩; conv => whnf)
    (repeat' (first | (apply kT (by with_reducible first | rfl | assumption); conv => whnf) | (apply kF (by with_reducible first | rfl | assumption); conv => whnf) | (apply kT (by decide); conv => whnf) | (apply kF (by decide); conv => whnf) | (apply kB <;> intro _ <;> conv => whnf) | fail))
    rfl
  | some st =>
    have e : piecesI p cs = (st.1, 0) := by unfold piecesI; rw [if_neg (by simp [hp]), if_neg hl, hr]
    rw [e]
    have cd := do_ok hp (by omega) hi hr
    refine pure_of_n pg Try.func42 (by kernel_rfl) ?_
    conv => whnf
    (refine .inr ⟨[], 3, _, _, cd, ?_⟩; conv => whnf)
    (repeat' (first | (apply kT (by with_reducible first | rfl | assumption); conv => whnf) | (apply kF (by with_reducible first | rfl | assumption); conv => whnf) | (apply kT (by decide); conv => whnf) | (apply kF (by decide); conv => whnf) | (apply kB <;> intro _ <;> conv => whnf) | fail))
    rfl
end Go.Ev.Ytojlbcodfebmgaa

set_option linter.unusedVariables false
set_option linter.unusedSimpArgs false
set_option maxRecDepth 100000
namespace Go.Ev.Ytojlbcodfebmgaa
open Go.Proofs
attribute [local irreducible] Pure Bor Iter inB wtB partsL stepC useB usesB fitsB runC
def uIdx (l : List Int) (n : Int) : Int := match l.findIdx? (fun x => n == x) with | some i => (i : Int) | none => -1
theorem index_pure (l : List Int) (hl : l.length ≤ 100000) (n : Int) : Pure Try.prog 53 [isD l, dI n] (dI (uIdx l n)) := by
  have hm : ((l.map fun n => [dI n]).length : Int) = (l.length : Int) := by rw [List.length_map]
  refine pure_of pg Try.func53 (by kernel_rfl) ?_
  conv => whnf
  refine ⟨[], [0, 1, 7, 8], [], 0, fun m s => ∃ k : Nat, k + m = l.length ∧ (∀ i (h : i < k) (h' : i < l.length), (n == l[i]) = false) ∧ s = ⟨[(0, .d (isD l)), (1, .d (dI n)), (7, .d (dI (l.map fun n => [dI n]).length)), (8, .d (dI k))], [], 0⟩, ?_, ?_⟩
  · conv => whnf
    exact ⟨l.length, 0, by simp, fun i h => by omega, rfl⟩
  · rintro m _ ⟨k, hk, hall, rfl⟩
    conv => whnf
    (apply kB <;> intro h <;> conv => whnf)
    · have hlt : k < l.length := by rw [decide_eq_true_eq, hm] at h; omega
      (refine ⟨k, [dI l[k]], rfl, geti l k hlt, rfl, ?_⟩; conv => whnf)
      (apply kB <;> intro h1 <;> conv => whnf)
      · have hf : l.findIdx? (fun x => n == x) = some k := by
          rw [List.findIdx?_eq_some_iff_getElem]
          exact ⟨hlt, h1, fun j hj => by simp only [hall j hj (by omega)]; decide⟩
        unfold uIdx
        rw [hf]
        rfl
      · refine ⟨m - 1, by omega, k + 1, by omega, fun i hi hi' => ?_, ?_⟩
        · rcases Nat.lt_or_ge i k with h2 | h2
          · exact hall i h2 hi'
          · have : i = k := by omega
            subst this
            exact h1
        · rw [w1 k (by omega)]
    · have hge : l.length ≤ k := by rw [decide_eq_false_iff_not, hm] at h; omega
      have hf : l.findIdx? (fun x => n == x) = none := by
        rw [List.findIdx?_eq_none_iff]
        intro x hx
        obtain ⟨i, hi, rfl⟩ := List.mem_iff_getElem.1 hx
        exact hall i (by omega) hi
      unfold uIdx
      rw [hf]
      rfl
theorem sum_pure (a b : Int) : Pure Try.prog 72 [.seq [[dI a], [dI b]]] (dI (wI (wI (0 + a) + b))) := by
  refine pure_of pg Try.func72 (by kernel_rfl) ?_
  conv => whnf
  refine ⟨[], [2, 5, 6, 7], [], 0, fun m s => (m = 2 ∧ s = ⟨[(2, .d (dI 0)), (5, .d (.seq [[dI a], [dI b]])), (6, .d (dI 2)), (7, .d (dI 0))], [], 0⟩) ∨ (m = 1 ∧ s = ⟨[(2, .d (dI (wI (0 + a)))), (5, .d (.seq [[dI a], [dI b]])), (6, .d (dI 2)), (7, .d (dI 1))], [], 0⟩) ∨
    (m = 0 ∧ s = ⟨[(2, .d (dI (wI (wI (0 + a) + b)))), (5, .d (.seq [[dI a], [dI b]])), (6, .d (dI 2)), (7, .d (dI 2))], [], 0⟩), ?_, ?_⟩
  · conv => whnf
    exact ⟨2, .inl ⟨rfl, rfl⟩⟩
  · rintro m _ (⟨rfl, rfl⟩ | ⟨rfl, rfl⟩ | ⟨rfl, rfl⟩)
    · conv => whnf
      (repeat' (first | (apply kT (by with_reducible first | rfl | assumption); conv => whnf) | (apply kF (by with_reducible first | rfl | assumption); conv => whnf) | (apply kT (by decide); conv => whnf) | (apply kF (by decide); conv => whnf) | (apply kB <;> intro _ <;> conv => whnf) | fail))
      (refine ⟨0, [dI a], rfl, rfl, rfl, ?_⟩; conv => whnf)
      exact ⟨1, by omega, .inr (.inl ⟨rfl, rfl⟩)⟩
    · conv => whnf
      (repeat' (first | (apply kT (by with_reducible first | rfl | assumption); conv => whnf) | (apply kF (by with_reducible first | rfl | assumption); conv => whnf) | (apply kT (by decide); conv => whnf) | (apply kF (by decide); conv => whnf) | (apply kB <;> intro _ <;> conv => whnf) | fail))
      (refine ⟨1, [dI b], rfl, rfl, rfl, ?_⟩; conv => whnf)
      exact ⟨0, by omega, .inr (.inr ⟨rfl, rfl⟩)⟩
    · conv => whnf
      (repeat' (first | (apply kT (by with_reducible first | rfl | assumption); conv => whnf) | (apply kF (by with_reducible first | rfl | assumption); conv => whnf) | (apply kT (by decide); conv => whnf) | (apply kF (by decide); conv => whnf) | (apply kB <;> intro _ <;> conv => whnf) | fail))
      rfl
def covB (p : Pc) (x y : Int) : Bool := inB (wI (x - p.x)) 0 (wI (p.w - 1)) && inB (wI (y - p.y)) 0 (wI (p.l - 1))
theorem covers_pure (p : Pc) (x y : Int) : Pure Try.prog 52 [.agg (pcD p), dI x, dI y] (dB (covB p x y)) := by
  refine pure_of pg Try.func52 (by kernel_rfl) ?_
  conv => whnf
  (repeat' (first | (apply kT (by with_reducible first | rfl | assumption); conv => whnf) | (apply kF (by with_reducible first | rfl | assumption); conv => whnf) | (apply kT (by decide); conv => whnf) | (apply kF (by decide); conv => whnf) | (apply kB <;> intro _ <;> conv => whnf) | (refine .inl ⟨_, within_pure .., ?_⟩; conv => whnf) | fail))
  all_goals (unfold covB; simp only [*, Bool.true_and, Bool.false_and, Bool.and_true, Bool.and_false]; rfl)
/-- the units of specimens and of remnants, and the worth, of pieces that are not cut -/
def weighL (ws : List Wt) (us : List Int) : List Pc → List Bool → Nat → Int × Int × Int → Int × Int × Int
  | q :: ps, c :: cs, n, acc =>
    weighL ws us ps cs (n + 1) (if c = true then acc else if 0 ≤ uIdx us n then (acc.1 + q.w * q.l, acc.2.1, acc.2.2 + (wtAt ws (uIdx us n).toNat).g) else (acc.1, acc.2.1 + q.w * q.l, acc.2.2))
  | _, _, _, acc => acc
theorem weighL_cons (ws : List Wt) (us : List Int) (q : Pc) (ps : List Pc) (c : Bool) (cs : List Bool) (n : Nat) (acc : Int × Int × Int) : weighL ws us (q :: ps) (c :: cs) n acc =
    weighL ws us ps cs (n + 1) (if c = true then acc else if 0 ≤ uIdx us n then (acc.1 + q.w * q.l, acc.2.1, acc.2.2 + (wtAt ws (uIdx us n).toNat).g) else (acc.1, acc.2.1 + q.w * q.l, acc.2.2)) := by rw [weighL]
theorem weighL_nil (ws : List Wt) (us : List Int) (cs : List Bool) (n : Nat) (acc : Int × Int × Int) : weighL ws us [] cs n acc = acc := by rw [weighL]; intros; contradiction
abbrev wgC (w : Int × Int × Int) (t : Int) : List D := [dI w.1, dI w.2.1, dI (t - (w.1 + w.2.1)), dI w.2.2]
theorem uIdx_lt {l : List Int} {n : Int} (h : 0 ≤ uIdx l n) : (uIdx l n).toNat < l.length ∧ ((uIdx l n).toNat : Int) = uIdx l n := by
  unfold uIdx at h ⊢
  split at h
  · rename_i i hi
    have := (List.findIdx?_eq_some_iff_getElem.1 hi).1
    simp only [Int.toNat_natCast]
    exact ⟨this, trivial⟩
  · omega
theorem mul_bd {a b : Int} (h1 : 0 ≤ a) (h2 : a ≤ 100) (h3 : 0 ≤ b) (h4 : b ≤ 100) : 0 ≤ a * b ∧ a * b ≤ 10000 := by
  refine ⟨Int.mul_nonneg h1 h3, ?_⟩
  have := Int.mul_le_mul h2 h4 h3 (by omega)
  omega
attribute [local irreducible] weighL uIdx
set_option maxHeartbeats 4000000 in
theorem weigh_bor {p : Pl} (hp : checkI p = 0) {st : St2} (hok : OkS st) (hs : st.1.length ≤ 1000) {us : List Int} (hu : us.length = p.ws.length) :
    Bor tb Try.prog 48 [.ref 0 0, .d (isD us)] [wkO p 1 2, psO st, csO st] 3 (.d (.agg (wgC (weighL p.ws us st.1 st.2 0 (0, 0, 0)) (p.w * p.l)))) [(0, wkO p 1 2), (1, psO st), (2, csO st)] := by
  obtain ⟨hw, hpw, hpl, hps, hall⟩ := check_zero hp
  have hm : ((st.1.map pcD).length : Int) = st.1.length := by rw [List.length_map]
  have htb := mul_bd (a := p.w) (b := p.l) (by omega) (by omega) (by omega) (by omega)
  have wt : Pure Try.prog 71 [.agg (pcD ⟨0, 0, p.w, p.l⟩)] (dI (p.w * p.l)) := by
    have := units_pure ⟨0, 0, p.w, p.l⟩
    have e : wI (p.w * p.l) = p.w * p.l := wS (by omega) (by omega)
    dsimp only at this
    rwa [e] at this
  have hg : ∀ i, i < p.ws.length → 0 ≤ (wtAt p.ws i).g ∧ (wtAt p.ws i).g ≤ 1000 := by
    intro i hi
    have h := List.all_eq_true.1 hall (wtAt p.ws i) (by unfold wtAt; rw [List.getElem?_eq_getElem hi]; exact List.getElem_mem _)
    unfold wtB at h
    simp only [Bool.and_eq_true, inB_true] at h
    exact h.1.1.2
  refine bor_ofO pg Try.func48 (by kernel_rfl) ?_
  conv => whnf
  (refine .inl ⟨_, whole_pure p, ?_⟩; conv => whnf)
  (refine .inl ⟨_, wt, ?_⟩; conv => whnf)
  refine ⟨[], [0, 1, 4, 18, 19, 20], [0, 1, 2, 3], 4, fun m s => ∃ (k : Nat) (acc : Int × Int × Int), k + m = st.1.length ∧ weighL p.ws us (st.1.drop k) (st.2.drop k) k acc = weighL p.ws us st.1 st.2 0 (0, 0, 0) ∧
    (0 ≤ acc.1 ∧ acc.1 ≤ k * 10000 ∧ 0 ≤ acc.2.1 ∧ acc.2.1 ≤ k * 10000 ∧ 0 ≤ acc.2.2 ∧ acc.2.2 ≤ k * 1000) ∧
    s = ⟨[(0, .ref 0 0), (1, .d (isD us)), (4, .ref 3 0), (18, .own 1), (19, .d (dI (st.1.map pcD).length)), (20, .d (dI k))], [(0, wkO p 1 2), (1, psO st), (2, csO st), (3, .var false 32 [.d (dI acc.1), .d (dI acc.2.1), .d (dI (p.w * p.l)), .d (dI acc.2.2)])], 4⟩, ?_, ?_⟩
  · conv => whnf
    exact ⟨st.1.length, 0, (0, 0, 0), by omega, rfl, by simp, rfl⟩
  · rintro m _ ⟨k, acc, hk, hrun, ⟨b1, b2, b3, b4, b5, b6⟩, rfl⟩
    by_cases hlt : k < st.1.length
    · have f2 : decide ((k : Int) < ((st.1.map pcD).length : Int)) = true := decide_eq_true (by rw [hm]; omega)
      have hlc : k < st.2.length := by rw [hok.len]; exact hlt
      rw [List.drop_eq_getElem_cons hlt, List.drop_eq_getElem_cons hlc, weighL_cons] at hrun
      have hq := getpc st.1 k hlt
      have hc : (bsE st.2)[k]? = some [dB st.2[k]] := by rw [List.getElem?_map, List.getElem?_eq_getElem hlc]; rfl
      obtain ⟨o1, o2, o3, o4, o5, o6⟩ := hok.pcs _ (List.getElem_mem hlt)
      generalize st.1[k] = q at hrun hq o1 o2 o3 o4 o5 o6
      generalize st.2[k] = c at hrun hc
      have hqb := mul_bd (a := q.w) (b := q.l) (by omega) (by omega) (by omega) (by omega)
      have qu : Pure Try.prog 71 [.agg (pcD q)] (dI (q.w * q.l)) := by
        have := units_pure q
        rwa [show wI (q.w * q.l) = q.w * q.l from wS (by omega) (by omega)] at this
      cases c with
      | true =>
        rw [if_pos rfl] at hrun
        conv => whnf
        (repeat' (first | (apply kT (by with_reducible first | rfl | assumption); conv => whnf) | (apply kF (by with_reducible first | rfl | assumption); conv => whnf) | (apply kT (by decide); conv => whnf) | (apply kF (by decide); conv => whnf) | (apply kB <;> intro _ <;> conv => whnf) | fail))
        (refine ⟨k, rfl, by rw [List.length_map]; omega, ?_⟩; conv => whnf)
        (refine ⟨_, hq, ?_⟩; conv => whnf)
        (refine ⟨rfl, ?_⟩; conv => whnf)
        (refine ⟨k, rfl, by rw [List.length_map]; omega, ?_⟩; conv => whnf)
        (refine ⟨_, hc, ?_⟩; conv => whnf)
        (refine ⟨_, rfl, ?_⟩; conv => whnf)
        (repeat' (first | (apply kT (by with_reducible first | rfl | assumption); conv => whnf) | (apply kF (by with_reducible first | rfl | assumption); conv => whnf) | (apply kT (by decide); conv => whnf) | (apply kF (by decide); conv => whnf) | (apply kB <;> intro _ <;> conv => whnf) | fail))
        refine ⟨m - 1, by omega, k + 1, acc, by omega, hrun, by omega, ?_⟩
        rw [w1 k (by omega)]
        rfl
      | false =>
        rw [if_neg (by simp)] at hrun
        have ci := index_pure us (by omega) k
        have sm : ∀ a b : Int, 0 ≤ a → a ≤ 20000000 → 0 ≤ b → b ≤ 20000000 → Pure Try.prog 72 [.seq [[dI a], [dI b]]] (dI (a + b)) := fun a b h1 h2 h3 h4 => by
          have := sum_pure a b
          rwa [show wI (wI (0 + a) + b) = a + b by unfold wI; rw [Int.zero_add, wrapI (n := a) (by omega) (by omega), wrapI (by omega) (by omega)]] at this
        by_cases h1 : 0 ≤ uIdx us k
        · have f3 : decide (uIdx us k ≥ 0) = true := decide_eq_true h1
          obtain ⟨hi1, hi2⟩ := uIdx_lt h1
          rw [if_pos h1] at hrun
          obtain ⟨g1, g2⟩ := hg _ (hu ▸ hi1)
          conv => whnf
          (repeat' (first | (apply kT (by with_reducible first | rfl | assumption); conv => whnf) | (apply kF (by with_reducible first | rfl | assumption); conv => whnf) | (apply kT (by decide); conv => whnf) | (apply kF (by decide); conv => whnf) | (apply kB <;> intro _ <;> conv => whnf) | fail))
          (refine ⟨k, rfl, by rw [List.length_map]; omega, ?_⟩; conv => whnf)
          (refine ⟨_, hq, ?_⟩; conv => whnf)
          (refine ⟨rfl, ?_⟩; conv => whnf)
          (refine ⟨k, rfl, by rw [List.length_map]; omega, ?_⟩; conv => whnf)
          (refine ⟨_, hc, ?_⟩; conv => whnf)
          (refine ⟨_, rfl, ?_⟩; conv => whnf)
          (repeat' (first | (apply kT (by with_reducible first | rfl | assumption); conv => whnf) | (apply kF (by with_reducible first | rfl | assumption); conv => whnf) | (apply kT (by decide); conv => whnf) | (apply kF (by decide); conv => whnf) | (apply kB <;> intro _ <;> conv => whnf) | (refine .inl ⟨_, ci, ?_⟩; conv => whnf) | (refine .inl ⟨_, qu, ?_⟩; conv => whnf) | fail))
          (refine .l ?_; conv => whnf)
          (refine .inl ⟨_, sm _ _ b1 (by omega) hqb.1 (by omega), ?_⟩; conv => whnf)
          (refine ⟨_, _, hi2.symm, getwa (hu ▸ hi1), rfl, ?_⟩; conv => whnf)
          (refine .l ?_; conv => whnf)
          (refine .inl ⟨_, sm _ _ b5 (by omega) g1 (by omega), ?_⟩; conv => whnf)
          refine ⟨m - 1, by omega, k + 1, _, by omega, hrun, by dsimp only; omega, ?_⟩
          rw [w1 k (by omega)]
          rfl
        · have f3 : decide (uIdx us k ≥ 0) = false := decide_eq_false h1
          rw [if_neg h1] at hrun
          conv => whnf
          (repeat' (first | (apply kT (by with_reducible first | rfl | assumption); conv => whnf) | (apply kF (by with_reducible first | rfl | assumption); conv => whnf) | (apply kT (by decide); conv => whnf) | (apply kF (by decide); conv => whnf) | (apply kB <;> intro _ <;> conv => whnf) | fail))
          (refine ⟨k, rfl, by rw [List.length_map]; omega, ?_⟩; conv => whnf)
          (refine ⟨_, hq, ?_⟩; conv => whnf)
          (refine ⟨rfl, ?_⟩; conv => whnf)
          (refine ⟨k, rfl, by rw [List.length_map]; omega, ?_⟩; conv => whnf)
          (refine ⟨_, hc, ?_⟩; conv => whnf)
          (refine ⟨_, rfl, ?_⟩; conv => whnf)
          (repeat' (first | (apply kT (by with_reducible first | rfl | assumption); conv => whnf) | (apply kF (by with_reducible first | rfl | assumption); conv => whnf) | (apply kT (by decide); conv => whnf) | (apply kF (by decide); conv => whnf) | (apply kB <;> intro _ <;> conv => whnf) | (refine .inl ⟨_, ci, ?_⟩; conv => whnf) | (refine .inl ⟨_, qu, ?_⟩; conv => whnf) | fail))
          (refine .l ?_; conv => whnf)
          (refine .inl ⟨_, sm _ _ b3 (by omega) hqb.1 (by omega), ?_⟩; conv => whnf)
          refine ⟨m - 1, by omega, k + 1, _, by omega, hrun, by dsimp only; omega, ?_⟩
          rw [w1 k (by omega)]
          rfl
    · have f2 : decide ((k : Int) < ((st.1.map pcD).length : Int)) = false := decide_eq_false (by rw [hm]; omega)
      rw [List.drop_of_length_le (by omega), weighL_nil] at hrun
      rw [← hrun]
      have sm : Pure Try.prog 72 [.seq [[dI acc.1], [dI acc.2.1]]] (dI (acc.1 + acc.2.1)) := by
        have := sum_pure acc.1 acc.2.1
        rwa [show wI (wI (0 + acc.1) + acc.2.1) = acc.1 + acc.2.1 by unfold wI; rw [Int.zero_add, wrapI (n := acc.1) (by omega) (by omega), wrapI (by omega) (by omega)]] at this
      conv => whnf
      (repeat' (first | (apply kT (by with_reducible first | rfl | assumption); conv => whnf) | (apply kF (by with_reducible first | rfl | assumption); conv => whnf) | (apply kT (by decide); conv => whnf) | (apply kF (by decide); conv => whnf) | (apply kB <;> intro _ <;> conv => whnf) | fail))
      (refine .l ?_; conv => whnf)
      (refine .inl ⟨_, sm, ?_⟩; conv => whnf)
      (refine ⟨[0, 1, 2], ?_⟩; conv => whnf)
      refine ⟨?_, rfl⟩
      rw [show IntKind.i64.wrap (p.w * p.l - (acc.1 + acc.2.1)) = p.w * p.l - (acc.1 + acc.2.1) from wrapI (by omega) (by omega)]
      rfl
end Go.Ev.Ytojlbcodfebmgaa

set_option linter.unusedVariables false
set_option linter.unusedSimpArgs false
set_option maxRecDepth 100000
namespace Go.Ev.Ytojlbcodfebmgaa
open Go.Proofs
attribute [local irreducible] Pure Bor Iter inB wtB partsL stepC useB usesB fitsB runC weighL uIdx
def InX (x : Pn) : Prop := ∀ c ∈ x.cs, InI c.n ∧ InI c.at_
/-- what the cuts of a plan lead to -/
def stP (p : Pl) (x : Pn) : St2 := (runC p.s x.cs (st0 p)).getD ([], [])
def wgt (p : Pl) (x : Pn) : Int × Int × Int := weighL p.ws x.us (stP p x).1 (stP p x).2 0 (0, 0, 0)
/-- what a plan without an error has -/
structure OkX (p : Pl) (x : Pn) (st : St2) : Prop where
  chk : checkI p = 0
  run : runC p.s x.cs (st0 p) = some st
  len : x.cs.length ≤ 40
  us : x.us.length = p.ws.length
  uses : x.us.all (useB st) = true
  good : usesB p.ws st x.us 0 [] = true
  ok : OkS st
  many : st.1.length ≤ 81
theorem plnI_ok {p : Pl} {x : Pn} (h : plnI p x = 0) : ∃ st, OkX p x st ∧ stP p x = st := by
  unfold plnI at h
  split at h
  · contradiction
  rename_i hp
  have hp := Decidable.not_not.1 hp
  split at h
  · cases h
  rename_i hl
  split at h
  · cases h
  rename_i st hr
  split at h
  · cases h
  rename_i hu
  simp only [not_or, ne_eq, Decidable.not_not, Bool.not_eq_false] at hu
  split at h
  · rename_i hb
    obtain ⟨ok, hlen⟩ := runC_ok hp (st0_ok hp) hr
    have : (st0 p).1.length = 1 := rfl
    exact ⟨st, ⟨hp, hr, by omega, hu.1, hu.2, hb, ok, by omega⟩, by unfold stP; rw [hr]; rfl⟩
  · cases h
attribute [local irreducible] plnI stP
def weighI (p : Pl) (x : Pn) : List D := if plnI p x = 0 then wgC (wgt p x) (p.w * p.l) else [dI 0, dI 0, dI 0, dI 0]
theorem weigh_pure {p : Pl} {x : Pn} (hw : p.ws.length ≤ 100000) (hus : x.us.length ≤ 100000) (hi : InX x) : Pure Try.prog 18 [plD p, pnD x] (.tup [.agg (weighI p x), dI (plnI p x)]) := by
  by_cases h : plnI p x = 0
  · obtain ⟨st, o, hst⟩ := plnI_ok h
    have cp := planned_ok hi h o.run
    have cw := weigh_bor o.chk o.ok (by have := o.many; omega) o.us
    have e : weighI p x = wgC (weighL p.ws x.us st.1 st.2 0 (0, 0, 0)) (p.w * p.l) := by unfold weighI wgt; rw [if_pos h, hst]
    rw [e, h]
    refine pure_of pg Try.func18 (by kernel_rfl) ?_
    conv => whnf
    (refine .inr ⟨[], 3, _, _, cp, ?_⟩; conv => whnf)
    (repeat' (first | (apply kT (by with_reducible first | rfl | assumption); conv => whnf) | (apply kF (by with_reducible first | rfl | assumption); conv => whnf) | (apply kT (by decide); conv => whnf) | (apply kF (by decide); conv => whnf) | (apply kB <;> intro _ <;> conv => whnf) | fail))
    (refine .inr ⟨[3, 4, 5], 3, _, _, cw, ?_⟩; conv => whnf)
    rfl
  · have cp := planned_err hw hus hi h
    have e : weighI p x = [dI 0, dI 0, dI 0, dI 0] := by unfold weighI; rw [if_neg h]
    have f1 : (plnI p x != 0) = true := by simpa using h
    rw [e]
    refine pure_of pg Try.func18 (by kernel_rfl) ?_
    conv => whnf
    (refine .inr ⟨[], 0, _, _, cp, ?_⟩; conv => whnf)
    (repeat' (first | (apply kT (by with_reducible first | rfl | assumption); conv => whnf) | (apply kF (by with_reducible first | rfl | assumption); conv => whnf) | (apply kT (by decide); conv => whnf) | (apply kF (by decide); conv => whnf) | (apply kB <;> intro _ <;> conv => whnf) | fail))
    rfl
def proveI (p : Pl) (x : Pn) (worth cuts : Int) : Bool := plnI p x == 0 && decide ((wgt p x).2.2 ≥ worth) && decide ((x.cs.length : Int) ≤ cuts)
theorem prove_pure {p : Pl} {x : Pn} (hw : p.ws.length ≤ 100000) (hus : x.us.length ≤ 100000) (hi : InX x) (worth cuts : Int) : Pure Try.prog 39 [plD p, pnD x, dI worth, dI cuts] (dB (proveI p x worth cuts)) := by
  have hm : ((x.cs.map ctD).length : Int) = x.cs.length := by rw [List.length_map]
  by_cases h : plnI p x = 0
  · obtain ⟨st, o, hst⟩ := plnI_ok h
    have cp := planned_ok hi h o.run
    have cw := weigh_bor o.chk o.ok (by have := o.many; omega) o.us
    have e : proveI p x worth cuts = (decide ((weighL p.ws x.us st.1 st.2 0 (0, 0, 0)).2.2 ≥ worth) && decide (((x.cs.map ctD).length : Int) ≤ cuts)) := by unfold proveI wgt; rw [h, hst, hm]; rfl
    rw [e]
    generalize weighL p.ws x.us st.1 st.2 0 (0, 0, 0) = g at cw
    refine pure_of pg Try.func39 (by kernel_rfl) ?_
    conv => whnf
    (refine .inr ⟨[], 3, _, _, cp, ?_⟩; conv => whnf)
    (repeat' (first | (apply kT (by with_reducible first | rfl | assumption); conv => whnf) | (apply kF (by with_reducible first | rfl | assumption); conv => whnf) | (apply kT (by decide); conv => whnf) | (apply kF (by decide); conv => whnf) | (apply kB <;> intro _ <;> conv => whnf) | fail))
    (refine .inr ⟨[2, 3, 4], 3, _, _, cw, ?_⟩; conv => whnf)
    (repeat' (first | (apply kT (by with_reducible first | rfl | assumption); conv => whnf) | (apply kF (by with_reducible first | rfl | assumption); conv => whnf) | (apply kT (by decide); conv => whnf) | (apply kF (by decide); conv => whnf) | (apply kB <;> intro _ <;> conv => whnf) | fail))
    all_goals (simp only [*, Bool.true_and, Bool.false_and, Bool.and_true, Bool.and_false]; rfl)
  · have cp := planned_err hw hus hi h
    have e : proveI p x worth cuts = false := by unfold proveI; rw [show (plnI p x == 0) = false by simpa using h]; rfl
    have f1 : (plnI p x == 0) = false := by simpa using h
    rw [e]
    refine pure_of pg Try.func39 (by kernel_rfl) ?_
    conv => whnf
    (refine .inr ⟨[], 0, _, _, cp, ?_⟩; conv => whnf)
    (repeat' (first | (apply kT (by with_reducible first | rfl | assumption); conv => whnf) | (apply kF (by with_reducible first | rfl | assumption); conv => whnf) | (apply kT (by decide); conv => whnf) | (apply kF (by decide); conv => whnf) | (apply kB <;> intro _ <;> conv => whnf) | fail))
    rfl
/-- the piece that has a unit, and was not cut -/
def traceL (ux uy : Int) : List Pc → List Bool → Nat → Int
  | q :: ps, c :: cs, n => if c = false ∧ covB q ux uy = true then n else traceL ux uy ps cs (n + 1)
  | _, _, _ => -1
theorem traceL_cons (ux uy : Int) (q : Pc) (ps : List Pc) (c : Bool) (cs : List Bool) (n : Nat) : traceL ux uy (q :: ps) (c :: cs) n = if c = false ∧ covB q ux uy = true then (n : Int) else traceL ux uy ps cs (n + 1) := by rw [traceL]
theorem traceL_nil (ux uy : Int) (cs : List Bool) (n : Nat) : traceL ux uy [] cs n = -1 := by rw [traceL]; intros; contradiction
def traceI (p : Pl) (x : Pn) (ux uy : Int) : Int × Int × Int :=
  if plnI p x ≠ 0 then (0, 0, plnI p x) else if covB ⟨0, 0, p.w, p.l⟩ ux uy = false then (0, 0, 2) else
    if traceL ux uy (stP p x).1 (stP p x).2 0 = -1 then (-1, -1, 0) else (traceL ux uy (stP p x).1 (stP p x).2 0, uIdx x.us (traceL ux uy (stP p x).1 (stP p x).2 0), 0)
attribute [local irreducible] traceL covB
theorem trace_pure {p : Pl} {x : Pn} (hw : p.ws.length ≤ 100000) (hus : x.us.length ≤ 100000) (hi : InX x) (ux uy : Int) : Pure Try.prog 23 [plD p, pnD x, dI ux, dI uy] (.tup [dI (traceI p x ux uy).1, dI (traceI p x ux uy).2.1, dI (traceI p x ux uy).2.2]) := by
  by_cases h : plnI p x = 0
  case neg =>
    have cp := planned_err hw hus hi h
    have e : traceI p x ux uy = (0, 0, plnI p x) := by unfold traceI; rw [if_pos h]
    have f1 : (plnI p x != 0) = true := by simpa using h
    rw [e]
    refine pure_of pg Try.func23 (by kernel_rfl) ?_
    conv => whnf
    (refine .inr ⟨[], 0, _, _, cp, ?_⟩; conv => whnf)
    (repeat' (first | (apply kT (by with_reducible first | rfl | assumption); conv => whnf) | (apply kF (by with_reducible first | rfl | assumption); conv => whnf) | (apply kT (by decide); conv => whnf) | (apply kF (by decide); conv => whnf) | (apply kB <;> intro _ <;> conv => whnf) | fail))
    rfl
  obtain ⟨st, o, hst⟩ := plnI_ok h
  have cp := planned_ok hi h o.run
  have hm : ((st.1.map pcD).length : Int) = st.1.length := by rw [List.length_map]
  have hmany := o.many
  have cv := covers_pure ⟨0, 0, p.w, p.l⟩ ux uy
  by_cases hc : covB ⟨0, 0, p.w, p.l⟩ ux uy = false
  · have e : traceI p x ux uy = (0, 0, 2) := by unfold traceI; rw [if_neg (by simp [h]), if_pos hc]
    rw [e]
    rw [hc] at cv
    refine pure_of pg Try.func23 (by kernel_rfl) ?_
    conv => whnf
    (refine .inr ⟨[], 3, _, _, cp, ?_⟩; conv => whnf)
    (repeat' (first | (apply kT (by with_reducible first | rfl | assumption); conv => whnf) | (apply kF (by with_reducible first | rfl | assumption); conv => whnf) | (apply kT (by decide); conv => whnf) | (apply kF (by decide); conv => whnf) | (apply kB <;> intro _ <;> conv => whnf) | (refine .inl ⟨_, whole_pure p, ?_⟩; conv => whnf) | (refine .inl ⟨_, cv, ?_⟩; conv => whnf) | fail))
    rfl
  have e : traceI p x ux uy = if traceL ux uy st.1 st.2 0 = -1 then (-1, -1, 0) else (traceL ux uy st.1 st.2 0, uIdx x.us (traceL ux uy st.1 st.2 0), 0) := by unfold traceI; rw [if_neg (by simp [h]), if_neg hc, hst]
  rw [e]
  clear e
  rw [(Bool.not_eq_false _).mp hc] at cv
  refine pure_of pg Try.func23 (by kernel_rfl) ?_
  conv => whnf
  (refine .inr ⟨[], 3, _, _, cp, ?_⟩; conv => whnf)
  (repeat' (first | (apply kT (by with_reducible first | rfl | assumption); conv => whnf) | (apply kF (by with_reducible first | rfl | assumption); conv => whnf) | (apply kT (by decide); conv => whnf) | (apply kF (by decide); conv => whnf) | (apply kB <;> intro _ <;> conv => whnf) | (refine .inl ⟨_, whole_pure p, ?_⟩; conv => whnf) | (refine .inl ⟨_, cv, ?_⟩; conv => whnf) | fail))
  refine ⟨[], [2, 3, 5, 8, 10, 11, 37, 38, 39], [0, 1, 2, 3, 4], 5, fun m s => ∃ k : Nat, k + m = st.1.length ∧ traceL ux uy (st.1.drop k) (st.2.drop k) k = traceL ux uy st.1 st.2 0 ∧
    s = ⟨[(2, .d (dI ux)), (3, .d (dI uy)), (5, .ref 1 0), (8, .d (dI (-1))), (10, .d (dI 0)), (11, .ref 2 0), (37, .own 3), (38, .d (dI (st.1.map pcD).length)), (39, .d (dI k))],
      [(0, .var false 38 ((plC p).map A.d)), (1, .var false 42 ((pnC x).map A.d)), (2, wkO p 3 4), (3, psO st), (4, csO st)], 5⟩, ?_, ?_⟩
  · conv => whnf
    exact ⟨st.1.length, 0, by omega, rfl, rfl⟩
  · rintro m _ ⟨k, hk, hrun, rfl⟩
    by_cases hlt : k < st.1.length
    · have f2 : decide ((k : Int) < ((st.1.map pcD).length : Int)) = true := decide_eq_true (by rw [hm]; omega)
      have hlc : k < st.2.length := by rw [o.ok.len]; exact hlt
      rw [List.drop_eq_getElem_cons hlt, List.drop_eq_getElem_cons hlc, traceL_cons] at hrun
      have hq := getpc st.1 k hlt
      have hb : (bsE st.2)[k]? = some [dB st.2[k]] := by rw [List.getElem?_map, List.getElem?_eq_getElem hlc]; rfl
      generalize st.1[k] = q at hrun hq
      generalize st.2[k] = c at hrun hb
      have cq := covers_pure q ux uy
      cases c with
      | true =>
        rw [if_neg (by simp)] at hrun
        conv => whnf
        (repeat' (first | (apply kT (by with_reducible first | rfl | assumption); conv => whnf) | (apply kF (by with_reducible first | rfl | assumption); conv => whnf) | (apply kT (by decide); conv => whnf) | (apply kF (by decide); conv => whnf) | (apply kB <;> intro _ <;> conv => whnf) | fail))
        (refine ⟨k, rfl, by rw [List.length_map]; omega, ?_⟩; conv => whnf)
        (refine ⟨_, hq, ?_⟩; conv => whnf)
        (refine ⟨rfl, ?_⟩; conv => whnf)
        (refine ⟨k, rfl, by rw [List.length_map]; omega, ?_⟩; conv => whnf)
        (refine ⟨_, hb, ?_⟩; conv => whnf)
        (refine ⟨_, rfl, ?_⟩; conv => whnf)
        (repeat' (first | (apply kT (by with_reducible first | rfl | assumption); conv => whnf) | (apply kF (by with_reducible first | rfl | assumption); conv => whnf) | (apply kT (by decide); conv => whnf) | (apply kF (by decide); conv => whnf) | (apply kB <;> intro _ <;> conv => whnf) | fail))
        refine ⟨m - 1, by omega, k + 1, by omega, hrun, ?_⟩
        rw [w1 k (by omega)]
        rfl
      | false =>
        by_cases hcq : covB q ux uy = true
        · rw [if_pos ⟨rfl, hcq⟩] at hrun
          rw [hcq] at cq
          have ci := index_pure x.us (by have := o.us; have := (check_zero o.chk).1; omega) k
          have f3 : ((k : Int) == -1) = false := eqF (by omega)
          rw [← hrun, if_neg (by omega)]
          conv => whnf
          (repeat' (first | (apply kT (by with_reducible first | rfl | assumption); conv => whnf) | (apply kF (by with_reducible first | rfl | assumption); conv => whnf) | (apply kT (by decide); conv => whnf) | (apply kF (by decide); conv => whnf) | (apply kB <;> intro _ <;> conv => whnf) | fail))
          (refine ⟨k, rfl, by rw [List.length_map]; omega, ?_⟩; conv => whnf)
          (refine ⟨_, hq, ?_⟩; conv => whnf)
          (refine ⟨rfl, ?_⟩; conv => whnf)
          (refine ⟨k, rfl, by rw [List.length_map]; omega, ?_⟩; conv => whnf)
          (refine ⟨_, hb, ?_⟩; conv => whnf)
          (refine ⟨_, rfl, ?_⟩; conv => whnf)
          (repeat' (first | (apply kT (by with_reducible first | rfl | assumption); conv => whnf) | (apply kF (by with_reducible first | rfl | assumption); conv => whnf) | (apply kT (by decide); conv => whnf) | (apply kF (by decide); conv => whnf) | (apply kB <;> intro _ <;> conv => whnf) | (refine .inl ⟨_, cq, ?_⟩; conv => whnf) | (refine .inl ⟨_, ci, ?_⟩; conv => whnf) | fail))
          rfl
        · rw [if_neg (by simp [hcq])] at hrun
          rw [(Bool.not_eq_true _).mp hcq] at cq
          conv => whnf
          (repeat' (first | (apply kT (by with_reducible first | rfl | assumption); conv => whnf) | (apply kF (by with_reducible first | rfl | assumption); conv => whnf) | (apply kT (by decide); conv => whnf) | (apply kF (by decide); conv => whnf) | (apply kB <;> intro _ <;> conv => whnf) | fail))
          (refine ⟨k, rfl, by rw [List.length_map]; omega, ?_⟩; conv => whnf)
          (refine ⟨_, hq, ?_⟩; conv => whnf)
          (refine ⟨rfl, ?_⟩; conv => whnf)
          (refine ⟨k, rfl, by rw [List.length_map]; omega, ?_⟩; conv => whnf)
          (refine ⟨_, hb, ?_⟩; conv => whnf)
          (refine ⟨_, rfl, ?_⟩; conv => whnf)
          (repeat' (first | (apply kT (by with_reducible first | rfl | assumption); conv => whnf) | (apply kF (by with_reducible first | rfl | assumption); conv => whnf) | (apply kT (by decide); conv => whnf) | (apply kF (by decide); conv => whnf) | (apply kB <;> intro _ <;> conv => whnf) | (refine .inl ⟨_, cq, ?_⟩; conv => whnf) | fail))
          refine ⟨m - 1, by omega, k + 1, by omega, hrun, ?_⟩
          rw [w1 k (by omega)]
          rfl
    · have f2 : decide ((k : Int) < ((st.1.map pcD).length : Int)) = false := decide_eq_false (by rw [hm]; omega)
      rw [List.drop_of_length_le (by omega), traceL_nil] at hrun
      rw [← hrun, if_pos rfl]
      conv => whnf
      (repeat' (first | (apply kT (by with_reducible first | rfl | assumption); conv => whnf) | (apply kF (by with_reducible first | rfl | assumption); conv => whnf) | (apply kT (by decide); conv => whnf) | (apply kF (by decide); conv => whnf) | (apply kB <;> intro _ <;> conv => whnf) | fail))
      rfl
end Go.Ev.Ytojlbcodfebmgaa
