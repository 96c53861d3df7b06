/-
  Contracts of functions, and plain laws, that lead to the statement. Written by an agent.
-/
import Derived.Test.YtljkplahkokpaaaRows
import Derived.Test.YtljkplahkokpaaaLa
set_option linter.unusedVariables false
set_option linter.unusedSimpArgs false
set_option linter.unusedVariables false
set_option linter.unusedSimpArgs false
set_option maxRecDepth 100000
namespace Go.Ev.Ytljkplahkokpaaa
open Go.Proofs
attribute [local irreducible] Pure Bor Iter Pan layB layF readR readD findC addC addK addL chAt sortC goG numG openL
def sameL (a b : Cd) : Bool := decide (a.ps.length = b.ps.length)
theorem sameL_pure (a b : Cd) : Pure Try.prog 71 [.agg (cdC a), .agg (cdC b)] (dB (sameL a b)) := by
 have e : sameL a b = (((a.ps.map ptD).length : Int) == ((b.ps.map ptD).length : Int)) := by
  rw [List.length_map, List.length_map, sameL]
  by_cases h : a.ps.length = b.ps.length
  ·rw [h]; simp
  ·rw [decide_eq_false h]; symm; rw [beq_eq_false_iff_ne]; omega
 rw [e]
 refine pure_of pg Try.func71 (by kernel_rfl) ?_
 conv => whnf
 (repeat' (first | (apply kT (by with_reducible first | rfl | assumption); conv => whnf) | (apply kF (by with_reducible first | rfl | assumption); conv => whnf) | (apply kT (by decide); conv => whnf) | (apply kF (by decide); conv => whnf) | (apply kB <;> intro _ <;> conv => whnf) | fail))
 rfl
def alikeL : List Cd → List Cd → Bool
 | [], [] => true
 | a :: l, b :: r => sameL a b && alikeL l r
 | _, _ => false
theorem alikeL_iff : ∀ {a b : List Cd}, alikeL a b = true ↔ a.length = b.length ∧ ∀ i (h : i < a.length) (h2 : i < b.length), sameL a[i] b[i] = true
 | [], [] => by simp [alikeL]
 | [], b :: r => by simp [alikeL]
 | a :: l, [] => by simp [alikeL]
 | a :: l, b :: r => by
  rw [alikeL, Bool.and_eq_true, alikeL_iff (a := l) (b := r)]
  constructor
  ·rintro ⟨h1, h2, h3⟩
   refine ⟨by simp [h2], fun i hi hi2 => ?_⟩
   cases i with
   | zero => exact h1
   | succ i => exact h3 i (by simpa using hi) (by simpa using hi2)
  ·rintro ⟨h1, h2⟩
   exact ⟨h2 0 (by simp) (by simp), by simpa using h1, fun i hi hi2 => h2 (i + 1) (by simpa using hi) (by simpa using hi2)⟩
theorem alikeL_false {a b : List Cd} {i : Nat} (h : i < a.length) (h2 : i < b.length) (hf : sameL a[i] b[i] = false) : alikeL a b = false := by
 cases e : alikeL a b with
 | false => rfl
 | true => have := (alikeL_iff.1 e).2 i h h2; rw [hf] at this; cases this
attribute [local irreducible] sameL
theorem equal_pure (a b : List Cd) (ha : a.length ≤ 100000) (hb : b.length ≤ 100000) : Pure Try.prog 70 [.seq (a.map cdC), .seq (b.map cdC), .fn (.func 71) [] []] (dB (alikeL a b)) := by
 have hma : ((a.map cdC).length : Int) = a.length := by rw [List.length_map]
 have hmb : ((b.map cdC).length : Int) = b.length := by rw [List.length_map]
 refine pure_of pg Try.func70 (by kernel_rfl) ?_
 by_cases hl : a.length = b.length
 ·have f1 : (((a.map cdC).length : Int) != ((b.map cdC).length : Int)) = false := by rw [hma, hmb, hl]; simp
  conv => whnf
  (repeat' (first | (apply kT (by with_reducible first | rfl | assumption); conv => whnf) | (apply kF (by with_reducible first | rfl | assumption); conv => whnf) | (apply kT (by decide); conv => whnf) | (apply kF (by decide); conv => whnf) | (apply kB <;> intro _ <;> conv => whnf) | fail))
  refine ⟨[], [1, 2, 15, 16, 17], [], 0, fun m s => ∃ k : Nat, k + m = a.length ∧ (∀ i (h : i < k) (h1 : i < a.length) (h2 : i < b.length), sameL a[i] b[i] = true) ∧ s = ⟨[(1, .d (.seq (b.map cdC))), (2, .d (.fn (.func 71) [] [])), (15, .d (.seq (a.map cdC))), (16, .d (dI (a.map cdC).length)), (17, .d (dI k))], [], 0⟩, ?_, ?_⟩
  ·conv => whnf
   exact ⟨a.length, 0, by omega, fun i h => by omega, rfl⟩
  ·rintro m _ ⟨k, hk, hall, rfl⟩
   by_cases hkl : k < a.length
   ·have f2 : decide ((k : Int) < ((a.map cdC).length : Int)) = true := decide_eq_true (by rw [hma]; omega)
    cases hs : sameL a[k] b[k] with
    | true =>
     have cs := sameL_pure a[k] b[k]
     rw [hs] at cs
     conv => whnf
     (repeat' (first | (apply kT (by with_reducible first | rfl | assumption); conv => whnf) | (apply kF (by with_reducible first | rfl | assumption); conv => whnf) | (apply kT (by decide); conv => whnf) | (apply kF (by decide); conv => whnf) | (apply kB <;> intro _ <;> conv => whnf) | (refine ⟨k, _, rfl, getcd a k hkl, rfl, ?_⟩; conv => whnf) | (refine ⟨k, _, rfl, getcd b k (by omega), rfl, ?_⟩; conv => whnf) | (refine .inl ⟨_, cs, ?_⟩; conv => whnf) | fail))
     refine ⟨m - 1, by omega, k + 1, by omega, fun i hi h1 h2 => ?_, ?_⟩
     ·by_cases h : i < k
      ·exact hall i h h1 h2
      ·have : i = k := by omega
       subst this
       exact hs
     ·rw [w1 k (by omega)]
    | false =>
     have cs := sameL_pure a[k] b[k]
     rw [hs] at cs
     rw [alikeL_false hkl (by omega) hs]
     conv => whnf
     (repeat' (first | (apply kT (by with_reducible first | rfl | assumption); conv => whnf) | (apply kF (by with_reducible first | rfl | assumption); conv => whnf) | (apply kT (by decide); conv => whnf) | (apply kF (by decide); conv => whnf) | (apply kB <;> intro _ <;> conv => whnf) | (refine ⟨k, _, rfl, getcd a k hkl, rfl, ?_⟩; conv => whnf) | (refine ⟨k, _, rfl, getcd b k (by omega), rfl, ?_⟩; conv => whnf) | (refine .inl ⟨_, cs, ?_⟩; conv => whnf) | fail))
     rfl
   ·have f2 : decide ((k : Int) < ((a.map cdC).length : Int)) = false := decide_eq_false (by rw [hma]; omega)
    have e : alikeL a b = true := alikeL_iff.2 ⟨hl, fun i h1 h2 => hall i (by omega) h1 h2⟩
    rw [e]
    conv => whnf
    (apply kF (f2); conv => whnf)
    rfl
 ·have f1 : (((a.map cdC).length : Int) != ((b.map cdC).length : Int)) = true := by rw [hma, hmb, bne_iff_ne]; omega
  have e : alikeL a b = false := by
   cases e : alikeL a b with
   | false => rfl
   | true => exact absurd (alikeL_iff.1 e).1 hl
  rw [e]
  conv => whnf
  (apply kT (f1); conv => whnf)
  rfl
def ptsOf (g : List Cd) : List Pt := (g.map Cd.ps).flatten
def wholeL (g : List Cd) : Sh × Bool := match g with
 | [] => (⟨0, []⟩, false)
 | h :: t => (⟨h.n, ptsOf (h :: t)⟩, decide (((h :: t).length : Int) = h.m) && (checkI [⟨h.n, ptsOf (h :: t)⟩] == 0) && (decide ((cardsL ⟨h.n, ptsOf (h :: t)⟩).length = (h :: t).length) && alikeL (cardsL ⟨h.n, ptsOf (h :: t)⟩) (h :: t)))
theorem ptsOf_len {g : List Cd} (h : ∀ c ∈ g, CdOK c) : (ptsOf g).length ≤ g.length * 15 := by
 induction g with
 | nil => simp [ptsOf]
 | cons c r ih =>
  have h1 := (h c (by simp)).many
  have h2 := ih fun d hd => h d (by simp [hd])
  unfold ptsOf at *
  rw [List.map_cons, List.flatten_cons, List.length_append, List.length_cons]
  omega
theorem ptsOf_take (g : List Cd) {k : Nat} (h : k < g.length) : ptsOf (g.take (k + 1)) = ptsOf (g.take k) ++ g[k].ps := by
 unfold ptsOf
 rw [List.take_add_one, List.getElem?_eq_getElem h, List.map_append, List.flatten_append]
 simp
attribute [local irreducible] cardsL checkI alikeL
theorem whole_pure (h : Cd) (t : List Cd) (hg : ∀ c ∈ h :: t, CdOK c) (hl : t.length ≤ 5000) : Pure Try.prog 52 [.seq ((h :: t).map cdC)] (.tup [.agg (shC (wholeL (h :: t)).1), dB (wholeL (h :: t)).2]) := by
 obtain ⟨g, hgd⟩ : ∃ g, g = h :: t := ⟨_, rfl⟩
 have hg0 : 0 < g.length := by rw [hgd]; simp
 have hgl : g.length ≤ 5001 := by rw [hgd]; simp; omega
 have hgh : (g.map cdC)[0]? = some (cdC h) := by rw [hgd]; rfl
 have hw : wholeL (h :: t) = (⟨h.n, ptsOf g⟩, decide ((g.length : Int) = h.m) && (checkI [⟨h.n, ptsOf g⟩] == 0) && (decide ((cardsL ⟨h.n, ptsOf g⟩).length = g.length) && alikeL (cardsL ⟨h.n, ptsOf g⟩) g)) := by rw [hgd]; rfl
 rw [hw, ← hgd]
 rw [← hgd] at hg
 clear hw
 have hm : ((g.map cdC).length : Int) = g.length := by rw [List.length_map]
 have hpl := ptsOf_len hg
 refine pure_of pg Try.func52 (by kernel_rfl) ?_
 conv => whnf
 (refine ⟨0, _, rfl, hgh, rfl, ?_⟩; conv => whnf)
 refine ⟨[.cown 1 1 74], [0, 2, 3, 4, 13, 14, 15], [0, 1, 2], 3, fun m s => ∃ k : Nat, k + m = g.length ∧ s = ⟨[(0, .d (.seq (g.map cdC))), (2, .ref 0 0), (3, .d (dB false)), (4, .ref 1 0), (13, .d (.seq (g.map cdC))), (14, .d (dI (g.map cdC).length)), (15, .d (dI k))],
  [(0, .var false 50 [.d (dI 0), .d (.v (.slice none 0 0))]), (1, .var false 50 [.d (dI h.n), .own 2]), (2, .arr 74 ((ptsOf (g.take k)).map ptD))], 3⟩, ?_, ?_⟩
 ·conv => whnf
  exact ⟨g.length, 0, by omega, rfl⟩
 ·rintro m _ ⟨k, hk, rfl⟩
  by_cases hkl : k < g.length
  ·have f1 : decide ((k : Int) < ((g.map cdC).length : Int)) = true := decide_eq_true (by rw [hm]; omega)
   have hpt := ptsOf_take g hkl
   have hptl : (ptsOf (g.take (k + 1))).length ≤ (g.take (k + 1)).length * 15 := ptsOf_len fun c hc => hg c (List.mem_of_mem_take hc)
   rw [hpt, List.length_append, List.length_take] at hptl
   conv => whnf
   (repeat' (first | (apply kT (by with_reducible first | rfl | assumption); conv => whnf) | (apply kF (by with_reducible first | rfl | assumption); conv => whnf) | (apply kT (by decide); conv => whnf) | (apply kF (by decide); conv => whnf) | (apply kB <;> intro _ <;> conv => whnf) | (refine ⟨k, _, rfl, getcd g k hkl, rfl, ?_⟩; conv => whnf) | fail))
   (refine ⟨ptL _, by rw [List.length_map, List.length_map]; show _ * 16 ≤ _; omega, ?_⟩; conv => whnf)
   refine ⟨m - 1, by omega, k + 1, by omega, ?_⟩
   rw [w1 k (by omega), hpt, List.map_append]
  ·have f1 : decide ((k : Int) < ((g.map cdC).length : Int)) = false := decide_eq_false (by rw [hm]; omega)
   have hkg : g.take k = g := List.take_of_length_le (by omega)
   rw [hkg]
   by_cases hmm : (g.length : Int) = h.m
   ·have f2 : (((g.map cdC).length : Int) != h.m) = false := by rw [hm, hmm]; simp
    have ck := check_pure [⟨h.n, ptsOf g⟩] (by simp) (by simp; omega)
    rw [decide_eq_true hmm, Bool.true_and]
    by_cases hc0 : checkI [⟨h.n, ptsOf g⟩] = 0
    ·have f3 : (checkI [⟨h.n, ptsOf g⟩] != 0) = false := by simp [hc0]
     have f3' : (checkI [⟨h.n, ptsOf g⟩] == 0) = true := by simp [hc0]
     rw [f3', Bool.true_and]
     have h1 := (checkI_ok.1 hc0).2 _ (List.mem_singleton.2 rfl)
     have hr := (runB_ok.1 (shB_ok.1 h1.2).2.2).2.2
     have cc := cards_pure ⟨h.n, ptsOf g⟩ (by dsimp only; omega) hr
     have hcl := (cardsL_ok hr).2
     dsimp only at hcl
     have ce := equal_pure (cardsL ⟨h.n, ptsOf g⟩) g (by omega) (by omega)
     have hmc : (((cardsL ⟨h.n, ptsOf g⟩).map cdC).length : Int) = (cardsL ⟨h.n, ptsOf g⟩).length := by rw [List.length_map]
     by_cases hln : (cardsL ⟨h.n, ptsOf g⟩).length = g.length
     ·have f4 : ((((cardsL ⟨h.n, ptsOf g⟩).map cdC).length : Int) == ((g.map cdC).length : Int)) = true := by rw [hmc, hm, hln]; simp
      rw [decide_eq_true hln, Bool.true_and]
      conv => whnf
      (repeat' (first | (apply kT (by with_reducible first | rfl | assumption); conv => whnf) | (apply kF (by with_reducible first | rfl | assumption); conv => whnf) | (apply kT (by decide); conv => whnf) | (apply kF (by decide); conv => whnf) | (apply kB <;> intro _ <;> conv => whnf) | (refine ⟨0, _, rfl, hgh, rfl, ?_⟩; conv => whnf) | fail))
      (refine .l ?_; conv => whnf)
      (repeat' (first | (apply kT (by with_reducible first | rfl | assumption); conv => whnf) | (apply kF (by with_reducible first | rfl | assumption); conv => whnf) | (apply kT (by decide); conv => whnf) | (apply kF (by decide); conv => whnf) | (apply kB <;> intro _ <;> conv => whnf) | (refine .inl ⟨_, ck, ?_⟩; conv => whnf) | (refine .inl ⟨_, cc, ?_⟩; conv => whnf) | (refine .inl ⟨_, ce, ?_⟩; conv => whnf) | fail))
      rfl
     ·have f4 : ((((cardsL ⟨h.n, ptsOf g⟩).map cdC).length : Int) == ((g.map cdC).length : Int)) = false := by rw [hmc, hm, beq_eq_false_iff_ne]; omega
      rw [decide_eq_false hln, Bool.false_and]
      conv => whnf
      (repeat' (first | (apply kT (by with_reducible first | rfl | assumption); conv => whnf) | (apply kF (by with_reducible first | rfl | assumption); conv => whnf) | (apply kT (by decide); conv => whnf) | (apply kF (by decide); conv => whnf) | (apply kB <;> intro _ <;> conv => whnf) | (refine ⟨0, _, rfl, hgh, rfl, ?_⟩; conv => whnf) | fail))
      (refine .l ?_; conv => whnf)
      (repeat' (first | (apply kT (by with_reducible first | rfl | assumption); conv => whnf) | (apply kF (by with_reducible first | rfl | assumption); conv => whnf) | (apply kT (by decide); conv => whnf) | (apply kF (by decide); conv => whnf) | (apply kB <;> intro _ <;> conv => whnf) | (refine .inl ⟨_, ck, ?_⟩; conv => whnf) | (refine .inl ⟨_, cc, ?_⟩; conv => whnf) | fail))
      rfl
    ·have f3 : (checkI [⟨h.n, ptsOf g⟩] != 0) = true := by simpa using hc0
     have f3' : (checkI [⟨h.n, ptsOf g⟩] == 0) = false := by simpa using hc0
     rw [f3', Bool.false_and]
     conv => whnf
     (repeat' (first | (apply kT (by with_reducible first | rfl | assumption); conv => whnf) | (apply kF (by with_reducible first | rfl | assumption); conv => whnf) | (apply kT (by decide); conv => whnf) | (apply kF (by decide); conv => whnf) | (apply kB <;> intro _ <;> conv => whnf) | (refine ⟨0, _, rfl, hgh, rfl, ?_⟩; conv => whnf) | fail))
     (refine .l ?_; conv => whnf)
     (repeat' (first | (apply kT (by with_reducible first | rfl | assumption); conv => whnf) | (apply kF (by with_reducible first | rfl | assumption); conv => whnf) | (apply kT (by decide); conv => whnf) | (apply kF (by decide); conv => whnf) | (apply kB <;> intro _ <;> conv => whnf) | (refine .inl ⟨_, ck, ?_⟩; conv => whnf) | fail))
     rfl
   ·have f2 : (((g.map cdC).length : Int) != h.m) = true := by rw [hm]; simpa using hmm
    rw [decide_eq_false hmm, Bool.false_and, Bool.false_and]
    conv => whnf
    (repeat' (first | (apply kT (by with_reducible first | rfl | assumption); conv => whnf) | (apply kF (by with_reducible first | rfl | assumption); conv => whnf) | (apply kT (by decide); conv => whnf) | (apply kF (by decide); conv => whnf) | (apply kB <;> intro _ <;> conv => whnf) | (refine ⟨0, _, rfl, hgh, rfl, ?_⟩; conv => whnf) | fail))
    rfl
theorem whole_pure' (g : List Cd) (hne : g ≠ []) (hg : ∀ c ∈ g, CdOK c) (hl : g.length ≤ 5000) : Pure Try.prog 52 [.seq (g.map cdC)] (.tup [.agg (shC (wholeL g).1), dB (wholeL g).2]) := by
 cases g with
 | nil => exact absurd rfl hne
 | cons h t => exact whole_pure h t hg (by simp at hl; omega)
def readG : List (List Cd) → List Sh
 | [] => []
 | g :: r => bif (wholeL g).2 then (wholeL g).1 :: readG r else readG r
def ReadL (l : List Int) : List Sh × Int × Int := (readG (openL l).1, (openL l).2.1, (openL l).2.2)
theorem readG_append : ∀ (a b : List (List Cd)), readG (a ++ b) = readG a ++ readG b
 | [], b => rfl
 | g :: a, b => by
  rw [List.cons_append, readG, readG, readG_append a b]
  cases (wholeL g).2 <;> rfl
theorem readG_len : ∀ (a : List (List Cd)), (readG a).length ≤ a.length
 | [] => Nat.le_refl _
 | g :: a => by
  have := readG_len a
  rw [readG]
  cases (wholeL g).2 with
  | true => rw [cond_true, List.length_cons, List.length_cons]; omega
  | false => rw [cond_false, List.length_cons]; omega
def GsOK (G : List (List Cd)) : Prop := G.length ≤ 5000 ∧ ∀ g ∈ G, g ≠ [] ∧ g.length ≤ 5000 ∧ ∀ c ∈ g, CdOK c
attribute [local irreducible] wholeL
theorem getgp (G : List (List Cd)) (k : Nat) (h : k < G.length) : (G.map fun g => [gpD g])[k]? = some [gpD G[k]] := by simp [h]
theorem openL_err {l : List Int} (h : (openL l).2.2 ≠ 0) : (openL l).1 = [] ∧ (openL l).2.1 = 0 := by
 unfold openL at *
 split
 ·exact ⟨rfl, rfl⟩
 ·rename_i h8
  rw [if_neg h8] at h
  cases hc : (numG (addL tr0 l).tw (sortC (addL tr0 l).es)).2 with
  | true => exact ⟨rfl, rfl⟩
  | false => rw [hc] at h; exact absurd rfl h
theorem Read_pure (l : List Int) (hl : l.length ≤ 100000) (hb : By l) (hG : GsOK (openL l).1) : Pure Try.prog 17 [bsD l] (.tup [shsD (ReadL l).1, dI (ReadL l).2.1, dI (ReadL l).2.2]) := by
 have co := open_pure l hl hb
 have hE := openL_err (l := l)
 unfold ReadL
 generalize openL l = r at *
 obtain ⟨G, sp, e⟩ := r
 dsimp only at *
 have co : Pure Try.prog 51 [bsD l] (.tup [gpsD G, dI sp, dI e]) := co
 have hm : ((G.map fun g => [gpD g]).length : Int) = G.length := by rw [List.length_map]
 obtain ⟨hG1, hG2⟩ := hG
 refine pure_of pg Try.func17 (by kernel_rfl) ?_
 by_cases he : e = 0
 ·have f1 : (e != 0) = false := by simp [he]
  conv => whnf
  (refine .inl ⟨_, co, ?_⟩; conv => whnf)
  (apply kF (f1); conv => whnf)
  refine ⟨[.own 2 50], [2, 3, 19, 20, 21], [0], 1, fun m s => ∃ k : Nat, k + m = G.length ∧ s = ⟨[(2, .own 0), (3, .d (dI sp)), (19, .d (gpsD G)), (20, .d (dI (G.map fun g => [gpD g]).length)), (21, .d (dI k))], [(0, .arr 50 ((readG (G.take k)).map shC))], 1⟩, ?_, ?_⟩
  ·conv => whnf
   exact ⟨G.length, 0, by omega, rfl⟩
  ·rintro m _ ⟨k, hk, rfl⟩
   by_cases hkl : k < G.length
   ·have f2 : decide ((k : Int) < ((G.map fun g => [gpD g]).length : Int)) = true := decide_eq_true (by rw [hm]; omega)
    have hgk := hG2 _ (List.getElem_mem hkl)
    have cw := whole_pure' G[k] hgk.1 hgk.2.2 hgk.2.1
    have hrt : readG (G.take (k + 1)) = readG (G.take k) ++ bif (wholeL G[k]).2 then [(wholeL G[k]).1] else [] := by
     rw [List.take_add_one, List.getElem?_eq_getElem hkl, readG_append]
     congr 1
    have hrl := readG_len (G.take k)
    rw [List.length_take] at hrl
    cases hw : (wholeL G[k]).2 with
    | true =>
     rw [hw] at cw
     conv => whnf
     (repeat' (first | (apply kT (by with_reducible first | rfl | assumption); conv => whnf) | (apply kF (by with_reducible first | rfl | assumption); conv => whnf) | (apply kT (by decide); conv => whnf) | (apply kF (by decide); conv => whnf) | (apply kB <;> intro _ <;> conv => whnf) | (refine ⟨k, _, rfl, getgp G k hkl, rfl, ?_⟩; conv => whnf) | (refine .inl ⟨_, cw, ?_⟩; conv => whnf) | fail))
     (refine .l ?_; conv => whnf)
     (refine ⟨fun el h => by rw [List.mem_singleton.1 h]; rfl, by rw [List.length_map]; show (_ + 1) * 32 ≤ _; omega, ?_⟩; conv => whnf)
     refine ⟨m - 1, by omega, k + 1, by omega, ?_⟩
     rw [w1 k (by omega), hrt, hw, cond_true, List.map_append]
     rfl
    | false =>
     rw [hw] at cw
     conv => whnf
     (repeat' (first | (apply kT (by with_reducible first | rfl | assumption); conv => whnf) | (apply kF (by with_reducible first | rfl | assumption); conv => whnf) | (apply kT (by decide); conv => whnf) | (apply kF (by decide); conv => whnf) | (apply kB <;> intro _ <;> conv => whnf) | (refine ⟨k, _, rfl, getgp G k hkl, rfl, ?_⟩; conv => whnf) | (refine .inl ⟨_, cw, ?_⟩; conv => whnf) | fail))
     refine ⟨m - 1, by omega, k + 1, by omega, ?_⟩
     rw [w1 k (by omega), hrt, hw, cond_false, List.append_nil]
   ·have f2 : decide ((k : Int) < ((G.map fun g => [gpD g]).length : Int)) = false := decide_eq_false (by rw [hm]; omega)
    rw [List.take_of_length_le (show G.length ≤ k by omega), he]
    conv => whnf
    (apply kF (f2); conv => whnf)
    rfl
 ·obtain ⟨q1, q2⟩ := hE he
  have f1 : (e != 0) = true := by simpa using he
  subst q1 q2
  conv => whnf
  (refine .inl ⟨_, co, ?_⟩; conv => whnf)
  (apply kT (f1); conv => whnf)
  rfl
theorem goG_flat : ∀ (r : List Cd) (done : List (List Cd)) (h : Cd) (t : List Cd) (tw : Bool), (goG done h t tw r).1.flatten = done.flatten ++ (h :: t) ++ r
 | [], done, h, t, tw => by rw [goG_nil]; simp
 | c :: r, done, h, t, tw => by
  by_cases hn : h.n = c.n
  ·rw [goG_same hn, goG_flat r]; simp
  ·rw [goG_new hn, goG_flat r]; simp
theorem goG_ne : ∀ (r : List Cd) (done : List (List Cd)) (h : Cd) (t : List Cd) (tw : Bool), ∀ g ∈ (goG done h t tw r).1, g ∈ done ∨ g ≠ []
 | [], done, h, t, tw => by
  rw [goG_nil]
  intro g hg
  rcases List.mem_append.1 hg with hg | hg
  ·exact .inl hg
  ·rw [List.mem_singleton.1 hg]; exact .inr (by simp)
 | c :: r, done, h, t, tw => by
  intro g hg
  by_cases hn : h.n = c.n
  ·rw [goG_same hn] at hg
   exact goG_ne r _ _ _ _ g hg
  ·rw [goG_new hn] at hg
   rcases goG_ne r _ _ _ _ g hg with hg | hg
   ·rcases List.mem_append.1 hg with hg | hg
    ·exact .inl hg
    ·rw [List.mem_singleton.1 hg]; exact .inr (by simp)
   ·exact .inr hg
theorem numG_flat (tw : Bool) (L : List Cd) : (numG tw L).1.flatten = L := by
 cases L with
 | nil => unfold numG; rfl
 | cons c r => unfold numG; rw [goG_flat]; simp
theorem numG_ne (tw : Bool) (L : List Cd) : ∀ g ∈ (numG tw L).1, g ≠ [] := by
 cases L with
 | nil => unfold numG; intro g hg; simp at hg
 | cons c r =>
  unfold numG
  intro g hg
  rcases goG_ne r _ _ _ _ g hg with hg | hg
  ·simp at hg
  ·exact hg
theorem flat_lens : ∀ {G : List (List Cd)}, (∀ g ∈ G, g ≠ []) → G.length ≤ G.flatten.length ∧ ∀ g ∈ G, g.length ≤ G.flatten.length
 | [], _ => ⟨Nat.le_refl _, fun g hg => by simp at hg⟩
 | x :: G, h => by
  obtain ⟨h1, h2⟩ := flat_lens (G := G) fun g hg => h g (by simp [hg])
  have hx : 0 < x.length := List.length_pos_iff.2 (h x (by simp))
  rw [List.flatten_cons, List.length_append, List.length_cons]
  refine ⟨by omega, fun g hg => ?_⟩
  rcases List.mem_cons.1 hg with rfl | hg
  ·omega
  ·have := h2 g hg; omega
theorem openL_gs {l : List Int} (hl : l.length ≤ 100000) (hb : By l) : GsOK (openL l).1 := by
 have hok := addL_ok tr0_ok hb
 have hlen := addL_len tr0 l
 have h0 : tr0.es.length = 0 := rfl
 have hn : nCh l ≤ 2500 := by unfold nCh; omega
 have e0 : GsOK [] := ⟨by simp, fun g hg => by simp at hg⟩
 unfold openL
 split
 ·exact e0
 ·cases hc : (numG (addL tr0 l).tw (sortC (addL tr0 l).es)).2 with
  | true => exact e0
  | false =>
   rw [cond_false]
   have hf := numG_flat (addL tr0 l).tw (sortC (addL tr0 l).es)
   have hne := numG_ne (addL tr0 l).tw (sortC (addL tr0 l).es)
   obtain ⟨q1, q2⟩ := flat_lens hne
   rw [hf, (sortC_perm _).length_eq] at q1 q2
   refine ⟨by dsimp only; omega, fun g hg => ⟨hne g hg, by have := q2 g hg; omega, fun c hc => ?_⟩⟩
   have : c ∈ (numG (addL tr0 l).tw (sortC (addL tr0 l).es)).1.flatten := List.mem_flatten.2 ⟨g, hg, hc⟩
   rw [hf] at this
   exact hok.1 c ((sortC_perm _).mem_iff.1 this)
theorem Read_pure' (l : List Int) (hl : l.length ≤ 100000) (hb : By l) : Pure Try.prog 17 [bsD l] (.tup [shsD (ReadL l).1, dI (ReadL l).2.1, dI (ReadL l).2.2]) := Read_pure l hl hb (openL_gs hl hb)
end Go.Ev.Ytljkplahkokpaaa


set_option linter.unusedVariables false
set_option linter.unusedSimpArgs false
set_option maxRecDepth 100000
namespace Go.Ev.Ytljkplahkokpaaa
open Go.Proofs
def smallS : Sh := ⟨258, [⟨3, 5⟩, ⟨4, 4⟩]⟩
def laidL : List Int := [1, 2, 0, 1, 2, 0, 3, 0, 0, 5, 1, 1, 0, 0, 0, 0, 0, 0, 0, 0, 0, 0, 0, 0, 0, 0, 0, 0, 0, 0, 0, 0, 0, 0, 0, 0, 0, 0, 113, 16]
theorem small_ok : checkI [smallS] = 0 := by kernel_rfl
theorem small_cards : (cardsL smallS).map bytesRow = [[bsD laidL]] := by kernel_rfl
theorem small_read : ReadL (laidL ++ [1, 2, 3, 4, 5]) = ([smallS], 1, 0) := by kernel_rfl
def strB (l : List Int) : ByteArray := ⟨(l.map fun n => UInt8.ofNat n.toNat).toArray⟩
theorem strB_bytes {l : List Int} (h : By l) : l.map byC = bytesD (strB l) := by
 unfold bytesD strB
 rw [List.map_map]
 refine List.map_congr_left fun n hn => ?_
 have := h n hn
 have e : (UInt8.ofNat n.toNat).toNat = n.toNat := UInt8.toNat_ofNat_of_lt' (by show n.toNat < 256; omega)
 show [D.v (.int .u8 n)] = [D.v (.int .u8 ((UInt8.ofNat n.toNat).toNat : Nat))]
 rw [e]
 congr 3
 omega
theorem laid_by : By laidL := by
 unfold laidL
 repeat first | exact .nil | refine .cons (by omega) ?_
theorem small_pure : Pure Try.prog 50 [] (.agg (shC smallS)) := by
 refine pure_of pg Try.func50 (by kernel_rfl) ?_
 conv => whnf
 (refine .l ?_; conv => whnf)
 (repeat' (first | (apply kT (by with_reducible first | rfl | assumption); conv => whnf) | (apply kF (by with_reducible first | rfl | assumption); conv => whnf) | (apply kT (by decide); conv => whnf) | (apply kF (by decide); conv => whnf) | (apply kB <;> intro _ <;> conv => whnf) | fail))
 rfl
theorem laid_bor : Bor tb Try.prog 49 [] [] 1 (.own 0) [(0, .arr 5 (laidL.map byC))] := by
 refine bor_ofO pg Try.func49 (by kernel_rfl) ?_
 conv => whnf
 (refine ⟨40, rfl, rfl, by decide, by decide, (List.replicate 40 0).map byC, rfl, ?_⟩; conv => whnf)
 (refine .l ?_; conv => whnf)
 (refine ⟨byL [1, 2, 0, 1, 2, 0, 3, 0, 0, 5, 1, 1], (laidL.take 38 ++ [0, 0]).map byC, rfl, ?_⟩; conv => whnf)
 (refine ⟨38, rfl, by decide, ?_⟩; conv => whnf)
 (refine ⟨byC 0, rfl, rfl, by decide, (laidL.take 38 ++ [113, 0]).map byC, rfl, ?_⟩; conv => whnf)
 (refine ⟨39, rfl, by decide, ?_⟩; conv => whnf)
 (refine ⟨byC 0, rfl, rfl, by decide, laidL.map byC, rfl, ?_⟩; conv => whnf)
 (refine ⟨[0], ?_⟩; conv => whnf)
 exact ⟨rfl, rfl⟩
attribute [local irreducible] Pure Bor Iter Pan
theorem awake_pure : Pure Try.prog 16 [] (dB true) := by
 have c1 := Cards_ok smallS small_ok
 rw [small_cards] at c1
 have c2 := Read_pure' (laidL ++ [1, 2, 3, 4, 5]) (by decide) (laid_by.app (by repeat first | exact .nil | refine .cons (by omega) ?_))
 rw [small_read] at c2
 refine pure_of pg Try.func16 (by kernel_rfl) ?_
 conv => whnf
 (refine .inl ⟨_, small_pure, ?_⟩; conv => whnf)
 (refine .inl ⟨_, c1, ?_⟩; conv => whnf)
 (refine .inr ⟨[], 1, _, _, laid_bor, ?_⟩; conv => whnf)
 (refine .l ?_; conv => whnf)
 (refine ⟨byL [1, 2, 3, 4, 5], by decide, ?_⟩; conv => whnf)
 (refine .inl ⟨_, c2, ?_⟩; conv => whnf)
 (refine .r ?_; conv => whnf)
 (repeat' (first | (apply kT (by with_reducible first | rfl | assumption); conv => whnf) | (apply kF (by with_reducible first | rfl | assumption); conv => whnf) | (apply kT (by decide); conv => whnf) | (apply kF (by decide); conv => whnf) | (apply kB <;> intro _ <;> conv => whnf) | (refine ⟨0, _, rfl, rfl, rfl, ?_⟩; conv => whnf) | (refine ⟨strB laidL, strB_bytes laid_by, ?_⟩; conv => whnf) | (refine .inr ⟨[], 1, _, _, laid_bor, ?_⟩; conv => whnf) | (refine ⟨true, beq_self_eq_true _, ?_⟩; conv => whnf) | (refine ⟨1, _, rfl, rfl, rfl, ?_⟩; conv => whnf) | fail))
 rfl
end Go.Ev.Ytljkplahkokpaaa


set_option linter.unusedVariables false
set_option linter.unusedSimpArgs false
set_option maxRecDepth 100000
namespace Go.Ev.Ytljkplahkokpaaa
open Go.Proofs
attribute [local irreducible] Pure Bor Iter Pan
theorem bytes_pure (l : List Int) (hl : l.length ≤ 1000000) : Pure Try.prog 18 [bsD l] (bsD l) := by
 refine pure_of pg Try.func18 (by kernel_rfl) ?_
 conv => whnf
 (refine ⟨byL _, by rw [List.length_map]; show _ * 1 ≤ _; omega, ?_⟩; conv => whnf)
 rfl
theorem points_pure (l : List Pt) (hl : l.length ≤ 100000) : Pure Try.prog 39 [ptsD l] (ptsD l) := by
 have hm : ((l.map ptD).length : Int) = l.length := by rw [List.length_map]
 refine pure_of pg Try.func39 (by kernel_rfl) ?_
 conv => whnf
 refine ⟨[.own 3 74, .rex], [0, 3, 4], [0], 1, fun m s => ∃ k : Nat, k + m = l.length ∧ s = ⟨[(0, .d (ptsD l)), (3, .own 0), (4, .d (dI k))], [(0, .arr 74 ((l.take k).map ptD))], 1⟩, ?_, ?_⟩
 ·conv => whnf
  exact ⟨l.length, 0, by omega, rfl⟩
 ·rintro m _ ⟨k, hk, rfl⟩
  by_cases hkl : k < l.length
  ·have f1 : decide ((k : Int) < ((l.map ptD).length : Int)) = true := decide_eq_true (by rw [hm]; omega)
   conv => whnf
   (repeat' (first | (apply kT (by with_reducible first | rfl | assumption); conv => whnf) | (apply kF (by with_reducible first | rfl | assumption); conv => whnf) | (apply kT (by decide); conv => whnf) | (apply kF (by decide); conv => whnf) | (apply kB <;> intro _ <;> conv => whnf) | (refine ⟨k, _, rfl, getpt l k hkl, rfl, ?_⟩; conv => whnf) | fail))
   (refine .l ?_; conv => whnf)
   (refine ⟨fun el h => by rw [List.mem_singleton.1 h]; rfl, by rw [List.length_map, List.length_take]; show (min k _ + 1) * 16 ≤ _; omega, ?_⟩; conv => whnf)
   (refine ⟨[105], ?_⟩; conv => whnf)
   refine ⟨m - 1, by omega, k + 1, by omega, ?_⟩
   rw [w1 k (by omega), List.take_add_one, List.getElem?_eq_getElem hkl, List.map_append]
   rfl
  ·have f1 : decide ((k : Int) < ((l.map ptD).length : Int)) = false := decide_eq_false (by rw [hm]; omega)
   conv => whnf
   (apply kF (f1); conv => whnf)
   rw [List.take_of_length_le (by omega)]
   rfl
theorem sheets_pure (l : List Sh) (hl : l.length ≤ 100000) (hp : ∀ s ∈ l, s.ps.length ≤ 100000) : Pure Try.prog 27 [shsD l] (shsD l) := by
 have hm : ((l.map shC).length : Int) = l.length := by rw [List.length_map]
 refine pure_of pg Try.func27 (by kernel_rfl) ?_
 conv => whnf
 refine ⟨[.own 3 50, .rex], [0, 3, 4], [0], 1, fun m s => ∃ k : Nat, k + m = l.length ∧ s = ⟨[(0, .d (shsD l)), (3, .own 0), (4, .d (dI k))], [(0, .arr 50 ((l.take k).map shC))], 1⟩, ?_, ?_⟩
 ·conv => whnf
  exact ⟨l.length, 0, by omega, rfl⟩
 ·rintro m _ ⟨k, hk, rfl⟩
  by_cases hkl : k < l.length
  ·have f1 : decide ((k : Int) < ((l.map shC).length : Int)) = true := decide_eq_true (by rw [hm]; omega)
   have cp := points_pure l[k].ps (hp _ (List.getElem_mem hkl))
   conv => whnf
   (repeat' (first | (apply kT (by with_reducible first | rfl | assumption); conv => whnf) | (apply kF (by with_reducible first | rfl | assumption); conv => whnf) | (apply kT (by decide); conv => whnf) | (apply kF (by decide); conv => whnf) | (apply kB <;> intro _ <;> conv => whnf) | (refine ⟨k, _, rfl, getsh l k hkl, rfl, ?_⟩; conv => whnf) | (refine .inl ⟨_, cp, ?_⟩; conv => whnf) | fail))
   (refine .l ?_; conv => whnf)
   (refine ⟨fun el h => by rw [List.mem_singleton.1 h]; rfl, by rw [List.length_map, List.length_take]; show (min k _ + 1) * 32 ≤ _; omega, ?_⟩; conv => whnf)
   (refine ⟨[113], ?_⟩; conv => whnf)
   refine ⟨m - 1, by omega, k + 1, by omega, ?_⟩
   rw [w1 k (by omega), List.take_add_one, List.getElem?_eq_getElem hkl, List.map_append]
   rfl
  ·have f1 : decide ((k : Int) < ((l.map shC).length : Int)) = false := decide_eq_false (by rw [hm]; omega)
   conv => whnf
   (apply kF (f1); conv => whnf)
   rw [List.take_of_length_le (by omega)]
   rfl
theorem eqF' {α : Type} [DecidableEq α] {a b : List α} {k : Nat} (ha : k < a.length) (hb : k < b.length) (h : a[k] ≠ b[k]) : decide (a = b) = false := by
 refine decide_eq_false fun e => h ?_
 subst e; rfl
theorem samePts_pure (a b : List Pt) (ha : a.length ≤ 100000) (hb : b.length ≤ 100000) : Pure Try.prog 46 [ptsD a, ptsD b] (dB (decide (a = b))) := by
 have hma : ((a.map ptD).length : Int) = a.length := by rw [List.length_map]
 have hmb : ((b.map ptD).length : Int) = b.length := by rw [List.length_map]
 refine pure_of pg Try.func46 (by kernel_rfl) ?_
 by_cases hl : a.length = b.length
 ·have f1 : (((a.map ptD).length : Int) != ((b.map ptD).length : Int)) = false := by rw [hma, hmb, hl]; simp
  conv => whnf
  (repeat' (first | (apply kT (by with_reducible first | rfl | assumption); conv => whnf) | (apply kF (by with_reducible first | rfl | assumption); conv => whnf) | (apply kT (by decide); conv => whnf) | (apply kF (by decide); conv => whnf) | (apply kB <;> intro _ <;> conv => whnf) | fail))
  refine ⟨[], [0, 1, 5], [], 0, fun m s => ∃ k : Nat, k + m = a.length ∧ (∀ i (h : i < k) (h1 : i < a.length) (h2 : i < b.length), a[i] = b[i]) ∧ s = ⟨[(0, .d (ptsD a)), (1, .d (ptsD b)), (5, .d (dI k))], [], 0⟩, ?_, ?_⟩
  ·conv => whnf
   exact ⟨a.length, 0, by omega, fun i h => by omega, rfl⟩
  ·rintro m _ ⟨k, hk, hall, rfl⟩
   by_cases hkl : k < a.length
   ·have f2 : decide ((k : Int) < ((a.map ptD).length : Int)) = true := decide_eq_true (by rw [hma]; omega)
    by_cases h1 : a[k].s = b[k].s
    ·have g1 : (a[k].s != b[k].s) = false := by simp [h1]
     by_cases h2 : a[k].l = b[k].l
     ·have g2 : (a[k].l != b[k].l) = false := by simp [h2]
      conv => whnf
      (repeat' (first | (apply kT (by with_reducible first | rfl | assumption); conv => whnf) | (apply kF (by with_reducible first | rfl | assumption); conv => whnf) | (apply kT (by decide); conv => whnf) | (apply kF (by decide); conv => whnf) | (apply kB <;> intro _ <;> conv => whnf) | (refine ⟨k, _, rfl, getpt a k hkl, rfl, ?_⟩; conv => whnf) | (refine ⟨k, _, rfl, getpt b k (by omega), rfl, ?_⟩; conv => whnf) | fail))
      refine ⟨m - 1, by omega, k + 1, by omega, fun i hi q1 q2 => ?_, ?_⟩
      ·by_cases h : i < k
       ·exact hall i h q1 q2
       ·have : i = k := by omega
        subst this
        have ea : a[i] = ⟨a[i].s, a[i].l⟩ := rfl
        rw [ea, h1, h2]
      ·rw [w1 k (by omega)]
     ·have g2 : (a[k].l != b[k].l) = true := by simpa using h2
      rw [eqF' hkl (by omega) (fun e => h2 (by rw [e]))]
      conv => whnf
      (repeat' (first | (apply kT (by with_reducible first | rfl | assumption); conv => whnf) | (apply kF (by with_reducible first | rfl | assumption); conv => whnf) | (apply kT (by decide); conv => whnf) | (apply kF (by decide); conv => whnf) | (apply kB <;> intro _ <;> conv => whnf) | (refine ⟨k, _, rfl, getpt a k hkl, rfl, ?_⟩; conv => whnf) | (refine ⟨k, _, rfl, getpt b k (by omega), rfl, ?_⟩; conv => whnf) | fail))
      rfl
    ·have g1 : (a[k].s != b[k].s) = true := by simpa using h1
     rw [eqF' hkl (by omega) (fun e => h1 (by rw [e]))]
     conv => whnf
     (repeat' (first | (apply kT (by with_reducible first | rfl | assumption); conv => whnf) | (apply kF (by with_reducible first | rfl | assumption); conv => whnf) | (apply kT (by decide); conv => whnf) | (apply kF (by decide); conv => whnf) | (apply kB <;> intro _ <;> conv => whnf) | (refine ⟨k, _, rfl, getpt a k hkl, rfl, ?_⟩; conv => whnf) | (refine ⟨k, _, rfl, getpt b k (by omega), rfl, ?_⟩; conv => whnf) | fail))
     rfl
   ·have f2 : decide ((k : Int) < ((a.map ptD).length : Int)) = false := decide_eq_false (by rw [hma]; omega)
    have e : decide (a = b) = true := decide_eq_true (List.ext_getElem hl fun i h1 h2 => hall i (by omega) h1 h2)
    rw [e]
    conv => whnf
    (apply kF (f2); conv => whnf)
    rfl
 ·have f1 : (((a.map ptD).length : Int) != ((b.map ptD).length : Int)) = true := by rw [hma, hmb, bne_iff_ne]; omega
  have e : decide (a = b) = false := decide_eq_false fun e => hl (by rw [e])
  rw [e]
  conv => whnf
  (apply kT (f1); conv => whnf)
  rfl
theorem sameSheets_pure (a b : List Sh) (ha : a.length ≤ 100000) (hb : b.length ≤ 100000) (hpa : ∀ s ∈ a, s.ps.length ≤ 100000) (hpb : ∀ s ∈ b, s.ps.length ≤ 100000) : Pure Try.prog 24 [shsD a, shsD b] (dB (decide (a = b))) := by
 have hma : ((a.map shC).length : Int) = a.length := by rw [List.length_map]
 have hmb : ((b.map shC).length : Int) = b.length := by rw [List.length_map]
 refine pure_of pg Try.func24 (by kernel_rfl) ?_
 by_cases hl : a.length = b.length
 ·have f1 : (((a.map shC).length : Int) != ((b.map shC).length : Int)) = false := by rw [hma, hmb, hl]; simp
  conv => whnf
  (repeat' (first | (apply kT (by with_reducible first | rfl | assumption); conv => whnf) | (apply kF (by with_reducible first | rfl | assumption); conv => whnf) | (apply kT (by decide); conv => whnf) | (apply kF (by decide); conv => whnf) | (apply kB <;> intro _ <;> conv => whnf) | fail))
  refine ⟨[], [0, 1, 5], [], 0, fun m s => ∃ k : Nat, k + m = a.length ∧ (∀ i (h : i < k) (h1 : i < a.length) (h2 : i < b.length), a[i] = b[i]) ∧ s = ⟨[(0, .d (shsD a)), (1, .d (shsD b)), (5, .d (dI k))], [], 0⟩, ?_, ?_⟩
  ·conv => whnf
   exact ⟨a.length, 0, by omega, fun i h => by omega, rfl⟩
  ·rintro m _ ⟨k, hk, hall, rfl⟩
   by_cases hkl : k < a.length
   ·have f2 : decide ((k : Int) < ((a.map shC).length : Int)) = true := decide_eq_true (by rw [hma]; omega)
    have cp := samePts_pure a[k].ps (b[k]'(by omega)).ps (hpa _ (List.getElem_mem _)) (hpb _ (List.getElem_mem _))
    by_cases h1 : a[k].n = b[k].n
    ·have g1 : (a[k].n != b[k].n) = false := by simp [h1]
     by_cases h2 : a[k].ps = b[k].ps
     ·rw [decide_eq_true h2] at cp
      conv => whnf
      (repeat' (first | (apply kT (by with_reducible first | rfl | assumption); conv => whnf) | (apply kF (by with_reducible first | rfl | assumption); conv => whnf) | (apply kT (by decide); conv => whnf) | (apply kF (by decide); conv => whnf) | (apply kB <;> intro _ <;> conv => whnf) | (refine ⟨k, _, rfl, getsh a k hkl, rfl, ?_⟩; conv => whnf) | (refine ⟨k, _, rfl, getsh b k (by omega), rfl, ?_⟩; conv => whnf) | (refine .inl ⟨_, cp, ?_⟩; conv => whnf) | fail))
      refine ⟨m - 1, by omega, k + 1, by omega, fun i hi q1 q2 => ?_, ?_⟩
      ·by_cases h : i < k
       ·exact hall i h q1 q2
       ·have : i = k := by omega
        subst this
        have ea : a[i] = ⟨a[i].n, a[i].ps⟩ := rfl
        rw [ea, h1, h2]
      ·rw [w1 k (by omega)]
     ·rw [decide_eq_false h2] at cp
      rw [eqF' hkl (by omega) (fun e => h2 (by rw [e]))]
      conv => whnf
      (repeat' (first | (apply kT (by with_reducible first | rfl | assumption); conv => whnf) | (apply kF (by with_reducible first | rfl | assumption); conv => whnf) | (apply kT (by decide); conv => whnf) | (apply kF (by decide); conv => whnf) | (apply kB <;> intro _ <;> conv => whnf) | (refine ⟨k, _, rfl, getsh a k hkl, rfl, ?_⟩; conv => whnf) | (refine ⟨k, _, rfl, getsh b k (by omega), rfl, ?_⟩; conv => whnf) | (refine .inl ⟨_, cp, ?_⟩; conv => whnf) | fail))
      rfl
    ·have g1 : (a[k].n != b[k].n) = true := by simpa using h1
     rw [eqF' hkl (by omega) (fun e => h1 (by rw [e]))]
     conv => whnf
     (repeat' (first | (apply kT (by with_reducible first | rfl | assumption); conv => whnf) | (apply kF (by with_reducible first | rfl | assumption); conv => whnf) | (apply kT (by decide); conv => whnf) | (apply kF (by decide); conv => whnf) | (apply kB <;> intro _ <;> conv => whnf) | (refine ⟨k, _, rfl, getsh a k hkl, rfl, ?_⟩; conv => whnf) | (refine ⟨k, _, rfl, getsh b k (by omega), rfl, ?_⟩; conv => whnf) | fail))
     rfl
   ·have f2 : decide ((k : Int) < ((a.map shC).length : Int)) = false := decide_eq_false (by rw [hma]; omega)
    have e : decide (a = b) = true := decide_eq_true (List.ext_getElem hl fun i h1 h2 => hall i (by omega) h1 h2)
    rw [e]
    conv => whnf
    (apply kF (f2); conv => whnf)
    rfl
 ·have f1 : (((a.map shC).length : Int) != ((b.map shC).length : Int)) = true := by rw [hma, hmb, bne_iff_ne]; omega
  have e : decide (a = b) = false := decide_eq_false fun e => hl (by rw [e])
  rw [e]
  conv => whnf
  (apply kT (f1); conv => whnf)
  rfl
def thinB (l : List Sh) : Bool := decide (l.length ≤ 12) && l.all fun s => decide (s.ps.length ≤ 110)
theorem thin_pure (l : List Sh) : Pure Try.prog 28 [shsD l] (dB (thinB l)) := by
 have hm : ((l.map shC).length : Int) = l.length := by rw [List.length_map]
 refine pure_of pg Try.func28 (by kernel_rfl) ?_
 conv => whnf
 refine ⟨[], [0, 3], [], 0, fun m s => ∃ k : Nat, k + m = 13 ∧ k ≤ l.length ∧ (∀ i (h : i < k) (h1 : i < l.length), l[i].ps.length ≤ 110) ∧ s = ⟨[(0, .d (shsD l)), (3, .d (dI k))], [], 0⟩, ?_, ?_⟩
 ·conv => whnf
  exact ⟨13, 0, by omega, by omega, fun i h => by omega, rfl⟩
 ·rintro m _ ⟨k, hk, hkl, hall, rfl⟩
  by_cases hkl2 : k < l.length
  ·have f1 : decide ((k : Int) < ((l.map shC).length : Int)) = true := decide_eq_true (by rw [hm]; omega)
   by_cases h13 : k < 13
   ·have f2 : decide ((k : Int) < 13) = true := decide_eq_true (by omega)
    have hmp : ((l[k].ps.map ptD).length : Int) = l[k].ps.length := by rw [List.length_map]
    by_cases h110 : l[k].ps.length ≤ 110
    ·have f3 : decide (((l[k].ps.map ptD).length : Int) > 110) = false := decide_eq_false (by rw [hmp]; omega)
     conv => whnf
     (repeat' (first | (apply kT (by with_reducible first | rfl | assumption); conv => whnf) | (apply kF (by with_reducible first | rfl | assumption); conv => whnf) | (apply kT (by decide); conv => whnf) | (apply kF (by decide); conv => whnf) | (apply kB <;> intro _ <;> conv => whnf) | (refine ⟨k, _, rfl, getsh l k hkl2, rfl, ?_⟩; conv => whnf) | fail))
     refine ⟨m - 1, by omega, k + 1, by omega, by omega, fun i hi h1 => ?_, ?_⟩
     ·by_cases h : i < k
      ·exact hall i h h1
      ·have : i = k := by omega
       subst this
       exact h110
     ·rw [w1 k (by omega)]
    ·have f3 : decide (((l[k].ps.map ptD).length : Int) > 110) = true := decide_eq_true (by rw [hmp]; omega)
     have e : thinB l = false := by
      unfold thinB
      rw [show (l.all fun s => decide (s.ps.length ≤ 110)) = false from by
       rw [List.all_eq_false]
       exact ⟨l[k], List.getElem_mem _, by simpa using h110⟩, Bool.and_false]
     rw [e]
     conv => whnf
     (repeat' (first | (apply kT (by with_reducible first | rfl | assumption); conv => whnf) | (apply kF (by with_reducible first | rfl | assumption); conv => whnf) | (apply kT (by decide); conv => whnf) | (apply kF (by decide); conv => whnf) | (apply kB <;> intro _ <;> conv => whnf) | (refine ⟨k, _, rfl, getsh l k hkl2, rfl, ?_⟩; conv => whnf) | fail))
     rfl
   ·have f2 : decide ((k : Int) < 13) = false := decide_eq_false (by omega)
    have f4 : decide (((l.map shC).length : Int) ≤ 12) = false := decide_eq_false (by rw [hm]; omega)
    have e : thinB l = false := by unfold thinB; rw [decide_eq_false (by omega), Bool.false_and]
    rw [e]
    conv => whnf
    (repeat' (first | (apply kT (by with_reducible first | rfl | assumption); conv => whnf) | (apply kF (by with_reducible first | rfl | assumption); conv => whnf) | (apply kT (by decide); conv => whnf) | (apply kF (by decide); conv => whnf) | (apply kB <;> intro _ <;> conv => whnf) | fail))
    rw [f4]
    rfl
  ·have f1 : decide ((k : Int) < ((l.map shC).length : Int)) = false := decide_eq_false (by rw [hm]; omega)
   have e : thinB l = decide (((l.map shC).length : Int) ≤ 12) := by
    unfold thinB
    rw [show (l.all fun s => decide (s.ps.length ≤ 110)) = true from List.all_eq_true.2 fun s hs => by
     obtain ⟨i, hi, rfl⟩ := List.getElem_of_mem hs
     exact decide_eq_true (hall i (by omega) hi), Bool.and_true, hm]
    by_cases h : l.length ≤ 12
    ·rw [decide_eq_true h, decide_eq_true (by omega)]
    ·rw [decide_eq_false h, decide_eq_false (by omega)]
   rw [e]
   conv => whnf
   (repeat' (first | (apply kT (by with_reducible first | rfl | assumption); conv => whnf) | (apply kF (by with_reducible first | rfl | assumption); conv => whnf) | (apply kT (by decide); conv => whnf) | (apply kF (by decide); conv => whnf) | (apply kB <;> intro _ <;> conv => whnf) | fail))
   rfl
end Go.Ev.Ytljkplahkokpaaa


set_option linter.unusedVariables false
set_option linter.unusedSimpArgs false
set_option maxRecDepth 100000
namespace Go.Ev.Ytljkplahkokpaaa
open Go.Proofs
attribute [local irreducible] Pure Bor Iter Pan furL stepL
def PtsOK (l : List Pt) : Prop := runB l = true
theorem PtsOK.get {l : List Pt} (h : PtsOK l) {k : Nat} (hk : k < l.length) : 0 ≤ l[k].s ∧ l[k].s ≤ 65535 ∧ 0 ≤ l[k].l ∧ l[k].l ≤ 1000000 := ptB_ok.1 ((runB_ok.1 h).2.1 _ (List.getElem_mem hk))
def bodyH (l : List Pt) : List Int := match l with
 | [] => []
 | p :: r => [((r.length + 1 : Nat) : Int) % 256, p.s / 256 % 256, p.s % 256, p.l / 65536 % 256, p.l / 256 % 256, p.l % 256]
theorem flat_by {l : List (List Int)} (h : ∀ x ∈ l, By x) : By l.flatten := fun y hy => by
 obtain ⟨x, hx, hy⟩ := List.mem_flatten.1 hy
 exact h x hx y hy
attribute [local irreducible] bodyL wsum psum
end Go.Ev.Ytljkplahkokpaaa


set_option linter.unusedVariables false
set_option linter.unusedSimpArgs false
set_option maxRecDepth 100000
namespace Go.Ev.Ytljkplahkokpaaa
open Go.Proofs
def PtsV (l : List Pt) : Prop := (∀ p ∈ l, ptB p = true) ∧ Run l
theorem PtsV.take {l : List Pt} (h : PtsV l) (k : Nat) : PtsV (l.take k) := ⟨fun p hp => h.1 p (List.mem_of_mem_take hp), fun i hi => by
 rw [List.length_take] at hi
 have := h.2 i (by omega)
 simpa using this⟩
theorem PtsV.drop {l : List Pt} (h : PtsV l) (k : Nat) : PtsV (l.drop k) := ⟨fun p hp => h.1 p (List.mem_of_mem_drop hp), h.2.drop k⟩
theorem PtsV.ok {l : List Pt} (h : PtsV l) (h0 : 0 < l.length) : PtsOK l := runB_ok.2 ⟨h0, h.1, h.2⟩
theorem PtsOK.v {l : List Pt} (h : PtsOK l) : PtsV l := ⟨(runB_ok.1 h).2.1, (runB_ok.1 h).2.2⟩
abbrev rowP (l : List Pt) : List D := [ptsD l]
attribute [local irreducible] Pure Bor Iter Pan furL stepL bodyL growN cutN
end Go.Ev.Ytljkplahkokpaaa


set_option linter.unusedVariables false
set_option linter.unusedSimpArgs false
set_option maxRecDepth 100000
namespace Go.Ev.Ytljkplahkokpaaa
open Go.Proofs
theorem grow_room : ∀ (l : List Pt) (room : Nat), room ≤ 38 → room + (furs (l.take (1 + growN room l))).flatten.length ≤ 38
 | [], room, h => by simpa [furs] using h
 | [a], room, h => by rw [List.take_of_length_le (by simp)]; simpa [furs] using h
 | a :: b :: r, room, h => by
  rw [growN_cons]
  split
  ·rename_i h1
   have ih := grow_room (b :: r) (room + (furL a b).length) h1
   rw [show 1 + (1 + growN (room + (furL a b).length) (b :: r)) = (1 + growN (room + (furL a b).length) (b :: r)) + 1 from by omega, List.take_succ_cons]
   rw [show 1 + growN (room + (furL a b).length) (b :: r) = growN (room + (furL a b).length) (b :: r) + 1 from by omega, List.take_succ_cons] at ih ⊢
   rw [furs, List.flatten_cons, List.length_append]
   omega
  ·rw [show 1 + 0 = 0 + 1 from rfl, List.take_succ_cons, List.take_zero]
   simpa [furs] using h
theorem cut_room (l : List Pt) : 10 + (furs (l.take (cutN l))).flatten.length ≤ 38 := grow_room l 10 (by omega)
theorem cutsF_room : ∀ (f : Nat) (l : List Pt), ∀ p ∈ cutsF f l, 10 + (furs p).flatten.length ≤ 38
 | 0, l => fun p hp => by simp [cutsF] at hp
 | f + 1, l => fun p hp => by
  rw [cutsF] at hp
  split at hp
  ·simp at hp
  ·rcases List.mem_cons.1 hp with rfl | hp
   ·exact cut_room l
   ·exact cutsF_room f _ p hp
theorem cards_room {s : Sh} (hr : Run s.ps) {c : Cd} (hc : c ∈ cardsL s) : (cardRaw c).length ≤ 38 := by
 have h0 := ((cardsL_ok hr).1 c hc).1
 rw [raw_len h0]
 exact cutsF_room _ _ _ (mem_cds hc)
theorem cutsF_v : ∀ (f : Nat) (l : List Pt), PtsV l → ∀ p ∈ cutsF f l, PtsV p
 | 0, l, _ => fun p hp => by simp [cutsF] at hp
 | f + 1, l, h => fun p hp => by
  rw [cutsF] at hp
  split at hp
  ·simp at hp
  ·rcases List.mem_cons.1 hp with rfl | hp
   ·exact h.take _
   ·exact cutsF_v f _ (h.drop _) p hp
theorem cards_len (s : Sh) : (cardsL s).length = (cuts s.ps).length := by unfold cardsL; rw [cds_len]
theorem cards_get (s : Sh) (k : Nat) (h : k < (cuts s.ps).length) : (cardsL s)[k]? = some ⟨s.n, k, (cuts s.ps).length, (cuts s.ps)[k]⟩ := by
 unfold cardsL; rw [cds_get _ _ _ _ _ h, Nat.zero_add]
attribute [local irreducible] Pure Bor Iter Pan furL stepL bodyL growN cutN layB cardsL cuts refCard
theorem layL_len {l : List Cd} (h : ∀ c ∈ l, 0 < c.ps.length) : (l.map layB).flatten.length = 40 * l.length := by
 induction l with
 | nil => rfl
 | cons c r ih =>
  rw [List.map_cons, List.flatten_cons, List.length_append, ih fun d hd => h d (by simp [hd]), lay_len (h c (by simp)), List.length_cons]
  omega
attribute [local irreducible] checkI
theorem refFault_pure (l : List Sh) (hp : ∀ s ∈ l, s.ps.length ≤ 100000) : Pure Try.prog 30 [shsD l] (dI (checkI l)) := by
 have hm : ((l.map shC).length : Int) = l.length := by rw [List.length_map]
 refine pure_of pg Try.func30 (by kernel_rfl) ?_
 by_cases h10 : 10 < l.length
 ·have f1 : decide (((l.map shC).length : Int) > 10) = true := decide_eq_true (by rw [hm]; omega)
  have e : checkI l = 3 := by unfold checkI; rw [if_pos (.inl h10)]
  rw [e]
  conv => whnf
  (apply kT (f1); conv => whnf)
  rfl
 ·have f1 : decide (((l.map shC).length : Int) > 10) = false := decide_eq_false (by rw [hm]; omega)
  conv => whnf
  (apply kF (f1); conv => whnf)
  refine ⟨[], [0, 3], [], 0, fun m s => ∃ k : Nat, k + m = l.length ∧ (∀ i (h : i < k) (h1 : i < l.length), l[i].ps.length ≤ 100) ∧ s = ⟨[(0, .d (shsD l)), (3, .d (dI k))], [], 0⟩, ?_, ?_⟩
  ·conv => whnf
   exact ⟨l.length, 0, by omega, fun i h => by omega, rfl⟩
  ·rintro m _ ⟨k, hk, hall, rfl⟩
   by_cases hkl : k < l.length
   ·have f2 : decide ((k : Int) < ((l.map shC).length : Int)) = true := decide_eq_true (by rw [hm]; omega)
    have hmp : ((l[k].ps.map ptD).length : Int) = l[k].ps.length := by rw [List.length_map]
    by_cases h100 : l[k].ps.length ≤ 100
    ·have f3 : decide (((l[k].ps.map ptD).length : Int) > 100) = false := decide_eq_false (by rw [hmp]; omega)
     conv => whnf
     (repeat' (first | (apply kT (by with_reducible first | rfl | assumption); conv => whnf) | (apply kF (by with_reducible first | rfl | assumption); conv => whnf) | (apply kT (by decide); conv => whnf) | (apply kF (by decide); conv => whnf) | (apply kB <;> intro _ <;> conv => whnf) | (refine ⟨k, _, rfl, getsh l k hkl, rfl, ?_⟩; conv => whnf) | fail))
     refine ⟨m - 1, by omega, k + 1, by omega, fun i hi h1 => ?_, ?_⟩
     ·by_cases h : i < k
      ·exact hall i h h1
      ·have : i = k := by omega
       subst this
       exact h100
     ·rw [w1 k (by omega)]
    ·have f3 : decide (((l[k].ps.map ptD).length : Int) > 100) = true := decide_eq_true (by rw [hmp]; omega)
     have e : checkI l = 3 := by
      unfold checkI
      exact if_pos (.inr (List.all_eq_false.2 ⟨l[k], List.getElem_mem _, by unfold shortB; simpa using h100⟩))
     rw [e]
     conv => whnf
     (repeat' (first | (apply kT (by with_reducible first | rfl | assumption); conv => whnf) | (apply kF (by with_reducible first | rfl | assumption); conv => whnf) | (apply kT (by decide); conv => whnf) | (apply kF (by decide); conv => whnf) | (apply kB <;> intro _ <;> conv => whnf) | (refine ⟨k, _, rfl, getsh l k hkl, rfl, ?_⟩; conv => whnf) | fail))
     rfl
   ·have f2 : decide ((k : Int) < ((l.map shC).length : Int)) = false := decide_eq_false (by rw [hm]; omega)
    have hsh : l.all shortB = true := List.all_eq_true.2 fun s hs => by
     obtain ⟨i, hi, rfl⟩ := List.getElem_of_mem hs
     unfold shortB
     simpa using hall i (by omega) hi
    have he : checkI l = if l.all shB then 0 else 1 := by unfold checkI; rw [if_neg (by rw [hsh]; simp; omega)]
    rw [he]
    conv => whnf
    (apply kF (f2); conv => whnf)
    refine ⟨[], [0, 4], [], 0, fun m s => ∃ k : Nat, k + m = l.length ∧ (∀ i (h : i < k) (h1 : i < l.length), shB l[i] = true) ∧ s = ⟨[(0, .d (shsD l)), (4, .d (dI k))], [], 0⟩, ?_, ?_⟩
    ·conv => whnf
     exact ⟨l.length, 0, by omega, fun i h => by omega, rfl⟩
    ·rintro m _ ⟨k, hk, hall, rfl⟩
     by_cases hkl : k < l.length
     ·have f2 : decide ((k : Int) < ((l.map shC).length : Int)) = true := decide_eq_true (by rw [hm]; omega)
      have ci := isSheet_pure l[k] (hp _ (List.getElem_mem hkl))
      cases hs : shB l[k] with
      | true =>
       rw [hs] at ci
       conv => whnf
       (repeat' (first | (apply kT (by with_reducible first | rfl | assumption); conv => whnf) | (apply kF (by with_reducible first | rfl | assumption); conv => whnf) | (apply kT (by decide); conv => whnf) | (apply kF (by decide); conv => whnf) | (apply kB <;> intro _ <;> conv => whnf) | (refine ⟨k, _, rfl, getsh l k hkl, rfl, ?_⟩; conv => whnf) | (refine .inl ⟨_, ci, ?_⟩; conv => whnf) | fail))
       refine ⟨m - 1, by omega, k + 1, by omega, fun i hi h1 => ?_, ?_⟩
       ·by_cases h : i < k
        ·exact hall i h h1
        ·have : i = k := by omega
         subst this
         exact hs
       ·rw [w1 k (by omega)]
      | false =>
       rw [hs] at ci
       rw [if_neg (by rw [List.all_eq_true]; intro h; have := h _ (List.getElem_mem hkl); rw [hs] at this; cases this)]
       conv => whnf
       (repeat' (first | (apply kT (by with_reducible first | rfl | assumption); conv => whnf) | (apply kF (by with_reducible first | rfl | assumption); conv => whnf) | (apply kT (by decide); conv => whnf) | (apply kF (by decide); conv => whnf) | (apply kB <;> intro _ <;> conv => whnf) | (refine ⟨k, _, rfl, getsh l k hkl, rfl, ?_⟩; conv => whnf) | (refine .inl ⟨_, ci, ?_⟩; conv => whnf) | fail))
       rfl
     ·have f2 : decide ((k : Int) < ((l.map shC).length : Int)) = false := decide_eq_false (by rw [hm]; omega)
      rw [if_pos (List.all_eq_true.2 fun s hs => by
       obtain ⟨i, hi, rfl⟩ := List.getElem_of_mem hs
       exact hall i (by omega) hi)]
      conv => whnf
      (apply kF (f2); conv => whnf)
      rfl
theorem nodup_iff {l : List Sh} : (l.map Sh.n).Nodup ↔ ∀ i (h : i < l.length) j (hj : j < i), l[i].n ≠ (l[j]'(by omega)).n := by
 rw [List.Nodup, List.pairwise_map, List.pairwise_iff_getElem]
 constructor
 ·exact fun h i hi j hj e => h j i (by omega) hi hj e.symm
 ·exact fun h i j hi hj hij e => h j hj i hij e.symm
theorem refTwice_pure (l : List Sh) (hl : l.length ≤ 100000) : Pure Try.prog 31 [shsD l] (dB (!decide ((l.map Sh.n).Nodup))) := by
 have hm : ((l.map shC).length : Int) = l.length := by rw [List.length_map]
 refine pure_of pg Try.func31 (by kernel_rfl) ?_
 conv => whnf
 refine ⟨[], [0, 3], [], 0, fun m s => ∃ k : Nat, k + m = l.length ∧ (∀ i (h : i < l.length) (_ : i < k) j (hj : j < i), l[i].n ≠ (l[j]'(by omega)).n) ∧ s = ⟨[(0, .d (shsD l)), (3, .d (dI k))], [], 0⟩, ?_, ?_⟩
 ·conv => whnf
  exact ⟨l.length, 0, by omega, fun i h h2 => by omega, rfl⟩
 ·rintro m _ ⟨k, hk, hall, rfl⟩
  by_cases hkl : k < l.length
  ·have f1 : decide ((k : Int) < ((l.map shC).length : Int)) = true := decide_eq_true (by rw [hm]; omega)
   conv => whnf
   (repeat' (first | (apply kT (by with_reducible first | rfl | assumption); conv => whnf) | (apply kF (by with_reducible first | rfl | assumption); conv => whnf) | (apply kT (by decide); conv => whnf) | (apply kF (by decide); conv => whnf) | (apply kB <;> intro _ <;> conv => whnf) | fail))
   refine ⟨[], [0, 3, 4], [], 0, fun q s => ∃ j : Nat, j + q = k ∧ (∀ i (h : i < j) (h1 : i < l.length), l[k].n ≠ l[i].n) ∧ s = ⟨[(0, .d (shsD l)), (3, .d (dI k)), (4, .d (dI j))], [], 0⟩, ?_, ?_⟩
   ·conv => whnf
    exact ⟨k, 0, by omega, fun i h => by omega, rfl⟩
   ·rintro q _ ⟨j, hj, hin, rfl⟩
    by_cases hjk : j < k
    ·have f2 : decide ((j : Int) < (k : Int)) = true := decide_eq_true (by omega)
     by_cases he : l[k].n = (l[j]'(by omega)).n
     ·have f3 : (l[k].n == (l[j]'(by omega)).n) = true := by rw [he]; simp
      have hno : ¬ (l.map Sh.n).Nodup := fun h => nodup_iff.1 h k hkl j hjk he
      rw [decide_eq_false hno]
      conv => whnf
      (repeat' (first | (apply kT (by with_reducible first | rfl | assumption); conv => whnf) | (apply kF (by with_reducible first | rfl | assumption); conv => whnf) | (apply kT (by decide); conv => whnf) | (apply kF (by decide); conv => whnf) | (apply kB <;> intro _ <;> conv => whnf) | (refine ⟨k, _, rfl, getsh l k hkl, rfl, ?_⟩; conv => whnf) | (refine ⟨j, _, rfl, getsh l j (by omega), rfl, ?_⟩; conv => whnf) | fail))
      rfl
     ·have f3 : (l[k].n == (l[j]'(by omega)).n) = false := by rw [beq_eq_false_iff_ne]; exact he
      conv => whnf
      (repeat' (first | (apply kT (by with_reducible first | rfl | assumption); conv => whnf) | (apply kF (by with_reducible first | rfl | assumption); conv => whnf) | (apply kT (by decide); conv => whnf) | (apply kF (by decide); conv => whnf) | (apply kB <;> intro _ <;> conv => whnf) | (refine ⟨k, _, rfl, getsh l k hkl, rfl, ?_⟩; conv => whnf) | (refine ⟨j, _, rfl, getsh l j (by omega), rfl, ?_⟩; conv => whnf) | fail))
      refine ⟨q - 1, by omega, j + 1, by omega, fun i hi h1 => ?_, ?_⟩
      ·by_cases h : i < j
       ·exact hin i h h1
       ·have : i = j := by omega
        subst this
        exact he
      ·rw [w1 j (by omega)]
    ·have f2 : decide ((j : Int) < (k : Int)) = false := decide_eq_false (by omega)
     conv => whnf
     (apply kF (f2); conv => whnf)
     refine ⟨m - 1, by omega, k + 1, by omega, fun i h hi j' hj' => ?_, ?_⟩
     ·by_cases h2 : i < k
      ·exact hall i h h2 j' hj'
      ·have : i = k := by omega
       subst this
       exact hin j' (by omega) (by omega)
     ·rw [w1 k (by omega)]
  ·have f1 : decide ((k : Int) < ((l.map shC).length : Int)) = false := decide_eq_false (by rw [hm]; omega)
   have hyes : (l.map Sh.n).Nodup := nodup_iff.2 fun i h j hj => hall i h (by omega) j hj
   rw [decide_eq_true hyes]
   conv => whnf
   (apply kF (f1); conv => whnf)
   rfl
end Go.Ev.Ytljkplahkokpaaa


set_option linter.unusedVariables false
set_option linter.unusedSimpArgs false
set_option maxRecDepth 100000
namespace Go.Ev.Ytljkplahkokpaaa
open Go.Proofs
theorem grow_ge : ∀ (j : Nat) (l : List Pt) (room : Nat), room + 3 * j ≤ 38 → min j (l.length - 1) ≤ growN room l
 | 0, l, room, _ => by simp
 | j + 1, [], room, _ => by simp
 | j + 1, [a], room, _ => by simp
 | j + 1, a :: b :: r, room, h => by
  have hf := furL_len a b
  have ih := grow_ge j (b :: r) (room + (furL a b).length) (by omega)
  rw [growN_cons, if_pos (by omega)]
  simp only [List.length_cons] at *
  omega
theorem cutN_ge (l : List Pt) : min 10 l.length ≤ cutN l ∨ l.length = 0 := by
 have := grow_ge 9 l 10 (by omega)
 rcases Nat.eq_zero_or_pos l.length with h | h
 ·exact .inr h
 ·left
  unfold cutN
  omega
theorem cutsF_count : ∀ (f : Nat) (l : List Pt), l.length ≤ f → (cutsF f l).length ≤ (l.length + 9) / 10
 | 0, l, h => by rw [cutsF]; simp
 | f + 1, l, h => by
  rw [cutsF]
  split
  ·simp
  ·rename_i h0
   have h1 := cutN_le (l := l) (by omega)
   have h2 := (cutN_ge l).resolve_right (by omega)
   have ih := cutsF_count f (l.drop (cutN l)) (by rw [List.length_drop]; omega)
   rw [List.length_drop] at ih
   rw [List.length_cons]
   omega
theorem cuts_count (l : List Pt) : (cuts l).length ≤ (l.length + 9) / 10 := cutsF_count _ _ (Nat.le_refl _)
theorem cutsF_more : ∀ (f g : Nat) (l : List Pt), l.length ≤ f → l.length ≤ g → cutsF f l = cutsF g l
 | 0, 0, l, _, _ => rfl
 | 0, g + 1, l, h, _ => by rw [cutsF, cutsF, if_pos (by omega)]
 | f + 1, 0, l, _, h => by rw [cutsF, cutsF, if_pos (by omega)]
 | f + 1, g + 1, l, hf, hg => by
  rw [cutsF, cutsF]
  split
  ·rfl
  ·rename_i h0
   have h1 := cutN_le (l := l) (by omega)
   rw [cutsF_more f g (l.drop (cutN l)) (by rw [List.length_drop]; omega) (by rw [List.length_drop]; omega)]
theorem cuts_cons {l : List Pt} (h : 0 < l.length) : cuts l = l.take (cutN l) :: cuts (l.drop (cutN l)) := by
 have h1 := cutN_le h
 have e : l.length = (l.length - 1) + 1 := by omega
 unfold cuts
 conv => lhs; rw [e, cutsF]
 rw [if_neg (by omega), cutsF_more (l.length - 1) (l.drop (cutN l)).length _ (by rw [List.length_drop]; omega) (Nat.le_refl _)]
def ahead (l : List Pt) (i : Nat) : Nat := ((cuts l).take i).flatten.length
end Go.Ev.Ytljkplahkokpaaa


set_option linter.unusedVariables false
set_option linter.unusedSimpArgs false
set_option maxRecDepth 100000
namespace Go.Ev.Ytljkplahkokpaaa
open Go.Proofs
theorem thinB_ok {l : List Sh} (h : thinB l = true) : l.length ≤ 12 ∧ ∀ s ∈ l, s.ps.length ≤ 110 := by
 unfold thinB at h
 rw [Bool.and_eq_true, decide_eq_true_eq, List.all_eq_true] at h
 exact ⟨h.1, fun s hs => by simpa using h.2 s hs⟩
theorem valid_sheet {l : List Sh} (h : checkI l = 0) {s : Sh} (hs : s ∈ l) : PtsOK s.ps ∧ s.ps.length ≤ 100 ∧ 0 ≤ s.n ∧ s.n ≤ 9999 := by
 obtain ⟨h1, h2⟩ := checkI_ok.1 h
 obtain ⟨q1, q2⟩ := h2 s hs
 obtain ⟨p1, p2, p3⟩ := shB_ok.1 q2
 exact ⟨p3, q1, p1, p2⟩
theorem fileL_by {l : List Sh} (h : ∀ s ∈ l, PtsOK s.ps) : By (fileL l) := by
 refine flat_by fun x hx => ?_
 obtain ⟨s, hs, rfl⟩ := List.mem_map.1 hx
 refine flat_by fun y hy => ?_
 obtain ⟨c, hc, rfl⟩ := List.mem_map.1 hy
 obtain ⟨q1, q2⟩ := cardsL_ok (runB_ok.1 (h s hs)).2.2
 exact layB_by (q1 c hc).1 (q1 c hc).2.2
def WriteL (l : List Sh) : List Int × Int := if checkI l = 0 then writeI l else ([], checkI l)
def CardsL (s : Sh) : List Cd × Int := if checkI [s] = 0 then (cardsL s, 0) else ([], checkI [s])
theorem Cards_pure (s : Sh) (hl : s.ps.length ≤ 100000) : Pure Try.prog 26 [.agg (shC s)] (.tup [.seq ((CardsL s).1.map bytesRow), dI (CardsL s).2]) := by
 unfold CardsL
 split
 ·rename_i h; exact Cards_ok s h
 ·rename_i h; exact Cards_bad s hl h
def wantI (l : List Sh) : Int := if checkI l = 0 then (if (l.map Sh.n).Nodup then 0 else 6) else checkI l
theorem shL (l : List Sh) : ∀ el ∈ l.map shC, el.length = 2 := fun el h => by
 rw [List.mem_map] at h; obtain ⟨x, _, rfl⟩ := h; rfl
theorem Cards_as {s : Sh} {b : List Cd} {e : Int} (hl : s.ps.length ≤ 100000) (h : CardsL s = (b, e)) : Pure Try.prog 26 [.agg (shC s)] (.tup [.seq (b.map bytesRow), dI e]) := by
 have := Cards_pure s hl
 rw [h] at this
 exact this
attribute [local irreducible] Pure Bor Iter Pan layB cardsL cuts refCard checkI thinB fileL
end Go.Ev.Ytljkplahkokpaaa


set_option linter.unusedVariables false
set_option linter.unusedSimpArgs false
set_option maxRecDepth 100000
namespace Go.Ev.Ytljkplahkokpaaa
open Go.Proofs
theorem check_one {s : Sh} (h1 : s.ps.length ≤ 100) (h2 : shB s = true) : checkI [s] = 0 := checkI_ok.2 ⟨by simp, fun x hx => by rw [List.mem_singleton.1 hx]; exact ⟨h1, h2⟩⟩
theorem cards_at (s : Sh) (k : Nat) (h : k < (cardsL s).length) : (cardsL s)[k] = ⟨s.n, k, (cuts s.ps).length, (cuts s.ps)[k]'(by rw [← cards_len]; exact h)⟩ := by
 have h2 : k < (cuts s.ps).length := by rw [← cards_len]; exact h
 have := cards_get s k h2
 rw [List.getElem?_eq_getElem h] at this
 exact Option.some.inj this
attribute [local irreducible] Pure Bor Iter Pan layB cardsL cuts refCard checkI thinB fileL shB cutN growN
end Go.Ev.Ytljkplahkokpaaa


set_option linter.unusedVariables false
set_option linter.unusedSimpArgs false
set_option maxRecDepth 100000
namespace Go.Ev.Ytljkplahkokpaaa
open Go.Proofs
def lackF (n : Int) : Nat → Nat → List Cd → List (Int × Int)
 | 0, _, _ => []
 | j + 1, i, [] => (n, (i : Int)) :: lackF n j (i + 1) []
 | j + 1, i, c :: r => bif c.i == (i : Int) then lackF n j (i + 1) r else (n, (i : Int)) :: lackF n j (i + 1) (c :: r)
def lacks : List Cd → List (Int × Int)
 | [] => []
 | h :: t => lackF h.n h.m.toNat 0 (h :: t)
def missG (G : List (List Cd)) : List (Int × Int) := (G.map lacks).flatten
def MissL (l : List Int) : List (Int × Int) × Int := (missG (openL l).1, (openL l).2.2)
abbrev lkC (p : Int × Int) : List D := [dI p.1, dI p.2]
theorem missG_take (G : List (List Cd)) {k : Nat} (h : k < G.length) : missG (G.take (k + 1)) = missG (G.take k) ++ lacks G[k] := by
 unfold missG
 rw [List.take_add_one, List.getElem?_eq_getElem h, List.map_append, List.flatten_append]; simp
theorem lackF_nil (n : Int) (j i : Nat) : lackF n (j + 1) i [] = (n, (i : Int)) :: lackF n j (i + 1) [] := by rw [lackF]
theorem lackF_hit {n : Int} {j i : Nat} {c : Cd} {r : List Cd} (h : c.i = (i : Int)) : lackF n (j + 1) i (c :: r) = lackF n j (i + 1) r := by
 rw [lackF, h]; simp
theorem lackF_no {n : Int} {j i : Nat} {c : Cd} {r : List Cd} (h : c.i ≠ (i : Int)) : lackF n (j + 1) i (c :: r) = (n, (i : Int)) :: lackF n j (i + 1) (c :: r) := by
 rw [lackF, show (c.i == (i : Int)) = false from by rw [beq_eq_false_iff_ne]; exact h, cond_false]
theorem lackF_len (n : Int) : ∀ (j i : Nat) (r : List Cd), (lackF n j i r).length ≤ j
 | 0, _, _ => by rw [lackF]; exact Nat.le_refl _
 | j + 1, i, [] => by
  have := lackF_len n j (i + 1) []
  rw [lackF, List.length_cons]; omega
 | j + 1, i, c :: r => by
  rw [lackF]
  cases c.i == (i : Int) with
  | true => have := lackF_len n j (i + 1) r; rw [cond_true]; omega
  | false => have := lackF_len n j (i + 1) (c :: r); rw [cond_false, List.length_cons]; omega
theorem missG_len : ∀ {G : List (List Cd)}, (∀ g ∈ G, ∀ c ∈ g, CdOK c) → (missG G).length ≤ G.length * 20
 | [], _ => by simp [missG]
 | g :: G, h => by
  have ih := missG_len (G := G) fun x hx => h x (by simp [hx])
  have e : missG (g :: G) = lacks g ++ missG G := rfl
  have hl : (lacks g).length ≤ 20 := by
   cases g with
   | nil => simp [lacks]
   | cons a t =>
    have h1 := lackF_len a.n a.m.toNat 0 (a :: t)
    have h2 := (h (a :: t) (by simp) a (by simp)).2.1
    exact Nat.le_trans h1 (by omega)
  rw [e, List.length_append, List.length_cons]
  omega
attribute [local irreducible] Pure Bor Iter Pan layB cardsL cuts refCard checkI thinB fileL openL lackF
theorem Missing_pure (l : List Int) (hl : l.length ≤ 100000) (hb : By l) : Pure Try.prog 42 [bsD l] (.tup [.seq ((MissL l).1.map lkC), dI (MissL l).2]) := by
 have co := open_pure l hl hb
 have hE := openL_err (l := l)
 have hGs := openL_gs hl hb
 unfold MissL
 generalize openL l = r at *
 obtain ⟨G, sp, e⟩ := r
 dsimp only at *
 have co : Pure Try.prog 51 [bsD l] (.tup [gpsD G, dI sp, dI e]) := co
 have hm : ((G.map fun g => [gpD g]).length : Int) = G.length := by rw [List.length_map]
 obtain ⟨hG1, hG2⟩ := hGs
 refine pure_of pg Try.func42 (by kernel_rfl) ?_
 by_cases he : e = 0
 ·have f1 : (e != 0) = false := by simp [he]
  rw [he]
  subst he
  conv => whnf
  (refine .inl ⟨_, co, ?_⟩; conv => whnf)
  (apply kF (f1); conv => whnf)
  refine ⟨[.own 7 86], [7, 21, 22, 23], [0], 1, fun m s => ∃ k : Nat, k + m = G.length ∧ s = ⟨[(7, .own 0), (21, .d (gpsD G)), (22, .d (dI (G.map fun g => [gpD g]).length)), (23, .d (dI k))], [(0, .arr 86 ((missG (G.take k)).map lkC))], 1⟩, ?_, ?_⟩
  ·conv => whnf
   exact ⟨G.length, 0, by omega, rfl⟩
  ·rintro m _ ⟨k, hk, rfl⟩
   by_cases hkl : k < G.length
   ·have f2 : decide ((k : Int) < ((G.map fun g => [gpD g]).length : Int)) = true := decide_eq_true (by rw [hm]; omega)
    obtain ⟨hgne, hgl, hgc⟩ := hG2 _ (List.getElem_mem hkl)
    have htk := missG_take G hkl
    have hml := missG_len (G := G.take k) fun g hg c hc => (hG2 g (List.mem_of_mem_take hg)).2.2 c hc
    rw [List.length_take] at hml
    have hgt := getgp G k hkl
    generalize hgd : G[k] = g at *
    obtain ⟨h, t, rfl⟩ : ∃ h t, g = h :: t := by
     cases g with
     | nil => exact absurd rfl hgne
     | cons h t => exact ⟨h, t, rfl⟩
    have hc0 := hgc h (by simp)
    obtain ⟨_, ⟨m1, m2⟩, _⟩ := hc0
    have hmg : ((((h :: t).map cdC).length : Nat) : Int) = ((h :: t).length : Nat) := by rw [List.length_map]
    conv => whnf
    (repeat' (first | (apply kT (by with_reducible first | rfl | assumption); conv => whnf) | (apply kF (by with_reducible first | rfl | assumption); conv => whnf) | (apply kT (by decide); conv => whnf) | (apply kF (by decide); conv => whnf) | (apply kB <;> intro _ <;> conv => whnf) | (refine ⟨k, _, rfl, hgt, rfl, ?_⟩; conv => whnf) | (refine ⟨0, _, rfl, rfl, rfl, ?_⟩; conv => whnf) | fail))
    obtain ⟨M, hM⟩ : ∃ M : Nat, h.m = M := ⟨h.m.toNat, by omega⟩
    have hla : lacks (h :: t) = lackF h.n M 0 (h :: t) := by show lackF h.n h.m.toNat 0 (h :: t) = _; rw [hM]; rfl
    rw [hla] at htk
    generalize hgg : h :: t = g at *
    have hgl0 : 0 < g.length := by rw [← hgg]; simp
    have hg0 : (g.map cdC)[0]? = some (cdC h) := by rw [← hgg]; rfl
    refine ⟨[], [7, 9, 10, 21, 22, 23, 30, 31], [0], 1, fun q s => ∃ (i a : Nat) (P : List (Int × Int)), i + q = M ∧ a ≤ g.length ∧ P.length ≤ i ∧ lackF h.n M 0 g = P ++ lackF h.n q i (g.drop a) ∧ s = ⟨[(7, .own 0), (9, .d (gpD g)), (10, .d (dI a)), (21, .d (gpsD G)), (22, .d (dI (G.map fun g => [gpD g]).length)), (23, .d (dI k)), (30, .d (dI h.m)), (31, .d (dI i))], [(0, .arr 86 ((missG (G.take k) ++ P).map lkC))], 1⟩, ?_, ?_⟩
    ·conv => whnf
     refine ⟨M, 0, 0, [], by omega, by omega, by simp, by simp, ?_⟩
     rw [List.append_nil]
     rfl
    ·rintro q _ ⟨i, a, P, hi, ha, hP, hlk, rfl⟩
     by_cases hiM : i < M
     ·have f3 : decide ((i : Int) < h.m) = true := decide_eq_true (by omega)
      obtain ⟨q', rfl⟩ : ∃ q', q = q' + 1 := ⟨q - 1, by omega⟩
      have hbound : ((missG (G.take k) ++ P).map lkC).length + 1 ≤ 200000 := by rw [List.length_map, List.length_append]; omega
      by_cases hag : a < g.length
      ·have f4 : decide ((a : Int) < ((g.map cdC).length : Int)) = true := decide_eq_true (by rw [hmg]; omega)
       have hd : g.drop a = g[a] :: g.drop (a + 1) := List.drop_eq_getElem_cons hag
       rw [hd] at hlk
       by_cases hit : g[a].i = (i : Int)
       ·have f5 : (g[a].i == (i : Int)) = true := by rw [hit]; simp
        rw [lackF_hit hit] at hlk
        conv => whnf
        (repeat' (first | (apply kT (by with_reducible first | rfl | assumption); conv => whnf) | (apply kF (by with_reducible first | rfl | assumption); conv => whnf) | (apply kT (by decide); conv => whnf) | (apply kF (by decide); conv => whnf) | (apply kB <;> intro _ <;> conv => whnf) | (refine ⟨a, _, rfl, getcd g a hag, rfl, ?_⟩; conv => whnf) | fail))
        refine ⟨q', by omega, i + 1, a + 1, P, by omega, by omega, by omega, hlk, ?_⟩
        rw [w1 i (by omega), w1 a (by omega)]
       ·have f5 : (g[a].i == (i : Int)) = false := by rw [beq_eq_false_iff_ne]; exact hit
        rw [lackF_no hit, ← hd] at hlk
        conv => whnf
        (repeat' (first | (apply kT (by with_reducible first | rfl | assumption); conv => whnf) | (apply kF (by with_reducible first | rfl | assumption); conv => whnf) | (apply kT (by decide); conv => whnf) | (apply kF (by decide); conv => whnf) | (apply kB <;> intro _ <;> conv => whnf) | (refine ⟨a, _, rfl, getcd g a hag, rfl, ?_⟩; conv => whnf) | fail))
        (refine ⟨0, _, rfl, hg0, rfl, ?_⟩; conv => whnf)
        (refine .l ?_; conv => whnf)
        (refine ⟨fun el h => by rw [List.mem_singleton.1 h]; rfl, by show (_ + 1) * 16 ≤ _; omega, ?_⟩; conv => whnf)
        refine ⟨q', by omega, i + 1, a, P ++ [(h.n, (i : Int))], by omega, by omega, by rw [List.length_append]; simp; omega, by rw [hlk]; simp, ?_⟩
        rw [w1 i (by omega), ← List.append_assoc, List.map_append (l₁ := missG _ ++ P)]
        rfl
      ·have f4 : decide ((a : Int) < ((g.map cdC).length : Int)) = false := decide_eq_false (by rw [hmg]; omega)
       have hd : g.drop a = [] := List.drop_of_length_le (by omega)
       rw [hd, lackF_nil] at hlk
       conv => whnf
       (repeat' (first | (apply kT (by with_reducible first | rfl | assumption); conv => whnf) | (apply kF (by with_reducible first | rfl | assumption); conv => whnf) | (apply kT (by decide); conv => whnf) | (apply kF (by decide); conv => whnf) | (apply kB <;> intro _ <;> conv => whnf) | fail))
       (refine ⟨0, _, rfl, hg0, rfl, ?_⟩; conv => whnf)
       (refine .l ?_; conv => whnf)
       (refine ⟨fun el h => by rw [List.mem_singleton.1 h]; rfl, by show (_ + 1) * 16 ≤ _; omega, ?_⟩; conv => whnf)
       refine ⟨q', by omega, i + 1, a, P ++ [(h.n, (i : Int))], by omega, by omega, by rw [List.length_append]; simp; omega, by rw [hlk, hd]; simp, ?_⟩
       rw [w1 i (by omega), ← List.append_assoc, List.map_append (l₁ := missG _ ++ P)]
       rfl
     ·have f3 : decide ((i : Int) < h.m) = false := decide_eq_false (by omega)
      have hq : q = 0 := by omega
      subst hq
      have e0 : lackF h.n 0 i (g.drop a) = [] := by rw [lackF]
      rw [e0, List.append_nil] at hlk
      conv => whnf
      (apply kF (f3); conv => whnf)
      refine ⟨m - 1, by omega, k + 1, by omega, ?_⟩
      rw [w1 k (by omega), htk, hlk]
   ·have f2 : decide ((k : Int) < ((G.map fun g => [gpD g]).length : Int)) = false := decide_eq_false (by rw [hm]; omega)
    rw [List.take_of_length_le (show G.length ≤ k by omega)]
    conv => whnf
    (apply kF (f2); conv => whnf)
    rfl
 ·obtain ⟨q1, q2⟩ := hE he
  have f1 : (e != 0) = true := by simpa using he
  subst q1 q2
  conv => whnf
  (refine .inl ⟨_, co, ?_⟩; conv => whnf)
  (apply kT (f1); conv => whnf)
  rfl
end Go.Ev.Ytljkplahkokpaaa


set_option linter.unusedVariables false
set_option linter.unusedSimpArgs false
set_option maxRecDepth 100000
namespace Go.Ev.Ytljkplahkokpaaa
open Go.Proofs
def pieceF : List Pt → Int → List Cd → List (List Pt)
 | cur, _, [] => [cur]
 | cur, i, c :: r => bif i + 1 == c.i then pieceF (cur ++ c.ps) c.i r else cur :: pieceF c.ps c.i r
def piecesC : List Cd → List (List Pt)
 | [] => []
 | h :: t => pieceF h.ps h.i t
def headN : List Cd → Int
 | [] => -1
 | h :: _ => h.n
def piecesG (n : Int) : List (List Cd) → List (List Pt)
 | [] => []
 | g :: G => bif headN g != n then piecesG n G else piecesC g ++ piecesG n G
def PiecesL (l : List Int) (n : Int) : List (List Pt) × Int :=
 bif (openL l).2.2 != 0 then ([], (openL l).2.2) else bif !inB n 0 9999 then ([], 2) else bif (piecesG n (openL l).1).length == 0 then ([], 7) else (piecesG n (openL l).1, 0)
theorem piecesG_append (n : Int) : ∀ (A B : List (List Cd)), piecesG n (A ++ B) = piecesG n A ++ piecesG n B
 | [], B => rfl
 | g :: A, B => by
  rw [List.cons_append, piecesG, piecesG, piecesG_append n A B]
  cases headN g != n with
  | true => rfl
  | false => simp
theorem piecesG_take (n : Int) (G : List (List Cd)) {k : Nat} (h : k < G.length) : piecesG n (G.take (k + 1)) = piecesG n (G.take k) ++ (bif headN G[k] != n then [] else piecesC G[k]) := by
 rw [List.take_add_one, List.getElem?_eq_getElem h, piecesG_append]
 congr 1
 show piecesG n [G[k]] = _
 rw [piecesG, piecesG, List.append_nil]
theorem pieceF_nil (cur : List Pt) (i : Int) : pieceF cur i [] = [cur] := by rw [pieceF]
theorem pieceF_on {cur : List Pt} {i : Int} {c : Cd} {r : List Cd} (h : i + 1 = c.i) : pieceF cur i (c :: r) = pieceF (cur ++ c.ps) c.i r := by rw [pieceF, h]; simp
theorem pieceF_new {cur : List Pt} {i : Int} {c : Cd} {r : List Cd} (h : i + 1 ≠ c.i) : pieceF cur i (c :: r) = cur :: pieceF c.ps c.i r := by
 rw [pieceF, show (i + 1 == c.i) = false from by rw [beq_eq_false_iff_ne]; exact h, cond_false]
theorem cloneP_bor (l : List Pt) (h0 : 0 < l.length) (hl : l.length ≤ 100000) : Bor tb Try.prog 68 [.d (ptsD l)] [] 1 (.own 0) [(0, .arr 74 (l.map ptD))] := by
 have hne : l.map ptD ≠ [] := by intro h; rw [List.map_eq_nil_iff] at h; rw [h] at h0; simp at h0
 have hel : ∀ x ∈ l.map ptD, x.length = 2 := fun x h => by rw [List.mem_map] at h; obtain ⟨y, _, rfl⟩ := h; rfl
 have hb : (0 + (l.map ptD).length) * 16 ≤ 140737488355328 := by rw [List.length_map]; omega
 refine bor_ofO pg Try.func68 (by kernel_rfl) ?_
 conv => whnf
 (refine ⟨hne, ?_⟩; conv => whnf)
 (repeat' (first | (apply kT (by with_reducible first | rfl | assumption); conv => whnf) | (apply kF (by with_reducible first | rfl | assumption); conv => whnf) | (apply kT (by decide); conv => whnf) | (apply kF (by decide); conv => whnf) | (apply kB <;> intro _ <;> conv => whnf) | fail))
 (refine ⟨hel, hb, ?_⟩; conv => whnf)
 (refine ⟨[0], ?_⟩; conv => whnf)
 exact ⟨rfl, rfl⟩
abbrev ppA (done : List (List Pt)) : List A := done.map fun p => A.d (ptsD p)
theorem invP (ρ : List Nat) (x : A) : ∀ done : List (List Pt), invAL ρ (ppA done ++ [x]) = ppA done ++ [invA ρ x]
 | [] => rfl
 | g :: r => by rw [ppA, List.map_cons, List.cons_append, invAL, invP ρ x r]; rfl
theorem frzPp (i : Nat) (d : D) : ∀ done : List (List Pt), frzAL [(i, d)] (ppA done ++ [.own i]) = ppA done ++ [.d d]
 | [] => by show [frzA [(i, d)] (.own i)] = _; rw [frzA, lookD, beq_self]; rfl
 | g :: r => by rw [ppA, List.map_cons, List.cons_append, frzAL, frzPp i d r]; rfl
theorem onlyPp {os : List Nat} {x : A} (h : x.onlyB os = true) : ∀ done : List (List Pt), A.onlyL os (ppA done ++ [x]) = true
 | [] => by show (x.onlyB os && true) = true; rw [h]; rfl
 | g :: r => by rw [ppA, List.map_cons, List.cons_append, A.onlyL, onlyPp h r]; rfl
def pcO (out : List (List Pt)) (ob : List (Nat × Ob)) : Prop :=
 (out = [] ∧ ∃ X : List Pt, ob = [(0, .arr 74 (X.map ptD)), (1, .arw 48 [])]) ∨
 ∃ (done : List (List Pt)) (cur : List Pt), out = done ++ [cur] ∧ ob = [(0, .arr 74 (cur.map ptD)), (1, .arw 48 (ppA done ++ [.own 0]))]
theorem pieceF_len : ∀ (r : List Cd) (cur : List Pt) (i : Int), (pieceF cur i r).length ≤ 1 + r.length
 | [], cur, i => by rw [pieceF]; simp
 | c :: r, cur, i => by
  rw [pieceF]
  cases i + 1 == c.i with
  | true => have := pieceF_len r (cur ++ c.ps) c.i; rw [cond_true, List.length_cons]; omega
  | false => have := pieceF_len r c.ps c.i; rw [cond_false, List.length_cons, List.length_cons]; omega
theorem piecesC_len (g : List Cd) : (piecesC g).length ≤ g.length := by
 cases g with
 | nil => exact Nat.le_refl _
 | cons h t => have := pieceF_len t h.ps h.i; rw [List.length_cons]; show (pieceF h.ps h.i t).length ≤ _; omega
theorem piecesG_len (n : Int) : ∀ {G : List (List Cd)}, (∀ g ∈ G, g.length ≤ 5000) → (piecesG n G).length ≤ 5000 * G.length
 | [], _ => by simp [piecesG]
 | g :: G, h => by
  have ih := piecesG_len n (G := G) fun x hx => h x (by simp [hx])
  have h1 := piecesC_len g
  have h2 := h g (by simp)
  rw [piecesG, List.length_cons]
  cases headN g != n with
  | true => rw [cond_true]; omega
  | false => rw [cond_false, List.length_append]; omega
theorem piecesG_nil (n : Int) : piecesG n [] = [] := rfl
theorem piecesC_cons (h : Cd) (t : List Cd) : piecesC (h :: t) = pieceF h.ps h.i t := rfl
attribute [local irreducible] Pure Bor Iter Pan layB cardsL cuts refCard checkI thinB fileL openL pieceF piecesG piecesC
theorem Pieces_pure (l : List Int) (n : Int) (hl : l.length ≤ 100000) (hb : By l) : Pure Try.prog 40 [bsD l, dI n] (.tup [.seq ((PiecesL l n).1.map rowP), dI (PiecesL l n).2]) := by
 have co := open_pure l hl hb
 have hE := openL_err (l := l)
 have hGs := openL_gs hl hb
 have cw := within_pure n 0 9999
 unfold PiecesL
 generalize openL l = r at *
 obtain ⟨G, sp, e⟩ := r
 dsimp only at *
 have co : Pure Try.prog 51 [bsD l] (.tup [gpsD G, dI sp, dI e]) := co
 have hm : ((G.map fun g => [gpD g]).length : Int) = G.length := by rw [List.length_map]
 obtain ⟨hG1, hG2⟩ := hGs
 by_cases he : e = 0
 ·have f1 : (e != 0) = false := by simp [he]
  rw [f1, cond_false]
  cases hin : inB n 0 9999 with
  | false =>
   rw [hin] at cw
   refine pure_of pg Try.func40 (by kernel_rfl) ?_
   conv => whnf
   (repeat' (first | (apply kT (by with_reducible first | rfl | assumption); conv => whnf) | (apply kF (by with_reducible first | rfl | assumption); conv => whnf) | (apply kT (by decide); conv => whnf) | (apply kF (by decide); conv => whnf) | (apply kB <;> intro _ <;> conv => whnf) | (refine .inl ⟨_, co, ?_⟩; conv => whnf) | (refine .inl ⟨_, cw, ?_⟩; conv => whnf) | fail))
   rfl
  | true =>
   rw [hin] at cw
   rw [Bool.not_true, cond_false]
   obtain ⟨R, hR⟩ : ∃ R, R = piecesG n G := ⟨_, rfl⟩
   rw [← hR]
   refine pure_of_v pg Try.func40 (by kernel_rfl) ?_
   conv => whnf
   (repeat' (first | (apply kT (by with_reducible first | rfl | assumption); conv => whnf) | (apply kF (by with_reducible first | rfl | assumption); conv => whnf) | (apply kT (by decide); conv => whnf) | (apply kF (by decide); conv => whnf) | (apply kB <;> intro _ <;> conv => whnf) | (refine .inl ⟨_, co, ?_⟩; conv => whnf) | (refine .inl ⟨_, cw, ?_⟩; conv => whnf) | fail))
   refine ⟨[.own 4 74, .ownw 9 48, .rex], [1, 9, 28, 29, 30], [0, 1], 2, fun m s => ∃ (k : Nat) (ob : List (Nat × Ob)), k + m = G.length ∧ pcO (piecesG n (G.take k)) ob ∧ s = ⟨[(1, .d (dI n)), (9, .own 1), (28, .d (gpsD G)), (29, .d (dI (G.map fun g => [gpD g]).length)), (30, .d (dI k))], ob, 2⟩, ?_, ?_⟩
   ·conv => whnf
    (refine ⟨rfl, ?_⟩; conv => whnf)
    exact ⟨G.length, 0, _, by omega, .inl ⟨by rw [List.take_zero, piecesG_nil], [], rfl⟩, rfl⟩
   ·rintro m _ ⟨k, ob, hk, hob, rfl⟩
    by_cases hkl : k < G.length
    ·have f2 : decide ((k : Int) < ((G.map fun g => [gpD g]).length : Int)) = true := decide_eq_true (by rw [hm]; omega)
     obtain ⟨hgne, hgl, hgc⟩ := hG2 _ (List.getElem_mem hkl)
     have htk := piecesG_take n G hkl
     have hgt := getgp G k hkl
     have hlen1 := piecesG_len n (G := G.take (k + 1)) fun g hg => (hG2 g (List.mem_of_mem_take hg)).2.1
     rw [List.length_take] at hlen1
     generalize hT : piecesG n (G.take (k + 1)) = T at *
     generalize hO : piecesG n (G.take k) = O at *
     generalize hgd : G[k] = g at *
     obtain ⟨h, t, hgt2⟩ : ∃ h t, g = h :: t := by
      cases g with
      | nil => exact absurd rfl hgne
      | cons h t => exact ⟨h, t, rfl⟩
     have hgl0 : 0 < g.length := by rw [hgt2]; simp
     have hg0 : (g.map cdC)[0]? = some (cdC h) := by rw [hgt2]; rfl
     have hhd : headN g = h.n := by rw [hgt2]; rfl
     have hg0' : ∀ h0 : 0 < g.length, g[0] = h := fun _ => by simp only [hgt2, List.getElem_cons_zero]
     have hdr1 : g.drop 1 = t := by rw [hgt2]; rfl
     have hmg : ((g.map cdC).length : Int) = g.length := by rw [List.length_map]
     rw [hhd] at htk
     by_cases hn : h.n = n
     ·have f3 : (h.n != n) = false := by simp [hn]
      rw [f3, cond_false] at htk
      have hpc : piecesC g = pieceF h.ps h.i t := by rw [hgt2, piecesC_cons]
      rw [hpc] at htk
      conv => whnf
      (repeat' (first | (apply kT (by with_reducible first | rfl | assumption); conv => whnf) | (apply kF (by with_reducible first | rfl | assumption); conv => whnf) | (apply kT (by decide); conv => whnf) | (apply kF (by decide); conv => whnf) | (apply kB <;> intro _ <;> conv => whnf) | (refine ⟨k, _, rfl, hgt, rfl, ?_⟩; conv => whnf) | (refine ⟨0, _, rfl, hg0, rfl, ?_⟩; conv => whnf) | fail))
      refine ⟨[.rex], [1, 9, 11, 28, 29, 30, 40, 41, 42], [0, 1], 2, fun q s => ∃ (j : Nat) (ob : List (Nat × Ob)), j + q = g.length ∧
       ((j = 0 ∧ pcO O ob) ∨ ∃ (done : List (List Pt)) (cur : List Pt) (j' : Nat) (hj' : j' < g.length), j = j' + 1 ∧ cur.length ≤ 15 * j ∧ T = done ++ pieceF cur g[j'].i (g.drop j) ∧ ob = [(0, .arr 74 (cur.map ptD)), (1, .arw 48 (ppA done ++ [.own 0]))]) ∧
       s = ⟨[(1, .d (dI n)), (9, .own 1), (11, .d (gpD g)), (28, .d (gpsD G)), (29, .d (dI (G.map fun g => [gpD g]).length)), (30, .d (dI k)), (40, .d (gpD g)), (41, .d (dI (g.map cdC).length)), (42, .d (dI j))], ob, 2⟩, ?_, ?_⟩
      ·rcases hob with ⟨hO0, X, rfl⟩ | ⟨done, cur, hO1, rfl⟩
       ·conv => whnf
        (refine ⟨rfl, ?_⟩; conv => whnf)
        exact ⟨g.length, 0, _, by omega, .inl ⟨rfl, .inl ⟨hO0, X, rfl⟩⟩, rfl⟩
       ·conv => whnf
        (refine ⟨onlyPp rfl _, ?_⟩; conv => whnf)
        exact ⟨g.length, 0, _, by omega, .inl ⟨rfl, .inr ⟨done, cur, hO1, rfl⟩⟩, rfl⟩
      ·rintro q _ ⟨j, ob, hj, hst, rfl⟩
       by_cases hjl : j < g.length
       ·have g1 : decide ((j : Int) < ((g.map cdC).length : Int)) = true := decide_eq_true (by rw [hmg]; omega)
        have hcj := hgc _ (List.getElem_mem hjl)
        have hcm := hcj.many
        have ccl := cloneP_bor g[j].ps hcm.1 (by omega)
        rcases hst with ⟨rfl, ⟨hO0, X, rfl⟩ | ⟨done, cur, hO1, rfl⟩⟩ | ⟨done, cur, j', hj', rfl, hcur, hTd, rfl⟩
        ·conv => whnf
         (repeat' (first | (apply kT (by with_reducible first | rfl | assumption); conv => whnf) | (apply kF (by with_reducible first | rfl | assumption); conv => whnf) | (apply kT (by decide); conv => whnf) | (apply kF (by decide); conv => whnf) | (apply kB <;> intro _ <;> conv => whnf) | (refine ⟨0, _, rfl, getcd g 0 hjl, rfl, ?_⟩; conv => whnf) | (refine .inr ⟨[], 1, _, _, ccl, ?_⟩; conv => whnf) | fail))
         (refine .r ⟨[], ?_⟩; conv => whnf)
         (refine ⟨_, rfl, ?_⟩; conv => whnf)
         (refine ⟨by decide, [.own 115], rfl, ?_⟩; conv => whnf)
         (refine ⟨[115, 117], ?_⟩; conv => whnf)
         (refine ⟨rfl, ?_⟩; conv => whnf)
         refine ⟨q - 1, by omega, 1, _, by omega, .inr ⟨[], g[0].ps, 0, hjl, rfl, by omega, by rw [htk, hO0, hg0', hdr1], rfl⟩, ?_⟩
         rw [w1 0 (by omega)]
         rfl
        ·have hdl : done.length ≤ 30000000 := by
          have := congrArg List.length htk
          rw [hO1, List.length_append, List.length_append] at this
          simp only [List.length_singleton] at this
          omega
         conv => whnf
         (repeat' (first | (apply kT (by with_reducible first | rfl | assumption); conv => whnf) | (apply kF (by with_reducible first | rfl | assumption); conv => whnf) | (apply kT (by decide); conv => whnf) | (apply kF (by decide); conv => whnf) | (apply kB <;> intro _ <;> conv => whnf) | (refine ⟨0, _, rfl, getcd g 0 hjl, rfl, ?_⟩; conv => whnf) | (refine .inr ⟨[], 1, _, _, ccl, ?_⟩; conv => whnf) | fail))
         (refine .r ⟨[0], ?_⟩; conv => whnf)
         (refine ⟨_, rfl, ?_⟩; conv => whnf)
         (refine ⟨_, frzPp 0 _ done, ?_⟩; conv => whnf)
         (refine ⟨by rw [List.length_append, List.length_map]; show (done.length + 1 + 1) * 24 ≤ _; omega, ppA (done ++ [cur]) ++ [.own 115], by rw [show ppA (done ++ [cur]) = ppA done ++ [A.d (ptsD cur)] from List.map_append]; rfl, ?_⟩; conv => whnf)
         (refine ⟨[115, 117], ?_⟩; conv => whnf)
         (refine ⟨by rw [invP]; exact onlyPp rfl _, ?_⟩; conv => whnf)
         refine ⟨q - 1, by omega, 1, _, by omega, .inr ⟨done ++ [cur], g[0].ps, 0, hjl, rfl, by omega, by rw [htk, hO1, hg0', hdr1], rfl⟩, ?_⟩
         rw [invP, w1 0 (by omega)]
         rfl
        ·have hdl : done.length ≤ 30000000 := by
          have := congrArg List.length hTd
          rw [List.length_append] at this
          omega
         have hgj : g.drop (j' + 1) = g[j' + 1] :: g.drop (j' + 1 + 1) := List.drop_eq_getElem_cons hjl
         rw [hgj] at hTd
         have hcp := hgc _ (List.getElem_mem hj')
         obtain ⟨_, ⟨p1, p2⟩, ⟨p3, p4⟩, _⟩ := hcp
         have g2 : decide (((j' + 1 : Nat) : Int) > 0) = true := decide_eq_true (by omega)
         have e1 : IntKind.i64.wrap (((j' + 1 : Nat) : Int) - 1) = ((j' : Nat) : Int) := by rw [wrapI (by omega) (by omega)]; omega
         have e2 : IntKind.i64.wrap (g[j'].i + 1) = g[j'].i + 1 := wS (by omega) (by omega)
         by_cases hon : g[j'].i + 1 = g[j' + 1].i
         ·have g3 : (IntKind.i64.wrap (g[j'].i + 1) == g[j' + 1].i) = true := by rw [e2, hon]; simp
          have hAl : (ppA done ++ [A.own 0]).length = done.length + 1 := by simp
          have hAg : (ppA done ++ [A.own 0])[done.length]? = some (A.own 0) := by simp
          have hAs : ∀ x, (ppA done ++ [A.own 0]).set done.length x = ppA done ++ [x] := fun x => by
           rw [List.set_append_right _ _ (by simp)]; simp
          have ew : IntKind.i64.wrap (((ppA done ++ [A.own 0]).length : Int) - 1) = ((done.length : Nat) : Int) := by rw [hAl, wrapI (by omega) (by omega)]; omega
          rw [pieceF_on hon] at hTd
          conv => whnf
          (repeat' (first | (apply kT (by with_reducible first | rfl | assumption); conv => whnf) | (apply kF (by with_reducible first | rfl | assumption); conv => whnf) | (apply kT (by decide); conv => whnf) | (apply kF (by decide); conv => whnf) | (apply kB <;> intro _ <;> conv => whnf) | (refine ⟨j' + 1, _, rfl, getcd g (j' + 1) hjl, rfl, ?_⟩; conv => whnf) | (refine ⟨j', _, e1, getcd g j' hj', rfl, ?_⟩; conv => whnf) | (refine ⟨done.length, ew, by rw [hAl]; omega, ?_⟩; conv => whnf) | (refine ⟨_, hAg, ?_⟩; conv => whnf) | fail))
          (refine ⟨ptL _, by rw [List.length_map, List.length_map]; show _ * 16 ≤ _; omega, ?_⟩; conv => whnf)
          (repeat' (first | (apply kT (by with_reducible first | rfl | assumption); conv => whnf) | (apply kF (by with_reducible first | rfl | assumption); conv => whnf) | (apply kT (by decide); conv => whnf) | (apply kF (by decide); conv => whnf) | (apply kB <;> intro _ <;> conv => whnf) | (refine ⟨done.length, ew, by rw [hAl]; omega, ?_⟩; conv => whnf) | (refine ⟨by rw [hAl]; omega, _, hAs _, ?_⟩; conv => whnf) | fail))
          (refine ⟨[211, 1], ?_⟩; conv => whnf)
          (refine ⟨by rw [invP]; exact onlyPp rfl _, ?_⟩; conv => whnf)
          refine ⟨q - 1, by omega, j' + 1 + 1, _, by omega, .inr ⟨done, cur ++ g[j' + 1].ps, j' + 1, hjl, rfl, by rw [List.length_append]; omega, hTd, rfl⟩, ?_⟩
          rw [invP, w1 (j' + 1) (by omega), List.map_append]
          rfl
         ·have g3 : (IntKind.i64.wrap (g[j'].i + 1) == g[j' + 1].i) = false := by rw [e2, beq_eq_false_iff_ne]; exact hon
          rw [pieceF_new hon] at hTd
          conv => whnf
          (repeat' (first | (apply kT (by with_reducible first | rfl | assumption); conv => whnf) | (apply kF (by with_reducible first | rfl | assumption); conv => whnf) | (apply kT (by decide); conv => whnf) | (apply kF (by decide); conv => whnf) | (apply kB <;> intro _ <;> conv => whnf) | (refine ⟨j' + 1, _, rfl, getcd g (j' + 1) hjl, rfl, ?_⟩; conv => whnf) | (refine ⟨j', _, e1, getcd g j' hj', rfl, ?_⟩; conv => whnf) | (refine .inr ⟨[], 1, _, _, ccl, ?_⟩; conv => whnf) | fail))
          (refine .r ⟨[0], ?_⟩; conv => whnf)
          (refine ⟨_, rfl, ?_⟩; conv => whnf)
          (refine ⟨_, frzPp 0 _ done, ?_⟩; conv => whnf)
          (refine ⟨by rw [List.length_append, List.length_map]; show (done.length + 1 + 1) * 24 ≤ _; omega, ppA (done ++ [cur]) ++ [.own 115], by rw [show ppA (done ++ [cur]) = ppA done ++ [A.d (ptsD cur)] from List.map_append]; rfl, ?_⟩; conv => whnf)
          (refine ⟨[115, 117], ?_⟩; conv => whnf)
          (refine ⟨by rw [invP]; exact onlyPp rfl _, ?_⟩; conv => whnf)
          refine ⟨q - 1, by omega, j' + 1 + 1, _, by omega, .inr ⟨done ++ [cur], g[j' + 1].ps, j' + 1, hjl, rfl, by omega, by rw [hTd]; simp, rfl⟩, ?_⟩
          rw [invP, w1 (j' + 1) (by omega)]
          rfl
       ·have g1 : decide ((j : Int) < ((g.map cdC).length : Int)) = false := decide_eq_false (by rw [hmg]; omega)
        rcases hst with ⟨rfl, _⟩ | ⟨done, cur, j', hj', rfl, hcur, hTd, rfl⟩
        ·omega
        rw [List.drop_of_length_le (by omega), pieceF_nil] at hTd
        conv => whnf
        (apply kF (g1); conv => whnf)
        (refine ⟨[0, 1], ?_⟩; conv => whnf)
        (refine ⟨by rw [invP]; exact onlyPp rfl _, ?_⟩; conv => whnf)
        refine ⟨m - 1, by omega, k + 1, _, by omega, .inr ⟨done, cur, by rw [hT, hTd], rfl⟩, ?_⟩
        rw [w1 k (by omega), invP]
        rfl
     ·have f3 : (h.n != n) = true := by simpa using hn
      rw [f3, cond_true, List.append_nil] at htk
      rcases hob with ⟨hO0, X, rfl⟩ | ⟨done, cur, hO1, rfl⟩
      ·conv => whnf
       (repeat' (first | (apply kT (by with_reducible first | rfl | assumption); conv => whnf) | (apply kF (by with_reducible first | rfl | assumption); conv => whnf) | (apply kT (by decide); conv => whnf) | (apply kF (by decide); conv => whnf) | (apply kB <;> intro _ <;> conv => whnf) | (refine ⟨k, _, rfl, hgt, rfl, ?_⟩; conv => whnf) | (refine ⟨0, _, rfl, hg0, rfl, ?_⟩; conv => whnf) | fail))
       (refine ⟨[0, 1], ?_⟩; conv => whnf)
       (refine ⟨rfl, ?_⟩; conv => whnf)
       refine ⟨m - 1, by omega, k + 1, _, by omega, .inl ⟨by rw [hT, htk, hO0], X, rfl⟩, ?_⟩
       rw [w1 k (by omega)]
       rfl
      ·conv => whnf
       (repeat' (first | (apply kT (by with_reducible first | rfl | assumption); conv => whnf) | (apply kF (by with_reducible first | rfl | assumption); conv => whnf) | (apply kT (by decide); conv => whnf) | (apply kF (by decide); conv => whnf) | (apply kB <;> intro _ <;> conv => whnf) | (refine ⟨k, _, rfl, hgt, rfl, ?_⟩; conv => whnf) | (refine ⟨0, _, rfl, hg0, rfl, ?_⟩; conv => whnf) | fail))
       (refine ⟨[0, 1], ?_⟩; conv => whnf)
       (refine ⟨by rw [invP]; exact onlyPp rfl _, ?_⟩; conv => whnf)
       refine ⟨m - 1, by omega, k + 1, _, by omega, .inr ⟨done, cur, by rw [hT, htk, hO1], rfl⟩, ?_⟩
       rw [w1 k (by omega), invP]
       rfl
    ·have f2 : decide ((k : Int) < ((G.map fun g => [gpD g]).length : Int)) = false := decide_eq_false (by rw [hm]; omega)
     have hkG : G.take k = G := List.take_of_length_le (by omega)
     rw [hkG, ← hR] at hob
     rcases hob with ⟨hO0, X, rfl⟩ | ⟨done, cur, hO1, rfl⟩
     ·rw [hO0]
      conv => whnf
      (apply kF (f2); conv => whnf)
      (repeat' (first | (apply kT (by with_reducible first | rfl | assumption); conv => whnf) | (apply kF (by with_reducible first | rfl | assumption); conv => whnf) | (apply kT (by decide); conv => whnf) | (apply kF (by decide); conv => whnf) | (apply kB <;> intro _ <;> conv => whnf) | fail))
      refine ⟨[], ?_⟩
      conv => whnf
      rfl
     ·have f3 : (((done ++ [cur]).length : Nat) == 0) = false := by rw [List.length_append]; simp
      have f4 : ((((ppA done ++ [A.own 0]).length : Nat) : Int) == 0) = false := by rw [List.length_append, beq_eq_false_iff_ne]; simp; omega
      rw [hO1, f3, cond_false]
      conv => whnf
      (apply kF (f2); conv => whnf)
      (repeat' (first | (apply kT (by with_reducible first | rfl | assumption); conv => whnf) | (apply kF (by with_reducible first | rfl | assumption); conv => whnf) | (apply kT (by decide); conv => whnf) | (apply kF (by decide); conv => whnf) | (apply kB <;> intro _ <;> conv => whnf) | fail))
      refine ⟨[.frz 0, .toArr 1], ?_⟩
      conv => whnf
      (refine ⟨_, frzPp 0 _ done, ?_⟩; conv => whnf)
      (refine ⟨(done ++ [cur]).map ptsD, by rw [List.map_map, List.map_append]; rfl, ?_⟩; conv => whnf)
      rw [List.map_map]
      rfl
 ·obtain ⟨q1, q2⟩ := hE he
  have f1 : (e != 0) = true := by simpa using he
  rw [f1, cond_true]
  subst q1 q2
  refine pure_of pg Try.func40 (by kernel_rfl) ?_
  conv => whnf
  (refine .inl ⟨_, co, ?_⟩; conv => whnf)
  (apply kT (f1); conv => whnf)
  rfl
end Go.Ev.Ytljkplahkokpaaa


set_option linter.unusedVariables false
set_option linter.unusedSimpArgs false
set_option maxRecDepth 100000
namespace Go.Ev.Ytljkplahkokpaaa
open Go.Proofs
abbrev BL := List Int
attribute [local irreducible] Pure Bor Iter Pan layB cardsL cuts refCard checkI thinB fileL openL addL sortC numG
abbrev fOB (f : Nat) : Ob := .var false 43 [.d (.fn (.func f) [] [])]
def goodF (l : List Int) : Bool := decide (l.length ≤ 8000)
def trF (fs : List (List Int)) : Tr := fs.foldl addL tr0
def MendL (fs : List (List Int)) : List Int × Int :=
 if 5 < fs.length ∨ fs.all goodF = false then ([], 3)
 else bif (numG (trF fs).tw (sortC (trF fs).es)).2 then ([], 6)
 else if 8000 < ((sortC (trF fs).es).map layB).flatten.length then ([], 3) else (((sortC (trF fs).es).map layB).flatten, 0)
end Go.Ev.Ytljkplahkokpaaa


set_option linter.unusedVariables false
set_option linter.unusedSimpArgs false
set_option maxRecDepth 100000
namespace Go.Ev.Ytljkplahkokpaaa
open Go.Proofs
def cardOf (p : List Int × Bool) : Option Cd := bif p.2 then readR p.1 else none
def addO (t : Tr) (o : Option Cd) : Tr := match o with
 | none => ⟨t.es, t.sp + 1, t.tw⟩
 | some c => match findC t.es c.n c.i with
  | some old => ⟨t.es, t.sp, t.tw || !decide (old = c)⟩
  | none => ⟨t.es ++ [c], t.sp, t.tw⟩
theorem addC_O {t : Tr} {p : List Int × Bool} (hb : By p.1) (ht : ∀ c ∈ t.es, CdOK c) : addC t p = addO t (cardOf p) := by
 unfold addC cardOf
 cases hr : readR p.1 with
 | none => cases p.2 <;> rfl
 | some c =>
  cases p.2 with
  | false => rfl
  | true =>
   simp only [cond_true, addO]
   cases hf : findC t.es c.n c.i with
   | none => rfl
   | some old =>
    simp only
    obtain ⟨h1, h2⟩ := readR_ok hb hr
    have h3 := ht old (find_mem hf).1
    have e : decide (layB old = p.1) = decide (old = c) := by
     by_cases h : old = c
     ·rw [decide_eq_true h, decide_eq_true (by rw [h, h2])]
     ·rw [decide_eq_false h, decide_eq_false fun e => h (layB_inj h3 h1 (by rw [h2, e]))]
    rw [e]
def Vs (l : List Int) : List (Option Cd) := (blks l).map cardOf
theorem fold_O : ∀ (ps : List (List Int × Bool)) {t : Tr} {b : Int}, TrOK t b → (∀ p ∈ ps, By p.1) → ps.foldl addC t = (ps.map cardOf).foldl addO t
 | [], _, _, _, _ => rfl
 | p :: ps, t, b, ht, hb => by
  have h1 := addC_O (hb p (by simp)) ht.1
  rw [List.foldl_cons, List.map_cons, List.foldl_cons, ← h1]
  exact fold_O ps (addC_ok ht (hb p (by simp))) fun q hq => hb q (by simp [hq])
theorem blks_by {l : List Int} (hb : By l) : ∀ p ∈ blks l, By p.1 := fun p hp => by
 unfold blks chL at hp
 rw [List.map_map, List.mem_map] at hp
 obtain ⟨k, _, rfl⟩ := hp
 exact chAt_by hb k
theorem addL_O {t : Tr} {b : Int} {l : List Int} (ht : TrOK t b) (hb : By l) : addL t l = (Vs l).foldl addO t := fold_O _ ht (blks_by hb)
def Conf (os : List (Option Cd)) : Prop := ∃ c d, some c ∈ os ∧ some d ∈ os ∧ c.n = d.n ∧ c.i = d.i ∧ c ≠ d
def MConf (os : List (Option Cd)) : Prop := ∃ c d, some c ∈ os ∧ some d ∈ os ∧ c.n = d.n ∧ c.m ≠ d.m
structure TrL (os : List (Option Cd)) (t : Tr) : Prop where
 sp : t.sp = (os.countP Option.isNone : Nat)
 keys : Keys t.es
 sub : ∀ c ∈ t.es, some c ∈ os
 cov : ∀ c, some c ∈ os → ∃ d ∈ t.es, d.n = c.n ∧ d.i = c.i ∧ (t.tw = false → d = c)
 tw : t.tw = true → Conf os
theorem Conf.mono {a b : List (Option Cd)} (h : ∀ c, some c ∈ a → some c ∈ b) : Conf a → Conf b := fun ⟨c, d, h1, h2, h3⟩ => ⟨c, d, h c h1, h d h2, h3⟩
theorem MConf.mono {a b : List (Option Cd)} (h : ∀ c, some c ∈ a → some c ∈ b) : MConf a → MConf b := fun ⟨c, d, h1, h2, h3⟩ => ⟨c, d, h c h1, h d h2, h3⟩
theorem TrL.step {os : List (Option Cd)} {t : Tr} (h : TrL os t) (o : Option Cd) : TrL (os ++ [o]) (addO t o) := by
 cases o with
 | none =>
  refine ⟨?_, h.keys, fun c hc => by simp [h.sub c hc], fun c hc => ?_, fun ht => (h.tw ht).mono fun c hc => by simp [hc]⟩
  ·show t.sp + 1 = _
   rw [h.sp, List.countP_append]; simp
  ·rcases List.mem_append.1 hc with hc | hc
   ·exact h.cov c hc
   ·simp at hc
 | some c =>
  have hsp : ∀ x : Tr, x.sp = t.sp → x.sp = ((os ++ [some c]).countP Option.isNone : Nat) := fun x hx => by
   rw [hx, h.sp, List.countP_append]; simp
  unfold addO
  simp only
  cases hf : findC t.es c.n c.i with
  | none =>
   simp only
   refine ⟨hsp _ rfl, List.pairwise_append.2 ⟨h.keys, List.pairwise_singleton _ _, fun a ha b hb => ?_⟩, fun d hd => ?_, fun d hd => ?_, fun ht => (h.tw ht).mono fun c hc => by simp [hc]⟩
   ·rw [List.mem_singleton.1 hb]
    exact find_none hf a ha
   ·rcases List.mem_append.1 hd with hd | hd
    ·simp [h.sub d hd]
    ·rw [List.mem_singleton.1 hd]; simp
   ·rcases List.mem_append.1 hd with hd | hd
    ·obtain ⟨x, h1, h2⟩ := h.cov d hd
     exact ⟨x, by simp [h1], h2⟩
    ·simp only [List.mem_singleton, Option.some.injEq] at hd
     exact ⟨c, by simp, by rw [hd], by rw [hd], fun _ => hd.symm⟩
  | some old =>
   simp only
   obtain ⟨q1, q2, q3⟩ := find_mem hf
   refine ⟨hsp _ rfl, h.keys, fun d hd => by simp [h.sub d hd], fun d hd => ?_, fun ht => ?_⟩
   ·rcases List.mem_append.1 hd with hd | hd
    ·obtain ⟨x, h1, h2, h3, h4⟩ := h.cov d hd
     refine ⟨x, h1, h2, h3, fun ht => h4 ?_⟩
     rw [Bool.or_eq_false_iff] at ht
     exact ht.1
    ·simp only [List.mem_singleton, Option.some.injEq] at hd
     subst hd
     refine ⟨old, q1, q2, q3, fun ht => ?_⟩
     rw [Bool.or_eq_false_iff] at ht
     simpa using ht.2
   ·rw [Bool.or_eq_true] at ht
    rcases ht with ht | ht
    ·exact (h.tw ht).mono fun c hc => by simp [hc]
    ·have hne : old ≠ c := by simpa using ht
     exact ⟨old, c, by simp [h.sub old q1], by simp, q2, q3, hne⟩
theorem tray_law : ∀ (os : List (Option Cd)), TrL os (os.foldl addO tr0) := by
 have key : ∀ (ps os : List (Option Cd)) (t : Tr), TrL os t → TrL (os ++ ps) (ps.foldl addO t) := by
  intro ps
  induction ps with
  | nil => intro os t h; simpa using h
  | cons p ps ih =>
   intro os t h
   have := ih (os ++ [p]) (addO t p) (h.step p)
   rwa [List.append_assoc] at this
 intro os
 have := key os [] tr0 ⟨rfl, tr0_keys, fun c hc => by simp [tr0] at hc, fun c hc => by simp at hc, fun h => by simp [tr0] at h⟩
 rwa [List.nil_append] at this
theorem keys_one {l : List Cd} (hk : Keys l) {a b : Cd} (ha : a ∈ l) (hb : b ∈ l) (h1 : a.n = b.n) (h2 : a.i = b.i) : a = b := by
 induction l with
 | nil => simp at ha
 | cons x r ih =>
  unfold Keys at hk ih
  rw [List.pairwise_cons] at hk
  rcases List.mem_cons.1 ha with ha' | ha'
  ·rcases List.mem_cons.1 hb with hb' | hb'
   ·rw [ha', hb']
   ·rw [ha'] at h1 h2
    exact absurd ⟨h1, h2⟩ (hk.1 b hb')
  ·rcases List.mem_cons.1 hb with hb' | hb'
   ·rw [hb'] at h1 h2
    exact absurd ⟨h1.symm, h2.symm⟩ (hk.1 a ha')
   ·exact ih hk.2 ha' hb'
theorem TrL.mem {os : List (Option Cd)} {t : Tr} (h : TrL os t) (ht : t.tw = false) (c : Cd) : c ∈ t.es ↔ some c ∈ os := by
 refine ⟨h.sub c, fun hc => ?_⟩
 obtain ⟨d, d1, _, _, d4⟩ := h.cov c hc
 rw [← d4 ht]; exact d1
theorem Keys.nodup {l : List Cd} (h : Keys l) : l.Nodup := h.imp fun hk e => hk ⟨by rw [e], by rw [e]⟩
def Srt (os : List (Option Cd)) (L : List Cd) : Prop := L.Pairwise kLt ∧ ∀ c, c ∈ L ↔ some c ∈ os
theorem kLt_irr {a : Cd} : ¬ kLt a a := by unfold kLt; omega
theorem Srt.nodup {os : List (Option Cd)} {L : List Cd} (h : Srt os L) : L.Nodup := h.1.imp fun hk e => by rw [e] at hk; exact kLt_irr hk
theorem kLt_asym {a b : Cd} (h : kLt a b) : ¬ kLt b a := by unfold kLt at *; omega
theorem Srt.unique {os : List (Option Cd)} {L M : List Cd} (h : Srt os L) (g : Srt os M) : L = M := by
 have hp : L.Perm M := (List.perm_ext_iff_of_nodup h.nodup g.nodup).2 fun c => by rw [h.2, g.2]
 exact (sorted_one L M hp h.1 (g.1.imp kLt_asym)).symm
theorem TrL.srt {os : List (Option Cd)} {t : Tr} (h : TrL os t) (ht : t.tw = false) : Srt os (sortC t.es) :=
 ⟨sortC_sorted h.keys, fun c => by rw [(sortC_perm _).mem_iff, h.mem ht]⟩
theorem goG_tw : ∀ (r : List Cd) (done : List (List Cd)) (h : Cd) (t : List Cd) (tw : Bool), (h :: r).Pairwise (fun a b => a.n ≤ b.n) →
  ((goG done h t tw r).2 = true ↔ tw = true ∨ ∃ c d, c ∈ h :: r ∧ d ∈ h :: r ∧ c.n = d.n ∧ c.m ≠ d.m)
 | [], done, h, t, tw, _ => by
  rw [goG_nil]
  constructor
  ·exact .inl
  ·rintro (h1 | ⟨c, d, hc, hd, _, hm⟩)
   ·exact h1
   ·rw [List.mem_singleton.1 hc, List.mem_singleton.1 hd] at hm
    exact absurd rfl hm
 | c :: r, done, h, t, tw, hs => by
  rw [List.pairwise_cons] at hs
  obtain ⟨hs1, hs2⟩ := hs
  by_cases hn : h.n = c.n
  ·rw [goG_same hn, goG_tw r done h (t ++ [c]) _ (List.pairwise_cons.2 ⟨fun x hx => hs1 x (by simp [hx]), (List.pairwise_cons.1 hs2).2⟩)]
   rw [Bool.or_eq_true, bne_iff_ne]
   constructor
   ·rintro ((h1 | h1) | ⟨a, b, ha, hb, hab, hm⟩)
    ·exact .inl h1
    ·exact .inr ⟨h, c, by simp, by simp, hn, h1⟩
    ·exact .inr ⟨a, b, by rcases List.mem_cons.1 ha with rfl | ha <;> simp [*], by rcases List.mem_cons.1 hb with rfl | hb <;> simp [*], hab, hm⟩
   ·rintro (h1 | ⟨a, b, ha, hb, hab, hm⟩)
    ·exact .inl (.inl h1)
    ·by_cases hmc : h.m = c.m
     ·right
      have fix : ∀ x, x ∈ h :: c :: r → ∃ y, y ∈ h :: r ∧ y.n = x.n ∧ y.m = x.m := fun x hx => by
       rcases List.mem_cons.1 hx with rfl | hx
       ·exact ⟨x, by simp, rfl, rfl⟩
       ·rcases List.mem_cons.1 hx with rfl | hx
        ·exact ⟨h, by simp, hn, hmc⟩
        ·exact ⟨x, by simp [hx], rfl, rfl⟩
      obtain ⟨a', a1, a2, a3⟩ := fix a ha
      obtain ⟨b', b1, b2, b3⟩ := fix b hb
      exact ⟨a', b', a1, b1, by rw [a2, b2, hab], by rw [a3, b3]; exact hm⟩
     ·exact .inl (.inr hmc)
  ·rw [goG_new hn, goG_tw r _ c [] tw hs2]
   constructor
   ·rintro (h1 | ⟨a, b, ha, hb, hab⟩)
    ·exact .inl h1
    ·exact .inr ⟨a, b, by simp [ha], by simp [hb], hab⟩
   ·rintro (h1 | ⟨a, b, ha, hb, hab, hm⟩)
    ·exact .inl h1
    ·have hlt : ∀ x, x ∈ c :: r → h.n < x.n := fun x hx => by
      have h1 := hs1 c (by simp)
      have h2 : c.n ≤ x.n := by
       rcases List.mem_cons.1 hx with rfl | hx
       ·exact Int.le_refl _
       ·exact (List.pairwise_cons.1 hs2).1 x hx
      omega
     right
     rcases List.mem_cons.1 ha with ha | ha
     ·rcases List.mem_cons.1 hb with hb | hb
      ·rw [ha, hb] at hm; exact absurd rfl hm
      ·have := hlt b hb; rw [ha] at hab; omega
     ·rcases List.mem_cons.1 hb with hb | hb
      ·have := hlt a ha; rw [hb] at hab; omega
      ·exact ⟨a, b, ha, hb, hab, hm⟩
theorem numG_tw {tw : Bool} {L : List Cd} (hs : L.Pairwise kLt) : (numG tw L).2 = true ↔ tw = true ∨ ∃ c d, c ∈ L ∧ d ∈ L ∧ c.n = d.n ∧ c.m ≠ d.m := by
 cases L with
 | nil => unfold numG; simp
 | cons h r => unfold numG; exact goG_tw r [] h [] tw (hs.imp fun hk => by unfold kLt at hk; omega)
def Grp : List (List Cd) → Prop
 | [] => True
 | g :: G => g ≠ [] ∧ (∀ c ∈ g, c.n = headN g) ∧ (∀ g' ∈ G.head?, headN g' ≠ headN g) ∧ Grp G
theorem goG_of : ∀ (G : List (List Cd)) (r : List Cd) (done : List (List Cd)) (h : Cd) (t : List Cd) (tw : Bool), Grp G → (∀ c ∈ r, c.n = h.n) → (∀ g' ∈ G.head?, headN g' ≠ h.n) → (goG done h t tw (r ++ G.flatten)).1 = done ++ [h :: t ++ r] ++ G
 | G, c :: r, done, h, t, tw, hG, hr, hh => by
  rw [List.cons_append, goG_same (hr c (by simp)).symm, goG_of G r done h (t ++ [c]) _ hG (fun x hx => hr x (by simp [hx])) hh]
  simp
 | [], [], done, h, t, tw, _, _, _ => by
  rw [List.flatten_nil, List.append_nil, goG_nil]; simp
 | g :: G, [], done, h, t, tw, hG, _, hh => by
  obtain ⟨g1, g2, g3, g4⟩ := hG
  cases g with
  | nil => exact absurd rfl g1
  | cons x g =>
   have hx : h.n ≠ x.n := fun e => hh (x :: g) rfl e.symm
   rw [List.nil_append, List.flatten_cons, List.cons_append, goG_new hx, goG_of G g _ x [] tw g4 (fun y hy => g2 y (by simp [hy])) g3]
   simp
theorem numG_of {G : List (List Cd)} (tw : Bool) (h : Grp G) : (numG tw G.flatten).1 = G := by
 cases G with
 | nil => rfl
 | cons g G =>
  obtain ⟨g1, g2, g3, g4⟩ := h
  cases g with
  | nil => exact absurd rfl g1
  | cons x g =>
   rw [List.flatten_cons, List.cons_append]
   unfold numG
   rw [goG_of G g [] x [] tw g4 (fun y hy => g2 y (by simp [hy])) g3]
   simp
theorem openL_ok {l : List Int} (hl : l.length ≤ 8000) (hb : By l) {L : List Cd} (hL : Srt (Vs l) L) (hc : ¬ Conf (Vs l)) (hm : ¬ MConf (Vs l)) : openL l = ((numG false L).1, (((Vs l).countP Option.isNone : Nat) : Int), 0) := by
 have ht := tray_law (Vs l)
 rw [← addL_O tr0_ok hb] at ht
 have htw : (addL tr0 l).tw = false := by
  cases e : (addL tr0 l).tw with
  | false => rfl
  | true => exact absurd (ht.tw e) hc
 have hs := ht.srt htw
 have e := hs.unique hL
 have h2 : (numG false L).2 = false := by
  cases e2 : (numG false L).2 with
  | false => rfl
  | true =>
   rcases (numG_tw hL.1).1 e2 with h | ⟨c, d, h1, h2, h3⟩
   ·cases h
   ·exact absurd ⟨c, d, (hL.2 c).1 h1, (hL.2 d).1 h2, h3⟩ hm
 unfold openL
 rw [if_neg (by omega), htw, e, h2, cond_false, ht.sp]
end Go.Ev.Ytljkplahkokpaaa


set_option linter.unusedVariables false
set_option linter.unusedSimpArgs false
set_option maxRecDepth 100000
namespace Go.Ev.Ytljkplahkokpaaa
open Go.Proofs
theorem chL_app {A B : List Int} {n : Nat} (h : A.length = 40 * n) : chL (A ++ B) = chL A ++ chL B := by
 unfold chL
 have e1 : nCh A = n := by unfold nCh; omega
 have e2 : nCh (A ++ B) = n + nCh B := by unfold nCh; rw [List.length_append]; omega
 rw [e1, e2, List.range_add, List.map_append, List.map_map]
 congr 1
 ·refine List.map_congr_left fun k hk => ?_
  rw [List.mem_range] at hk
  unfold chAt
  rw [List.drop_append_of_le_length (by omega), List.take_append_of_le_length (by rw [List.length_drop]; omega)]
 ·refine List.map_congr_left fun k hk => ?_
  show chAt (A ++ B) (n + k) = chAt B k
  unfold chAt
  rw [List.drop_append, List.drop_of_length_le (by omega), List.nil_append]
  congr 2
  omega
theorem Vs_app {A B : List Int} {n : Nat} (h : A.length = 40 * n) : Vs (A ++ B) = Vs A ++ Vs B := by
 unfold Vs blks
 rw [chL_app h, List.map_append, List.map_append]
theorem pad_full {x : List Int} (h : x.length = 40) : pad x = x := by unfold pad; rw [h]; simp
theorem chL_one {x : List Int} (h0 : 0 < x.length) (h : x.length ≤ 40) : chL x = [x] := by
 unfold chL
 have e : nCh x = 1 := by unfold nCh; omega
 rw [e]
 show [chAt x 0] = [x]
 unfold chAt
 rw [show 40 * 0 = 0 from rfl, List.drop_zero, List.take_of_length_le h]
theorem Vs_block {x : List Int} (h : x.length = 40) : Vs x = [readR x] := by
 unfold Vs blks
 rw [chL_one (by omega) (by omega), List.map_cons, List.map_nil, List.map_cons, List.map_nil, pad_full h]
 unfold cardOf
 rw [decide_eq_true h]
 rfl
def SameS (a b : List (Option Cd)) : Prop := ∀ c, some c ∈ a ↔ some c ∈ b
def turnedL (b : List Int) (k t : Nat) : List Int := bif decide (b.length / 40 = 0) then b else
 ((b.drop (40 * k)).take (40 * (b.length / 40) - 40 * k) ++ b.take (40 * k)) ++ (bif decide (b.length + 40 ≤ 8000) then (b.drop (40 * t)).take 40 else []) ++ b.drop (40 * (b.length / 40))
end Go.Ev.Ytljkplahkokpaaa


set_option linter.unusedVariables false
set_option linter.unusedSimpArgs false
set_option maxRecDepth 100000
namespace Go.Ev.Ytljkplahkokpaaa
open Go.Proofs
def ShOK (s : Sh) : Prop := PtsOK s.ps ∧ s.ps.length ≤ 100 ∧ 0 ≤ s.n ∧ s.n ≤ 9999
theorem ShOK.check {s : Sh} (h : ShOK s) : checkI [s] = 0 := check_one h.2.1 (shB_ok.2 ⟨h.2.2.1, h.2.2.2, h.1⟩)
theorem ShOK.run {s : Sh} (h : ShOK s) : Run s.ps := (runB_ok.1 h.1).2.2
theorem ShOK.pos {s : Sh} (h : ShOK s) : 0 < s.ps.length := (runB_ok.1 h.1).1
theorem ShOK.many {s : Sh} (h : ShOK s) : 0 < (cardsL s).length ∧ (cardsL s).length ≤ 10 := by
 have := cuts_count s.ps
 have h2 := h.2.1
 rw [cards_len]
 refine ⟨?_, by omega⟩
 rw [cuts_cons h.pos]
 simp
theorem card_at {s : Sh} {c : Cd} (h : c ∈ cardsL s) : ∃ (k : Nat) (hk : k < (cardsL s).length), c = ⟨s.n, k, (cardsL s).length, (cuts s.ps)[k]'(by rw [← cards_len]; exact hk)⟩ := by
 obtain ⟨k, hk, rfl⟩ := List.getElem_of_mem h
 refine ⟨k, hk, ?_⟩
 rw [cards_at s k hk]
 simp only [cards_len]
theorem ShOK.card {s : Sh} (h : ShOK s) {c : Cd} (hc : c ∈ cardsL s) : CdOK c ∧ c.n = s.n ∧ c.m = (cardsL s).length := by
 have hroom := cards_room h.run hc
 obtain ⟨k, hk, rfl⟩ := card_at hc
 have hm := h.many
 have hp : (cuts s.ps)[k]'(by rw [← cards_len]; exact hk) ∈ cuts s.ps := List.getElem_mem _
 have hv := cutsF_v _ _ h.1.v _ hp
 have h0 := ((cuts_ok h.run).1 _ hp).1
 refine ⟨⟨h.2.2, ⟨?_, ?_⟩, ⟨?_, ?_⟩, hv.ok h0, hroom⟩, rfl, rfl⟩
 ·show (1 : Int) ≤ ((cardsL s).length : Nat); omega
 ·show (((cardsL s).length : Nat) : Int) ≤ 20; omega
 ·show (0 : Int) ≤ (k : Nat); omega
 ·show ((k : Nat) : Int) < ((cardsL s).length : Nat); omega
theorem cards_lt (s : Sh) : (cardsL s).Pairwise kLt := by
 rw [List.pairwise_iff_getElem]
 intro i j hi hj hij
 rw [cards_at s i hi, cards_at s j hj]
 right
 exact ⟨rfl, by show ((i : Nat) : Int) < (j : Nat); omega⟩
theorem cds_ps (n m : Int) : ∀ (l : List (List Pt)) (k : Nat), (cds n m k l).map Cd.ps = l
 | [], k => rfl
 | p :: r, k => by rw [cds_cons, List.map_cons, cds_ps n m r]
theorem ptsOf_cards {s : Sh} (h : ShOK s) : ptsOf (cardsL s) = s.ps := by
 unfold ptsOf cardsL
 rw [cds_ps]
 exact (cuts_ok h.run).2.1
theorem whole_cards {s : Sh} (h : ShOK s) : wholeL (cardsL s) = (s, true) := by
 have hp := ptsOf_cards h
 have hm := h.many
 cases hc : cardsL s with
 | nil => rw [hc] at hm; simp at hm
 | cons c t =>
  have hcm := h.card (c := c) (by rw [hc]; simp)
  rw [hc] at hp
  unfold wholeL
  simp only
  rw [hp, hcm.2.1, hcm.2.2, hc]
  have e : (⟨s.n, s.ps⟩ : Sh) = s := rfl
  rw [e, h.check]
  have ea : alikeL (c :: t) (c :: t) = true := alikeL_iff.2 ⟨rfl, fun i hi _ => by unfold sameL; simp⟩
  rw [ea]
  simp
theorem whole_few {s : Sh} {g : List Cd} (hg : ∀ c ∈ g, c.m = (cardsL s).length) (hl : g.length < (cardsL s).length) : (wholeL g).2 = false := by
 cases g with
 | nil => rfl
 | cons c t =>
  have := hg c (by simp)
  unfold wholeL
  simp only
  rw [decide_eq_false (by rw [this]; omega)]
  rfl
def keptAt (keep : Cd → Bool) (s : Sh) : List Cd := (cardsL s).filter keep
def kept (keep : Cd → Bool) (S : List Sh) : List (List Cd) := (S.map (keptAt keep)).filter fun g => !g.isEmpty
theorem flat_ne : ∀ (G : List (List Cd)), (G.filter fun g => !g.isEmpty).flatten = G.flatten
 | [] => rfl
 | [] :: G => by simp [flat_ne G]
 | (c :: g) :: G => by simp [flat_ne G]
theorem readG_kept (keep : Cd → Bool) : ∀ {S : List Sh}, (∀ s ∈ S, ShOK s) → readG (kept keep S) = S.filter fun s => (cardsL s).all keep
 | [], _ => rfl
 | s :: S, h => by
  have ih := readG_kept keep (S := S) fun x hx => h x (by simp [hx])
  have hs := h s (by simp)
  have hm := hs.many
  unfold kept at ih ⊢
  rw [List.map_cons, List.filter_cons, List.filter_cons]
  by_cases ha : (cardsL s).all keep = true
  ·have e : keptAt keep s = cardsL s := by
    unfold keptAt
    rw [List.filter_eq_self]
    exact fun c hc => List.all_eq_true.1 ha c hc
   rw [if_pos ha, e, if_pos (by cases hc : cardsL s with | nil => rw [hc] at hm; simp at hm | cons => rfl), readG, whole_cards hs, cond_true, ih]
  ·rw [if_neg ha]
   have hl : (keptAt keep s).length < (cardsL s).length := by
    rcases Nat.lt_or_ge (keptAt keep s).length (cardsL s).length with h1 | h1
    ·exact h1
    ·refine absurd (List.all_eq_true.2 fun c hc => ?_) ha
     have := List.filter_eq_self.1 (List.Sublist.eq_of_length_le (List.filter_sublist (l := cardsL s) (p := keep)) h1)
     exact this c hc
   have hw := whole_few (s := s) (g := keptAt keep s) (fun c hc => (hs.card (List.mem_filter.1 hc).1).2.2) hl
   by_cases he : (!(keptAt keep s).isEmpty) = true
   ·rw [if_pos he, readG, hw, cond_false, ih]
   ·rw [if_neg he, ih]
theorem kept_head {keep : Cd → Bool} {S : List Sh} (h : ∀ s ∈ S, ShOK s) {g : List Cd} (hg : g ∈ kept keep S) : ∃ s ∈ S, g = keptAt keep s ∧ g ≠ [] ∧ headN g = s.n ∧ ∀ c ∈ g, c.n = s.n := by
 unfold kept at hg
 obtain ⟨h1, h2⟩ := List.mem_filter.1 hg
 obtain ⟨s, hs, rfl⟩ := List.mem_map.1 h1
 have hn : ∀ c ∈ keptAt keep s, c.n = s.n := fun c hc => ((h s hs).card (List.mem_filter.1 hc).1).2.1
 refine ⟨s, hs, rfl, ?_, ?_, hn⟩
 ·cases e : keptAt keep s with
  | nil => rw [e] at h2; simp at h2
  | cons => simp
 ·cases e : keptAt keep s with
  | nil => rw [e] at h2; simp at h2
  | cons c t => exact hn c (by rw [e]; simp)
theorem kept_grp (keep : Cd → Bool) : ∀ {S : List Sh}, (∀ s ∈ S, ShOK s) → S.Pairwise (fun a b => a.n < b.n) → Grp (kept keep S)
 | [], _, _ => trivial
 | s :: S, h, hp => by
  rw [List.pairwise_cons] at hp
  have ih := kept_grp keep (S := S) (fun x hx => h x (by simp [hx])) hp.2
  have e : kept keep (s :: S) = if (!(keptAt keep s).isEmpty) = true then keptAt keep s :: kept keep S else kept keep S := by
   unfold kept
   rw [List.map_cons, List.filter_cons]
  rw [e]
  split
  ·rename_i he
   obtain ⟨s', hs', e1, e2, e3, e4⟩ := kept_head (S := [s]) (keep := keep) (fun x hx => h x (by rw [List.mem_singleton.1 hx]; simp)) (g := keptAt keep s) (by unfold kept; rw [List.map_cons, List.filter_cons, if_pos he]; simp)
   rw [List.mem_singleton.1 hs'] at e3 e4
   refine ⟨e2, fun c hc => by rw [e3, e4 c hc], fun g' hg' => ?_, ih⟩
   obtain ⟨x, hx, _, _, q, _⟩ := kept_head (S := S) (keep := keep) (fun x hx => h x (by simp [hx])) (List.mem_of_mem_head? hg')
   have := hp.1 x hx
   rw [q, e3]
   omega
  ·exact ih
theorem kept_flat (keep : Cd → Bool) (S : List Sh) : (kept keep S).flatten = (S.map (keptAt keep)).flatten := flat_ne _
theorem kept_srt (keep : Cd → Bool) {S : List Sh} (h : ∀ s ∈ S, ShOK s) (hp : S.Pairwise fun a b => a.n < b.n) : (S.map (keptAt keep)).flatten.Pairwise kLt := by
 rw [List.pairwise_flatten]
 refine ⟨fun g hg => ?_, ?_⟩
 ·obtain ⟨s, hs, rfl⟩ := List.mem_map.1 hg
  exact (cards_lt s).sublist List.filter_sublist
 ·rw [List.pairwise_map]
  refine hp.imp_of_mem fun {a b} ha hb hab => ?_
  intro x hx y hy
  have h1 := ((h a ha).card (List.mem_filter.1 hx).1).2.1
  have h2 := ((h b hb).card (List.mem_filter.1 hy).1).2.1
  left
  omega
theorem srt_one {L : List Cd} (h : L.Pairwise kLt) {c d : Cd} (hc : c ∈ L) (hd : d ∈ L) (h1 : c.n = d.n) (h2 : c.i = d.i) : c = d :=
 keys_one (l := L) (h.imp fun hk => by unfold kLt at hk; omega) hc hd h1 h2
theorem mem_kept {keep : Cd → Bool} {S : List Sh} {c : Cd} : c ∈ (S.map (keptAt keep)).flatten ↔ (∃ s ∈ S, c ∈ cardsL s) ∧ keep c = true := by
 rw [List.mem_flatten]
 constructor
 ·rintro ⟨g, hg, hc⟩
  obtain ⟨s, hs, rfl⟩ := List.mem_map.1 hg
  obtain ⟨h1, h2⟩ := List.mem_filter.1 hc
  exact ⟨⟨s, hs, h1⟩, h2⟩
 ·rintro ⟨⟨s, hs, h1⟩, h2⟩
  exact ⟨_, List.mem_map.2 ⟨s, hs, rfl⟩, List.mem_filter.2 ⟨h1, h2⟩⟩
theorem kept_open {keep : Cd → Bool} {S : List Sh} (h : ∀ s ∈ S, ShOK s) (hp : S.Pairwise fun a b => a.n < b.n) {b : List Int} (hb : By b) (hl : b.length ≤ 8000)
  (hv : ∀ c, some c ∈ Vs b ↔ (∃ s ∈ S, c ∈ cardsL s) ∧ keep c = true) : openL b = (kept keep S, (((Vs b).countP Option.isNone : Nat) : Int), 0) := by
 have hs : Srt (Vs b) (S.map (keptAt keep)).flatten := ⟨kept_srt keep h hp, fun c => by rw [mem_kept, hv]⟩
 have hone : ∀ s t, s ∈ S → t ∈ S → s.n = t.n → s = t := by
  intro s t hs ht hn
  obtain ⟨i, hi, rfl⟩ := List.getElem_of_mem hs
  obtain ⟨j, hj, rfl⟩ := List.getElem_of_mem ht
  rcases Nat.lt_trichotomy i j with hij | hij | hij
  ·have := List.pairwise_iff_getElem.1 hp i j hi hj hij; omega
  ·subst hij; rfl
  ·have := List.pairwise_iff_getElem.1 hp j i hj hi hij; omega
 have hc : ¬ Conf (Vs b) := fun ⟨c, d, h1, h2, h3, h4, h5⟩ => h5 (srt_one hs.1 ((hs.2 c).2 h1) ((hs.2 d).2 h2) h3 h4)
 have hm : ¬ MConf (Vs b) := fun ⟨c, d, h1, h2, h3, h4⟩ => by
  obtain ⟨⟨s, s1, s2⟩, _⟩ := (hv c).1 h1
  obtain ⟨⟨t, t1, t2⟩, _⟩ := (hv d).1 h2
  obtain ⟨_, u1, u2⟩ := (h s s1).card s2
  obtain ⟨_, v1, v2⟩ := (h t t1).card t2
  have := hone s t s1 t1 (by omega)
  subst this
  omega
 rw [openL_ok hl hb hs hc hm, ← kept_flat, numG_of false (kept_grp keep h hp)]
theorem Vs_flat : ∀ (cs : List Cd), (∀ c ∈ cs, CdOK c) → Vs ((cs.map layB).flatten) = cs.map some
 | [], _ => rfl
 | c :: cs, h => by
  have hc := h c (by simp)
  rw [List.map_cons, List.flatten_cons, Vs_app (n := 1) (lay_len hc.many.1), Vs_block (lay_len hc.many.1), readR_enc hc, Vs_flat cs fun d hd => h d (by simp [hd])]
  rfl
def cardsA (l : List Sh) : List Cd := (l.map cardsL).flatten
theorem file_cards : ∀ (l : List Sh), fileL l = ((cardsA l).map layB).flatten
 | [] => rfl
 | s :: l => by
  have e : fileL (s :: l) = sheetL s ++ fileL l := by unfold fileL; rw [List.map_cons, List.flatten_cons]
  have e2 : cardsA (s :: l) = cardsL s ++ cardsA l := by unfold cardsA; rw [List.map_cons, List.flatten_cons]
  rw [e, e2, List.map_append, List.flatten_append, file_cards l]
  rfl
theorem mem_cardsA {l : List Sh} {c : Cd} : c ∈ cardsA l ↔ ∃ s ∈ l, c ∈ cardsL s := by
 unfold cardsA
 rw [List.mem_flatten]
 constructor
 ·rintro ⟨g, hg, hc⟩
  obtain ⟨s, hs, rfl⟩ := List.mem_map.1 hg
  exact ⟨s, hs, hc⟩
 ·rintro ⟨s, hs, hc⟩
  exact ⟨_, List.mem_map.2 ⟨s, hs, rfl⟩, hc⟩
theorem cardsA_ok {l : List Sh} (h : ∀ s ∈ l, ShOK s) : ∀ c ∈ cardsA l, CdOK c := fun c hc => by
 obtain ⟨s, hs, hc⟩ := mem_cardsA.1 hc
 exact ((h s hs).card hc).1
theorem cardsA_len : ∀ {l : List Sh}, (∀ s ∈ l, ShOK s) → (cardsA l).length ≤ 10 * l.length
 | [], _ => by simp [cardsA]
 | s :: l, h => by
  have e2 : cardsA (s :: l) = cardsL s ++ cardsA l := by unfold cardsA; rw [List.map_cons, List.flatten_cons]
  have := (h s (by simp)).many
  have ih := cardsA_len (l := l) fun x hx => h x (by simp [hx])
  rw [e2, List.length_append, List.length_cons]
  omega
theorem file_len {l : List Sh} (h : ∀ s ∈ l, ShOK s) : (fileL l).length = 40 * (cardsA l).length := by
 rw [file_cards, layL_len fun c hc => ((cardsA_ok h) c hc).many.1]
theorem lackF_all (n m n' : Int) : ∀ (r : List (List Pt)) (k : Nat), lackF n r.length k (cds n' m k r) = []
 | [], k => rfl
 | p :: r, k => by rw [cds_cons, List.length_cons, lackF_hit rfl, lackF_all n m n' r (k + 1)]
theorem lacks_cards {s : Sh} (h : ShOK s) : lacks (cardsL s) = [] := by
 have hm := h.many
 cases hc : cardsL s with
 | nil => rfl
 | cons c t =>
  have hcm := h.card (c := c) (by rw [hc]; simp)
  show lackF c.n c.m.toNat 0 (c :: t) = []
  rw [← hc, hcm.2.2, Int.toNat_natCast, cards_len]
  unfold cardsL
  exact lackF_all _ _ _ _ _
end Go.Ev.Ytljkplahkokpaaa


set_option linter.unusedVariables false
set_option linter.unusedSimpArgs false
set_option maxRecDepth 100000
namespace Go.Ev.Ytljkplahkokpaaa
open Go.Proofs
def insS (s : Sh) : List Sh → List Sh
 | [] => [s]
 | t :: r => bif decide (s.n < t.n) then s :: t :: r else t :: insS s r
def sortS (l : List Sh) : List Sh := l.foldr insS []
abbrev sLt (a b : Sh) : Prop := a.n < b.n
theorem insS_perm (s : Sh) : ∀ l, (insS s l).Perm (s :: l)
 | [] => .refl _
 | t :: r => by
  unfold insS
  cases decide (s.n < t.n) with
  | true => exact .refl _
  | false => exact ((insS_perm s r).cons t).trans (.swap s t r)
theorem sortS_perm : ∀ l, (sortS l).Perm l
 | [] => .refl _
 | s :: l => (insS_perm s (sortS l)).trans ((sortS_perm l).cons s)
theorem insS_sorted {s : Sh} : ∀ {l : List Sh}, l.Pairwise sLt → (∀ t ∈ l, s.n ≠ t.n) → (insS s l).Pairwise sLt
 | [], _, _ => List.pairwise_singleton _ _
 | t :: r, hp, hn => by
  rw [List.pairwise_cons] at hp
  have ht := hn t (by simp)
  unfold insS
  by_cases h : s.n < t.n
  ·rw [decide_eq_true h, cond_true]
   refine List.pairwise_cons.2 ⟨fun x hx => ?_, List.pairwise_cons.2 hp⟩
   rcases List.mem_cons.1 hx with hx | hx
   ·rw [hx]; exact h
   ·have := hp.1 x hx; unfold sLt at *; omega
  ·rw [decide_eq_false h, cond_false]
   refine List.pairwise_cons.2 ⟨fun x hx => ?_, insS_sorted hp.2 fun x hx => hn x (by simp [hx])⟩
   rcases List.mem_cons.1 ((insS_perm s r).mem_iff.1 hx) with hx | hx
   ·rw [hx]; unfold sLt; omega
   ·exact hp.1 x hx
theorem sortS_sorted : ∀ {l : List Sh}, (l.map Sh.n).Nodup → (sortS l).Pairwise sLt
 | [], _ => List.Pairwise.nil
 | s :: l, h => by
  rw [List.map_cons, List.nodup_cons] at h
  refine insS_sorted (sortS_sorted h.2) fun t ht e => h.1 ?_
  rw [e]
  exact List.mem_map.2 ⟨t, (sortS_perm l).mem_iff.1 ht, rfl⟩
theorem sort_one : ∀ (l l' : List Sh), l.Perm l' → l.Pairwise sLt → l'.Pairwise sLt → l = l'
 | [], l', hp, _, _ => by simpa using hp.symm
 | a :: l, [], hp, _, _ => by simp at hp
 | a :: l, b :: l', hp, h1, h2 => by
  rw [List.pairwise_cons] at h1 h2
  have hab : a = b := by
   rcases List.mem_cons.1 ((hp.mem_iff (a := b)).2 (by simp)) with h | h
   ·exact h.symm
   ·rcases List.mem_cons.1 ((hp.mem_iff (a := a)).1 (by simp)) with h' | h'
    ·exact h'
    ·have q1 := h1.1 b h; have q2 := h2.1 a h'; unfold sLt at q1 q2; omega
  subst hab
  rw [sort_one l l' ((List.perm_cons a).1 hp) h1.2 h2.2]
attribute [local irreducible] Pure Bor Iter Pan sortS
theorem sorted_pure (l : List Sh) (hl : l.length ≤ 1000) (hnd : (l.map Sh.n).Nodup) : Pure Try.prog 35 [shsD l] (shsD (sortS l)) := by
 have hm : ((l.map shC).length : Int) = l.length := by rw [List.length_map]
 refine pure_of pg Try.func35 (by kernel_rfl) ?_
 conv => whnf
 (refine ⟨shL _, by rw [List.length_map]; show (0 + _) * 32 ≤ _; omega, ?_⟩; conv => whnf)
 refine ⟨[], [3, 4], [0], 1, fun m s => ∃ (k : Nat) (A : List Sh), k + m = l.length ∧ A.Perm (l.take k) ∧ A.Pairwise sLt ∧ s = ⟨[(3, .own 0), (4, .d (dI k))], [(0, .arr 38 ((A ++ l.drop k).map shC))], 1⟩, ?_, ?_⟩
 ·conv => whnf
  exact ⟨l.length, 0, [], by omega, .refl _, .nil, rfl⟩
 ·rintro m _ ⟨k, A, hk, hp, hA, rfl⟩
  have hAl : A.length = k := by rw [hp.length_eq, List.length_take]; omega
  have hml : (((A ++ l.drop k).map shC).length : Int) = l.length := by rw [List.length_map, List.length_append, List.length_drop]; omega
  by_cases hkl : k < l.length
  ·have f1 : decide ((k : Int) < (((A ++ l.drop k).map shC).length : Int)) = true := decide_eq_true (by rw [hml]; omega)
   conv => whnf
   (repeat' (first | (apply kT (by with_reducible first | rfl | assumption); conv => whnf) | (apply kF (by with_reducible first | rfl | assumption); conv => whnf) | (apply kT (by decide); conv => whnf) | (apply kF (by decide); conv => whnf) | (apply kB <;> intro _ <;> conv => whnf) | fail))
   have hd : l.drop k = l[k] :: l.drop (k + 1) := List.drop_eq_getElem_cons hkl
   refine ⟨[], [3, 4, 5], [0], 1, fun q s => ∃ (B C : List Sh), B.length = q ∧ (B ++ C).Perm (l.take k) ∧ (B ++ C).Pairwise sLt ∧ (∀ c ∈ C, l[k].n < c.n) ∧ s = ⟨[(3, .own 0), (4, .d (dI k)), (5, .d (dI (B.length : Nat)))], [(0, .arr 38 ((B ++ l[k] :: (C ++ l.drop (k + 1))).map shC))], 1⟩, ?_, ?_⟩
   ·conv => whnf
    refine ⟨k, A, [], hAl, by rw [List.append_nil]; exact hp, by rw [List.append_nil]; exact hA, fun c hc => by simp at hc, ?_⟩
    rw [hAl, hd]
    rfl
   ·rintro q _ ⟨B, C, hq, hp2, hs2, hC, rfl⟩
    have htk : l.take (k + 1) = l.take k ++ [l[k]] := by rw [List.take_add_one, List.getElem?_eq_getElem hkl]; rfl
    have hBC : (B ++ l[k] :: C).Perm (l.take (k + 1)) := by
     rw [htk]
     exact List.perm_middle.trans ((hp2.cons l[k]).trans (List.perm_append_singleton _ _).symm)
    have hne : ∀ a ∈ B, a.n ≠ l[k].n := fun a ha e => by
     have hm1 : a ∈ l.take k := hp2.mem_iff.1 (by simp [ha])
     obtain ⟨i, hi, rfl⟩ := List.getElem_of_mem hm1
     rw [List.length_take] at hi
     rw [List.getElem_take] at e
     have := List.pairwise_iff_getElem.1 hnd i k (by rw [List.length_map]; omega) (by rw [List.length_map]; omega) (by omega)
     rw [List.getElem_map, List.getElem_map] at this
     exact this e
    rcases List.eq_nil_or_concat B with rfl | ⟨B', a, rfl⟩
    ·have g1 : decide (((([] : List Sh).length : Nat) : Int) > 0) = false := rfl
     conv => whnf
     (repeat' (first | (apply kT (by with_reducible first | rfl | assumption); conv => whnf) | (apply kF (by with_reducible first | rfl | assumption); conv => whnf) | (apply kT (by decide); conv => whnf) | (apply kF (by decide); conv => whnf) | (apply kB <;> intro _ <;> conv => whnf) | fail))
     refine ⟨m - 1, by omega, k + 1, [] ++ l[k] :: C, by omega, hBC, List.pairwise_cons.2 ⟨hC, hs2⟩, ?_⟩
     rw [w1 k (by omega), List.append_assoc, List.cons_append]
    ·rw [List.concat_eq_append] at *
     have hBl : (B' ++ [a]).length = B'.length + 1 := by simp
     have hB1000 : B'.length + 1 ≤ 1000 := by
      have := hp2.length_eq
      rw [List.length_append, hBl, List.length_take] at this
      omega
     have g1 : decide (((((B' ++ [a]).length : Nat)) : Int) > 0) = true := decide_eq_true (by rw [hBl]; omega)
     have e1 : IntKind.i64.wrap (((B' ++ [a]).length : Nat) - 1 : Int) = ((B'.length : Nat) : Int) := by rw [hBl, wS (by omega) (by omega)]; omega
     have hgx : (((B' ++ [a]) ++ l[k] :: (C ++ l.drop (k + 1))).map shC)[(B' ++ [a]).length]? = some (shC l[k]) := by
      rw [List.getElem?_map, List.getElem?_append_right (Nat.le_refl _), Nat.sub_self]; rfl
     have hga : (((B' ++ [a]) ++ l[k] :: (C ++ l.drop (k + 1))).map shC)[B'.length]? = some (shC a) := by
      rw [List.getElem?_map, List.append_assoc, List.getElem?_append_right (Nat.le_refl _), Nat.sub_self]; rfl
     have hLl : (((B' ++ [a]) ++ l[k] :: (C ++ l.drop (k + 1))).map shC).length = (B' ++ [a]).length + (1 + (C ++ l.drop (k + 1)).length) := by rw [List.length_map, List.length_append, List.length_cons]; omega
     by_cases hlt : l[k].n < a.n
     ·have g2 : decide (l[k].n < a.n) = true := decide_eq_true hlt
      conv => whnf
      (repeat' (first | (apply kT (by with_reducible first | rfl | assumption); conv => whnf) | (apply kF (by with_reducible first | rfl | assumption); conv => whnf) | (apply kT (by decide); conv => whnf) | (apply kF (by decide); conv => whnf) | (apply kB <;> intro _ <;> conv => whnf) | (refine ⟨(B' ++ [a]).length, rfl, by rw [hLl]; omega, ?_⟩; conv => whnf) | (refine ⟨B'.length, e1, by rw [hLl, hBl]; omega, ?_⟩; conv => whnf) | (refine ⟨_, hgx, ?_⟩; conv => whnf) | (refine ⟨_, hga, ?_⟩; conv => whnf) | (refine ⟨_, rfl, ?_⟩; conv => whnf) | (refine ⟨rfl, ?_⟩; conv => whnf) | fail))
      have es1 : (((B' ++ [a]) ++ l[k] :: (C ++ l.drop (k + 1))).map shC).set (B' ++ [a]).length (List.take 0 (shC l[k]) ++ shC a ++ List.drop (0 + (shC a).length) (shC l[k])) = ((B' ++ [a]) ++ a :: (C ++ l.drop (k + 1))).map shC := by
       show (((B' ++ [a]) ++ l[k] :: (C ++ l.drop (k + 1))).map shC).set (B' ++ [a]).length (shC a) = _
       rw [← List.map_set, List.set_append_right _ _ (Nat.le_refl _), Nat.sub_self]
       rfl
      have hga2 : (((B' ++ [a]) ++ a :: (C ++ l.drop (k + 1))).map shC)[B'.length]? = some (shC a) := by
       rw [List.getElem?_map, List.append_assoc, List.getElem?_append_right (Nat.le_refl _), Nat.sub_self]; rfl
      have es2 : (((B' ++ [a]) ++ a :: (C ++ l.drop (k + 1))).map shC).set B'.length (List.take 0 (shC a) ++ shC l[k] ++ List.drop (0 + (shC l[k]).length) (shC a)) = (B' ++ l[k] :: ((a :: C) ++ l.drop (k + 1))).map shC := by
       show (((B' ++ [a]) ++ a :: (C ++ l.drop (k + 1))).map shC).set B'.length (shC l[k]) = _
       rw [← List.map_set, List.append_assoc, List.set_append_right _ _ (Nat.le_refl _), Nat.sub_self]
       rfl
      have hLl2 : (((B' ++ [a]) ++ a :: (C ++ l.drop (k + 1))).map shC).length = (B' ++ [a]).length + (1 + (C ++ l.drop (k + 1)).length) := by rw [List.length_map, List.length_append, List.length_cons]; omega
      (refine ⟨Nat.le_refl 2, _, es1, ?_⟩; conv => whnf)
      (repeat' (first | (apply kT (by with_reducible first | rfl | assumption); conv => whnf) | (apply kF (by with_reducible first | rfl | assumption); conv => whnf) | (apply kT (by decide); conv => whnf) | (apply kF (by decide); conv => whnf) | (apply kB <;> intro _ <;> conv => whnf) | (refine ⟨B'.length, e1, by rw [hLl2, hBl]; omega, ?_⟩; conv => whnf) | (refine ⟨_, hga2, ?_⟩; conv => whnf) | (refine ⟨rfl, ?_⟩; conv => whnf) | fail))
      (refine ⟨Nat.le_refl 2, _, es2, ?_⟩; conv => whnf)
      refine ⟨q - 1, by omega, B', a :: C, by omega, by rw [List.append_assoc] at hp2; exact hp2, by rw [List.append_assoc] at hs2; exact hs2, fun c hc => ?_, ?_⟩
      ·rcases List.mem_cons.1 hc with hc | hc
       ·rw [hc]; exact hlt
       ·exact hC c hc
      ·rw [e1]
     ·have g2 : decide (l[k].n < a.n) = false := decide_eq_false hlt
      conv => whnf
      (repeat' (first | (apply kT (by with_reducible first | rfl | assumption); conv => whnf) | (apply kF (by with_reducible first | rfl | assumption); conv => whnf) | (apply kT (by decide); conv => whnf) | (apply kF (by decide); conv => whnf) | (apply kB <;> intro _ <;> conv => whnf) | (refine ⟨(B' ++ [a]).length, rfl, by rw [hLl]; omega, ?_⟩; conv => whnf) | (refine ⟨B'.length, e1, by rw [hLl, hBl]; omega, ?_⟩; conv => whnf) | (refine ⟨_, hgx, ?_⟩; conv => whnf) | (refine ⟨_, hga, ?_⟩; conv => whnf) | (refine ⟨_, rfl, ?_⟩; conv => whnf) | (refine ⟨rfl, ?_⟩; conv => whnf) | fail))
      have hxa := hne a (by simp)
      have hBx : ∀ b ∈ B' ++ [a], b.n < l[k].n := fun b hb => by
       rcases List.mem_append.1 hb with hb | hb
       ·have := (List.pairwise_append.1 (List.pairwise_append.1 hs2).1).2.2 b hb a (by simp)
        unfold sLt at this
        omega
       ·rw [List.mem_singleton.1 hb]; omega
      have hsn : (B' ++ [a] ++ l[k] :: C).Pairwise sLt := by
       obtain ⟨q1, q2, q3⟩ := List.pairwise_append.1 hs2
       refine List.pairwise_append.2 ⟨q1, List.pairwise_cons.2 ⟨hC, q2⟩, fun b hb c hc => ?_⟩
       rcases List.mem_cons.1 hc with hc | hc
       ·rw [hc]; exact hBx b hb
       ·exact q3 b hb c hc
      refine ⟨m - 1, by omega, k + 1, B' ++ [a] ++ l[k] :: C, by omega, hBC, hsn, ?_⟩
      rw [w1 k (by omega), List.append_assoc _ (l[k] :: C), List.cons_append]
  ·have f1 : decide ((k : Int) < (((A ++ l.drop k).map shC).length : Int)) = false := decide_eq_false (by rw [hml]; omega)
   have e : sortS l = A ++ l.drop k := by
    rw [List.drop_of_length_le (by omega), List.append_nil]
    exact sort_one _ _ ((sortS_perm l).trans (by rw [List.take_of_length_le (by omega)] at hp; exact hp.symm)) (sortS_sorted hnd) hA
   rw [e]
   conv => whnf
   (apply kF (f1); conv => whnf)
   rfl
end Go.Ev.Ytljkplahkokpaaa


set_option linter.unusedVariables false
set_option linter.unusedSimpArgs false
set_option maxRecDepth 100000
namespace Go.Ev.Ytljkplahkokpaaa
open Go.Proofs
theorem ready_ok {l : List Sh} (hc : checkI l = 0) (hnd : (l.map Sh.n).Nodup) : (∀ s ∈ l, ShOK s) ∧ l.length ≤ 10 ∧ (∀ s ∈ sortS l, ShOK s) ∧ (sortS l).Pairwise (fun a b => a.n < b.n) ∧ WriteL l = (fileL l, 0) := by
 have h1 : ∀ s ∈ l, ShOK s := fun s hs => valid_sheet hc hs
 refine ⟨h1, (checkI_ok.1 hc).1, fun s hs => h1 s ((sortS_perm l).mem_iff.1 hs), sortS_sorted hnd, ?_⟩
 unfold WriteL
 rw [if_pos hc]
 unfold writeI
 rw [if_pos hnd]
theorem file_by {l : List Sh} (h : ∀ s ∈ l, ShOK s) : By (fileL l) := fileL_by fun s hs => (h s hs).1
theorem file_le {l : List Sh} (h : ∀ s ∈ l, ShOK s) (hl : l.length ≤ 10) : (fileL l).length ≤ 4000 := by
 have := cardsA_len h
 rw [file_len h]
 omega
def readyB (l : List Sh) : Bool := thinB l && (checkI l == 0) && decide ((l.map Sh.n).Nodup)
theorem readyB_ok {l : List Sh} (h : readyB l = true) : checkI l = 0 ∧ (l.map Sh.n).Nodup := by
 unfold readyB at h
 simp only [Bool.and_eq_true, beq_iff_eq, decide_eq_true_eq] at h
 exact ⟨h.1.2, h.2⟩
theorem Read_as {b : List Int} {x : List Sh} {n e : Int} (hl : b.length ≤ 100000) (hb : By b) (h : ReadL b = (x, n, e)) : Pure Try.prog 17 [bsD b] (.tup [shsD x, dI n, dI e]) := by
 have := Read_pure' b hl hb
 rw [h] at this
 exact this
theorem Missing_as {b : List Int} {x : List (Int × Int)} {e : Int} (hl : b.length ≤ 100000) (hb : By b) (h : MissL b = (x, e)) : Pure Try.prog 42 [bsD b] (.tup [.seq (x.map lkC), dI e]) := by
 have := Missing_pure b hl hb
 rw [h] at this
 exact this
theorem Pieces_as {b : List Int} {k : Int} {x : List (List Pt)} {e : Int} (hl : b.length ≤ 100000) (hb : By b) (h : PiecesL b k = (x, e)) : Pure Try.prog 40 [bsD b, dI k] (.tup [.seq (x.map rowP), dI e]) := by
 have := Pieces_pure b k hl hb
 rw [h] at this
 exact this
attribute [local irreducible] Pure Bor Iter Pan sortS fileL checkI thinB ReadL MissL
theorem ready_pure (l : List Sh) : Pure Try.prog 34 [shsD l] (dB (readyB l)) := by
 have ct := thin_pure l
 unfold readyB
 cases ht : thinB l with
 | false =>
  rw [ht] at ct
  refine pure_of pg Try.func34 (by kernel_rfl) ?_
  conv => whnf
  (repeat' (first | (apply kT (by with_reducible first | rfl | assumption); conv => whnf) | (apply kF (by with_reducible first | rfl | assumption); conv => whnf) | (apply kT (by decide); conv => whnf) | (apply kF (by decide); conv => whnf) | (apply kB <;> intro _ <;> conv => whnf) | (refine .inl ⟨_, ct, ?_⟩; conv => whnf) | fail))
  rfl
 | true =>
  rw [ht] at ct
  obtain ⟨hl12, h110⟩ := thinB_ok ht
  have hp : ∀ s ∈ l, s.ps.length ≤ 100000 := fun s hs => by have := h110 s hs; omega
  have cf := refFault_pure l hp
  have c2 := refTwice_pure l (by omega)
  by_cases hc : checkI l = 0
  ·have k0 : (checkI l == 0) = true := by rw [hc]; rfl
   rw [k0]
   rw [hc] at cf
   cases hn : decide ((l.map Sh.n).Nodup) with
   | true =>
    rw [hn] at c2
    refine pure_of pg Try.func34 (by kernel_rfl) ?_
    conv => whnf
    (repeat' (first | (apply kT (by with_reducible first | rfl | assumption); conv => whnf) | (apply kF (by with_reducible first | rfl | assumption); conv => whnf) | (apply kT (by decide); conv => whnf) | (apply kF (by decide); conv => whnf) | (apply kB <;> intro _ <;> conv => whnf) | (refine .inl ⟨_, ct, ?_⟩; conv => whnf) | (refine .inl ⟨_, cf, ?_⟩; conv => whnf) | (refine .inl ⟨_, c2, ?_⟩; conv => whnf) | fail))
    rfl
   | false =>
    rw [hn] at c2
    refine pure_of pg Try.func34 (by kernel_rfl) ?_
    conv => whnf
    (repeat' (first | (apply kT (by with_reducible first | rfl | assumption); conv => whnf) | (apply kF (by with_reducible first | rfl | assumption); conv => whnf) | (apply kT (by decide); conv => whnf) | (apply kF (by decide); conv => whnf) | (apply kB <;> intro _ <;> conv => whnf) | (refine .inl ⟨_, ct, ?_⟩; conv => whnf) | (refine .inl ⟨_, cf, ?_⟩; conv => whnf) | (refine .inl ⟨_, c2, ?_⟩; conv => whnf) | fail))
    rfl
  ·have k0 : (checkI l == 0) = false := by rw [beq_eq_false_iff_ne]; exact hc
   have e : (checkI l == 0 : Bool) = false := k0
   refine pure_of pg Try.func34 (by kernel_rfl) ?_
   conv => whnf
   (repeat' (first | (apply kT (by with_reducible first | rfl | assumption); conv => whnf) | (apply kF (by with_reducible first | rfl | assumption); conv => whnf) | (apply kT (by decide); conv => whnf) | (apply kF (by decide); conv => whnf) | (apply kB <;> intro _ <;> conv => whnf) | (refine .inl ⟨_, ct, ?_⟩; conv => whnf) | (refine .inl ⟨_, cf, ?_⟩; conv => whnf) | fail))
   rw [k0]
   rfl
end Go.Ev.Ytljkplahkokpaaa


set_option linter.unusedVariables false
set_option linter.unusedSimpArgs false
set_option maxRecDepth 100000
namespace Go.Ev.Ytljkplahkokpaaa
open Go.Proofs
theorem cardsA_append (a b : List Sh) : cardsA (a ++ b) = cardsA a ++ cardsA b := by unfold cardsA; rw [List.map_append, List.flatten_append]
theorem cardsA_take (l : List Sh) {k : Nat} (h : k < l.length) : cardsA (l.take (k + 1)) = cardsA (l.take k) ++ cardsL l[k] := by
 rw [List.take_add_one, List.getElem?_eq_getElem h, cardsA_append]
 show _ ++ cardsA [l[k]] = _
 unfold cardsA
 simp
theorem cardsA_drop (l : List Sh) (k : Nat) : cardsA l = cardsA (l.take k) ++ cardsA (l.drop k) := by rw [← cardsA_append, List.take_append_drop]
def inC (q : Nat) (l : List Sh) (c : Cd) : Bool := decide (c ∈ (cardsA l).take q)
theorem sortS_filter {l : List Sh} (hnd : (l.map Sh.n).Nodup) (p : Sh → Bool) : sortS (l.filter p) = (sortS l).filter p := by
 refine sort_one _ _ ((sortS_perm _).trans ((sortS_perm l).filter p).symm) (sortS_sorted ?_) ((sortS_sorted hnd).sublist List.filter_sublist)
 exact hnd.sublist (List.filter_sublist.map _)
theorem filter_take {l : List Sh} (p : Sh → Bool) {k : Nat} (h : k < l.length) : (l.take (k + 1)).filter p = (l.take k).filter p ++ (bif p l[k] then [l[k]] else []) := by
 rw [List.take_add_one, List.getElem?_eq_getElem h, List.filter_append]
 show _ ++ [l[k]].filter p = _
 rw [List.filter_cons]
 cases p l[k] <;> rfl
end Go.Ev.Ytljkplahkokpaaa


set_option linter.unusedVariables false
set_option linter.unusedSimpArgs false
set_option maxRecDepth 100000
namespace Go.Ev.Ytljkplahkokpaaa
open Go.Proofs
def VsF (fs : List (List Int)) : List (Option Cd) := (fs.map Vs).flatten
end Go.Ev.Ytljkplahkokpaaa


set_option linter.unusedVariables false
set_option linter.unusedSimpArgs false
set_option maxRecDepth 100000
namespace Go.Ev.Ytljkplahkokpaaa
open Go.Proofs
theorem getD_set (x : List Int) {j : Nat} (hj : j < x.length) (v : Int) (i : Nat) : (x.set j v).getD i 0 = if i = j then v else x.getD i 0 := by
 rw [List.getD_eq_getElem?_getD, List.getD_eq_getElem?_getD, List.getElem?_set]
 by_cases h : j = i
 ·subst h; simp [hj]
 ·rw [if_neg h, if_neg fun e => h e.symm]
theorem wsum_set' (x : List Int) {j : Nat} (hj : j < x.length) (v : Int) : ∀ k, wsum (x.set j v) k = wsum x k + if j < k then ((j : Int) + 1) * (v - x.getD j 0) else 0
 | 0 => by simp [wsum]
 | k + 1 => by
  rw [wsum, wsum, wsum_set' x hj v k, getD_set x hj]
  by_cases h : k = j
  ·subst h
   rw [if_pos rfl, if_neg (by omega), if_pos (by omega), Int.mul_sub]
   omega
  ·rw [if_neg h]
   by_cases h2 : j < k
   ·rw [if_pos h2, if_pos (by omega)]; omega
   ·rw [if_neg h2, if_neg (by omega)]; omega
theorem psum_set' (x : List Int) {j : Nat} (hj : j < x.length) (v : Int) : ∀ k, psum (x.set j v) k = psum x k + if j < k then (v - x.getD j 0) else 0
 | 0 => by simp [psum]
 | k + 1 => by
  rw [psum, psum, psum_set' x hj v k, getD_set x hj]
  by_cases h : k = j
  ·subst h
   rw [if_pos rfl, if_neg (by omega), if_pos (by omega)]
   omega
  ·rw [if_neg h]
   by_cases h2 : j < k
   ·rw [if_pos h2, if_pos (by omega)]; omega
   ·rw [if_neg h2, if_neg (by omega)]; omega
theorem getD_last (P : List Int) (a b : Int) (h : P.length = 38) : (P ++ [a, b]).getD 38 0 = a ∧ (P ++ [a, b]).getD 39 0 = b := by
 constructor
 ·rw [List.getD_eq_getElem?_getD, List.getElem?_append_right (by omega), h]; rfl
 ·rw [List.getD_eq_getElem?_getD, List.getElem?_append_right (by omega), h]; rfl
theorem chk_of {c : Cd} (h : CdOK c) : (layB c).length = 40 ∧ (layB c).getD 38 0 = wsum (layB c) 38 % 251 ∧ (layB c).getD 39 0 = psum (layB c) 38 % 253 := by
 have hl := lay_len h.many.1
 have e := layB_room h.many.1 h.2.2.2.2
 have hP := pad38_len h.2.2.2.2
 refine ⟨hl, ?_⟩
 generalize pad38 (cardRaw c) = P at e hP
 have h1 : wsum (layB c) 38 = wsum P 38 := wsum_congr 38 fun i hi => by rw [e, getD_app (by omega)]
 have h2 : psum (layB c) 38 = psum P 38 := psum_congr 38 fun i hi => by rw [e, getD_app (by omega)]
 rw [h1, h2, e]
 exact getD_last P _ _ hP
theorem bad_block {c : Cd} (h : CdOK c) (hb : By (layB c)) {j : Nat} (hj : j < 40) {v : Int} (hv : 0 ≤ v ∧ v < 256) (hne : v ≠ (layB c).getD j 0) : readR ((layB c).set j v) = none := by
 cases hr : readR ((layB c).set j v) with
 | none => rfl
 | some d =>
  exfalso
  obtain ⟨hl, c1, c2⟩ := chk_of h
  obtain ⟨hd, hx⟩ := readR_ok (hb.set hv) hr
  obtain ⟨_, d1, d2⟩ := chk_of hd
  have hj' : j < (layB c).length := by omega
  rw [hx, getD_set _ hj', wsum_set' _ hj'] at d1
  rw [hx, getD_set _ hj', psum_set' _ hj'] at d2
  have hold : 0 ≤ (layB c).getD j 0 ∧ (layB c).getD j 0 < 256 := by
   rw [List.getD_eq_getElem?_getD, List.getElem?_eq_getElem hj']
   exact hb _ (List.getElem_mem hj')
  generalize hp : (layB c).getD 38 0 = p at *
  generalize hq : (layB c).getD 39 0 = q at *
  generalize wsum (layB c) 38 = W at *
  generalize psum (layB c) 38 = Q at *
  by_cases h38 : j < 38
  ·rw [if_neg (by omega), if_pos h38] at d1 d2
   generalize (layB c).getD j 0 = o at *
   have hδ : v - o = 253 ∨ v - o = -253 := by omega
   rcases hδ with hδ | hδ
   ·rw [hδ] at d1; omega
   ·rw [hδ] at d1; omega
  ·rw [if_neg h38] at d1 d2
   by_cases h8 : j = 38
   ·subst h8
    rw [if_pos rfl] at d1
    omega
   ·have h9 : j = 39 := by omega
    subst h9
    rw [hq] at hne
    rw [if_pos rfl] at d2
    omega
theorem chAt_len {x : List Int} {N i : Nat} (h : x.length = 40 * N) (hi : i < N) : (chAt x i).length = 40 := by unfold chAt; rw [List.length_take, List.length_drop]; omega
theorem Vs_ch {x : List Int} {N : Nat} (h : x.length = 40 * N) : Vs x = (List.range N).map fun i => readR (chAt x i) := by
 unfold Vs blks chL
 have e : nCh x = N := by unfold nCh; omega
 rw [e, List.map_map, List.map_map]
 refine List.map_congr_left fun i hi => ?_
 have hl := chAt_len h (List.mem_range.1 hi)
 show cardOf (pad (chAt x i), decide ((chAt x i).length = 40)) = _
 unfold cardOf
 rw [decide_eq_true hl, pad_full hl]
 rfl
theorem chAt_set (x : List Int) (k r i : Nat) (hr : r < 40) (v : Int) : chAt (x.set (40 * k + r) v) i = if i = k then (chAt x i).set r v else chAt x i := by
 unfold chAt
 rw [List.drop_set]
 by_cases h : i = k
 ·subst h
  rw [if_pos rfl, if_neg (by omega), List.take_set, show 40 * i + r - 40 * i = r from by omega]
 ·rw [if_neg h]
  by_cases h2 : 40 * k + r < 40 * i
  ·rw [if_pos h2]
  ·rw [if_neg h2, List.take_set, List.set_eq_of_length_le (by rw [List.length_take]; omega)]
theorem cards_calm {S : List Sh} (h : ∀ s ∈ S, ShOK s) (hp : S.Pairwise fun a b => a.n < b.n) {os : List (Option Cd)} (hv : ∀ c, some c ∈ os ↔ c ∈ cardsA S) : Srt os (cardsA S) ∧ ¬ Conf os ∧ ¬ MConf os := by
 have e : (S.map (keptAt fun _ => true)).flatten = cardsA S := by
  unfold cardsA
  congr 1
  exact List.map_congr_left fun s hs => by unfold keptAt; exact List.filter_eq_self.2 fun _ _ => rfl
 have hs : Srt os (cardsA S) := ⟨by rw [← e]; exact kept_srt _ h hp, fun c => (hv c).symm⟩
 refine ⟨hs, fun ⟨c, d, h1, h2, h3, h4, h5⟩ => h5 (srt_one hs.1 ((hs.2 c).2 h1) ((hs.2 d).2 h2) h3 h4), fun ⟨c, d, h1, h2, h3, h4⟩ => ?_⟩
 obtain ⟨s, s1, s2⟩ := mem_cardsA.1 ((hv c).1 h1)
 obtain ⟨t, t1, t2⟩ := mem_cardsA.1 ((hv d).1 h2)
 obtain ⟨_, u1, u2⟩ := (h s s1).card s2
 obtain ⟨_, v1, v2⟩ := (h t t1).card t2
 have : s = t := by
  obtain ⟨i, hi, rfl⟩ := List.getElem_of_mem s1
  obtain ⟨j, hj, rfl⟩ := List.getElem_of_mem t1
  rcases Nat.lt_trichotomy i j with hij | hij | hij
  ·have := List.pairwise_iff_getElem.1 hp i j hi hj hij; omega
  ·subst hij; rfl
  ·have := List.pairwise_iff_getElem.1 hp j i hj hi hij; omega
 subst this
 omega
structure Cpy (cs : List Cd) (x : List Int) : Prop where
 len : x.length = 40 * cs.length
 by' : By x
 at' : ∀ i (h : i < cs.length), chAt x i = layB cs[i] ∨ readR (chAt x i) = none
theorem Cpy.mem {cs : List Cd} {x : List Int} (hok : ∀ c ∈ cs, CdOK c) (h : Cpy cs x) {c : Cd} (hc : some c ∈ Vs x) : c ∈ cs := by
 rw [Vs_ch h.len] at hc
 obtain ⟨i, hi, e⟩ := List.mem_map.1 hc
 rw [List.mem_range] at hi
 rcases h.at' i hi with q | q
 ·rw [q, readR_enc (hok _ (List.getElem_mem hi))] at e
  cases e
  exact List.getElem_mem hi
 ·rw [q] at e; cases e
theorem Cpy.has {cs : List Cd} {x : List Int} (hok : ∀ c ∈ cs, CdOK c) (h : Cpy cs x) {i : Nat} (hi : i < cs.length) (e : chAt x i = layB cs[i]) : some cs[i] ∈ Vs x := by
 rw [Vs_ch h.len]
 exact List.mem_map.2 ⟨i, List.mem_range.2 hi, by rw [e, readR_enc (hok _ (List.getElem_mem hi))]⟩
theorem Cpy.set {cs : List Cd} {x : List Int} (hok : ∀ c ∈ cs, CdOK c) (h : Cpy cs x) {k r : Nat} (hk : k < cs.length) (hr : r < 40) (e : chAt x k = layB cs[k]) {v : Int} (hv : 0 ≤ v ∧ v < 256) (hne : v ≠ x.getD (40 * k + r) 0) : Cpy cs (x.set (40 * k + r) v) := by
 refine ⟨by rw [List.length_set]; exact h.len, h.by'.set hv, fun i hi => ?_⟩
 rw [chAt_set x k r i hr]
 by_cases hik : i = k
 ·subst hik
  rw [if_pos rfl, e]
  right
  have hxl := h.len
  have hby : By (layB cs[i]) := by rw [← e]; exact (h.by'.drop _).take _
  refine bad_block (hok _ (List.getElem_mem hi)) hby hr hv ?_
  rw [← e]
  have : (chAt x i).getD r 0 = x.getD (40 * i + r) 0 := by
   unfold chAt
   rw [List.getD_eq_getElem?_getD, List.getD_eq_getElem?_getD, List.getElem?_take_of_lt hr, List.getElem?_drop]
  rw [this]
  exact hne
 ·rw [if_neg hik]
  exact h.at' i hi
end Go.Ev.Ytljkplahkokpaaa


set_option linter.unusedVariables false
set_option linter.unusedSimpArgs false
set_option maxRecDepth 100000
namespace Go.Ev.Ytljkplahkokpaaa
open Go.Proofs
theorem file_set {X Y : List Cd} {c : Cd} (hX : ∀ d ∈ X, CdOK d) (hc : CdOK c) {r : Nat} (hr : r < 40) (v : Int) :
  (((X ++ c :: Y).map layB).flatten).set (40 * X.length + r) v = (X.map layB).flatten ++ ((layB c).set r v ++ (Y.map layB).flatten) := by
 have hl := layL_len (l := X) fun d hd => (hX d hd).many.1
 have hc40 := lay_len hc.many.1
 rw [List.map_append, List.flatten_append, List.map_cons, List.flatten_cons, List.set_append_right _ _ (by omega), hl, show 40 * X.length + r - 40 * X.length = r from by omega, List.set_append_left _ _ (by omega)]
theorem Vs_set {X Y : List Cd} {c : Cd} (hX : ∀ d ∈ X, CdOK d) (hc : CdOK c) (hY : ∀ d ∈ Y, CdOK d) {r : Nat} (hr : r < 40) {v : Int} (hv : 0 ≤ v ∧ v < 256) (hne : v ≠ (layB c).getD r 0) :
  Vs ((((X ++ c :: Y).map layB).flatten).set (40 * X.length + r) v) = X.map some ++ (none :: Y.map some) := by
 have hl := layL_len (l := X) fun d hd => (hX d hd).many.1
 have hc40 := lay_len hc.many.1
 have hby : By (layB c) := layB_by hc.many.1 (runB_ok.1 hc.2.2.2.1).2.2
 rw [file_set hX hc hr, Vs_app hl, Vs_app (n := 1) (by rw [List.length_set]; omega), Vs_flat _ hX, Vs_flat _ hY, Vs_block (by rw [List.length_set]; omega), bad_block hc hby hr hv hne]
 rfl
theorem cardsA_nodup {l : List Sh} (h : ∀ s ∈ l, ShOK s) (hnd : (l.map Sh.n).Nodup) : (cardsA l).Nodup := by
 have hp := sortS_perm l
 have h3 : ∀ s ∈ sortS l, ShOK s := fun s hs => h s (hp.mem_iff.1 hs)
 have hk := (cards_calm (os := (cardsA (sortS l)).map some) h3 (sortS_sorted hnd) fun c => by simp).1.1
 have hn : (cardsA (sortS l)).Nodup := hk.imp fun hk e => by rw [e] at hk; exact kLt_irr hk
 have hperm : (cardsA (sortS l)).Perm (cardsA l) := by unfold cardsA; exact (hp.map cardsL).flatten
 exact hperm.nodup_iff.1 hn
def butC (c0 : Cd) (c : Cd) : Bool := decide (c ≠ c0)
theorem but_open {l : List Sh} (hc : checkI l = 0) (hnd : (l.map Sh.n).Nodup) {X Y : List Cd} {c : Cd} (e : cardsA l = X ++ c :: Y) {r : Nat} (hr : r < 40) {v : Int} (hv : 0 ≤ v ∧ v < 256) (hne : v ≠ (layB c).getD r 0) :
  By ((fileL l).set (40 * X.length + r) v) ∧ ((fileL l).set (40 * X.length + r) v).length ≤ 8000 ∧ openL ((fileL l).set (40 * X.length + r) v) = (kept (butC c) (sortS l), 1, 0) := by
 obtain ⟨h1, h2, h3, h4, _⟩ := ready_ok hc hnd
 have hok := cardsA_ok h1
 have hn := cardsA_nodup h1 hnd
 rw [e] at hok hn
 have hX : ∀ d ∈ X, CdOK d := fun d hd => hok d (by simp [hd])
 have hY : ∀ d ∈ Y, CdOK d := fun d hd => hok d (by simp [hd])
 have hcd : CdOK c := hok c (by simp)
 have hle := file_le h1 h2
 have hby : By ((fileL l).set (40 * X.length + r) v) := (file_by h1).set hv
 have hlen : ((fileL l).set (40 * X.length + r) v).length ≤ 8000 := by rw [List.length_set]; omega
 have hvs : Vs ((fileL l).set (40 * X.length + r) v) = X.map some ++ (none :: Y.map some) := by
  rw [file_cards, e]
  exact Vs_set hX hcd hY hr hv hne
 refine ⟨hby, hlen, ?_⟩
 rw [List.nodup_append] at hn
 obtain ⟨n1, n2, n3⟩ := hn
 rw [List.nodup_cons] at n2
 rw [kept_open (keep := butC c) h3 h4 hby hlen fun d => ?_, hvs]
 ·have e1 : (X.map some ++ (none :: Y.map some)).countP Option.isNone = 1 := by
   have z : ∀ L : List Cd, (L.map some).countP Option.isNone = 0 := fun L => by
    rw [List.countP_eq_zero]
    intro o ho
    obtain ⟨d, _, rfl⟩ := List.mem_map.1 ho
    simp
   rw [List.countP_append, List.countP_cons, z, z]
   rfl
  rw [e1]
  rfl
 ·rw [hvs]
  have hm : (∃ s ∈ sortS l, d ∈ cardsL s) ↔ d ∈ X ++ c :: Y := by
   rw [← e, mem_cardsA]
   exact ⟨fun ⟨s, hs, hd⟩ => ⟨s, (sortS_perm l).mem_iff.1 hs, hd⟩, fun ⟨s, hs, hd⟩ => ⟨s, (sortS_perm l).mem_iff.2 hs, hd⟩⟩
  rw [hm]
  unfold butC
  rw [decide_eq_true_eq]
  simp only [List.mem_append, List.mem_cons, List.mem_map, Option.some.injEq, reduceCtorEq, false_or, exists_eq_right]
  constructor
  ·rintro (hd | hd)
   ·exact ⟨.inl hd, fun e => n3 d hd c (by simp) e⟩
   ·exact ⟨.inr (.inr hd), fun e => n2.1 (e ▸ hd)⟩
  ·rintro ⟨hd | hd | hd, hne⟩
   ·exact .inl hd
   ·exact absurd hd hne
   ·exact .inr hd
theorem missG_kept (keep : Cd → Bool) : ∀ (S : List Sh), missG (kept keep S) = (S.map fun s => lacks (keptAt keep s)).flatten
 | [] => rfl
 | s :: S => by
  have ih := missG_kept keep S
  unfold kept at ih ⊢
  rw [List.map_cons, List.filter_cons, List.map_cons, List.flatten_cons, ← ih]
  cases hk : keptAt keep s with
  | nil => rfl
  | cons c t => rfl
theorem keptAt_other {s : Sh} (h : ShOK s) {c : Cd} (hn : s.n ≠ c.n) : keptAt (butC c) s = cardsL s := List.filter_eq_self.2 fun d hd => by
 unfold butC
 rw [decide_eq_true_eq]
 rintro rfl
 exact hn (h.card hd).2.1.symm
theorem filter_but : ∀ (L : List Cd), L.Nodup → ∀ (j : Nat) (hj : j < L.length), L.filter (butC L[j]) = L.take j ++ L.drop (j + 1)
 | x :: L, hn, 0, _ => by
  rw [List.nodup_cons] at hn
  have h1 : butC x x = false := by unfold butC; simp
  show (x :: L).filter (butC x) = _
  rw [List.filter_cons, h1]
  show L.filter (butC x) = L
  rw [List.filter_eq_self]
  intro d hd
  unfold butC
  rw [decide_eq_true_eq]
  rintro rfl
  exact hn.1 hd
 | x :: L, hn, j + 1, hj => by
  have hj' : j < L.length := by simpa using hj
  rw [List.nodup_cons] at hn
  have h1 : butC L[j] x = true := by
   unfold butC
   rw [decide_eq_true_eq]
   intro e
   exact hn.1 (e ▸ List.getElem_mem hj')
  show (x :: L).filter (butC L[j]) = _
  rw [List.filter_cons, if_pos h1, filter_but L hn.2 j hj']
  rfl
theorem lackF_but (n n' m : Int) : ∀ (r : List (List Pt)) (j k : Nat), j < r.length → lackF n r.length k ((cds n' m k r).take j ++ (cds n' m k r).drop (j + 1)) = [(n, ((k + j : Nat) : Int))]
 | p :: r, 0, k, _ => by
  rw [cds_cons, List.length_cons]
  show lackF n (r.length + 1) k (cds n' m (k + 1) r) = _
  cases r with
  | nil => rw [cds_nil, lackF_nil]; rfl
  | cons q r =>
   rw [cds_cons, lackF_no (by show ((k + 1 : Nat) : Int) ≠ (k : Int); omega), ← cds_cons, lackF_all]
   rfl
 | p :: r, j + 1, k, h => by
  rw [cds_cons, List.length_cons]
  show lackF n (r.length + 1) k (_ :: ((cds n' m (k + 1) r).take j ++ (cds n' m (k + 1) r).drop (j + 1))) = _
  rw [lackF_hit rfl, lackF_but n n' m r j (k + 1) (by simpa using h)]
  congr 3
  omega
theorem lacks_but {s : Sh} (h : ShOK s) {j : Nat} (hj : j < (cardsL s).length) : lacks (keptAt (butC (cardsL s)[j]) s) = if (cardsL s).length = 1 then [] else [(s.n, (j : Int))] := by
 have hn : (cardsL s).Nodup := (cards_lt s).imp fun hk e => by rw [e] at hk; exact kLt_irr hk
 have e : keptAt (butC (cardsL s)[j]) s = (cardsL s).take j ++ (cardsL s).drop (j + 1) := filter_but _ hn j hj
 have hmem : ∀ c ∈ (cardsL s).take j ++ (cardsL s).drop (j + 1), c ∈ cardsL s := fun c hc => by
  rcases List.mem_append.1 hc with hc | hc
  ·exact List.mem_of_mem_take hc
  ·exact List.mem_of_mem_drop hc
 have hlen : ((cardsL s).take j ++ (cardsL s).drop (j + 1)).length = (cardsL s).length - 1 := by rw [List.length_append, List.length_take, List.length_drop]; omega
 rw [e]
 by_cases h1 : (cardsL s).length = 1
 ·rw [if_pos h1, List.length_eq_zero_iff.1 (show ((cardsL s).take j ++ (cardsL s).drop (j + 1)).length = 0 by omega)]
  rfl
 ·rw [if_neg h1]
  have hall := lackF_but s.n s.n (cuts s.ps).length (cuts s.ps) j 0 (by rw [← cards_len]; exact hj)
  rw [← cards_len] at hall
  cases hL : (cardsL s).take j ++ (cardsL s).drop (j + 1) with
  | nil => rw [hL] at hlen; simp at hlen; omega
  | cons c t =>
   obtain ⟨_, c1, c2⟩ := h.card (hmem c (by rw [hL]; simp))
   show lackF c.n c.m.toNat 0 (c :: t) = _
   rw [c1, c2, Int.toNat_natCast, ← hL]
   have e2 : cds s.n ((cardsL s).length : Nat) 0 (cuts s.ps) = cardsL s := by rw [cards_len]; rfl
   rw [e2, Nat.zero_add] at hall
   exact hall
theorem but_law {l : List Sh} (hc : checkI l = 0) (hnd : (l.map Sh.n).Nodup) {i j : Nat} (hi : i < l.length) (hj : j < (cardsL l[i]).length) {r : Nat} (hr : r < 40) {v : Int} (hv : 0 ≤ v ∧ v < 256) {b : List Int} (hb : b = (fileL l).set (40 * ((cardsA (l.take i)).length + j) + r) v)
  (hne : v ≠ (fileL l).getD (40 * ((cardsA (l.take i)).length + j) + r) 0) : By b ∧ b.length ≤ 8000 ∧ ReadL b = (sortS (l.filter fun s => decide (s.n ≠ l[i].n)), 1, 0) ∧
   MissL b = (if (cardsL l[i]).length = 1 then [] else [(l[i].n, (j : Int))], 0) ∧ ((cardsL l[i]).length = 1 → PiecesL b l[i].n = ([], 7)) := by
 obtain ⟨h1, h2, h3, h4, _⟩ := ready_ok hc hnd
 have hs := h1 _ (List.getElem_mem hi)
 have e : cardsA l = (cardsA (l.take i) ++ (cardsL l[i]).take j) ++ (cardsL l[i])[j] :: ((cardsL l[i]).drop (j + 1) ++ cardsA (l.drop (i + 1))) := by
  rw [cardsA_drop l (i + 1), cardsA_take l hi, List.append_assoc, List.append_assoc]
  congr 1
  rw [← List.cons_append, ← List.append_assoc]
  congr 1
  rw [← List.drop_eq_getElem_cons hj, List.take_append_drop]
 have hXl : (cardsA (l.take i) ++ (cardsL l[i]).take j).length = (cardsA (l.take i)).length + j := by rw [List.length_append, List.length_take]; omega
 have hok := cardsA_ok h1
 have hget : (fileL l).getD (40 * ((cardsA (l.take i)).length + j) + r) 0 = (layB (cardsL l[i])[j]).getD r 0 := by
  have hX : ∀ d ∈ cardsA (l.take i) ++ (cardsL l[i]).take j, CdOK d := fun d hd => hok d (by rw [e]; exact List.mem_append_left _ hd)
  have hl := layL_len fun d hd => (hX d hd).many.1
  have hc40 := lay_len (hs.card (List.getElem_mem hj)).1.many.1
  rw [file_cards, e, List.map_append, List.flatten_append, List.map_cons, List.flatten_cons, List.getD_eq_getElem?_getD, List.getElem?_append_right (by omega), hl, hXl, show 40 * ((cardsA (l.take i)).length + j) + r - 40 * ((cardsA (l.take i)).length + j) = r from by omega, List.getElem?_append_left (by omega), ← List.getD_eq_getElem?_getD]
 rw [hget] at hne
 have ho := but_open hc hnd e hr hv hne
 rw [hXl, ← hb] at ho
 obtain ⟨o1, o2, o3⟩ := ho
 have hcn : (cardsL l[i])[j].n = l[i].n := (hs.card (List.getElem_mem hj)).2.1
 have hone : ∀ s ∈ l, s.n = l[i].n → s = l[i] := fun s hs hn => by
  obtain ⟨k, hk, rfl⟩ := List.getElem_of_mem hs
  rcases Nat.lt_trichotomy k i with h | h | h
  ·have := List.pairwise_iff_getElem.1 hnd k i (by rw [List.length_map]; omega) (by rw [List.length_map]; omega) h
   rw [List.getElem_map, List.getElem_map] at this
   exact absurd hn this
  ·subst h; rfl
  ·have := List.pairwise_iff_getElem.1 hnd i k (by rw [List.length_map]; omega) (by rw [List.length_map]; omega) h
   rw [List.getElem_map, List.getElem_map] at this
   exact absurd hn.symm this
 have hallk : ∀ s ∈ sortS l, (cardsL s).all (butC (cardsL l[i])[j]) = decide (s.n ≠ l[i].n) := fun s hss => by
  have hsl := (sortS_perm l).mem_iff.1 hss
  by_cases hn : s.n = l[i].n
  ·have := hone s hsl hn
   subst this
   rw [decide_eq_false (by simp), List.all_eq_false]
   exact ⟨_, List.getElem_mem hj, by unfold butC; simp⟩
  ·rw [decide_eq_true hn, List.all_eq_true]
   intro d hd
   unfold butC
   rw [decide_eq_true_eq]
   rintro rfl
   exact hn (((h1 s hsl).card hd).2.1.symm.trans hcn)
 have hmiss : missG (kept (butC (cardsL l[i])[j]) (sortS l)) = if (cardsL l[i]).length = 1 then [] else [(l[i].n, (j : Int))] := by
  rw [missG_kept]
  obtain ⟨A, B, hAB⟩ := List.append_of_mem ((sortS_perm l).mem_iff.2 (List.getElem_mem hi))
  have hz : ∀ U : List Sh, (∀ s ∈ U, s ∈ l ∧ s.n ≠ l[i].n) → (U.map fun s => lacks (keptAt (butC (cardsL l[i])[j]) s)).flatten = [] := fun U hU => by
   rw [List.flatten_eq_nil_iff]
   intro g hg
   obtain ⟨s, hsU, rfl⟩ := List.mem_map.1 hg
   obtain ⟨u1, u2⟩ := hU s hsU
   show lacks (keptAt (butC (cardsL l[i])[j]) s) = []
   rw [keptAt_other (h1 s u1) (by rw [hcn]; exact u2), lacks_cards (h1 s u1)]
  have hin : ∀ s, s ∈ A ∨ s ∈ B → s ∈ l := fun s hs => (sortS_perm l).mem_iff.1 (by rw [hAB]; rcases hs with h | h <;> simp [h])
  rw [hAB] at h4
  obtain ⟨_, p2, p3⟩ := List.pairwise_append.1 h4
  rw [List.pairwise_cons] at p2
  rw [hAB, List.map_append, List.map_cons, List.flatten_append, List.flatten_cons, hz A (fun s hs => ⟨hin s (.inl hs), by have := p3 s hs l[i] (by simp); omega⟩), hz B (fun s hs => ⟨hin s (.inr hs), by have := p2.1 s hs; omega⟩), List.nil_append, List.append_nil]
  exact lacks_but hs hj
 refine ⟨o1, o2, ?_, ?_, fun hm1 => ?_⟩
 ·unfold ReadL
  rw [o3, readG_kept _ h3, sortS_filter hnd]
  have : (sortS l).filter (fun s => (cardsL s).all (butC (cardsL l[i])[j])) = (sortS l).filter (fun s => decide (s.n ≠ l[i].n)) := List.filter_congr hallk
  rw [this]
 ·unfold MissL
  rw [o3, hmiss]
 ·have hno : ∀ g ∈ kept (butC (cardsL l[i])[j]) (sortS l), headN g ≠ l[i].n := fun g hg e => by
   obtain ⟨s, s1, s2, s3, s4, _⟩ := kept_head h3 hg
   have hsl := (sortS_perm l).mem_iff.1 s1
   have := hone s hsl (by omega)
   subst this
   refine s3 (s2.trans ?_)
   have hn : (cardsL l[i]).Nodup := (cards_lt l[i]).imp fun hk e => by rw [e] at hk; exact kLt_irr hk
   have e5 : keptAt (butC (cardsL l[i])[j]) l[i] = (cardsL l[i]).take j ++ (cardsL l[i]).drop (j + 1) := filter_but _ hn j hj
   rw [e5, ← List.length_eq_zero_iff, List.length_append, List.length_take, List.length_drop]
   omega
  have hpg : ∀ G : List (List Cd), (∀ g ∈ G, headN g ≠ l[i].n) → piecesG l[i].n G = [] := fun G => by
   induction G with
   | nil => intro _; rfl
   | cons g G ih =>
    intro hG
    have : (headN g != l[i].n) = true := by rw [bne_iff_ne]; exact hG g (by simp)
    rw [piecesG, this, cond_true, ih fun x hx => hG x (by simp [hx])]
  unfold PiecesL
  rw [o3]
  simp only
  have hin : inB l[i].n 0 9999 = true := by unfold inB; rw [decide_eq_true hs.2.2.1, decide_eq_true hs.2.2.2]; rfl
  rw [hpg _ hno, hin]
  rfl
end Go.Ev.Ytljkplahkokpaaa


set_option linter.unusedVariables false
set_option linter.unusedSimpArgs false
set_option maxRecDepth 100000
namespace Go.Ev.Ytljkplahkokpaaa
open Go.Proofs
attribute [local irreducible] Pure Bor Iter
theorem concat_bor (P : List (List Int)) (hP : P.length ≤ 100000) (hl : P.flatten.length ≤ 100000) : Bor tb Try.prog 78 [.d (.seq (P.map fun l => [.seq (l.map byC)]))] [] 1 (.own 0) [(0, .arr 5 (P.flatten.map byC))] := by
 have hm : ((P.map fun l => [D.seq (l.map byC)]).length : Int) = P.length := by rw [List.length_map]
 have hg : ∀ k (h : k < P.length), (P.map fun l => [D.seq (l.map byC)])[k]? = some [D.seq (P[k].map byC)] := fun k h => by simp [h]
 have hf : ∀ k (h : k < P.length), (P.take (k + 1)).flatten = (P.take k).flatten ++ P[k] := fun k h => by
  rw [List.take_add_one, List.getElem?_eq_getElem h, List.flatten_append]; simp
 have hle : ∀ k, (P.take k).flatten.length ≤ P.flatten.length := fun k => by
  rw [show P.flatten = (P.take k).flatten ++ (P.drop k).flatten from by rw [← List.flatten_append, List.take_append_drop]]
  simp
 have loop2 : ∀ k (h : k < P.length), ((P.take k).flatten.length + P[k].length) = (P.take (k + 1)).flatten.length := fun k h => by rw [hf k h, List.length_append]
 have hel : ∀ k (h : k < P.length), ∀ el ∈ P[k].map byC, el.length = 1 := fun k h el he => by
  rw [List.mem_map] at he; obtain ⟨x, _, rfl⟩ := he; rfl
 have hby : ∀ k (h : k < P.length), (((P.take k).flatten.map byC).length + (P[k].map byC).length) * 1 ≤ 140737488355328 := fun k h => by
  rw [List.length_map, List.length_map, loop2 k h]
  have := hle (k + 1)
  omega
 refine bor_ofO pg Try.func78 (by kernel_rfl) ?_
 conv => whnf
 (repeat' (first | (apply kT (by with_reducible first | rfl | assumption); conv => whnf) | (apply kF (by with_reducible first | rfl | assumption); conv => whnf) | (apply kT (by decide); conv => whnf) | (apply kF (by decide); conv => whnf) | (apply kB <;> intro _ <;> conv => whnf) | fail))
 refine ⟨[], [0, 3, 9, 10, 11], [], 0, fun m s => ∃ k : Nat, k + m = P.length ∧ s = ⟨[(0, .d (.seq (P.map fun l => [D.seq (l.map byC)]))), (3, .d (dI (P.take k).flatten.length)), (9, .d (.seq (P.map fun l => [D.seq (l.map byC)]))), (10, .d (dI ((P.map fun l => [D.seq (l.map byC)]).length : Nat))), (11, .d (dI k))], [], 0⟩, ?_, ?_⟩
 ·conv => whnf
  exact ⟨P.length, 0, by omega, rfl⟩
 ·rintro m _ ⟨k, hk, rfl⟩
  by_cases hkl : k < P.length
  ·have f1 : decide ((k : Int) < ((P.map fun l => [D.seq (l.map byC)]).length : Int)) = true := decide_eq_true (by rw [hm]; omega)
   have ew : IntKind.i64.wrap (((P.take k).flatten.length : Int) + ((P[k].map byC).length : Int)) = ((P.take (k + 1)).flatten.length : Int) := by
    rw [List.length_map, ← loop2 k hkl]
    have := hle (k + 1)
    have := loop2 k hkl
    rw [wrapI (by omega) (by omega)]
    omega
   have f2 : decide (IntKind.i64.wrap (((P.take k).flatten.length : Int) + ((P[k].map byC).length : Int)) < 0) = false := decide_eq_false (by rw [ew]; omega)
   conv => whnf
   (repeat' (first | (apply kT (by with_reducible first | rfl | assumption); conv => whnf) | (apply kF (by with_reducible first | rfl | assumption); conv => whnf) | (apply kT (by decide); conv => whnf) | (apply kF (by decide); conv => whnf) | (apply kB <;> intro _ <;> conv => whnf) | (refine ⟨k, _, rfl, hg k hkl, rfl, ?_⟩; conv => whnf) | fail))
   refine ⟨m - 1, by omega, k + 1, by omega, ?_⟩
   rw [ew, w1 k (by omega)]
  ·have f1 : decide ((k : Int) < ((P.map fun l => [D.seq (l.map byC)]).length : Int)) = false := decide_eq_false (by rw [hm]; omega)
   have ek : k = P.length := by omega
   subst ek
   rw [List.take_length]
   by_cases h0 : P.flatten.length = 0
   ·rw [h0]
    conv => whnf
    (apply kF (f1); conv => whnf)
    (refine .inr ⟨[], 0, _, _, growB0, ?_⟩; conv => whnf)
    (repeat' (first | (apply kT (by with_reducible first | rfl | assumption); conv => whnf) | (apply kF (by with_reducible first | rfl | assumption); conv => whnf) | (apply kT (by decide); conv => whnf) | (apply kF (by decide); conv => whnf) | (apply kB <;> intro _ <;> conv => whnf) | fail))
    refine ⟨[.own 6 5], [6, 25, 26, 27], [0], 1, fun m s => ∃ k : Nat, k + m = P.length ∧ s = ⟨[(6, .own 0), (25, .d (.seq (P.map fun l => [D.seq (l.map byC)]))), (26, .d (dI ((P.map fun l => [D.seq (l.map byC)]).length : Nat))), (27, .d (dI k))], [(0, .arr 5 ((P.take k).flatten.map byC))], 1⟩, ?_, ?_⟩
    ·conv => whnf
     exact ⟨P.length, 0, by omega, rfl⟩
    ·rintro m _ ⟨k, hk, rfl⟩
     by_cases hkl : k < P.length
     ·have f1 : decide ((k : Int) < ((P.map fun l => [D.seq (l.map byC)]).length : Int)) = true := decide_eq_true (by rw [hm]; omega)
      conv => whnf
      (repeat' (first | (apply kT (by with_reducible first | rfl | assumption); conv => whnf) | (apply kF (by with_reducible first | rfl | assumption); conv => whnf) | (apply kT (by decide); conv => whnf) | (apply kF (by decide); conv => whnf) | (apply kB <;> intro _ <;> conv => whnf) | (refine ⟨k, _, rfl, hg k hkl, rfl, ?_⟩; conv => whnf) | fail))
      (refine ⟨hel k hkl, hby k hkl, ?_⟩; conv => whnf)
      refine ⟨m - 1, by omega, k + 1, by omega, ?_⟩
      rw [w1 k (by omega), hf k hkl, List.map_append]
     ·have f1 : decide ((k : Int) < ((P.map fun l => [D.seq (l.map byC)]).length : Int)) = false := decide_eq_false (by rw [hm]; omega)
      have ek : k = P.length := by omega
      subst ek
      rw [List.take_length]
      conv => whnf
      (apply kF (f1); conv => whnf)
      (refine ⟨[0], ?_⟩; conv => whnf)
      exact ⟨rfl, rfl⟩
   ·conv => whnf
    (apply kF (f1); conv => whnf)
    (refine .inr ⟨[], 1, _, _, growB P.flatten.length (by omega) hl, ?_⟩; conv => whnf)
    (repeat' (first | (apply kT (by with_reducible first | rfl | assumption); conv => whnf) | (apply kF (by with_reducible first | rfl | assumption); conv => whnf) | (apply kT (by decide); conv => whnf) | (apply kF (by decide); conv => whnf) | (apply kB <;> intro _ <;> conv => whnf) | fail))
    refine ⟨[], [6, 25, 26, 27], [0], 1, fun m s => ∃ k : Nat, k + m = P.length ∧ s = ⟨[(6, .own 0), (25, .d (.seq (P.map fun l => [D.seq (l.map byC)]))), (26, .d (dI ((P.map fun l => [D.seq (l.map byC)]).length : Nat))), (27, .d (dI k))], [(0, .arr 5 ((P.take k).flatten.map byC))], 1⟩, ?_, ?_⟩
    ·conv => whnf
     exact ⟨P.length, 0, by omega, rfl⟩
    ·rintro m _ ⟨k, hk, rfl⟩
     by_cases hkl : k < P.length
     ·have f1 : decide ((k : Int) < ((P.map fun l => [D.seq (l.map byC)]).length : Int)) = true := decide_eq_true (by rw [hm]; omega)
      conv => whnf
      (repeat' (first | (apply kT (by with_reducible first | rfl | assumption); conv => whnf) | (apply kF (by with_reducible first | rfl | assumption); conv => whnf) | (apply kT (by decide); conv => whnf) | (apply kF (by decide); conv => whnf) | (apply kB <;> intro _ <;> conv => whnf) | (refine ⟨k, _, rfl, hg k hkl, rfl, ?_⟩; conv => whnf) | fail))
      (refine ⟨hel k hkl, hby k hkl, ?_⟩; conv => whnf)
      refine ⟨m - 1, by omega, k + 1, by omega, ?_⟩
      rw [w1 k (by omega), hf k hkl, List.map_append]
     ·have f1 : decide ((k : Int) < ((P.map fun l => [D.seq (l.map byC)]).length : Int)) = false := decide_eq_false (by rw [hm]; omega)
      have ek : k = P.length := by omega
      subst ek
      rw [List.take_length]
      conv => whnf
      (apply kF (f1); conv => whnf)
      (refine ⟨[0], ?_⟩; conv => whnf)
      exact ⟨rfl, rfl⟩
attribute [local irreducible] stepL
theorem join_bor (P : List (List Int)) (hP : P.length ≤ 100000) (hl : P.flatten.length ≤ 100000) : Bor tb Try.prog 58 [.d (.seq (P.map fun l => [bsD l]))] [] 1 (.own 0) [(0, .arr 5 (P.flatten.map byC))] := by
 have cc := concat_bor P hP hl
 refine bor_ofO pg Try.func58 (by kernel_rfl) ?_
 conv => whnf
 (refine .inr ⟨[], 1, _, _, cc, ?_⟩; conv => whnf)
 (refine ⟨[0], ?_⟩; conv => whnf)
 exact ⟨rfl, rfl⟩
theorem Write_bor (l : List Sh) (h : checkI l = 0) (hnd0 : (l.map Sh.n).Nodup) : Bor tb Try.prog 29 [.d (shsD l)] [] 2 (.tup [.own 1, .d (dI 0)]) [(1, .arr 5 ((fileL l).map byC))] := by
 obtain ⟨h10, hsh⟩ := checkI_ok.1 h
 have ck := check_pure l (by omega) fun s hs => by have := hsh s hs; omega
 rw [h] at ck
 have hm : ((l.map shC).length : Int) = l.length := by rw [List.length_map]
 have hns : ∀ k (hk : k < l.length), (l.map Sh.n)[k]'(by rw [List.length_map]; exact hk) = l[k].n := fun k hk => by simp
 have hfl : ∀ k, (fileL (l.take k)).length ≤ 40000 := fun k => by
  have := flat_len ((l.take k).map sheetL) 4000 fun x hx => by
   rw [List.mem_map] at hx; obtain ⟨s, hs, rfl⟩ := hx
   have h1 := hsh s (List.mem_of_mem_take hs)
   exact sheetL_len (runB_ok.1 (shB_ok.1 h1.2).2.2).2.2 h1.1
  rw [List.length_map, List.length_take] at this
  unfold fileL
  omega
 refine bor_ofO pg Try.func29 (by kernel_rfl) ?_
 conv => whnf
 (repeat' (first | (apply kT (by with_reducible first | rfl | assumption); conv => whnf) | (apply kF (by with_reducible first | rfl | assumption); conv => whnf) | (apply kT (by decide); conv => whnf) | (apply kF (by decide); conv => whnf) | (apply kB <;> intro _ <;> conv => whnf) | (refine .inl ⟨_, ck, ?_⟩; conv => whnf) | fail))
 refine ⟨[.own 6 5], [5, 6, 17, 18, 19], [0, 1], 2, fun m t => ∃ k : Nat, k + m = l.length ∧ ((l.map Sh.n).take k).Nodup ∧ t = ⟨[(5, .own 0), (6, .own 1), (17, .d (shsD l)), (18, .d (dI (l.map shC).length)), (19, .d (dI k))], [(0, .map 3 4 (seenL ((l.map Sh.n).take k))), (1, .arr 5 ((fileL (l.take k)).map byC))], 2⟩, ?_, ?_⟩
 ·conv => whnf
  exact ⟨l.length, 0, by omega, by simp, rfl⟩
 ·rintro m _ ⟨k, hk, hnd, rfl⟩
  by_cases hkl : k < l.length
  ·have f1 : decide ((k : Int) < ((l.map shC).length : Int)) = true := decide_eq_true (by rw [hm]; omega)
   have hsk := hsh _ (List.getElem_mem hkl)
   have hrk := (runB_ok.1 (shB_ok.1 hsk.2).2.2).2.2
   have cb := blocks_pure l[k] (by omega) hrk
   have hg := seen_get ((l.map Sh.n).take k) l[k].n
   by_cases hin : l[k].n ∈ (l.map Sh.n).take k
   ·rw [if_pos hin] at hg
    have hno : ¬ (l.map Sh.n).Nodup := nodup_take (k := k) (by rw [List.length_map]; exact hkl) (by rw [hns k hkl]; exact hin)
    exact absurd hnd0 hno
   ·rw [if_neg hin] at hg
    have hs := seen_set ((l.map Sh.n).take k) l[k].n hin
    conv => whnf
    (repeat' (first | (apply kT (by with_reducible first | rfl | assumption); conv => whnf) | (apply kF (by with_reducible first | rfl | assumption); conv => whnf) | (apply kT (by decide); conv => whnf) | (apply kF (by decide); conv => whnf) | (apply kB <;> intro _ <;> conv => whnf) | (refine ⟨k, _, rfl, getsh l k hkl, rfl, ?_⟩; conv => whnf) | fail))
    (refine ⟨_, hg, ?_⟩; conv => whnf)
    (repeat' (first | (apply kT (by with_reducible first | rfl | assumption); conv => whnf) | (apply kF (by with_reducible first | rfl | assumption); conv => whnf) | (apply kT (by decide); conv => whnf) | (apply kF (by decide); conv => whnf) | (apply kB <;> intro _ <;> conv => whnf) | fail))
    (refine ⟨_, hs, ?_⟩; conv => whnf)
    (repeat' (first | (apply kT (by with_reducible first | rfl | assumption); conv => whnf) | (apply kF (by with_reducible first | rfl | assumption); conv => whnf) | (apply kT (by decide); conv => whnf) | (apply kF (by decide); conv => whnf) | (apply kB <;> intro _ <;> conv => whnf) | (refine .inl ⟨_, cb, ?_⟩; conv => whnf) | fail))
    obtain ⟨hc1, hc2⟩ := cardsL_ok hrk
    have hmr : (((cardsL l[k]).map rowC).length : Int) = (cardsL l[k]).length := by rw [List.length_map]
    have hpl : ∀ j, (((cardsL l[k]).take j).map layB).flatten.length ≤ 4000 := fun j => by
     have := flat_len (((cardsL l[k]).take j).map layB) 40 fun x hx => by
      rw [List.mem_map] at hx; obtain ⟨c, hc, rfl⟩ := hx
      exact Nat.le_of_eq (lay_len (hc1 c (List.mem_of_mem_take hc)).1)
     rw [List.length_map, List.length_take] at this
     omega
    have hk1 := hfl k
    refine ⟨[.rex], [5, 6, 17, 18, 19, 31, 32, 33], [0, 1], 2, fun q t => ∃ j : Nat, j + q = (cardsL l[k]).length ∧ t = ⟨[(5, .own 0), (6, .own 1), (17, .d (shsD l)), (18, .d (dI (l.map shC).length)), (19, .d (dI k)), (31, .d (.seq ((cardsL l[k]).map rowC))), (32, .d (dI ((cardsL l[k]).map rowC).length)), (33, .d (dI j))], [(0, .map 3 4 (seenL ((l.map Sh.n).take k ++ [l[k].n]))), (1, .arr 5 ((fileL (l.take k) ++ (((cardsL l[k]).take j).map layB).flatten).map byC))], 2⟩, ?_, ?_⟩
    ·conv => whnf
     refine ⟨(cardsL l[k]).length, 0, by omega, ?_⟩
     rw [List.take_zero, List.map_nil, List.flatten_nil, List.append_nil]
     rfl
    ·rintro q _ ⟨j, hj, rfl⟩
     by_cases hjl : j < (cardsL l[k]).length
     ·have f2 : decide ((j : Int) < (((cardsL l[k]).map rowC).length : Int)) = true := decide_eq_true (by rw [hmr]; omega)
      have hck := hc1 _ (List.getElem_mem hjl)
      have hg2 : ((cardsL l[k]).map rowC)[j]? = some (rowC (cardsL l[k])[j]) := by simp [hjl]
      have hll := lay_len hck.1
      have hpj := hpl j
      have cj := join_bor [fileL (l.take k) ++ (((cardsL l[k]).take j).map layB).flatten, layB (cardsL l[k])[j]] (by simp) (by
       simp only [List.flatten_cons, List.flatten_nil, List.append_nil, List.length_append]
       rw [hll]
       omega)
      simp only [List.flatten_cons, List.flatten_nil, List.append_nil] at cj
      conv => whnf
      (repeat' (first | (apply kT (by with_reducible first | rfl | assumption); conv => whnf) | (apply kF (by with_reducible first | rfl | assumption); conv => whnf) | (apply kT (by decide); conv => whnf) | (apply kF (by decide); conv => whnf) | (apply kB <;> intro _ <;> conv => whnf) | (refine ⟨j, _, rfl, hg2, lenB hll, ?_⟩; conv => whnf) | fail))
      (refine ⟨rowC (cardsL l[k])[j], List.take_of_length_le (Nat.le_of_eq (lenB hll)), lenB hll, ?_⟩; conv => whnf)
      (refine ⟨((layB (cardsL l[k])[j]).map bD).map A.d, rfl, by rw [List.length_map]; exact lenB hll, by rw [List.length_map, lenB hll]; decide, oneB _, ?_⟩; conv => whnf)
      (refine .l ⟨by decide, (layB (cardsL l[k])[j]).map byC, sliceB rfl hll, byL _, by rw [List.length_map]; exact hll, ?_⟩; conv => whnf)
      (refine .l ?_; conv => whnf)
      (refine .inr ⟨[], 1, _, _, cj, ?_⟩; conv => whnf)
      (refine ⟨[0, 3], ?_⟩; conv => whnf)
      refine ⟨q - 1, by omega, j + 1, by omega, ?_⟩
      have eo : fileL (l.take k) ++ (((cardsL l[k]).take (j + 1)).map layB).flatten = fileL (l.take k) ++ (((cardsL l[k]).take j).map layB).flatten ++ layB (cardsL l[k])[j] := by
       rw [List.take_add_one, List.getElem?_eq_getElem hjl, List.map_append, List.flatten_append, ← List.append_assoc]
       simp only [Option.toList_some, List.map_cons, List.map_nil, List.flatten_cons, List.flatten_nil, List.append_nil]
      rw [w1 j (by omega), eo]
      rfl
     ·have f2 : decide ((j : Int) < (((cardsL l[k]).map rowC).length : Int)) = false := decide_eq_false (by rw [hmr]; omega)
      have et : (l.map Sh.n).take (k + 1) = (l.map Sh.n).take k ++ [l[k].n] := by
       rw [List.take_add_one, List.getElem?_eq_getElem (by rw [List.length_map]; exact hkl), hns k hkl]; rfl
      have ef : fileL (l.take (k + 1)) = fileL (l.take k) ++ (((cardsL l[k]).take j).map layB).flatten := by
       rw [List.take_of_length_le (show (cardsL l[k]).length ≤ j by omega), List.take_add_one, List.getElem?_eq_getElem hkl]
       unfold fileL
       rw [List.map_append, List.flatten_append]
       simp only [Option.toList_some, List.map_cons, List.map_nil, List.flatten_cons, List.flatten_nil, List.append_nil]
       rfl
      conv => whnf
      (apply kF (f2); conv => whnf)
      refine ⟨m - 1, by omega, k + 1, by omega, by rw [et, List.nodup_append]; exact ⟨hnd, by simp, fun a ha b hb => by rw [List.mem_singleton.1 hb]; rintro rfl; exact hin ha⟩, ?_⟩
      rw [et, ef, w1 k (by omega)]
  ·have f1 : decide ((k : Int) < ((l.map shC).length : Int)) = false := decide_eq_false (by rw [hm]; omega)
   have ek : k = l.length := by omega
   rw [List.take_of_length_le (by rw [List.length_map]; omega)] at hnd
   have e : fileL l = fileL (l.take k) := by rw [List.take_of_length_le (by omega)]
   rw [e]
   conv => whnf
   (apply kF (f1); conv => whnf)
   (refine ⟨[1], ?_⟩; conv => whnf)
   exact ⟨rfl, rfl⟩
end Go.Ev.Ytljkplahkokpaaa


set_option linter.unusedVariables false
set_option linter.unusedSimpArgs false
set_option maxRecDepth 100000
namespace Go.Ev.Ytljkplahkokpaaa
open Go.Proofs
theorem cardsA_mono (l : List Sh) {k i : Nat} (h : k ≤ i) : (cardsA (l.take k)).length ≤ (cardsA (l.take i)).length := by
 have := cardsA_drop (l.take i) k
 rw [List.take_take, Nat.min_eq_left h] at this
 rw [this, List.length_append]
 omega
theorem card_where : ∀ (l : List Sh) (q : Nat), q < (cardsA l).length → ∃ (i : Nat) (hi : i < l.length) (j : Nat), j < (cardsL l[i]).length ∧ q = (cardsA (l.take i)).length + j
 | [], q, h => by simp [cardsA] at h
 | s :: l, q, h => by
  have e : cardsA (s :: l) = cardsL s ++ cardsA l := by unfold cardsA; rw [List.map_cons, List.flatten_cons]
  rw [e, List.length_append] at h
  by_cases hq : q < (cardsL s).length
  ·exact ⟨0, by simp, q, hq, by simp [cardsA]⟩
  ·obtain ⟨i, hi, j, hj, hq2⟩ := card_where l (q - (cardsL s).length) (by omega)
   refine ⟨i + 1, by simpa using hi, j, hj, ?_⟩
   have e2 : cardsA ((s :: l).take (i + 1)) = cardsL s ++ cardsA (l.take i) := by rw [List.take_succ_cons]; unfold cardsA; rw [List.map_cons, List.flatten_cons]
   rw [e2, List.length_append]
   omega
attribute [local irreducible] Pure Bor Iter Pan sortS fileL checkI thinB ReadL MissL cardsL cardsA readyB MendL layB readR
theorem where_pure (l : List Sh) (h1 : ∀ s ∈ l, ShOK s) (hl : l.length ≤ 10) (p : Nat) (hp : p ≤ 100000) {i j : Nat} (hi : i < l.length) (hj : j < (cardsL l[i]).length) (hq : p / 40 = (cardsA (l.take i)).length + j) :
  Pure Try.prog 48 [shsD l, dI p] (.tup [dI i, dI j, dI (cardsL l[i]).length]) := by
 have hm : ((l.map shC).length : Int) = l.length := by rw [List.length_map]
 have hps : ∀ s ∈ l, s.ps.length ≤ 100000 := fun s hs => by have := (h1 s hs).2.1; omega
 have cs := sheets_pure l (by omega) hps
 have e0 : IntKind.i64.wrap ((p : Int).tdiv 40) = (((p / 40 - (cardsA (l.take 0)).length : Nat)) : Int) := by
  have : (cardsA (l.take 0)).length = 0 := by rw [List.take_zero]; unfold cardsA; rfl
  rw [this, Int.tdiv_eq_ediv_of_nonneg (by omega), wS (by omega) (by omega)]
  omega
 refine pure_of pg Try.func48 (by kernel_rfl) ?_
 conv => whnf
 (repeat' (first | (apply kT (by with_reducible first | rfl | assumption); conv => whnf) | (apply kF (by with_reducible first | rfl | assumption); conv => whnf) | (apply kT (by decide); conv => whnf) | (apply kF (by decide); conv => whnf) | (apply kB <;> intro _ <;> conv => whnf) | (refine ⟨by decide, ?_⟩; conv => whnf) | fail))
 refine ⟨[], [0, 7, 8], [], 0, fun m t => ∃ k : Nat, k + m = l.length ∧ k ≤ i ∧ t = ⟨[(0, .d (shsD l)), (7, .d (dI (p / 40 - (cardsA (l.take k)).length : Nat))), (8, .d (dI k))], [], 0⟩, ?_, ?_⟩
 ·conv => whnf
  refine ⟨l.length, 0, by omega, by omega, ?_⟩
  rw [e0]
  rfl
 ·rintro m _ ⟨k, hk, hki, rfl⟩
  have hkl : k < l.length := by omega
  have f1 : decide ((k : Int) < ((l.map shC).length : Int)) = true := decide_eq_true (by rw [hm]; omega)
  have hsk := h1 _ (List.getElem_mem hkl)
  have cc := Cards_as (s := l[k]) (by have := hsk.2.1; omega) (if_pos hsk.check : CardsL l[k] = (cardsL l[k], 0))
  have hmany := hsk.many
  have hmc : (((cardsL l[k]).map bytesRow).length : Int) = (cardsL l[k]).length := by rw [List.length_map]
  have htk : (cardsA (l.take (k + 1))).length = (cardsA (l.take k)).length + (cardsL l[k]).length := by rw [cardsA_take l hkl, List.length_append]
  by_cases hik : k = i
  ·subst hik
   have g1 : decide (((p / 40 - (cardsA (l.take k)).length : Nat) : Int) < (((cardsL l[k]).map bytesRow).length : Int)) = true := decide_eq_true (by rw [hmc]; omega)
   have ej : p / 40 - (cardsA (l.take k)).length = j := by omega
   conv => whnf
   (repeat' (first | (apply kT (by with_reducible first | rfl | assumption); conv => whnf) | (apply kF (by with_reducible first | rfl | assumption); conv => whnf) | (apply kT (by decide); conv => whnf) | (apply kF (by decide); conv => whnf) | (apply kB <;> intro _ <;> conv => whnf) | (refine .inl ⟨_, cs, ?_⟩; conv => whnf) | (refine ⟨k, _, rfl, getsh l k hkl, rfl, ?_⟩; conv => whnf) | (refine .inl ⟨_, cc, ?_⟩; conv => whnf) | fail))
   rw [ej, hmc]
   rfl
  ·have hmono := cardsA_mono l (k := k + 1) (i := i) (by omega)
   have g1 : decide (((p / 40 - (cardsA (l.take k)).length : Nat) : Int) < (((cardsL l[k]).map bytesRow).length : Int)) = false := decide_eq_false (by rw [hmc]; omega)
   have ew : IntKind.i64.wrap (((p / 40 - (cardsA (l.take k)).length : Nat) : Int) - (((cardsL l[k]).map bytesRow).length : Int)) = ((p / 40 - (cardsA (l.take (k + 1))).length : Nat) : Int) := by
    rw [hmc, wS (by omega) (by omega)]
    omega
   conv => whnf
   (repeat' (first | (apply kT (by with_reducible first | rfl | assumption); conv => whnf) | (apply kF (by with_reducible first | rfl | assumption); conv => whnf) | (apply kT (by decide); conv => whnf) | (apply kF (by decide); conv => whnf) | (apply kB <;> intro _ <;> conv => whnf) | (refine .inl ⟨_, cs, ?_⟩; conv => whnf) | (refine ⟨k, _, rfl, getsh l k hkl, rfl, ?_⟩; conv => whnf) | (refine .inl ⟨_, cc, ?_⟩; conv => whnf) | fail))
   refine ⟨m - 1, by omega, k + 1, by omega, by omega, ?_⟩
   rw [ew, w1 k (by omega)]
theorem byte_pure (l : List Sh) (z y : Int) (hz : 0 ≤ z ∧ z < 65536) (hy : 0 ≤ y ∧ y < 256) : Pure Try.prog 14 [shsD l, .v (.int .u16 z), bD y] (dB true) := by
 have cr := ready_pure l
 have hm : ((l.map shC).length : Int) = l.length := by rw [List.length_map]
 cases hr : readyB l with
 | false =>
  rw [hr] at cr
  refine pure_of pg Try.func14 (by kernel_rfl) ?_
  conv => whnf
  (repeat' (first | (apply kT (by with_reducible first | rfl | assumption); conv => whnf) | (apply kF (by with_reducible first | rfl | assumption); conv => whnf) | (apply kT (by decide); conv => whnf) | (apply kF (by decide); conv => whnf) | (apply kB <;> intro _ <;> conv => whnf) | (refine .inl ⟨_, cr, ?_⟩; conv => whnf) | (refine .inl ⟨_, awake_pure, ?_⟩; conv => whnf) | fail))
  rfl
 | true =>
  rw [hr] at cr
  by_cases hl0 : l.length = 0
  ·have g0 : (((l.map shC).length : Int) == 0) = true := by rw [hm, hl0]; rfl
   refine pure_of pg Try.func14 (by kernel_rfl) ?_
   conv => whnf
   (repeat' (first | (apply kT (by with_reducible first | rfl | assumption); conv => whnf) | (apply kF (by with_reducible first | rfl | assumption); conv => whnf) | (apply kT (by decide); conv => whnf) | (apply kF (by decide); conv => whnf) | (apply kB <;> intro _ <;> conv => whnf) | (refine .inl ⟨_, cr, ?_⟩; conv => whnf) | (refine .inl ⟨_, awake_pure, ?_⟩; conv => whnf) | fail))
   rfl
  ·have g0 : (((l.map shC).length : Int) == 0) = false := by rw [hm, beq_eq_false_iff_ne]; omega
   obtain ⟨hc, hnd⟩ := readyB_ok hr
   obtain ⟨h1, h2, h3, h4, hw⟩ := ready_ok hc hnd
   have hp : ∀ s ∈ l, s.ps.length ≤ 100000 := fun s hs => by have := (h1 s hs).2.1; omega
   have cs := sheets_pure l (by omega) hp
   have cw := Write_bor l hc hnd
   have hfl := file_le h1 h2
   have hlen := file_len h1
   have hfb := file_by h1
   have hmf : (((fileL l).map byC).length : Int) = (fileL l).length := by rw [List.length_map]
   have hN : 0 < (fileL l).length := by
    have h00 : 0 < l.length := by omega
    have := cardsA_mono l (k := 1) (i := l.length) (by omega)
    rw [List.take_length, cardsA_take l h00] at this
    have hmm := (h1 _ (List.getElem_mem h00)).many
    rw [List.length_append] at this
    omega
   have gN0 : ((((fileL l).map byC).length : Int) == 0) = false := by rw [hmf, beq_eq_false_iff_ne]; omega
   obtain ⟨p, hpd⟩ : ∃ p, p = z.toNat % (fileL l).length := ⟨_, rfl⟩
   have hpl : p < (fileL l).length := by rw [hpd]; exact Nat.mod_lt _ hN
   have ep : (IntKind.i64.wrap z).tmod (((fileL l).map byC).length : Int) = (p : Int) := by
    rw [hmf, wS (by omega) (by omega), Int.tmod_eq_emod_of_nonneg (by omega), hpd, Int.natCast_emod, Int.toNat_of_nonneg hz.1]
   obtain ⟨i, hi, j, hj, hq⟩ := card_where l (p / 40) (by omega)
   have cwh := where_pure l h1 h2 p (by omega) hi hj hq
   obtain ⟨d, hd1, hd2, eB⟩ : ∃ d : Nat, 1 ≤ d ∧ d ≤ 255 ∧ IntKind.u8.wrap (1 + y.tmod 255) = (d : Int) := by
    refine ⟨1 + y.toNat % 255, by omega, by omega, ?_⟩
    rw [Int.tmod_eq_emod_of_nonneg (by omega), u8w]
    omega
   have hold : 0 ≤ (fileL l).getD p 0 ∧ (fileL l).getD p 0 < 256 ∧ ((fileL l).map byC)[p]? = some (byC ((fileL l).getD p 0)) ∧ p < ((fileL l).map byC).length := by
    have e : (fileL l).getD p 0 = (fileL l)[p] := by rw [List.getD_eq_getElem?_getD, List.getElem?_eq_getElem hpl]; rfl
    have := hfb _ (List.getElem_mem hpl)
    rw [e]
    exact ⟨this.1, this.2, by simp [hpl], by rw [List.length_map]; exact hpl⟩
   obtain ⟨o1, o2, hgo, hlo⟩ := hold
   have hpe : p = 40 * ((cardsA (l.take i)).length + j) + p % 40 := by omega
   obtain ⟨v, hvr⟩ : ∃ v, v = IntKind.u8.wrap ((fileL l).getD p 0 + IntKind.u8.wrap (1 + y.tmod 255)) := ⟨_, rfl⟩
   have hv : v = IntKind.u8.wrap ((fileL l).getD p 0 + (d : Int)) := by rw [hvr, eB]
   have hv2 : 0 ≤ v ∧ v < 256 := by rw [hv, u8w]; omega
   have hvne : v ≠ (fileL l).getD p 0 := by rw [hv, u8w]; omega
   obtain ⟨b, hb⟩ : ∃ b, b = (fileL l).set p v := ⟨_, rfl⟩
   have law := but_law hc hnd hi hj (r := p % 40) (by omega) hv2 (b := b) (by rw [← hpe]; exact hb) (by rw [← hpe]; exact hvne)
   obtain ⟨b1, b2, b3, b4, b5⟩ := law
   have es : ((fileL l).map byC).set p (List.take 0 (byC ((fileL l).getD p 0)) ++ byC v ++ List.drop (0 + (byC v).length) (byC ((fileL l).getD p 0))) = b.map byC := by
    show ((fileL l).map byC).set p (byC v) = _
    rw [hb, List.map_set]
   rw [hvr] at es
   have cwh' : Pure Try.prog 48 [shsD l, dI ((IntKind.i64.wrap z).tmod (((fileL l).map byC).length : Int))] (.tup [dI i, dI j, dI (cardsL l[i]).length]) := by rw [ep]; exact cwh
   have gi : decide ((i : Int) < 0) = false := decide_eq_false (by omega)
   refine pure_of pg Try.func14 (by kernel_rfl) ?_
   conv => whnf
   (repeat' (first | (apply kT (by with_reducible first | rfl | assumption); conv => whnf) | (apply kF (by with_reducible first | rfl | assumption); conv => whnf) | (apply kT (by decide); conv => whnf) | (apply kF (by decide); conv => whnf) | (apply kB <;> intro _ <;> conv => whnf) | (refine .inl ⟨_, cr, ?_⟩; conv => whnf) | (refine .inl ⟨_, cs, ?_⟩; conv => whnf) | (refine .inr ⟨[], 2, _, _, cw, ?_⟩; conv => whnf) | (refine ⟨by rw [hmf]; omega, ?_⟩; conv => whnf) | (refine .inl ⟨_, cwh', ?_⟩; conv => whnf) | (refine ⟨p, ep, hlo, ?_⟩; conv => whnf) | (refine ⟨_, hgo, ?_⟩; conv => whnf) | (refine ⟨_, rfl, ?_⟩; conv => whnf) | (refine ⟨by decide, ?_⟩; conv => whnf) | (refine ⟨rfl, Nat.le_refl 1, _, es, ?_⟩; conv => whnf) | fail))
   have pk : ∀ k (hk : k < l.length), decide (l[k].n ≠ l[i].n) = !decide (k = i) := fun k hk => by
    by_cases h : k = i
    ·subst h; simp
    ·rw [decide_eq_false h, Bool.not_false, decide_eq_true_eq]
     intro e
     rcases Nat.lt_or_gt_of_ne h with hlt | hlt
     ·have := List.pairwise_iff_getElem.1 hnd k i (by rw [List.length_map]; omega) (by rw [List.length_map]; omega) hlt
      rw [List.getElem_map, List.getElem_map] at this
      exact this e
     ·have := List.pairwise_iff_getElem.1 hnd i k (by rw [List.length_map]; omega) (by rw [List.length_map]; omega) hlt
      rw [List.getElem_map, List.getElem_map] at this
      exact this e.symm
   generalize hP : (fun s : Sh => decide (s.n ≠ l[i].n)) = q at b3
   have hqs : ∀ k (hk : k < l.length), q l[k] = !decide (k = i) := fun k hk => by rw [← hP]; exact pk k hk
   refine ⟨[.frz 1, .own 13 38], [0, 7, 10, 11, 12, 13, 14], [2], 3, fun m t => ∃ k : Nat, k + m = l.length ∧ t = ⟨[(0, .d (shsD l)), (7, .d (bsD b)), (10, .d (dI i)), (11, .d (dI j)), (12, .d (dI (cardsL l[i]).length)), (13, .own 2), (14, .d (dI k))], [(2, .arr 38 (((l.take k).filter q).map shC))], 3⟩, ?_, ?_⟩
   ·conv => whnf
    exact ⟨l.length, 0, by omega, rfl⟩
   ·rintro m _ ⟨k, hk, rfl⟩
    by_cases hkl : k < l.length
    ·have f1 : decide ((k : Int) < ((l.map shC).length : Int)) = true := decide_eq_true (by rw [hm]; omega)
     have hft := filter_take q hkl
     by_cases hki : k = i
     ·have g1 : ((k : Int) != (i : Int)) = false := by rw [hki]; simp
      rw [hqs k hkl, decide_eq_true hki, Bool.not_true, cond_false, List.append_nil] at hft
      conv => whnf
      (repeat' (first | (apply kT (by with_reducible first | rfl | assumption); conv => whnf) | (apply kF (by with_reducible first | rfl | assumption); conv => whnf) | (apply kT (by decide); conv => whnf) | (apply kF (by decide); conv => whnf) | (apply kB <;> intro _ <;> conv => whnf) | fail))
      refine ⟨m - 1, by omega, k + 1, by omega, ?_⟩
      rw [w1 k (by omega), hft]
     ·have g1 : ((k : Int) != (i : Int)) = true := by rw [bne_iff_ne]; omega
      rw [hqs k hkl, decide_eq_false hki, Bool.not_false, cond_true] at hft
      conv => whnf
      (repeat' (first | (apply kT (by with_reducible first | rfl | assumption); conv => whnf) | (apply kF (by with_reducible first | rfl | assumption); conv => whnf) | (apply kT (by decide); conv => whnf) | (apply kF (by decide); conv => whnf) | (apply kB <;> intro _ <;> conv => whnf) | (refine ⟨k, _, rfl, getsh l k hkl, rfl, ?_⟩; conv => whnf) | (refine ChL.l ?_; conv => whnf) | fail))
      (refine ⟨fun el h => by rw [List.mem_singleton.1 h]; rfl, by rw [List.length_map]; show (((l.take k).filter q).length + 1) * 32 ≤ _; have := List.length_filter_le q (l.take k); rw [List.length_take] at this; omega, ?_⟩; conv => whnf)
      refine ⟨m - 1, by omega, k + 1, by omega, ?_⟩
      rw [w1 k (by omega), hft, List.map_append]
      rfl
    ·have f1 : decide ((k : Int) < ((l.map shC).length : Int)) = false := decide_eq_false (by rw [hm]; omega)
     have ett : l.take k = l := List.take_of_length_le (by omega)
     rw [ett]
     have hnf : ((l.filter q).map Sh.n).Nodup := hnd.sublist (List.filter_sublist.map _)
     have hfil : ∀ s ∈ l.filter q, ShOK s := fun s hs => h1 s (List.mem_filter.1 hs).1
     have hfll : (l.filter q).length ≤ l.length := List.length_filter_le _ _
     have cso := sorted_pure (l.filter q) (by omega) hnf
     have hsl : (sortS (l.filter q)).length ≤ 100000 := by rw [(sortS_perm _).length_eq]; omega
     have hsp : ∀ s ∈ sortS (l.filter q), s.ps.length ≤ 100000 := fun s hs => by have := (hfil s ((sortS_perm _).mem_iff.1 hs)).2.1; omega
     have css := sameSheets_pure (sortS (l.filter q)) (sortS (l.filter q)) hsl hsl hsp hsp
     rw [decide_eq_true rfl] at css
     have cb := bytes_pure b (by omega)
     have crd := Read_as (by omega) b1 b3
     have hmany := (h1 _ (List.getElem_mem hi)).many
     by_cases hm1 : (cardsL l[i]).length = 1
     ·rw [if_pos hm1] at b4
      have cm := Missing_as (by omega) b1 b4
      have cp := Pieces_as (by omega) b1 (b5 hm1)
      have g2 : decide (((cardsL l[i]).length : Int) > 1) = false := decide_eq_false (by omega)
      conv => whnf
      (repeat' (first | (apply kT (by with_reducible first | rfl | assumption); conv => whnf) | (apply kF (by with_reducible first | rfl | assumption); conv => whnf) | (apply kT (by decide); conv => whnf) | (apply kF (by decide); conv => whnf) | (apply kB <;> intro _ <;> conv => whnf) | (refine .inl ⟨_, cb, ?_⟩; conv => whnf) | (refine .inl ⟨_, crd, ?_⟩; conv => whnf) | (refine .inl ⟨_, cm, ?_⟩; conv => whnf) | (refine ChC.r ?_; conv => whnf) | (refine .inl ⟨_, cso, ?_⟩; conv => whnf) | (refine .inl ⟨_, css, ?_⟩; conv => whnf) | (refine .inl ⟨_, cp, ?_⟩; conv => whnf) | (refine .inl ⟨_, awake_pure, ?_⟩; conv => whnf) | (refine ⟨i, _, rfl, getsh l i hi, rfl, ?_⟩; conv => whnf) | fail))
      rfl
     ·rw [if_neg hm1] at b4
      have cm := Missing_as (by omega) b1 b4
      have g2 : decide (((cardsL l[i]).length : Int) > 1) = true := decide_eq_true (by omega)
      have g4 : (((List.map lkC [(l[i].n, (j : Int))]).length : Int) == 1) = true := rfl
      have g3 : (l[i].n == l[i].n && ((j : Int) == (j : Int) && true)) = true := by simp
      conv => whnf
      (repeat' (first | (apply kT (by with_reducible first | rfl | assumption); conv => whnf) | (apply kF (by with_reducible first | rfl | assumption); conv => whnf) | (apply kT (by decide); conv => whnf) | (apply kF (by decide); conv => whnf) | (apply kB <;> intro _ <;> conv => whnf) | (refine .inl ⟨_, cb, ?_⟩; conv => whnf) | (refine .inl ⟨_, crd, ?_⟩; conv => whnf) | (refine .inl ⟨_, cm, ?_⟩; conv => whnf) | (refine ChC.r ?_; conv => whnf) | (refine .inl ⟨_, cso, ?_⟩; conv => whnf) | (refine .inl ⟨_, css, ?_⟩; conv => whnf) | (refine .inl ⟨_, awake_pure, ?_⟩; conv => whnf) | (refine ⟨i, _, rfl, getsh l i hi, rfl, ?_⟩; conv => whnf) | (refine ⟨0, _, rfl, rfl, rfl, ?_⟩; conv => whnf) | fail))
      rfl
end Go.Ev.Ytljkplahkokpaaa


set_option linter.unusedVariables false
set_option linter.unusedSimpArgs false
namespace Go.Ev.Ytljkplahkokpaaa
open Go.Proofs
theorem map_of {α β : Type} {f : α → β} {q : α → Prop} : ∀ {es : List β}, (∀ el ∈ es, ∃ x, el = f x ∧ q x) → ∃ l : List α, es = l.map f ∧ ∀ x ∈ l, q x
 | [], _ => ⟨[], rfl, fun x hx => by cases hx⟩
 | e :: es, h => by
  obtain ⟨x, rfl, hq⟩ := h e (by simp)
  obtain ⟨l, rfl, hl⟩ := map_of (es := es) fun el he => h el (by simp [he])
  exact ⟨x :: l, rfl, fun y hy => by
   rcases List.mem_cons.1 hy with rfl | hy
   ·exact hq
   ·exact hl y hy⟩
theorem okV_shs {d : D} (h : OkV tb 6 33 d) : ∃ l : List Sh, d = shsD l := by
 obtain ⟨y, ds, hy, hd, rfl⟩ := h
 cases hy
 obtain ⟨es, rfl, hlen, hel⟩ := hd
 obtain ⟨l, rfl, hl⟩ := map_of (f := shC) (q := fun _ => True) (es := es) fun el he => by
  obtain ⟨b1, s1, rfl, ⟨j1, rfl, v1⟩, b2, s2, rfl, ⟨qs, rfl, ql, qel⟩, rfl⟩ := hel el he
  obtain ⟨ps, rfl, _⟩ := map_of (f := ptD) (q := fun _ => True) (es := qs) fun el he => by
   obtain ⟨c1, t1, rfl, ⟨i1, rfl, u1⟩, c2, t2, rfl, ⟨i2, rfl, u2⟩, rfl⟩ := qel el he
   exact ⟨⟨i1, i2⟩, rfl, trivial⟩
  exact ⟨⟨j1, ps⟩, rfl, trivial⟩
 exact ⟨l, rfl⟩
theorem byte_of {n : Int} (h : (Lit.int .u8 n).wf = true) : 0 ≤ n ∧ n < 256 := by
 have h : IntKind.u8.min ≤ n ∧ n ≤ IntKind.u8.max := by simpa [Lit.wf] using h
 have h1 : IntKind.u8.min = 0 := rfl
 have h2 : IntKind.u8.max = 255 := rfl
 omega
theorem law_own : ownKnob Try.prog.godebug = none := by kernel_rfl
theorem law_laid : laidOutB Try.prog = true := by kernel_rfl
end Go.Ev.Ytljkplahkokpaaa


set_option linter.unusedVariables false
set_option linter.unusedSimpArgs false
namespace Go.Ev.Ytljkplahkokpaaa
open Go.Proofs
theorem okV_u8 {d : D} (h : OkV tb 6 5 d) : ∃ i, d = bD i ∧ 0 ≤ i ∧ i < 256 := by
 obtain ⟨y, ds, hy, hd, rfl⟩ := h
 cases hy
 obtain ⟨i, rfl, hw⟩ := hd
 exact ⟨i, rfl, byte_of hw⟩
theorem word_of {n : Int} (h : (Lit.int .u16 n).wf = true) : 0 ≤ n ∧ n < 65536 := by
 have h : IntKind.u16.min ≤ n ∧ n ≤ IntKind.u16.max := by simpa [Lit.wf] using h
 have h1 : IntKind.u16.min = 0 := rfl
 have h2 : IntKind.u16.max = 65535 := rfl
 omega
theorem okV_u16 {d : D} (h : OkV tb 6 58 d) : ∃ i, d = .v (.int .u16 i) ∧ 0 ≤ i ∧ i < 65536 := by
 obtain ⟨y, ds, hy, hd, rfl⟩ := h
 cases hy
 obtain ⟨i, rfl, hw⟩ := hd
 exact ⟨i, rfl, word_of hw⟩
end Go.Ev.Ytljkplahkokpaaa

