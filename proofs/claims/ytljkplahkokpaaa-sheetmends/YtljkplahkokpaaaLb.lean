/-
  Contracts of functions, and plain laws, that lead to the statement. Written by an agent.
-/
import Derived.Test.YtljkplahkokpaaaRows
import Derived.Test.YtljkplahkokpaaaLa
set_option linter.unusedVariables false
set_option linter.unusedSimpArgs false
set_option linter.unusedVariables false
set_option linter.unusedSimpArgs false
set_option maxRecDepth 100000
namespace Go.Ev.Ytljkplahkokpaaa
open Go.Proofs
attribute [local irreducible] Pure Bor Iter Pan layB layF readR readD findC addC addK addL chAt sortC goG numG openL
def sameL (a b : Cd) : Bool := decide (a.ps.length = b.ps.length)
theorem sameL_pure (a b : Cd) : Pure Try.prog 71 [.agg (cdC a), .agg (cdC b)] (dB (sameL a b)) := by
 have e : sameL a b = (((a.ps.map ptD).length : Int) == ((b.ps.map ptD).length : Int)) := by
  rw [List.length_map, List.length_map, sameL]
  by_cases h : a.ps.length = b.ps.length
  ·rw [h]; simp
  ·rw [decide_eq_false h]; symm; rw [beq_eq_false_iff_ne]; omega
 rw [e]
 refine pure_of pg Try.func71 (by kernel_rfl) ?_
 conv => whnf
 (repeat' (first | (apply kT (by with_reducible first | rfl | assumption); conv => whnf) | (apply kF (by with_reducible first | rfl | assumption); conv => whnf) | (apply kT (by decide); conv => whnf) | (apply kF (by decide); conv => whnf) | (apply kB <;> intro _ <;> conv => whnf) | fail))
 rfl
def alikeL : List Cd → List Cd → Bool
 | [], [] => true
 | a :: l, b :: r => sameL a b && alikeL l r
 | _, _ => false
theorem alikeL_iff : ∀ {a b : List Cd}, alikeL a b = true ↔ a.length = b.length ∧ ∀ i (h : i < a.length) (h2 : i < b.length), sameL a[i] b[i] = true
 | [], [] => by simp [alikeL]
 | [], b :: r => by simp [alikeL]
 | a :: l, [] => by simp [alikeL]
 | a :: l, b :: r => by
  rw [alikeL, Bool.and_eq_true, alikeL_iff (a := l) (b := r)]
  constructor
  ·rintro ⟨h1, h2, h3⟩
   refine ⟨by simp [h2], fun i hi hi2 => ?_⟩
   cases i with
   | zero => exact h1
   | succ i => exact h3 i (by simpa using hi) (by simpa using hi2)
  ·rintro ⟨h1, h2⟩
   exact ⟨h2 0 (by simp) (by simp), by simpa using h1, fun i hi hi2 => h2 (i + 1) (by simpa using hi) (by simpa using hi2)⟩
theorem alikeL_false {a b : List Cd} {i : Nat} (h : i < a.length) (h2 : i < b.length) (hf : sameL a[i] b[i] = false) : alikeL a b = false := by
 cases e : alikeL a b with
 | false => rfl
 | true => have := (alikeL_iff.1 e).2 i h h2; rw [hf] at this; cases this
attribute [local irreducible] sameL
theorem equal_pure (a b : List Cd) (ha : a.length ≤ 100000) (hb : b.length ≤ 100000) : Pure Try.prog 70 [.seq (a.map cdC), .seq (b.map cdC), .fn (.func 71) [] []] (dB (alikeL a b)) := by
 have hma : ((a.map cdC).length : Int) = a.length := by rw [List.length_map]
 have hmb : ((b.map cdC).length : Int) = b.length := by rw [List.length_map]
 refine pure_of pg Try.func70 (by kernel_rfl) ?_
 by_cases hl : a.length = b.length
 ·have f1 : (((a.map cdC).length : Int) != ((b.map cdC).length : Int)) = false := by rw [hma, hmb, hl]; simp
  conv => whnf
  (repeat' (first | (apply kT (by with_reducible first | rfl | assumption); conv => whnf) | (apply kF (by with_reducible first | rfl | assumption); conv => whnf) | (apply kT (by decide); conv => whnf) | (apply kF (by decide); conv => whnf) | (apply kB <;> intro _ <;> conv => whnf) | fail))
  refine ⟨[], [1, 2, 15, 16, 17], [], 0, fun m s => ∃ k : Nat, k + m = a.length ∧ (∀ i (h : i < k) (h1 : i < a.length) (h2 : i < b.length), sameL a[i] b[i] = true) ∧ s = ⟨[(1, .d (.seq (b.map cdC))), (2, .d (.fn (.func 71) [] [])), (15, .d (.seq (a.map cdC))), (16, .d (dI (a.map cdC).length)), (17, .d (dI k))], [], 0⟩, ?_, ?_⟩
  ·conv => whnf
   exact ⟨a.length, 0, by omega, fun i h => by omega, rfl⟩
  ·rintro m _ ⟨k, hk, hall, rfl⟩
   by_cases hkl : k < a.length
   ·have f2 : decide ((k : Int) < ((a.map cdC).length : Int)) = true := decide_eq_true (by rw [hma]; omega)
    cases hs : sameL a[k] b[k] with
    | true =>
     have cs := sameL_pure a[k] b[k]
     rw [hs] at cs
     conv => whnf
     (repeat' (first | (apply kT (by with_reducible first | rfl | assumption); conv => whnf) | (apply kF (by with_reducible first | rfl | assumption); conv => whnf) | (apply kT (by decide); conv => whnf) | (apply kF (by decide); conv => whnf) | (apply kB <;> intro _ <;> conv => whnf) | (refine ⟨k, _, rfl, getcd a k hkl, rfl, ?_⟩; conv => whnf) | (refine ⟨k, _, rfl, getcd b k (by omega), rfl, ?_⟩; conv => whnf) | (refine .inl ⟨_, cs, ?_⟩; conv => whnf) | fail))
     refine ⟨m - 1, by omega, k + 1, by omega, fun i hi h1 h2 => ?_, ?_⟩
     ·by_cases h : i < k
      ·exact hall i h h1 h2
      ·have : i = k := by omega
       subst this
       exact hs
     ·rw [w1 k (by omega)]
    | false =>
     have cs := sameL_pure a[k] b[k]
     rw [hs] at cs
     rw [alikeL_false hkl (by omega) hs]
     conv => whnf
     (repeat' (first | (apply kT (by with_reducible first | rfl | assumption); conv => whnf) | (apply kF (by with_reducible first | rfl | assumption); conv => whnf) | (apply kT (by decide); conv => whnf) | (apply kF (by decide); conv => whnf) | (apply kB <;> intro _ <;> conv => whnf) | (refine ⟨k, _, rfl, getcd a k hkl, rfl, ?_⟩; conv => whnf) | (refine ⟨k, _, rfl, getcd b k (by omega), rfl, ?_⟩; conv => whnf) | (refine .inl ⟨_, cs, ?_⟩; conv => whnf) | fail))
     rfl
   ·have f2 : decide ((k : Int) < ((a.map cdC).length : Int)) = false := decide_eq_false (by rw [hma]; omega)
    have e : alikeL a b = true := alikeL_iff.2 ⟨hl, fun i h1 h2 => hall i (by omega) h1 h2⟩
    rw [e]
    conv => whnf
    (apply kF (f2); conv => whnf)
    rfl
 ·have f1 : (((a.map cdC).length : Int) != ((b.map cdC).length : Int)) = true := by rw [hma, hmb, bne_iff_ne]; omega
  have e : alikeL a b = false := by
   cases e : alikeL a b with
   | false => rfl
   | true => exact absurd (alikeL_iff.1 e).1 hl
  rw [e]
  conv => whnf
  (apply kT (f1); conv => whnf)
  rfl
def ptsOf (g : List Cd) : List Pt := (g.map Cd.ps).flatten
def wholeL (g : List Cd) : Sh × Bool := match g with
 | [] => (⟨0, []⟩, false)
 | h :: t => (⟨h.n, ptsOf (h :: t)⟩, decide (((h :: t).length : Int) = h.m) && (checkI [⟨h.n, ptsOf (h :: t)⟩] == 0) && (decide ((cardsL ⟨h.n, ptsOf (h :: t)⟩).length = (h :: t).length) && alikeL (cardsL ⟨h.n, ptsOf (h :: t)⟩) (h :: t)))
theorem ptsOf_len {g : List Cd} (h : ∀ c ∈ g, CdOK c) : (ptsOf g).length ≤ g.length * 15 := by
 induction g with
 | nil => simp [ptsOf]
 | cons c r ih =>
  have h1 := (h c (by simp)).many
  have h2 := ih fun d hd => h d (by simp [hd])
  unfold ptsOf at *
  rw [List.map_cons, List.flatten_cons, List.length_append, List.length_cons]
  omega
theorem ptsOf_take (g : List Cd) {k : Nat} (h : k < g.length) : ptsOf (g.take (k + 1)) = ptsOf (g.take k) ++ g[k].ps := by
 unfold ptsOf
 rw [List.take_add_one, List.getElem?_eq_getElem h, List.map_append, List.flatten_append]
 simp
attribute [local irreducible] cardsL checkI alikeL
theorem whole_pure (h : Cd) (t : List Cd) (hg : ∀ c ∈ h :: t, CdOK c) (hl : t.length ≤ 5000) : Pure Try.prog 52 [.seq ((h :: t).map cdC)] (.tup [.agg (shC (wholeL (h :: t)).1), dB (wholeL (h :: t)).2]) := by
 obtain ⟨g, hgd⟩ : ∃ g, g = h :: t := ⟨_, rfl⟩
 have hg0 : 0 < g.length := by rw [hgd]; simp
 have hgl : g.length ≤ 5001 := by rw [hgd]; simp; omega
 have hgh : (g.map cdC)[0]? = some (cdC h) := by rw [hgd]; rfl
 have hw : wholeL (h :: t) = (⟨h.n, ptsOf g⟩, decide ((g.length : Int) = h.m) && (checkI [⟨h.n, ptsOf g⟩] == 0) && (decide ((cardsL ⟨h.n, ptsOf g⟩).length = g.length) && alikeL (cardsL ⟨h.n, ptsOf g⟩) g)) := by rw [hgd]; rfl
 rw [hw, ← hgd]
 rw [← hgd] at hg
 clear hw
 have hm : ((g.map cdC).length : Int) = g.length := by rw [List.length_map]
 have hpl := ptsOf_len hg
 refine pure_of pg Try.func52 (by kernel_rfl) ?_
 conv => whnf
 (refine ⟨0, _, rfl, hgh, rfl, ?_⟩; conv => whnf)
 refine ⟨[.cown 1 1 74], [0, 2, 3, 4, 13, 14, 15], [0, 1, 2], 3, fun m s => ∃ k : Nat, k + m = g.length ∧ s = ⟨[(0, .d (.seq (g.map cdC))), (2, .ref 0 0), (3, .d (dB false)), (4, .ref 1 0), (13, .d (.seq (g.map cdC))), (14, .d (dI (g.map cdC).length)), (15, .d (dI k))],
  [(0, .var false 50 [.d (dI 0), .d (.v (.slice none 0 0))]), (1, .var false 50 [.d (dI h.n), .own 2]), (2, .arr 74 ((ptsOf (g.take k)).map ptD))], 3⟩, ?_, ?_⟩
 ·conv => whnf
  exact ⟨g.length, 0, by omega, rfl⟩
 ·rintro m _ ⟨k, hk, rfl⟩
  by_cases hkl : k < g.length
  ·have f1 : decide ((k : Int) < ((g.map cdC).length : Int)) = true := decide_eq_true (by rw [hm]; omega)
   have hpt := ptsOf_take g hkl
   have hptl : (ptsOf (g.take (k + 1))).length ≤ (g.take (k + 1)).length * 15 := ptsOf_len fun c hc => hg c (List.mem_of_mem_take hc)
   rw [hpt, List.length_append, List.length_take] at hptl
   conv => whnf
   (repeat' (first | (apply kT (by with_reducible first | rfl | assumption); conv => whnf) | (apply kF (by with_reducible first | rfl | assumption); conv => whnf) | (apply kT (by decide); conv => whnf) | (apply kF (by decide); conv => whnf) | (apply kB <;> intro _ <;> conv => whnf) | (refine ⟨k, _, rfl, getcd g k hkl, rfl, ?_⟩; conv => whnf) | fail))
   (refine ⟨ptL _, by rw [List.length_map, List.length_map]; show _ * 16 ≤ _; omega, ?_⟩; conv => whnf)
   refine ⟨m - 1, by omega, k + 1, by omega, ?_⟩
   rw [w1 k (by omega), hpt, List.map_append]
  ·have f1 : decide ((k : Int) < ((g.map cdC).length : Int)) = false := decide_eq_false (by rw [hm]; omega)
   have hkg : g.take k = g := List.take_of_length_le (by omega)
   rw [hkg]
   by_cases hmm : (g.length : Int) = h.m
   ·have f2 : (((g.map cdC).length : Int) != h.m) = false := by rw [hm, hmm]; simp
    have ck := check_pure [⟨h.n, ptsOf g⟩] (by simp) (by simp; omega)
    rw [decide_eq_true hmm, Bool.true_and]
    by_cases hc0 : checkI [⟨h.n, ptsOf g⟩] = 0
    ·have f3 : (checkI [⟨h.n, ptsOf g⟩] != 0) = false := by simp [hc0]
     have f3' : (checkI [⟨h.n, ptsOf g⟩] == 0) = true := by simp [hc0]
     rw [f3', Bool.true_and]
     have h1 := (checkI_ok.1 hc0).2 _ (List.mem_singleton.2 rfl)
     have hr := (runB_ok.1 (shB_ok.1 h1.2).2.2).2.2
     have cc := cards_pure ⟨h.n, ptsOf g⟩ (by dsimp only; omega) hr
     have hcl := (cardsL_ok hr).2
     dsimp only at hcl
     have ce := equal_pure (cardsL ⟨h.n, ptsOf g⟩) g (by omega) (by omega)
     have hmc : (((cardsL ⟨h.n, ptsOf g⟩).map cdC).length : Int) = (cardsL ⟨h.n, ptsOf g⟩).length := by rw [List.length_map]
     by_cases hln : (cardsL ⟨h.n, ptsOf g⟩).length = g.length
     ·have f4 : ((((cardsL ⟨h.n, ptsOf g⟩).map cdC).length : Int) == ((g.map cdC).length : Int)) = true := by rw [hmc, hm, hln]; simp
      rw [decide_eq_true hln, Bool.true_and]
      conv => whnf
      (repeat' (first | (apply kT (by with_reducible first | rfl | assumption); conv => whnf) | (apply kF (by with_reducible first | rfl | assumption); conv => whnf) | (apply kT (by decide); conv => whnf) | (apply kF (by decide); conv => whnf) | (apply kB <;> intro _ <;> conv => whnf) | (refine ⟨0, _, rfl, hgh, rfl, ?_⟩; conv => whnf) | fail))
      (refine .l ?_; conv => whnf)
      (repeat' (first | (apply kT (by with_reducible first | rfl | assumption); conv => whnf) | (apply kF (by with_reducible first | rfl | assumption); conv => whnf) | (apply kT (by decide); conv => whnf) | (apply kF (by decide); conv => whnf) | (apply kB <;> intro _ <;> conv => whnf) | (refine .inl ⟨_, ck, ?_⟩; conv => whnf) | (refine .inl ⟨_, cc, ?_⟩; conv => whnf) | (refine .inl ⟨_, ce, ?_⟩; conv => whnf) | fail))
      rfl
     ·have f4 : ((((cardsL ⟨h.n, ptsOf g⟩).map cdC).length : Int) == ((g.map cdC).length : Int)) = false := by rw [hmc, hm, beq_eq_false_iff_ne]; omega
      rw [decide_eq_false hln, Bool.false_and]
      conv => whnf
      (repeat' (first | (apply kT (by with_reducible first | rfl | assumption); conv => whnf) | (apply kF (by with_reducible first | rfl | assumption); conv => whnf) | (apply kT (by decide); conv => whnf) | (apply kF (by decide); conv => whnf) | (apply kB <;> intro _ <;> conv => whnf) | (refine ⟨0, _, rfl, hgh, rfl, ?_⟩; conv => whnf) | fail))
      (refine .l ?_; conv => whnf)
      (repeat' (first | (apply kT (by with_reducible first | rfl | assumption); conv => whnf) | (apply kF (by with_reducible first | rfl | assumption); conv => whnf) | (apply kT (by decide); conv => whnf) | (apply kF (by decide); conv => whnf) | (apply kB <;> intro _ <;> conv => whnf) | (refine .inl ⟨_, ck, ?_⟩; conv => whnf) | (refine .inl ⟨_, cc, ?_⟩; conv => whnf) | fail))
      rfl
    ·have f3 : (checkI [⟨h.n, ptsOf g⟩] != 0) = true := by simpa using hc0
     have f3' : (checkI [⟨h.n, ptsOf g⟩] == 0) = false := by simpa using hc0
     rw [f3', Bool.false_and]
     conv => whnf
     (repeat' (first | (apply kT (by with_reducible first | rfl | assumption); conv => whnf) | (apply kF (by with_reducible first | rfl | assumption); conv => whnf) | (apply kT (by decide); conv => whnf) | (apply kF (by decide); conv => whnf) | (apply kB <;> intro _ <;> conv => whnf) | (refine ⟨0, _, rfl, hgh, rfl, ?_⟩; conv => whnf) | fail))
     (refine .l ?_; conv => whnf)
     (repeat' (first | (apply kT (by with_reducible first | rfl | assumption); conv => whnf) | (apply kF (by with_reducible first | rfl | assumption); conv => whnf) | (apply kT (by decide); conv => whnf) | (apply kF (by decide); conv => whnf) | (apply kB <;> intro _ <;> conv => whnf) | (refine .inl ⟨_, ck, ?_⟩; conv => whnf) | fail))
     rfl
   ·have f2 : (((g.map cdC).length : Int) != h.m) = true := by rw [hm]; simpa using hmm
    rw [decide_eq_false hmm, Bool.false_and, Bool.false_and]
    conv => whnf
    (repeat' (first | (apply kT (by with_reducible first | rfl | assumption); conv => whnf) | (apply kF (by with_reducible first | rfl | assumption); conv => whnf) | (apply kT (by decide); conv => whnf) | (apply kF (by decide); conv => whnf) | (apply kB <;> intro _ <;> conv => whnf) | (refine ⟨0, _, rfl, hgh, rfl, ?_⟩; conv => whnf) | fail))
    rfl
theorem whole_pure' (g : List Cd) (hne : g ≠ []) (hg : ∀ c ∈ g, CdOK c) (hl : g.length ≤ 5000) : Pure Try.prog 52 [.seq (g.map cdC)] (.tup [.agg (shC (wholeL g).1), dB (wholeL g).2]) := by
 cases g with
 | nil => exact absurd rfl hne
 | cons h t => exact whole_pure h t hg (by simp at hl; omega)
def readG : List (List Cd) → List Sh
 | [] => []
 | g :: r => bif (wholeL g).2 then (wholeL g).1 :: readG r else readG r
def ReadL (l : List Int) : List Sh × Int × Int := (readG (openL l).1, (openL l).2.1, (openL l).2.2)
theorem readG_append : ∀ (a b : List (List Cd)), readG (a ++ b) = readG a ++ readG b
 | [], b => rfl
 | g :: a, b => by
  rw [List.cons_append, readG, readG, readG_append a b]
  cases (wholeL g).2 <;> rfl
theorem readG_len : ∀ (a : List (List Cd)), (readG a).length ≤ a.length
 | [] => Nat.le_refl _
 | g :: a => by
  have := readG_len a
  rw [readG]
  cases (wholeL g).2 with
  | true => rw [cond_true, List.length_cons, List.length_cons]; omega
  | false => rw [cond_false, List.length_cons]; omega
def GsOK (G : List (List Cd)) : Prop := G.length ≤ 5000 ∧ ∀ g ∈ G, g ≠ [] ∧ g.length ≤ 5000 ∧ ∀ c ∈ g, CdOK c
attribute [local irreducible] wholeL
theorem getgp (G : List (List Cd)) (k : Nat) (h : k < G.length) : (G.map fun g => [gpD g])[k]? = some [gpD G[k]] := by simp [h]
theorem openL_err {l : List Int} (h : (openL l).2.2 ≠ 0) : (openL l).1 = [] ∧ (openL l).2.1 = 0 := by
 unfold openL at *
 split
 ·exact ⟨rfl, rfl⟩
 ·rename_i h8
  rw [if_neg h8] at h
  cases hc : (numG (addL tr0 l).tw (sortC (addL tr0 l).es)).2 with
  | true => exact ⟨rfl, rfl⟩
  | false => rw [hc] at h; exact absurd rfl h
theorem Read_pure (l : List Int) (hl : l.length ≤ 100000) (hb : By l) (hG : GsOK (openL l).1) : Pure Try.prog 17 [bsD l] (.tup [shsD (ReadL l).1, dI (ReadL l).2.1, dI (ReadL l).2.2]) := by
 have co := open_pure l hl hb
 have hE := openL_err (l := l)
 unfold ReadL
 generalize openL l = r at *
 obtain ⟨G, sp, e⟩ := r
 dsimp only at *
 have co : Pure Try.prog 51 [bsD l] (.tup [gpsD G, dI sp, dI e]) := co
 have hm : ((G.map fun g => [gpD g]).length : Int) = G.length := by rw [List.length_map]
 obtain ⟨hG1, hG2⟩ := hG
 refine pure_of pg Try.func17 (by kernel_rfl) ?_
 by_cases he : e = 0
 ·have f1 : (e != 0) = false := by simp [he]
  conv => whnf
  (refine .inl ⟨_, co, ?_⟩; conv => whnf)
  (apply kF (f1); conv => whnf)
  refine ⟨[.own 2 50], [2, 3, 19, 20, 21], [0], 1, fun m s => ∃ k : Nat, k + m = G.length ∧ s = ⟨[(2, .own 0), (3, .d (dI sp)), (19, .d (gpsD G)), (20, .d (dI (G.map fun g => [gpD g]).length)), (21, .d (dI k))], [(0, .arr 50 ((readG (G.take k)).map shC))], 1⟩, ?_, ?_⟩
  ·conv => whnf
   exact ⟨G.length, 0, by omega, rfl⟩
  ·rintro m _ ⟨k, hk, rfl⟩
   by_cases hkl : k < G.length
   ·have f2 : decide ((k : Int) < ((G.map fun g => [gpD g]).length : Int)) = true := decide_eq_true (by rw [hm]; omega)
    have hgk := hG2 _ (List.getElem_mem hkl)
    have cw := whole_pure' G[k] hgk.1 hgk.2.2 hgk.2.1
    have hrt : readG (G.take (k + 1)) = readG (G.take k) ++ bif (wholeL G[k]).2 then [(wholeL G[k]).1] else [] := by
     rw [List.take_add_one, List.getElem?_eq_getElem hkl, readG_append]
     congr 1
    have hrl := readG_len (G.take k)
    rw [List.length_take] at hrl
    cases hw : (wholeL G[k]).2 with
    | true =>
     rw [hw] at cw
     conv => whnf
     (repeat' (first | (apply kT (by with_reducible first | rfl | assumption); conv => whnf) | (apply kF (by with_reducible first | rfl | assumption); conv => whnf) | (apply kT (by decide); conv => whnf) | (apply kF (by decide); conv => whnf) | (apply kB <;> intro _ <;> conv => whnf) | (refine ⟨k, _, rfl, getgp G k hkl, rfl, ?_⟩; conv => whnf) | (refine .inl ⟨_, cw, ?_⟩; conv => whnf) | fail))
     (refine .l ?_; conv => whnf)
     (refine ⟨fun el h => by rw [List.mem_singleton.1 h]; rfl, by rw [List.length_map]; show (_ + 1) * 32 ≤ _; omega, ?_⟩; conv => whnf)
     refine ⟨m - 1, by omega, k + 1, by omega, ?_⟩
     rw [w1 k (by omega), hrt, hw, cond_true, List.map_append]
     rfl
    | false =>
     rw [hw] at cw
     conv => whnf
     (repeat' (first | (apply kT (by with_reducible first | rfl | assumption); conv => whnf) | (apply kF (by with_reducible first | rfl | assumption); conv => whnf) | (apply kT (by decide); conv => whnf) | (apply kF (by decide); conv => whnf) | (apply kB <;> intro _ <;> conv => whnf) | (refine ⟨k, _, rfl, getgp G k hkl, rfl, ?_⟩; conv => whnf) | (refine .inl ⟨_, cw, ?_⟩; conv => whnf) | fail))
     refine ⟨m - 1, by omega, k + 1, by omega, ?_⟩
     rw [w1 k (by omega), hrt, hw, cond_false, List.append_nil]
   ·have f2 : decide ((k : Int) < ((G.map fun g => [gpD g]).length : Int)) = false := decide_eq_false (by rw [hm]; omega)
    rw [List.take_of_length_le (show G.length ≤ k by omega), he]
    conv => whnf
    (apply kF (f2); conv => whnf)
    rfl
 ·obtain ⟨q1, q2⟩ := hE he
  have f1 : (e != 0) = true := by simpa using he
  subst q1 q2
  conv => whnf
  (refine .inl ⟨_, co, ?_⟩; conv => whnf)
  (apply kT (f1); conv => whnf)
  rfl
theorem goG_flat : ∀ (r : List Cd) (done : List (List Cd)) (h : Cd) (t : List Cd) (tw : Bool), (goG done h t tw r).1.flatten = done.flatten ++ (h :: t) ++ r
 | [], done, h, t, tw => by rw [goG_nil]; simp
 | c :: r, done, h, t, tw => by
  by_cases hn : h.n = c.n
  ·rw [goG_same hn, goG_flat r]; simp
  ·rw [goG_new hn, goG_flat r]; simp
theorem goG_ne : ∀ (r : List Cd) (done : List (List Cd)) (h : Cd) (t : List Cd) (tw : Bool), ∀ g ∈ (goG done h t tw r).1, g ∈ done ∨ g ≠ []
 | [], done, h, t, tw => by
  rw [goG_nil]
  intro g hg
  rcases List.mem_append.1 hg with hg | hg
  ·exact .inl hg
  ·rw [List.mem_singleton.1 hg]; exact .inr (by simp)
 | c :: r, done, h, t, tw => by
  intro g hg
  by_cases hn : h.n = c.n
  ·rw [goG_same hn] at hg
   exact goG_ne r _ _ _ _ g hg
  ·rw [goG_new hn] at hg
   rcases goG_ne r _ _ _ _ g hg with hg | hg
   ·rcases List.mem_append.1 hg with hg | hg
    ·exact .inl hg
    ·rw [List.mem_singleton.1 hg]; exact .inr (by simp)
   ·exact .inr hg
theorem numG_flat (tw : Bool) (L : List Cd) : (numG tw L).1.flatten = L := by
 cases L with
 | nil => unfold numG; rfl
 | cons c r => unfold numG; rw [goG_flat]; simp
theorem numG_ne (tw : Bool) (L : List Cd) : ∀ g ∈ (numG tw L).1, g ≠ [] := by
 cases L with
 | nil => unfold numG; intro g hg; simp at hg
 | cons c r =>
  unfold numG
  intro g hg
  rcases goG_ne r _ _ _ _ g hg with hg | hg
  ·simp at hg
  ·exact hg
theorem flat_lens : ∀ {G : List (List Cd)}, (∀ g ∈ G, g ≠ []) → G.length ≤ G.flatten.length ∧ ∀ g ∈ G, g.length ≤ G.flatten.length
 | [], _ => ⟨Nat.le_refl _, fun g hg => by simp at hg⟩
 | x :: G, h => by
  obtain ⟨h1, h2⟩ := flat_lens (G := G) fun g hg => h g (by simp [hg])
  have hx : 0 < x.length := List.length_pos_iff.2 (h x (by simp))
  rw [List.flatten_cons, List.length_append, List.length_cons]
  refine ⟨by omega, fun g hg => ?_⟩
  rcases List.mem_cons.1 hg with rfl | hg
  ·omega
  ·have := h2 g hg; omega
theorem openL_gs {l : List Int} (hl : l.length ≤ 100000) (hb : By l) : GsOK (openL l).1 := by
 have hok := addL_ok tr0_ok hb
 have hlen := addL_len tr0 l
 have h0 : tr0.es.length = 0 := rfl
 have hn : nCh l ≤ 2500 := by unfold nCh; omega
 have e0 : GsOK [] := ⟨by simp, fun g hg => by simp at hg⟩
 unfold openL
 split
 ·exact e0
 ·cases hc : (numG (addL tr0 l).tw (sortC (addL tr0 l).es)).2 with
  | true => exact e0
  | false =>
   rw [cond_false]
   have hf := numG_flat (addL tr0 l).tw (sortC (addL tr0 l).es)
   have hne := numG_ne (addL tr0 l).tw (sortC (addL tr0 l).es)
   obtain ⟨q1, q2⟩ := flat_lens hne
   rw [hf, (sortC_perm _).length_eq] at q1 q2
   refine ⟨by dsimp only; omega, fun g hg => ⟨hne g hg, by have := q2 g hg; omega, fun c hc => ?_⟩⟩
   have : c ∈ (numG (addL tr0 l).tw (sortC (addL tr0 l).es)).1.flatten := List.mem_flatten.2 ⟨g, hg, hc⟩
   rw [hf] at this
   exact hok.1 c ((sortC_perm _).mem_iff.1 this)
theorem Read_pure' (l : List Int) (hl : l.length ≤ 100000) (hb : By l) : Pure Try.prog 17 [bsD l] (.tup [shsD (ReadL l).1, dI (ReadL l).2.1, dI (ReadL l).2.2]) := Read_pure l hl hb (openL_gs hl hb)
end Go.Ev.Ytljkplahkokpaaa


set_option linter.unusedVariables false
set_option linter.unusedSimpArgs false
set_option maxRecDepth 100000
namespace Go.Ev.Ytljkplahkokpaaa
open Go.Proofs
def smallS : Sh := ⟨258, [⟨3, 5⟩, ⟨4, 4⟩]⟩
def laidL : List Int := [1, 2, 0, 1, 2, 0, 3, 0, 0, 5, 1, 1, 0, 0, 0, 0, 0, 0, 0, 0, 0, 0, 0, 0, 0, 0, 0, 0, 0, 0, 0, 0, 0, 0, 0, 0, 0, 0, 113, 16]
theorem small_ok : checkI [smallS] = 0 := by kernel_rfl
theorem small_cards : (cardsL smallS).map bytesRow = [[bsD laidL]] := by kernel_rfl
theorem small_read : ReadL (laidL ++ [1, 2, 3, 4, 5]) = ([smallS], 1, 0) := by kernel_rfl
def strB (l : List Int) : ByteArray := ⟨(l.map fun n => UInt8.ofNat n.toNat).toArray⟩
theorem strB_bytes {l : List Int} (h : By l) : l.map byC = bytesD (strB l) := by
 unfold bytesD strB
 rw [List.map_map]
 refine List.map_congr_left fun n hn => ?_
 have := h n hn
 have e : (UInt8.ofNat n.toNat).toNat = n.toNat := UInt8.toNat_ofNat_of_lt' (by show n.toNat < 256; omega)
 show [D.v (.int .u8 n)] = [D.v (.int .u8 ((UInt8.ofNat n.toNat).toNat : Nat))]
 rw [e]
 congr 3
 omega
theorem strB_list (l : List Int) : (strB l).toList = l.map fun n => UInt8.ofNat n.toNat := by rw [ByteArray.toList_eq]; simp [strB]
theorem u8_inj : ∀ {a b : List Int}, By a → By b → (a.map fun n => UInt8.ofNat n.toNat) = (b.map fun n => UInt8.ofNat n.toNat) → a = b
 | [], [], _, _, _ => rfl
 | [], _ :: _, _, _, h => by simp at h
 | _ :: _, [], _, _, h => by simp at h
 | x :: a, y :: b, ha, hb, h => by
  rw [List.map_cons, List.map_cons, List.cons.injEq] at h
  have hx := ha x (by simp)
  have hy := hb y (by simp)
  have e : ∀ n : Int, 0 ≤ n ∧ n < 256 → (UInt8.ofNat n.toNat).toNat = n.toNat := fun n hn => UInt8.toNat_ofNat_of_lt' (by show n.toNat < 256; omega)
  have h1 := congrArg UInt8.toNat h.1
  rw [e x hx, e y hy] at h1
  rw [u8_inj (fun z hz => ha z (by simp [hz])) (fun z hz => hb z (by simp [hz])) h.2]
  congr 1
  omega
theorem strB_eq {a b : List Int} (ha : By a) (hb : By b) : ((strB a).toList == (strB b).toList) = decide (a = b) := by
 rw [strB_list, strB_list]
 by_cases h : a = b
 ·rw [h]; simp
 ·rw [decide_eq_false h, beq_eq_false_iff_ne]
  exact fun e => h (u8_inj ha hb e)
theorem laid_by : By laidL := by
 unfold laidL
 repeat first | exact .nil | refine .cons (by omega) ?_
theorem small_pure : Pure Try.prog 50 [] (.agg (shC smallS)) := by
 refine pure_of pg Try.func50 (by kernel_rfl) ?_
 conv => whnf
 (refine .l ?_; conv => whnf)
 (repeat' (first | (apply kT (by with_reducible first | rfl | assumption); conv => whnf) | (apply kF (by with_reducible first | rfl | assumption); conv => whnf) | (apply kT (by decide); conv => whnf) | (apply kF (by decide); conv => whnf) | (apply kB <;> intro _ <;> conv => whnf) | fail))
 rfl
theorem laid_bor : Bor tb Try.prog 49 [] [] 1 (.own 0) [(0, .arr 5 (laidL.map byC))] := by
 refine bor_ofO pg Try.func49 (by kernel_rfl) ?_
 conv => whnf
 (refine ⟨40, rfl, rfl, by decide, by decide, (List.replicate 40 0).map byC, rfl, ?_⟩; conv => whnf)
 (refine .l ?_; conv => whnf)
 (refine ⟨byL [1, 2, 0, 1, 2, 0, 3, 0, 0, 5, 1, 1], (laidL.take 38 ++ [0, 0]).map byC, rfl, ?_⟩; conv => whnf)
 (refine ⟨38, rfl, by decide, ?_⟩; conv => whnf)
 (refine ⟨byC 0, rfl, rfl, by decide, (laidL.take 38 ++ [113, 0]).map byC, rfl, ?_⟩; conv => whnf)
 (refine ⟨39, rfl, by decide, ?_⟩; conv => whnf)
 (refine ⟨byC 0, rfl, rfl, by decide, laidL.map byC, rfl, ?_⟩; conv => whnf)
 (refine ⟨[0], ?_⟩; conv => whnf)
 exact ⟨rfl, rfl⟩
attribute [local irreducible] Pure Bor Iter Pan
theorem awake_pure : Pure Try.prog 16 [] (dB true) := by
 have c1 := Cards_ok smallS small_ok
 rw [small_cards] at c1
 have c2 := Read_pure' (laidL ++ [1, 2, 3, 4, 5]) (by decide) (laid_by.app (by repeat first | exact .nil | refine .cons (by omega) ?_))
 rw [small_read] at c2
 refine pure_of pg Try.func16 (by kernel_rfl) ?_
 conv => whnf
 (refine .inl ⟨_, small_pure, ?_⟩; conv => whnf)
 (refine .inl ⟨_, c1, ?_⟩; conv => whnf)
 (refine .inr ⟨[], 1, _, _, laid_bor, ?_⟩; conv => whnf)
 (refine .l ?_; conv => whnf)
 (refine ⟨byL [1, 2, 3, 4, 5], by decide, ?_⟩; conv => whnf)
 (refine .inl ⟨_, c2, ?_⟩; conv => whnf)
 (refine .r ?_; conv => whnf)
 (repeat' (first | (apply kT (by with_reducible first | rfl | assumption); conv => whnf) | (apply kF (by with_reducible first | rfl | assumption); conv => whnf) | (apply kT (by decide); conv => whnf) | (apply kF (by decide); conv => whnf) | (apply kB <;> intro _ <;> conv => whnf) | (refine ⟨0, _, rfl, rfl, rfl, ?_⟩; conv => whnf) | (refine ⟨strB laidL, strB_bytes laid_by, ?_⟩; conv => whnf) | (refine .inr ⟨[], 1, _, _, laid_bor, ?_⟩; conv => whnf) | (refine ⟨true, beq_self_eq_true _, ?_⟩; conv => whnf) | (refine ⟨1, _, rfl, rfl, rfl, ?_⟩; conv => whnf) | fail))
 rfl
end Go.Ev.Ytljkplahkokpaaa


set_option linter.unusedVariables false
set_option linter.unusedSimpArgs false
set_option maxRecDepth 100000
namespace Go.Ev.Ytljkplahkokpaaa
open Go.Proofs
attribute [local irreducible] Pure Bor Iter Pan
theorem bytes_pure (l : List Int) (hl : l.length ≤ 1000000) : Pure Try.prog 18 [bsD l] (bsD l) := by
 refine pure_of pg Try.func18 (by kernel_rfl) ?_
 conv => whnf
 (refine ⟨byL _, by rw [List.length_map]; show _ * 1 ≤ _; omega, ?_⟩; conv => whnf)
 rfl
def thinB (l : List Sh) : Bool := decide (l.length ≤ 12) && l.all fun s => decide (s.ps.length ≤ 110)
end Go.Ev.Ytljkplahkokpaaa


set_option linter.unusedVariables false
set_option linter.unusedSimpArgs false
set_option maxRecDepth 100000
namespace Go.Ev.Ytljkplahkokpaaa
open Go.Proofs
theorem furL_eq (a b : Pt) : furL a b = (b.s - a.s) :: stepL (b.l - a.l) := rfl
attribute [local irreducible] Pure Bor Iter Pan furL stepL
def PtsOK (l : List Pt) : Prop := runB l = true
theorem PtsOK.get {l : List Pt} (h : PtsOK l) {k : Nat} (hk : k < l.length) : 0 ≤ l[k].s ∧ l[k].s ≤ 65535 ∧ 0 ≤ l[k].l ∧ l[k].l ≤ 1000000 := ptB_ok.1 ((runB_ok.1 h).2.1 _ (List.getElem_mem hk))
def bodyH (l : List Pt) : List Int := match l with
 | [] => []
 | p :: r => [((r.length + 1 : Nat) : Int) % 256, p.s / 256 % 256, p.s % 256, p.l / 65536 % 256, p.l / 256 % 256, p.l % 256]
theorem bodyL_eq (l : List Pt) : bodyL l = bodyH l ++ (furs l).flatten := by
 cases l with
 | nil => rfl
 | cons p r => rfl
theorem bodyH_len {l : List Pt} (h : 0 < l.length) : (bodyH l).length = 6 := by
 cases l with
 | nil => simp at h
 | cons p r => rfl
theorem furs_take (l : List Pt) {k : Nat} (h : k + 1 < l.length) : ((furs l).take (k + 1)).flatten = ((furs l).take k).flatten ++ furL l[k] l[k + 1] := by
 rw [List.take_add_one, furs_get l k h, List.flatten_append]; simp
theorem furs_len2 (l : List Pt) : (furs l).flatten.length ≤ 3 * l.length := by
 match l with
 | [] => simp [furs]
 | [_] => simp [furs]
 | a :: b :: r =>
  have := furs_len2 (b :: r)
  have := furL_len a b
  rw [furs, List.flatten_cons, List.length_append]
  simp only [List.length_cons] at *
  omega
theorem furs_lenT (l : List Pt) (k : Nat) : ((furs l).take k).flatten.length ≤ 3 * l.length := by
 have h := furs_len2 l
 have : (furs l).flatten = ((furs l).take k).flatten ++ ((furs l).drop k).flatten := by rw [← List.flatten_append, List.take_append_drop]
 rw [this, List.length_append] at h
 omega
theorem body_pure (l : List Pt) (h : PtsOK l) (hl : l.length ≤ 1000) : Pure Try.prog 79 [ptsD l] (bsD (bodyL l)) := by
 obtain ⟨h0, hv, hr⟩ := runB_ok.1 h
 have hm : ((l.map ptD).length : Int) = l.length := by rw [List.length_map]
 have hp := h.get h0
 obtain ⟨p1, p2, p3, p4⟩ := hp
 have hraw : [IntKind.u8.wrap ((l.map ptD).length : Nat), IntKind.u8.wrap (IntKind.i64.wrap (l[0].s.tdiv 256)), IntKind.u8.wrap (l[0].s.tmod 256), IntKind.u8.wrap (IntKind.i64.wrap (l[0].l.tdiv 65536)), IntKind.u8.wrap ((IntKind.i64.wrap (l[0].l.tdiv 256)).tmod 256), IntKind.u8.wrap (l[0].l.tmod 256)] = bodyH l := by
  cases l with
  | nil => simp at h0
  | cons p r =>
   simp only [List.getElem_cons_zero] at *
   rw [Int.tdiv_eq_ediv_of_nonneg p1, Int.tmod_eq_emod_of_nonneg p1, Int.tdiv_eq_ediv_of_nonneg p3, Int.tdiv_eq_ediv_of_nonneg p3, Int.tmod_eq_emod_of_nonneg p3]
   rw [wS (z := p.s / 256) (by omega) (by omega), wS (z := p.l / 65536) (by omega) (by omega), wS (z := p.l / 256) (by omega) (by omega), Int.tmod_eq_emod_of_nonneg (by omega)]
   simp only [u8w, hm, List.length_cons, bodyH]
   congr 1
   congr 1
   congr 1
   ·omega
   ·congr 1
    congr 1
    ·omega
    ·congr 1; omega
 have hH := bodyH_len h0
 generalize hB : bodyH l = H at *
 rw [bodyL_eq, hB]
 refine pure_of pg Try.func79 (by kernel_rfl) ?_
 conv => whnf
 (refine ⟨0, _, rfl, getpt l 0 h0, rfl, ?_⟩; conv => whnf)
 (refine ⟨by decide, ?_⟩; conv => whnf)
 (refine ⟨by decide, ?_⟩; conv => whnf)
 (refine ⟨by decide, ?_⟩; conv => whnf)
 (refine ⟨by decide, ?_⟩; conv => whnf)
 (refine ⟨by decide, ?_⟩; conv => whnf)
 (refine ⟨by decide, ?_⟩; conv => whnf)
 (refine .r ⟨by decide, ?_⟩; conv => whnf)
 refine ⟨[.rex], [0, 4, 5], [1], 2, fun m s => ∃ k : Nat, k + 1 + m = l.length ∧ s = ⟨[(0, .d (ptsD l)), (4, .own 1), (5, .d (dI (k + 1 : Nat)))], [(1, .arr 5 ((H ++ ((furs l).take k).flatten).map byC))], 2⟩, ?_, ?_⟩
 ·conv => whnf
  refine ⟨l.length - 1, 0, by omega, ?_⟩
  rw [← hraw]
  rfl
 ·rintro m _ ⟨k, hk, rfl⟩
  by_cases hkl : k + 1 < l.length
  ·have f1 : decide (((k + 1 : Nat) : Int) < ((l.map ptD).length : Int)) = true := decide_eq_true (by rw [hm]; omega)
   have ek : IntKind.i64.wrap (((k + 1 : Nat) : Int) - 1) = ((k : Nat) : Int) := by rw [wrapI (by omega) (by omega)]; omega
   obtain ⟨q1, q2, q3, q4⟩ := hr k hkl
   have c1 := h.get (k := k) (by omega)
   have c2 := h.get hkl
   have ed : IntKind.i64.wrap (l[k + 1].l - l[k].l) = l[k + 1].l - l[k].l := wS (by omega) (by omega)
   have cs : Pure Try.prog 95 [dI (IntKind.i64.wrap (l[k + 1].l - l[k].l))] (bsD (stepL (l[k + 1].l - l[k].l))) := by rw [ed]; exact refStep_pure _ q3 q4
   have eu : IntKind.u8.wrap (IntKind.i64.wrap (l[k + 1].s - l[k].s)) = l[k + 1].s - l[k].s := by rw [wS (z := l[k + 1].s - l[k].s) (by omega) (by omega), u8w]; omega
   have hft := furs_lenT l k
   have hst := stepL_len (l[k + 1].l - l[k].l)
   conv => whnf
   (repeat' (first | (apply kT (by with_reducible first | rfl | assumption); conv => whnf) | (apply kF (by with_reducible first | rfl | assumption); conv => whnf) | (apply kT (by decide); conv => whnf) | (apply kF (by decide); conv => whnf) | (apply kB <;> intro _ <;> conv => whnf) | (refine ⟨k + 1, _, rfl, getpt l (k + 1) hkl, rfl, ?_⟩; conv => whnf) | (refine ⟨k, _, ek, getpt l k (by omega), rfl, ?_⟩; conv => whnf) | fail))
   (refine .l ?_; conv => whnf)
   (refine ⟨fun el h => by rw [List.mem_singleton.1 h]; rfl, by rw [List.length_map, List.length_append]; show (_ + 1) * 1 ≤ _; omega, ?_⟩; conv => whnf)
   (repeat' (first | (apply kT (by with_reducible first | rfl | assumption); conv => whnf) | (apply kF (by with_reducible first | rfl | assumption); conv => whnf) | (apply kT (by decide); conv => whnf) | (apply kF (by decide); conv => whnf) | (apply kB <;> intro _ <;> conv => whnf) | (refine ⟨k + 1, _, rfl, getpt l (k + 1) hkl, rfl, ?_⟩; conv => whnf) | (refine ⟨k, _, ek, getpt l k (by omega), rfl, ?_⟩; conv => whnf) | (refine .inl ⟨_, cs, ?_⟩; conv => whnf) | fail))
   (refine ⟨byL _, by rw [List.length_append, List.length_map, List.length_append, List.length_map, hst]; show (_ + 1 + _) * 1 ≤ _; split <;> omega, ?_⟩; conv => whnf)
   (refine ⟨[0, 250], ?_⟩; conv => whnf)
   refine ⟨m - 1, by omega, k + 1, by omega, ?_⟩
   rw [eu, w1 (k + 1) (by omega), furs_take l hkl, furL_eq, ← List.append_assoc, List.map_append (l₁ := H ++ _), List.map_cons]
   simp only [List.append_assoc, List.cons_append, List.nil_append]
   rfl
  ·have f1 : decide (((k + 1 : Nat) : Int) < ((l.map ptD).length : Int)) = false := decide_eq_false (by rw [hm]; omega)
   conv => whnf
   (apply kF (f1); conv => whnf)
   rw [List.take_of_length_le (by rw [furs_len]; omega)]
   rfl
theorem By.rep0 (n : Nat) : By (List.replicate n 0) := fun x hx => by rw [List.eq_of_mem_replicate hx]; omega
theorem flat_by {l : List (List Int)} (h : ∀ x ∈ l, By x) : By l.flatten := fun y hy => by
 obtain ⟨x, hx, hy⟩ := List.mem_flatten.1 hy
 exact h x hx y hy
theorem bodyL_by {l : List Pt} (hr : Run l) : By (bodyL l) := by
 rw [bodyL_eq]
 refine By.app ?_ (flat_by (furs_by hr))
 cases l with
 | nil => exact .nil
 | cons p r =>
  unfold bodyH
  repeat first | exact .nil | refine .cons (by omega) ?_
theorem raw_by {c : Cd} (hr : Run c.ps) : By (cardRaw c) := by
 unfold cardRaw
 refine By.app ?_ (bodyL_by hr)
 repeat first | exact .nil | refine .cons (by omega) ?_
theorem bodyL_len {l : List Pt} (hl : l.length ≤ 1000) : (bodyL l).length ≤ 3006 := by
 have := furs_len2 l
 rw [bodyL_eq, List.length_append]
 have : (bodyH l).length ≤ 6 := by
  cases l with
  | nil => simp [bodyH]
  | cons p r => exact Nat.le_refl _
 omega
attribute [local irreducible] bodyL wsum psum
theorem wsum_succ (l : List Int) (k : Nat) : wsum l (k + 1) = wsum l k + ((k : Int) + 1) * l.getD k 0 := by rw [wsum]
theorem psum_succ (l : List Int) (k : Nat) : psum l (k + 1) = psum l k + l.getD k 0 := by rw [psum]
theorem wsum_zero (l : List Int) : wsum l 0 = 0 := by rw [wsum]
theorem psum_zero (l : List Int) : psum l 0 = 0 := by rw [psum]
theorem card_pure (c : Cd) (h : PtsOK c.ps) (hl : c.ps.length ≤ 1000) (hn : 0 ≤ c.n ∧ c.n ≤ 1000000) : Pure Try.prog 60 [dI c.n, dI c.i, dI c.m, ptsD c.ps] (bsD (refCard c)) := by
 obtain ⟨h0, hv, hr⟩ := runB_ok.1 h
 have cb := body_pure c.ps h hl
 have hbl := bodyL_len hl
 have hby := raw_by hr
 have hraw : [IntKind.u8.wrap (IntKind.i64.wrap (c.n.tdiv 256)), IntKind.u8.wrap (c.n.tmod 256), IntKind.u8.wrap c.i, IntKind.u8.wrap c.m] ++ bodyL c.ps = cardRaw c := by
  unfold cardRaw
  rw [Int.tdiv_eq_ediv_of_nonneg hn.1, Int.tmod_eq_emod_of_nonneg hn.1, wS (z := c.n / 256) (by omega) (by omega)]
  simp only [u8w]
  congr 2
  congr 1
  omega
 have hrl : (cardRaw c).length = 4 + (bodyL c.ps).length := by rw [← hraw, List.length_append]; rfl
 have hm : (((([IntKind.u8.wrap (IntKind.i64.wrap (c.n.tdiv 256)), IntKind.u8.wrap (c.n.tmod 256), IntKind.u8.wrap c.i, IntKind.u8.wrap c.m].map byC) ++ (bodyL c.ps).map byC).length : Nat) : Int) = (cardRaw c).length := by rw [← List.map_append, hraw, List.length_map]
 refine pure_of pg Try.func60 (by kernel_rfl) ?_
 by_cases h38 : 38 < (cardRaw c).length
 ·have f1 : decide (((((([IntKind.u8.wrap (IntKind.i64.wrap (c.n.tdiv 256)), IntKind.u8.wrap (c.n.tmod 256), IntKind.u8.wrap c.i, IntKind.u8.wrap c.m].map byC) ++ (bodyL c.ps).map byC).length : Nat) : Int)) > 38) = true := decide_eq_true (by rw [hm]; omega)
  have e : refCard c = [] := if_pos h38
  rw [e]
  conv => whnf
  (refine ⟨by decide, ?_⟩; conv => whnf)
  (refine ⟨by decide, ?_⟩; conv => whnf)
  (refine .r ⟨by decide, ?_⟩; conv => whnf)
  (repeat' (first | (apply kT (by with_reducible first | rfl | assumption); conv => whnf) | (apply kF (by with_reducible first | rfl | assumption); conv => whnf) | (apply kT (by decide); conv => whnf) | (apply kF (by decide); conv => whnf) | (apply kB <;> intro _ <;> conv => whnf) | (refine .inl ⟨_, cb, ?_⟩; conv => whnf) | fail))
  (refine ⟨byL _, by rw [List.length_map]; show (4 + _) * 1 ≤ _; omega, ?_⟩; conv => whnf)
  (apply kT (f1); conv => whnf)
  rfl
 ·have f1 : decide (((((([IntKind.u8.wrap (IntKind.i64.wrap (c.n.tdiv 256)), IntKind.u8.wrap (c.n.tmod 256), IntKind.u8.wrap c.i, IntKind.u8.wrap c.m].map byC) ++ (bodyL c.ps).map byC).length : Nat) : Int)) > 38) = false := decide_eq_false (by rw [hm]; omega)
  have e : refCard c = pad38 (cardRaw c) ++ [wsum (pad38 (cardRaw c)) 38 % 251, psum (pad38 (cardRaw c)) 38 % 253] := if_neg h38
  have hPl := pad38_len (l := cardRaw c) (by omega)
  have hPb : By (pad38 (cardRaw c)) := hby.app (.rep0 _)
  rw [e]
  conv => whnf
  (refine ⟨by decide, ?_⟩; conv => whnf)
  (refine ⟨by decide, ?_⟩; conv => whnf)
  (refine .r ⟨by decide, ?_⟩; conv => whnf)
  (repeat' (first | (apply kT (by with_reducible first | rfl | assumption); conv => whnf) | (apply kF (by with_reducible first | rfl | assumption); conv => whnf) | (apply kT (by decide); conv => whnf) | (apply kF (by decide); conv => whnf) | (apply kB <;> intro _ <;> conv => whnf) | (refine .inl ⟨_, cb, ?_⟩; conv => whnf) | fail))
  (refine ⟨byL _, by rw [List.length_map]; show (4 + _) * 1 ≤ _; omega, ?_⟩; conv => whnf)
  (apply kF (f1); conv => whnf)
  refine ⟨[.rex], [9], [0], 1, fun m s => ∃ k : Nat, k + m + (cardRaw c).length = 38 ∧ s = ⟨[(9, .own 0)], [(0, .arr 5 ((cardRaw c ++ List.replicate k 0).map byC))], 1⟩, ?_, ?_⟩
  ·conv => whnf
   refine ⟨38 - (cardRaw c).length, 0, by omega, ?_⟩
   rw [List.replicate_zero, List.append_nil, ← hraw, List.map_append]
   rfl
  ·rintro m _ ⟨k, hk, rfl⟩
   have hlk : (((cardRaw c ++ List.replicate k 0).map byC).length : Int) = ((cardRaw c).length + k : Nat) := by rw [List.length_map, List.length_append, List.length_replicate]
   by_cases hm0 : 0 < m
   ·have f2 : decide ((((cardRaw c ++ List.replicate k 0).map byC).length : Int) < 38) = true := decide_eq_true (by rw [hlk]; omega)
    conv => whnf
    (apply kT (f2); conv => whnf)
    (refine .l ?_; conv => whnf)
    (refine ⟨fun el h => by rw [List.mem_singleton.1 h]; rfl, by rw [List.length_map, List.length_append, List.length_replicate]; show (_ + 1) * 1 ≤ _; omega, ?_⟩; conv => whnf)
    (refine ⟨[0], ?_⟩; conv => whnf)
    refine ⟨m - 1, by omega, k + 1, by omega, ?_⟩
    rw [List.replicate_succ', ← List.append_assoc, List.map_append (l₁ := cardRaw c ++ _)]
    rfl
   ·have f2 : decide ((((cardRaw c ++ List.replicate k 0).map byC).length : Int) < 38) = false := decide_eq_false (by rw [hlk]; omega)
    have hP : cardRaw c ++ List.replicate k 0 = pad38 (cardRaw c) := by unfold pad38; congr 2; omega
    have hPg : ∀ i (h : i < 38), ((pad38 (cardRaw c)).map byC)[i]? = some (byC ((pad38 (cardRaw c)).getD i 0)) := fun i h => by
     rw [List.getElem?_map, List.getElem?_eq_getElem (by omega)]
     simp [List.getD, List.getElem?_eq_getElem (show i < (pad38 (cardRaw c)).length by omega)]
    rw [hP] at f2 ⊢
    generalize pad38 (cardRaw c) = P at *
    conv => whnf
    (apply kF (f2); conv => whnf)
    refine ⟨[], [9, 10, 11, 12], [0], 1, fun m s => ∃ k : Nat, k + m = 38 ∧ s = ⟨[(9, .own 0), (10, .d (dI (wsum P k))), (11, .d (dI (psum P k))), (12, .d (dI k))], [(0, .arr 5 (P.map byC))], 1⟩, ?_, ?_⟩
    ·conv => whnf
     refine ⟨38, 0, by omega, ?_⟩
     rw [wsum_zero, psum_zero]
     rfl
    ·rintro m _ ⟨k, hk, rfl⟩
     by_cases hk38 : k < 38
     ·have f3 : decide ((k : Int) < 38) = true := decide_eq_true (by omega)
      have hb := hPb.getD k
      have hs := wsum_range hPb k (by omega)
      have hs' := wsum_range hPb (k + 1) (by omega)
      have ht := psum_range hPb k (by omega)
      rw [wsum_succ] at hs'
      have ew : IntKind.i64.wrap (wsum P k + IntKind.i64.wrap (IntKind.i64.wrap ((k : Int) + 1) * IntKind.i64.wrap (P.getD k 0))) = wsum P (k + 1) := by
       rw [wsum_succ, w1 k (by omega), wS (z := P.getD k 0) (by omega) (by omega), Int.natCast_add, Int.natCast_one, wS (z := ((k : Int) + 1) * P.getD k 0) (by omega) (by omega)]
       exact wS (by omega) (by omega)
      have ep : IntKind.i64.wrap (psum P k + IntKind.i64.wrap (P.getD k 0)) = psum P (k + 1) := by
       rw [psum_succ, wS (z := P.getD k 0) (by omega) (by omega)]
       exact wS (by omega) (by omega)
      conv => whnf
      (repeat' (first | (apply kT (by with_reducible first | rfl | assumption); conv => whnf) | (apply kF (by with_reducible first | rfl | assumption); conv => whnf) | (apply kT (by decide); conv => whnf) | (apply kF (by decide); conv => whnf) | (apply kB <;> intro _ <;> conv => whnf) | (refine ⟨k, rfl, by rw [List.length_map, hPl]; exact hk38, ?_⟩; conv => whnf) | (refine ⟨_, hPg k hk38, ?_⟩; conv => whnf) | (refine ⟨_, rfl, ?_⟩; conv => whnf) | fail))
      refine ⟨m - 1, by omega, k + 1, by omega, ?_⟩
      rw [ew, ep, w1 k (by omega)]
     ·have f3 : decide ((k : Int) < 38) = false := decide_eq_false (by omega)
      have ek : k = 38 := by omega
      subst ek
      have hs := wsum_range hPb 38 (by omega)
      have ht := psum_range hPb 38 (by omega)
      have e1 : IntKind.u8.wrap ((wsum P 38).tmod 251) = wsum P 38 % 251 := by rw [Int.tmod_eq_emod_of_nonneg hs.1, u8w]; omega
      have e2 : IntKind.u8.wrap ((psum P 38).tmod 253) = psum P 38 % 253 := by rw [Int.tmod_eq_emod_of_nonneg ht.1, u8w]; omega
      conv => whnf
      (apply kF (f3); conv => whnf)
      (refine ⟨by decide, ?_⟩; conv => whnf)
      (refine ⟨by decide, ?_⟩; conv => whnf)
      (refine .l ?_; conv => whnf)
      (refine ⟨fun el h => by simp only [List.mem_cons, List.not_mem_nil, or_false] at h; rcases h with rfl | rfl <;> rfl, by rw [List.length_map, hPl]; show (38 + 2) * 1 ≤ _; decide, ?_⟩; conv => whnf)
      rw [e1, e2, bsD, List.map_append]
      rfl
end Go.Ev.Ytljkplahkokpaaa


set_option linter.unusedVariables false
set_option linter.unusedSimpArgs false
set_option maxRecDepth 100000
namespace Go.Ev.Ytljkplahkokpaaa
open Go.Proofs
def PtsV (l : List Pt) : Prop := (∀ p ∈ l, ptB p = true) ∧ Run l
theorem PtsV.take {l : List Pt} (h : PtsV l) (k : Nat) : PtsV (l.take k) := ⟨fun p hp => h.1 p (List.mem_of_mem_take hp), fun i hi => by
 rw [List.length_take] at hi
 have := h.2 i (by omega)
 simpa using this⟩
theorem PtsV.drop {l : List Pt} (h : PtsV l) (k : Nat) : PtsV (l.drop k) := ⟨fun p hp => h.1 p (List.mem_of_mem_drop hp), h.2.drop k⟩
theorem PtsV.ok {l : List Pt} (h : PtsV l) (h0 : 0 < l.length) : PtsOK l := runB_ok.2 ⟨h0, h.1, h.2⟩
theorem PtsOK.v {l : List Pt} (h : PtsOK l) : PtsV l := ⟨(runB_ok.1 h).2.1, (runB_ok.1 h).2.2⟩
abbrev rowP (l : List Pt) : List D := [ptsD l]
attribute [local irreducible] Pure Bor Iter Pan furL stepL bodyL growN cutN
end Go.Ev.Ytljkplahkokpaaa


set_option linter.unusedVariables false
set_option linter.unusedSimpArgs false
set_option maxRecDepth 100000
namespace Go.Ev.Ytljkplahkokpaaa
open Go.Proofs
theorem grow_room : ∀ (l : List Pt) (room : Nat), room ≤ 38 → room + (furs (l.take (1 + growN room l))).flatten.length ≤ 38
 | [], room, h => by simpa [furs] using h
 | [a], room, h => by rw [List.take_of_length_le (by simp)]; simpa [furs] using h
 | a :: b :: r, room, h => by
  rw [growN_cons]
  split
  ·rename_i h1
   have ih := grow_room (b :: r) (room + (furL a b).length) h1
   rw [show 1 + (1 + growN (room + (furL a b).length) (b :: r)) = (1 + growN (room + (furL a b).length) (b :: r)) + 1 from by omega, List.take_succ_cons]
   rw [show 1 + growN (room + (furL a b).length) (b :: r) = growN (room + (furL a b).length) (b :: r) + 1 from by omega, List.take_succ_cons] at ih ⊢
   rw [furs, List.flatten_cons, List.length_append]
   omega
  ·rw [show 1 + 0 = 0 + 1 from rfl, List.take_succ_cons, List.take_zero]
   simpa [furs] using h
theorem cut_room (l : List Pt) : 10 + (furs (l.take (cutN l))).flatten.length ≤ 38 := grow_room l 10 (by omega)
theorem cutsF_room : ∀ (f : Nat) (l : List Pt), ∀ p ∈ cutsF f l, 10 + (furs p).flatten.length ≤ 38
 | 0, l => fun p hp => by simp [cutsF] at hp
 | f + 1, l => fun p hp => by
  rw [cutsF] at hp
  split at hp
  ·simp at hp
  ·rcases List.mem_cons.1 hp with rfl | hp
   ·exact cut_room l
   ·exact cutsF_room f _ p hp
theorem cards_room {s : Sh} (hr : Run s.ps) {c : Cd} (hc : c ∈ cardsL s) : (cardRaw c).length ≤ 38 := by
 have h0 := ((cardsL_ok hr).1 c hc).1
 rw [raw_len h0]
 exact cutsF_room _ _ _ (mem_cds hc)
theorem cutsF_v : ∀ (f : Nat) (l : List Pt), PtsV l → ∀ p ∈ cutsF f l, PtsV p
 | 0, l, _ => fun p hp => by simp [cutsF] at hp
 | f + 1, l, h => fun p hp => by
  rw [cutsF] at hp
  split at hp
  ·simp at hp
  ·rcases List.mem_cons.1 hp with rfl | hp
   ·exact h.take _
   ·exact cutsF_v f _ (h.drop _) p hp
theorem cards_len (s : Sh) : (cardsL s).length = (cuts s.ps).length := by unfold cardsL; rw [cds_len]
theorem cards_get (s : Sh) (k : Nat) (h : k < (cuts s.ps).length) : (cardsL s)[k]? = some ⟨s.n, k, (cuts s.ps).length, (cuts s.ps)[k]⟩ := by
 unfold cardsL; rw [cds_get _ _ _ _ _ h, Nat.zero_add]
attribute [local irreducible] Pure Bor Iter Pan furL stepL bodyL growN cutN layB cardsL cuts refCard
theorem layL_take (l : List Cd) (k : Nat) (h : k < l.length) : ((l.take (k + 1)).map layB).flatten = ((l.take k).map layB).flatten ++ layB l[k] := by
 rw [List.take_add_one, List.getElem?_eq_getElem h, List.map_append, List.flatten_append]; simp
theorem layL_len {l : List Cd} (h : ∀ c ∈ l, 0 < c.ps.length) : (l.map layB).flatten.length = 40 * l.length := by
 induction l with
 | nil => rfl
 | cons c r ih =>
  rw [List.map_cons, List.flatten_cons, List.length_append, ih fun d hd => h d (by simp [hd]), lay_len (h c (by simp)), List.length_cons]
  omega
attribute [local irreducible] checkI
end Go.Ev.Ytljkplahkokpaaa


set_option linter.unusedVariables false
set_option linter.unusedSimpArgs false
set_option maxRecDepth 100000
namespace Go.Ev.Ytljkplahkokpaaa
open Go.Proofs
theorem grow_ge : ∀ (j : Nat) (l : List Pt) (room : Nat), room + 3 * j ≤ 38 → min j (l.length - 1) ≤ growN room l
 | 0, l, room, _ => by simp
 | j + 1, [], room, _ => by simp
 | j + 1, [a], room, _ => by simp
 | j + 1, a :: b :: r, room, h => by
  have hf := furL_len a b
  have ih := grow_ge j (b :: r) (room + (furL a b).length) (by omega)
  rw [growN_cons, if_pos (by omega)]
  simp only [List.length_cons] at *
  omega
theorem cutN_ge (l : List Pt) : min 10 l.length ≤ cutN l ∨ l.length = 0 := by
 have := grow_ge 9 l 10 (by omega)
 rcases Nat.eq_zero_or_pos l.length with h | h
 ·exact .inr h
 ·left
  unfold cutN
  omega
theorem cutsF_count : ∀ (f : Nat) (l : List Pt), l.length ≤ f → (cutsF f l).length ≤ (l.length + 9) / 10
 | 0, l, h => by rw [cutsF]; simp
 | f + 1, l, h => by
  rw [cutsF]
  split
  ·simp
  ·rename_i h0
   have h1 := cutN_le (l := l) (by omega)
   have h2 := (cutN_ge l).resolve_right (by omega)
   have ih := cutsF_count f (l.drop (cutN l)) (by rw [List.length_drop]; omega)
   rw [List.length_drop] at ih
   rw [List.length_cons]
   omega
theorem cuts_count (l : List Pt) : (cuts l).length ≤ (l.length + 9) / 10 := cutsF_count _ _ (Nat.le_refl _)
theorem cutsF_more : ∀ (f g : Nat) (l : List Pt), l.length ≤ f → l.length ≤ g → cutsF f l = cutsF g l
 | 0, 0, l, _, _ => rfl
 | 0, g + 1, l, h, _ => by rw [cutsF, cutsF, if_pos (by omega)]
 | f + 1, 0, l, _, h => by rw [cutsF, cutsF, if_pos (by omega)]
 | f + 1, g + 1, l, hf, hg => by
  rw [cutsF, cutsF]
  split
  ·rfl
  ·rename_i h0
   have h1 := cutN_le (l := l) (by omega)
   rw [cutsF_more f g (l.drop (cutN l)) (by rw [List.length_drop]; omega) (by rw [List.length_drop]; omega)]
theorem cuts_cons {l : List Pt} (h : 0 < l.length) : cuts l = l.take (cutN l) :: cuts (l.drop (cutN l)) := by
 have h1 := cutN_le h
 have e : l.length = (l.length - 1) + 1 := by omega
 unfold cuts
 conv => lhs; rw [e, cutsF]
 rw [if_neg (by omega), cutsF_more (l.length - 1) (l.drop (cutN l)).length _ (by rw [List.length_drop]; omega) (Nat.le_refl _)]
def ahead (l : List Pt) (i : Nat) : Nat := ((cuts l).take i).flatten.length
end Go.Ev.Ytljkplahkokpaaa


set_option linter.unusedVariables false
set_option linter.unusedSimpArgs false
set_option maxRecDepth 100000
namespace Go.Ev.Ytljkplahkokpaaa
open Go.Proofs
def WriteL (l : List Sh) : List Int × Int := if checkI l = 0 then writeI l else ([], checkI l)
def CardsL (s : Sh) : List Cd × Int := if checkI [s] = 0 then (cardsL s, 0) else ([], checkI [s])
def wantI (l : List Sh) : Int := if checkI l = 0 then (if (l.map Sh.n).Nodup then 0 else 6) else checkI l
attribute [local irreducible] Pure Bor Iter Pan layB cardsL cuts refCard checkI thinB fileL
end Go.Ev.Ytljkplahkokpaaa


set_option linter.unusedVariables false
set_option linter.unusedSimpArgs false
set_option maxRecDepth 100000
namespace Go.Ev.Ytljkplahkokpaaa
open Go.Proofs
theorem check_one {s : Sh} (h1 : s.ps.length ≤ 100) (h2 : shB s = true) : checkI [s] = 0 := checkI_ok.2 ⟨by simp, fun x hx => by rw [List.mem_singleton.1 hx]; exact ⟨h1, h2⟩⟩
theorem cards_at (s : Sh) (k : Nat) (h : k < (cardsL s).length) : (cardsL s)[k] = ⟨s.n, k, (cuts s.ps).length, (cuts s.ps)[k]'(by rw [← cards_len]; exact h)⟩ := by
 have h2 : k < (cuts s.ps).length := by rw [← cards_len]; exact h
 have := cards_get s k h2
 rw [List.getElem?_eq_getElem h] at this
 exact Option.some.inj this
attribute [local irreducible] Pure Bor Iter Pan layB cardsL cuts refCard checkI thinB fileL shB cutN growN
end Go.Ev.Ytljkplahkokpaaa


set_option linter.unusedVariables false
set_option linter.unusedSimpArgs false
set_option maxRecDepth 100000
namespace Go.Ev.Ytljkplahkokpaaa
open Go.Proofs
def lackF (n : Int) : Nat → Nat → List Cd → List (Int × Int)
 | 0, _, _ => []
 | j + 1, i, [] => (n, (i : Int)) :: lackF n j (i + 1) []
 | j + 1, i, c :: r => bif c.i == (i : Int) then lackF n j (i + 1) r else (n, (i : Int)) :: lackF n j (i + 1) (c :: r)
def lacks : List Cd → List (Int × Int)
 | [] => []
 | h :: t => lackF h.n h.m.toNat 0 (h :: t)
def missG (G : List (List Cd)) : List (Int × Int) := (G.map lacks).flatten
def MissL (l : List Int) : List (Int × Int) × Int := (missG (openL l).1, (openL l).2.2)
abbrev lkC (p : Int × Int) : List D := [dI p.1, dI p.2]
attribute [local irreducible] Pure Bor Iter Pan layB cardsL cuts refCard checkI thinB fileL openL lackF
end Go.Ev.Ytljkplahkokpaaa


set_option linter.unusedVariables false
set_option linter.unusedSimpArgs false
set_option maxRecDepth 100000
namespace Go.Ev.Ytljkplahkokpaaa
open Go.Proofs
def pieceF : List Pt → Int → List Cd → List (List Pt)
 | cur, _, [] => [cur]
 | cur, i, c :: r => bif i + 1 == c.i then pieceF (cur ++ c.ps) c.i r else cur :: pieceF c.ps c.i r
def piecesC : List Cd → List (List Pt)
 | [] => []
 | h :: t => pieceF h.ps h.i t
def headN : List Cd → Int
 | [] => -1
 | h :: _ => h.n
def piecesG (n : Int) : List (List Cd) → List (List Pt)
 | [] => []
 | g :: G => bif headN g != n then piecesG n G else piecesC g ++ piecesG n G
def PiecesL (l : List Int) (n : Int) : List (List Pt) × Int :=
 bif (openL l).2.2 != 0 then ([], (openL l).2.2) else bif !inB n 0 9999 then ([], 2) else bif (piecesG n (openL l).1).length == 0 then ([], 7) else (piecesG n (openL l).1, 0)
abbrev ppA (done : List (List Pt)) : List A := done.map fun p => A.d (ptsD p)
def pcO (out : List (List Pt)) (ob : List (Nat × Ob)) : Prop :=
 (out = [] ∧ ∃ X : List Pt, ob = [(0, .arr 74 (X.map ptD)), (1, .arw 48 [])]) ∨
 ∃ (done : List (List Pt)) (cur : List Pt), out = done ++ [cur] ∧ ob = [(0, .arr 74 (cur.map ptD)), (1, .arw 48 (ppA done ++ [.own 0]))]
attribute [local irreducible] Pure Bor Iter Pan layB cardsL cuts refCard checkI thinB fileL openL pieceF piecesG piecesC
end Go.Ev.Ytljkplahkokpaaa


set_option linter.unusedVariables false
set_option linter.unusedSimpArgs false
set_option maxRecDepth 100000
namespace Go.Ev.Ytljkplahkokpaaa
open Go.Proofs
abbrev BL := List Int
attribute [local irreducible] Pure Bor Iter Pan layB cardsL cuts refCard checkI thinB fileL openL addL sortC numG
abbrev fOB (f : Nat) : Ob := .var false 43 [.d (.fn (.func f) [] [])]
theorem all1B (f : Nat) (p : BL → Bool) (x : BL) (hp : Pure Try.prog f [bsD x] (dB (p x))) : Bor tb Try.prog 81 [.d (bsD x), .ref 0 0] [fOB f] 2 (.d (dB (!p x))) [(0, fOB f)] := by
 refine bor_of pg Try.func81 (by kernel_rfl) ?_
 conv => whnf
 (repeat' (first | (apply kT (by with_reducible first | rfl | assumption); conv => whnf) | (apply kF (by with_reducible first | rfl | assumption); conv => whnf) | (apply kT (by decide); conv => whnf) | (apply kF (by decide); conv => whnf) | (apply kB <;> intro _ <;> conv => whnf) | (refine .inl ⟨_, hp, ?_⟩; conv => whnf) | fail))
 (refine ⟨[], [0], ?_⟩; conv => whnf)
 exact ⟨by cases p x <;> rfl, rfl⟩
theorem idxB (f : Nat) (p : BL → Bool) (l : List BL) (hl : l.length ≤ 100000) (hp : ∀ x ∈ l, Pure Try.prog f [bsD x] (dB (p x))) : Bor tb Try.prog 96 [.d (.seq (l.map chE)), .fn (.func 81) [] [.ref 0 0]] [fOB f] 2 (.d (dI (ixI (fun x => !p x) l))) [(0, fOB f)] := by
 have hm : ((l.map chE).length : Int) = l.length := by rw [List.length_map]
 refine bor_of pg Try.func96 (by kernel_rfl) ?_
 conv => whnf
 (repeat' (first | (apply kT (by with_reducible first | rfl | assumption); conv => whnf) | (apply kF (by with_reducible first | rfl | assumption); conv => whnf) | (apply kT (by decide); conv => whnf) | (apply kF (by decide); conv => whnf) | (apply kB <;> intro _ <;> conv => whnf) | fail))
 refine ⟨[], [0, 1, 7, 8], [0], 1, fun m s => ∃ k : Nat, k + m = l.length ∧ (∀ j (h : j < k) (h2 : j < l.length), (!p l[j]) = false) ∧ s = ⟨[(0, .d (.seq (l.map chE))), (1, .fn (.func 81) [] [.ref 0 0]), (7, .d (dI ((l.map chE).length : Nat))), (8, .d (dI k))], [(0, fOB f)], 1⟩, ?_, ?_⟩
 ·conv => whnf
  exact ⟨l.length, 0, by omega, fun j h => by omega, rfl⟩
 ·rintro m _ ⟨k, hk, hno, rfl⟩
  by_cases hkl : k < l.length
  ·have f1 : decide ((k : Int) < ((l.map chE).length : Int)) = true := decide_eq_true (by rw [hm]; omega)
   have hg : (l.map chE)[k]? = some (chE l[k]) := by rw [List.getElem?_map, List.getElem?_eq_getElem hkl]; rfl
   have w1k : IntKind.i64.wrap ((k : Int) + 1) = ((k + 1 : Nat) : Int) := by rw [wrapI (by omega) (by omega)]; rfl
   have cs := all1B f p l[k] (hp _ (List.getElem_mem _))
   by_cases he : (!p l[k]) = true
   ·have e := ixI_at (q := fun x => !p x) hkl (fun j hj => hno j hj (by omega)) he
    rw [e]
    rw [he] at cs
    conv => whnf
    (repeat' (first | (apply kT (by with_reducible first | rfl | assumption); conv => whnf) | (apply kF (by with_reducible first | rfl | assumption); conv => whnf) | (apply kT (by decide); conv => whnf) | (apply kF (by decide); conv => whnf) | (apply kB <;> intro _ <;> conv => whnf) | fail))
    (refine ⟨k, _, rfl, hg, rfl, ?_⟩; conv => whnf)
    (refine .inr ⟨[0], 2, _, _, cs, ?_⟩; conv => whnf)
    (repeat' (first | (apply kT (by with_reducible first | rfl | assumption); conv => whnf) | (apply kF (by with_reducible first | rfl | assumption); conv => whnf) | (apply kT (by decide); conv => whnf) | (apply kF (by decide); conv => whnf) | (apply kB <;> intro _ <;> conv => whnf) | fail))
    (refine ⟨[], [0], ?_⟩; conv => whnf)
    exact ⟨rfl, rfl⟩
   ·have he := (Bool.not_eq_true _).mp he
    rw [he] at cs
    conv => whnf
    (repeat' (first | (apply kT (by with_reducible first | rfl | assumption); conv => whnf) | (apply kF (by with_reducible first | rfl | assumption); conv => whnf) | (apply kT (by decide); conv => whnf) | (apply kF (by decide); conv => whnf) | (apply kB <;> intro _ <;> conv => whnf) | fail))
    (refine ⟨k, _, rfl, hg, rfl, ?_⟩; conv => whnf)
    (refine .inr ⟨[0], 2, _, _, cs, ?_⟩; conv => whnf)
    (repeat' (first | (apply kT (by with_reducible first | rfl | assumption); conv => whnf) | (apply kF (by with_reducible first | rfl | assumption); conv => whnf) | (apply kT (by decide); conv => whnf) | (apply kF (by decide); conv => whnf) | (apply kB <;> intro _ <;> conv => whnf) | fail))
    refine ⟨m - 1, by omega, k + 1, by omega, fun j hj hjl => ?_, ?_⟩
    ·by_cases h : j < k
     ·exact hno j h hjl
     ·have : j = k := by omega
      subst this
      exact he
    ·rw [w1k]
  ·have f1 : decide ((k : Int) < ((l.map chE).length : Int)) = false := decide_eq_false (by rw [hm]; omega)
   have e := ixI_none (q := fun x => !p x) (l := l) fun j hj => hno j (by omega) hj
   rw [e]
   conv => whnf
   (repeat' (first | (apply kT (by with_reducible first | rfl | assumption); conv => whnf) | (apply kF (by with_reducible first | rfl | assumption); conv => whnf) | (apply kT (by decide); conv => whnf) | (apply kF (by decide); conv => whnf) | (apply kB <;> intro _ <;> conv => whnf) | fail))
   (refine ⟨[], [0], ?_⟩; conv => whnf)
   exact ⟨rfl, rfl⟩
theorem hasB (f : Nat) (p : BL → Bool) (l : List BL) (hl : l.length ≤ 100000) (hp : ∀ x ∈ l, Pure Try.prog f [bsD x] (dB (p x))) : Bor tb Try.prog 80 [.d (.seq (l.map chE)), .fn (.func 81) [] [.ref 0 0]] [fOB f] 2 (.d (dB (!l.all p))) [(0, fOB f)] := by
 have ci := idxB f p l hl hp
 rw [← ixI_all]
 refine bor_of pg Try.func80 (by kernel_rfl) ?_
 conv => whnf
 (repeat' (first | (apply kT (by with_reducible first | rfl | assumption); conv => whnf) | (apply kF (by with_reducible first | rfl | assumption); conv => whnf) | (apply kT (by decide); conv => whnf) | (apply kF (by decide); conv => whnf) | (apply kB <;> intro _ <;> conv => whnf) | fail))
 (refine .inr ⟨[0], 2, _, _, ci, ?_⟩; conv => whnf)
 (repeat' (first | (apply kT (by with_reducible first | rfl | assumption); conv => whnf) | (apply kF (by with_reducible first | rfl | assumption); conv => whnf) | (apply kT (by decide); conv => whnf) | (apply kF (by decide); conv => whnf) | (apply kB <;> intro _ <;> conv => whnf) | fail))
 (refine ⟨[], [0], ?_⟩; conv => whnf)
 exact ⟨rfl, rfl⟩
theorem allB (f : Nat) (p : BL → Bool) (l : List BL) (hl : l.length ≤ 100000) (hp : ∀ x ∈ l, Pure Try.prog f [bsD x] (dB (p x))) : Pure Try.prog 61 [.seq (l.map chE), .fn (.func f) [] []] (dB (l.all p)) := by
 have ci := hasB f p l hl hp
 refine pure_of pg Try.func61 (by kernel_rfl) ?_
 conv => whnf
 (repeat' (first | (apply kT (by with_reducible first | rfl | assumption); conv => whnf) | (apply kF (by with_reducible first | rfl | assumption); conv => whnf) | (apply kT (by decide); conv => whnf) | (apply kF (by decide); conv => whnf) | (apply kB <;> intro _ <;> conv => whnf) | fail))
 (refine .inr ⟨[0], 2, _, _, ci, ?_⟩; conv => whnf)
 (repeat' (first | (apply kT (by with_reducible first | rfl | assumption); conv => whnf) | (apply kF (by with_reducible first | rfl | assumption); conv => whnf) | (apply kT (by decide); conv => whnf) | (apply kF (by decide); conv => whnf) | (apply kB <;> intro _ <;> conv => whnf) | fail))
 cases l.all p <;> rfl
theorem growC (n : Nat) (hn : 0 < n) (hn2 : n ≤ 100000) : Bor tb Try.prog 86 [.d (.v (.slice none 0 0)), .d (dI n)] [] 1 (.own 0) [(0, .arr 129 [])] := by
 have f1 : decide ((n : Int) < 0) = false := decide_eq_false (by omega)
 have w1' : IntKind.i64.wrap ((n : Int) - IntKind.i64.wrap (0 - ((([] : List (List D)).length : Nat) : Int))) = (n : Int) := by rw [show IntKind.i64.wrap (0 - ((([] : List (List D)).length : Nat) : Int)) = 0 from by decide]; rw [wrapI (by omega) (by omega)]; omega
 have f2 : decide ((IntKind.i64.wrap ((n : Int) - IntKind.i64.wrap (0 - ((([] : List (List D)).length : Nat) : Int)))) > 0) = true := decide_eq_true (by rw [w1']; omega)
 refine bor_ofO pg Try.func86 (by kernel_rfl) ?_
 conv => whnf
 (repeat' (first | (apply kT (by with_reducible first | rfl | assumption); conv => whnf) | (apply kF (by with_reducible first | rfl | assumption); conv => whnf) | (apply kT (by decide); conv => whnf) | (apply kF (by decide); conv => whnf) | (apply kB <;> intro _ <;> conv => whnf) | fail))
 (refine ⟨0, rfl, rfl, rfl, ?_⟩; conv => whnf)
 (refine ⟨n, w1', by show n * 48 ≤ 140737488355328; omega, _, rfl, ?_⟩; conv => whnf)
 (refine ⟨0, rfl, Nat.zero_le _, .l ⟨[], rfl, ?_⟩⟩; conv => whnf)
 (refine ⟨[0], ?_⟩; conv => whnf)
 exact ⟨rfl, rfl⟩
theorem growC0 : Bor tb Try.prog 86 [.d (.v (.slice none 0 0)), .d (dI 0)] [] 0 (.d (.v (.slice none 0 0))) [] := by
 refine bor_ofO pg Try.func86 (by kernel_rfl) ?_
 conv => whnf
 (repeat' (first | (apply kT (by with_reducible first | rfl | assumption); conv => whnf) | (apply kF (by with_reducible first | rfl | assumption); conv => whnf) | (apply kT (by decide); conv => whnf) | (apply kF (by decide); conv => whnf) | (apply kB <;> intro _ <;> conv => whnf) | fail))
 (refine ⟨[], ?_⟩; conv => whnf)
 exact ⟨rfl, rfl⟩
theorem concatC (P : List (List Cd)) (hP : P.length ≤ 100000) (hl : P.flatten.length ≤ 100000) : Pure Try.prog 65 [.seq (P.map fun l => [.seq (l.map cdC)])] (.seq (P.flatten.map cdC)) := by
 have hm : ((P.map fun l => [D.seq (l.map cdC)]).length : Int) = P.length := by rw [List.length_map]
 have hg : ∀ k (h : k < P.length), (P.map fun l => [D.seq (l.map cdC)])[k]? = some [D.seq (P[k].map cdC)] := fun k h => by simp [h]
 have hf : ∀ k (h : k < P.length), (P.take (k + 1)).flatten = (P.take k).flatten ++ P[k] := fun k h => by
  rw [List.take_add_one, List.getElem?_eq_getElem h, List.flatten_append]; simp
 have hle : ∀ k, (P.take k).flatten.length ≤ P.flatten.length := fun k => by
  rw [show P.flatten = (P.take k).flatten ++ (P.drop k).flatten from by rw [← List.flatten_append, List.take_append_drop]]
  simp
 have loop2 : ∀ k (h : k < P.length), ((P.take k).flatten.length + P[k].length) = (P.take (k + 1)).flatten.length := fun k h => by rw [hf k h, List.length_append]
 have hel : ∀ k (h : k < P.length), ∀ el ∈ P[k].map cdC, el.length = 4 := fun k h el he => by
  rw [List.mem_map] at he; obtain ⟨x, _, rfl⟩ := he; rfl
 have hby : ∀ k (h : k < P.length), (((P.take k).flatten.map cdC).length + (P[k].map cdC).length) * 48 ≤ 140737488355328 := fun k h => by
  rw [List.length_map, List.length_map, loop2 k h]
  have := hle (k + 1)
  omega
 refine pure_of pg Try.func65 (by kernel_rfl) ?_
 conv => whnf
 (repeat' (first | (apply kT (by with_reducible first | rfl | assumption); conv => whnf) | (apply kF (by with_reducible first | rfl | assumption); conv => whnf) | (apply kT (by decide); conv => whnf) | (apply kF (by decide); conv => whnf) | (apply kB <;> intro _ <;> conv => whnf) | fail))
 refine ⟨[], [0, 3, 9, 10, 11], [], 0, fun m s => ∃ k : Nat, k + m = P.length ∧ s = ⟨[(0, .d (.seq (P.map fun l => [D.seq (l.map cdC)]))), (3, .d (dI (P.take k).flatten.length)), (9, .d (.seq (P.map fun l => [D.seq (l.map cdC)]))), (10, .d (dI ((P.map fun l => [D.seq (l.map cdC)]).length : Nat))), (11, .d (dI k))], [], 0⟩, ?_, ?_⟩
 ·conv => whnf
  exact ⟨P.length, 0, by omega, rfl⟩
 ·rintro m _ ⟨k, hk, rfl⟩
  by_cases hkl : k < P.length
  ·have f1 : decide ((k : Int) < ((P.map fun l => [D.seq (l.map cdC)]).length : Int)) = true := decide_eq_true (by rw [hm]; omega)
   have ew : IntKind.i64.wrap (((P.take k).flatten.length : Int) + ((P[k].map cdC).length : Int)) = ((P.take (k + 1)).flatten.length : Int) := by
    rw [List.length_map, ← loop2 k hkl]
    have := hle (k + 1)
    have := loop2 k hkl
    rw [wrapI (by omega) (by omega)]
    omega
   have f2 : decide (IntKind.i64.wrap (((P.take k).flatten.length : Int) + ((P[k].map cdC).length : Int)) < 0) = false := decide_eq_false (by rw [ew]; omega)
   conv => whnf
   (repeat' (first | (apply kT (by with_reducible first | rfl | assumption); conv => whnf) | (apply kF (by with_reducible first | rfl | assumption); conv => whnf) | (apply kT (by decide); conv => whnf) | (apply kF (by decide); conv => whnf) | (apply kB <;> intro _ <;> conv => whnf) | (refine ⟨k, _, rfl, hg k hkl, rfl, ?_⟩; conv => whnf) | fail))
   refine ⟨m - 1, by omega, k + 1, by omega, ?_⟩
   rw [ew, w1 k (by omega)]
  ·have f1 : decide ((k : Int) < ((P.map fun l => [D.seq (l.map cdC)]).length : Int)) = false := decide_eq_false (by rw [hm]; omega)
   have ek : k = P.length := by omega
   subst ek
   rw [List.take_length]
   by_cases h0 : P.flatten.length = 0
   ·rw [h0]
    conv => whnf
    (apply kF (f1); conv => whnf)
    (refine .inr ⟨[], 0, _, _, growC0, ?_⟩; conv => whnf)
    (repeat' (first | (apply kT (by with_reducible first | rfl | assumption); conv => whnf) | (apply kF (by with_reducible first | rfl | assumption); conv => whnf) | (apply kT (by decide); conv => whnf) | (apply kF (by decide); conv => whnf) | (apply kB <;> intro _ <;> conv => whnf) | fail))
    refine ⟨[.own 6 129], [6, 25, 26, 27], [0], 1, fun m s => ∃ k : Nat, k + m = P.length ∧ s = ⟨[(6, .own 0), (25, .d (.seq (P.map fun l => [D.seq (l.map cdC)]))), (26, .d (dI ((P.map fun l => [D.seq (l.map cdC)]).length : Nat))), (27, .d (dI k))], [(0, .arr 129 ((P.take k).flatten.map cdC))], 1⟩, ?_, ?_⟩
    ·conv => whnf
     exact ⟨P.length, 0, by omega, rfl⟩
    ·rintro m _ ⟨k, hk, rfl⟩
     by_cases hkl : k < P.length
     ·have f1 : decide ((k : Int) < ((P.map fun l => [D.seq (l.map cdC)]).length : Int)) = true := decide_eq_true (by rw [hm]; omega)
      conv => whnf
      (repeat' (first | (apply kT (by with_reducible first | rfl | assumption); conv => whnf) | (apply kF (by with_reducible first | rfl | assumption); conv => whnf) | (apply kT (by decide); conv => whnf) | (apply kF (by decide); conv => whnf) | (apply kB <;> intro _ <;> conv => whnf) | (refine ⟨k, _, rfl, hg k hkl, rfl, ?_⟩; conv => whnf) | fail))
      (refine ⟨hel k hkl, hby k hkl, ?_⟩; conv => whnf)
      refine ⟨m - 1, by omega, k + 1, by omega, ?_⟩
      rw [w1 k (by omega), hf k hkl, List.map_append]
     ·have f1 : decide ((k : Int) < ((P.map fun l => [D.seq (l.map cdC)]).length : Int)) = false := decide_eq_false (by rw [hm]; omega)
      have ek : k = P.length := by omega
      subst ek
      rw [List.take_length]
      conv => whnf
      (apply kF (f1); conv => whnf)
      rfl
   ·conv => whnf
    (apply kF (f1); conv => whnf)
    (refine .inr ⟨[], 1, _, _, growC P.flatten.length (by omega) hl, ?_⟩; conv => whnf)
    (repeat' (first | (apply kT (by with_reducible first | rfl | assumption); conv => whnf) | (apply kF (by with_reducible first | rfl | assumption); conv => whnf) | (apply kT (by decide); conv => whnf) | (apply kF (by decide); conv => whnf) | (apply kB <;> intro _ <;> conv => whnf) | fail))
    refine ⟨[], [6, 25, 26, 27], [0], 1, fun m s => ∃ k : Nat, k + m = P.length ∧ s = ⟨[(6, .own 0), (25, .d (.seq (P.map fun l => [D.seq (l.map cdC)]))), (26, .d (dI ((P.map fun l => [D.seq (l.map cdC)]).length : Nat))), (27, .d (dI k))], [(0, .arr 129 ((P.take k).flatten.map cdC))], 1⟩, ?_, ?_⟩
    ·conv => whnf
     exact ⟨P.length, 0, by omega, rfl⟩
    ·rintro m _ ⟨k, hk, rfl⟩
     by_cases hkl : k < P.length
     ·have f1 : decide ((k : Int) < ((P.map fun l => [D.seq (l.map cdC)]).length : Int)) = true := decide_eq_true (by rw [hm]; omega)
      conv => whnf
      (repeat' (first | (apply kT (by with_reducible first | rfl | assumption); conv => whnf) | (apply kF (by with_reducible first | rfl | assumption); conv => whnf) | (apply kT (by decide); conv => whnf) | (apply kF (by decide); conv => whnf) | (apply kB <;> intro _ <;> conv => whnf) | (refine ⟨k, _, rfl, hg k hkl, rfl, ?_⟩; conv => whnf) | fail))
      (refine ⟨hel k hkl, hby k hkl, ?_⟩; conv => whnf)
      refine ⟨m - 1, by omega, k + 1, by omega, ?_⟩
      rw [w1 k (by omega), hf k hkl, List.map_append]
     ·have f1 : decide ((k : Int) < ((P.map fun l => [D.seq (l.map cdC)]).length : Int)) = false := decide_eq_false (by rw [hm]; omega)
      have ek : k = P.length := by omega
      subst ek
      rw [List.take_length]
      conv => whnf
      (apply kF (f1); conv => whnf)
      rfl
def goodF (l : List Int) : Bool := decide (l.length ≤ 8000)
theorem goodF_pure (l : List Int) : Pure Try.prog 62 [bsD l] (dB (goodF l)) := by
 have e : goodF l = decide (((l.map byC).length : Int) ≤ 8000) := by
  unfold goodF; rw [List.length_map]
  by_cases h : l.length ≤ 8000
  ·rw [decide_eq_true h, decide_eq_true (by omega)]
  ·rw [decide_eq_false h, decide_eq_false (by omega)]
 rw [e]
 refine pure_of pg Try.func62 (by kernel_rfl) ?_
 conv => whnf
 (repeat' (first | (apply kT (by with_reducible first | rfl | assumption); conv => whnf) | (apply kF (by with_reducible first | rfl | assumption); conv => whnf) | (apply kT (by decide); conv => whnf) | (apply kF (by decide); conv => whnf) | (apply kB <;> intro _ <;> conv => whnf) | fail))
 rfl
def trF (fs : List (List Int)) : Tr := fs.foldl addL tr0
theorem trF_ok {fs : List (List Int)} : (∀ f ∈ fs, By f ∧ f.length ≤ 8000) → ∀ {t : Tr} {b : Int}, TrOK t b → Keys t.es → TrOK (fs.foldl addL t) (b + 200 * fs.length) ∧ Keys (fs.foldl addL t).es ∧ (fs.foldl addL t).es.length ≤ t.es.length + 200 * fs.length := by
 induction fs with
 | nil => intro _ t b h1 h2; exact ⟨by simpa using h1, h2, Nat.le_refl _⟩
 | cons f r ih =>
  intro h t b h1 h2
  obtain ⟨q1, q2⟩ := h f (by simp)
  have hn : nCh f ≤ 200 := by unfold nCh; omega
  have k1 := addL_ok h1 q1
  have k2 := addL_keys h2 f
  have k3 := addL_len t f
  obtain ⟨p1, p2, p3⟩ := ih (fun x hx => h x (by simp [hx])) (k1.le (show b + nCh f ≤ b + 200 by omega)) k2
  refine ⟨p1.le (by rw [List.length_cons]; omega), p2, by rw [List.foldl_cons, List.length_cons]; omega⟩
def MendL (fs : List (List Int)) : List Int × Int :=
 if 5 < fs.length ∨ fs.all goodF = false then ([], 3)
 else bif (numG (trF fs).tw (sortC (trF fs).es)).2 then ([], 6)
 else if 8000 < ((sortC (trF fs).es).map layB).flatten.length then ([], 3) else (((sortC (trF fs).es).map layB).flatten, 0)
theorem getch (l : List (List Int)) (k : Nat) (h : k < l.length) : (l.map chE)[k]? = some (chE l[k]) := by simp [h]
theorem Mend_pure (fs : List (List Int)) (hl : fs.length ≤ 100000) (hb : ∀ f ∈ fs, By f) : Pure Try.prog 37 [.seq (fs.map chE)] (.tup [bsD (MendL fs).1, dI (MendL fs).2]) := by
 have hm : ((fs.map chE).length : Int) = fs.length := by rw [List.length_map]
 have ca := allB 62 goodF fs hl fun x _ => goodF_pure x
 refine pure_of pg Try.func37 (by kernel_rfl) ?_
 by_cases h5 : 5 < fs.length
 ·have f1 : decide (((fs.map chE).length : Int) > 5) = true := decide_eq_true (by rw [hm]; omega)
  have e : MendL fs = ([], 3) := if_pos (.inl h5)
  rw [e]
  conv => whnf
  (repeat' (first | (apply kT (by with_reducible first | rfl | assumption); conv => whnf) | (apply kF (by with_reducible first | rfl | assumption); conv => whnf) | (apply kT (by decide); conv => whnf) | (apply kF (by decide); conv => whnf) | (apply kB <;> intro _ <;> conv => whnf) | (refine .inl ⟨_, ca, ?_⟩; conv => whnf) | fail))
  rfl
 ·have f1 : decide (((fs.map chE).length : Int) > 5) = false := decide_eq_false (by rw [hm]; omega)
  cases hall : fs.all goodF with
  | false =>
   have e : MendL fs = ([], 3) := if_pos (.inr hall)
   rw [hall] at ca
   rw [e]
   conv => whnf
   (repeat' (first | (apply kT (by with_reducible first | rfl | assumption); conv => whnf) | (apply kF (by with_reducible first | rfl | assumption); conv => whnf) | (apply kT (by decide); conv => whnf) | (apply kF (by decide); conv => whnf) | (apply kB <;> intro _ <;> conv => whnf) | (refine .inl ⟨_, ca, ?_⟩; conv => whnf) | fail))
   rfl
  | true =>
   rw [hall] at ca
   have hg : ∀ f ∈ fs, By f ∧ f.length ≤ 8000 := fun f hf => ⟨hb f hf, by simpa [goodF] using List.all_eq_true.1 hall f hf⟩
   obtain ⟨t1, t2, t3⟩ := trF_ok hg tr0_ok tr0_keys
   have e0 : tr0.es.length = 0 := rfl
   have cn := numbers_bor (trF fs) _ t1 t2 (by show (fs.foldl addL tr0).es.length ≤ _; omega)
   have hL : (sortC (trF fs).es).length ≤ 1000 := by rw [(sortC_perm _).length_eq]; show (fs.foldl addL tr0).es.length ≤ _; omega
   have hLc : ∀ c ∈ sortC (trF fs).es, CdOK c := fun c hc => t1.1 c ((sortC_perm _).mem_iff.1 hc)
   have hnf := numG_flat (trF fs).tw (sortC (trF fs).es)
   have hne := numG_ne (trF fs).tw (sortC (trF fs).es)
   have hfl := (flat_lens hne).1
   rw [hnf] at hfl
   have e : MendL fs = bif (numG (trF fs).tw (sortC (trF fs).es)).2 then ([], 6) else if 8000 < ((sortC (trF fs).es).map layB).flatten.length then ([], 3) else (((sortC (trF fs).es).map layB).flatten, 0) := if_neg (by rw [hall]; simp; omega)
   rw [e]
   conv => whnf
   (repeat' (first | (apply kT (by with_reducible first | rfl | assumption); conv => whnf) | (apply kF (by with_reducible first | rfl | assumption); conv => whnf) | (apply kT (by decide); conv => whnf) | (apply kF (by decide); conv => whnf) | (apply kB <;> intro _ <;> conv => whnf) | (refine .inl ⟨_, ca, ?_⟩; conv => whnf) | fail))
   refine ⟨[], [4, 25, 26, 27], [0, 1], 2, fun m s => ∃ k : Nat, k + m = fs.length ∧ s = ⟨[(4, .ref 1 0), (25, .d (.seq (fs.map chE))), (26, .d (dI (fs.map chE).length)), (27, .d (dI k))], [(0, knO ((fs.take k).foldl addL tr0).es), (1, trO 0 ((fs.take k).foldl addL tr0))], 2⟩, ?_, ?_⟩
   ·conv => whnf
    exact ⟨fs.length, 0, by omega, rfl⟩
   ·rintro m _ ⟨k, hk, rfl⟩
    by_cases hkl : k < fs.length
    ·have f2 : decide ((k : Int) < ((fs.map chE).length : Int)) = true := decide_eq_true (by rw [hm]; omega)
     have hfk := hg _ (List.getElem_mem hkl)
     have htk := (trF_ok (fs := fs.take k) (fun f hf => hg f (List.mem_of_mem_take hf)) tr0_ok tr0_keys).1
     rw [List.length_take] at htk
     have cad := add_bor ((fs.take k).foldl addL tr0) fs[k] (by omega) hfk.1 (htk.le (by omega))
     conv => whnf
     (repeat' (first | (apply kT (by with_reducible first | rfl | assumption); conv => whnf) | (apply kF (by with_reducible first | rfl | assumption); conv => whnf) | (apply kT (by decide); conv => whnf) | (apply kF (by decide); conv => whnf) | (apply kB <;> intro _ <;> conv => whnf) | (refine ⟨k, _, rfl, getch fs k hkl, rfl, ?_⟩; conv => whnf) | fail))
     (refine .inr ⟨[1, 0], 2, _, _, cad, ?_⟩; conv => whnf)
     refine ⟨m - 1, by omega, k + 1, by omega, ?_⟩
     rw [w1 k (by omega), List.take_add_one, List.getElem?_eq_getElem hkl, List.foldl_append]
     rfl
    ·have f2 : decide ((k : Int) < ((fs.map chE).length : Int)) = false := decide_eq_false (by rw [hm]; omega)
     have hT : (fs.take k).foldl addL tr0 = trF fs := by rw [List.take_of_length_le (by omega)]; rfl
     rw [hT]
     generalize hL2 : sortC (trF fs).es = L at *
     cases ht : (numG (trF fs).tw L).2 with
     | true =>
      rw [ht] at cn
      rw [cond_true]
      conv => whnf
      (apply kF (f2); conv => whnf)
      (refine .inr ⟨[1, 0], 2, _, _, cn, ?_⟩; conv => whnf)
      (repeat' (first | (apply kT (by with_reducible first | rfl | assumption); conv => whnf) | (apply kF (by with_reducible first | rfl | assumption); conv => whnf) | (apply kT (by decide); conv => whnf) | (apply kF (by decide); conv => whnf) | (apply kB <;> intro _ <;> conv => whnf) | fail))
      rfl
     | false =>
      rw [ht] at cn
      rw [cond_false]
      have ccat := concatC (numG (trF fs).tw L).1 (by omega) (by rw [hnf]; omega)
      rw [hnf] at ccat
      have hmL : ((L.map cdC).length : Int) = L.length := by rw [List.length_map]
      have hll : ∀ c ∈ L, 0 < c.ps.length := fun c hc => (hLc c hc).many.1
      have hout := layL_len hll
      conv => whnf
      (apply kF (f2); conv => whnf)
      (refine .inr ⟨[1, 0], 2, _, _, cn, ?_⟩; conv => whnf)
      (repeat' (first | (apply kT (by with_reducible first | rfl | assumption); conv => whnf) | (apply kF (by with_reducible first | rfl | assumption); conv => whnf) | (apply kT (by decide); conv => whnf) | (apply kF (by decide); conv => whnf) | (apply kB <;> intro _ <;> conv => whnf) | (refine .inl ⟨_, ccat, ?_⟩; conv => whnf) | fail))
      refine ⟨[.seq 9], [9, 42, 43, 44], [], 0, fun m s => ∃ k : Nat, k + m = L.length ∧ s = ⟨[(9, .d (bsD ((L.take k).map layB).flatten)), (42, .d (.seq (L.map cdC))), (43, .d (dI (L.map cdC).length)), (44, .d (dI k))], [], 0⟩, ?_, ?_⟩
      ·conv => whnf
       exact ⟨L.length, 0, by omega, rfl⟩
      ·rintro m _ ⟨k, hk, rfl⟩
       by_cases hkl : k < L.length
       ·have f3 : decide ((k : Int) < ((L.map cdC).length : Int)) = true := decide_eq_true (by rw [hmL]; omega)
        have hck := hLc _ (List.getElem_mem hkl)
        have hmn := hck.many
        have cl := lay_pure' L[k] hmn.1 (by omega) (runB_ok.1 hck.2.2.2.1).2.2
        have hl40 := lay_len hmn.1
        have hpl := layL_len (l := L.take k) fun c hc => hll c (List.mem_of_mem_take hc)
        rw [List.length_take] at hpl
        have cj := join_pure [((L.take k).map layB).flatten, layB L[k]] (by simp) (by
         simp only [List.flatten_cons, List.flatten_nil, List.append_nil, List.length_append]
         rw [hl40]
         omega)
        simp only [List.flatten_cons, List.flatten_nil, List.append_nil] at cj
        rw [← layL_take L k hkl] at cj
        conv => whnf
        (repeat' (first | (apply kT (by with_reducible first | rfl | assumption); conv => whnf) | (apply kF (by with_reducible first | rfl | assumption); conv => whnf) | (apply kT (by decide); conv => whnf) | (apply kF (by decide); conv => whnf) | (apply kB <;> intro _ <;> conv => whnf) | (refine ⟨k, _, rfl, getcd L k hkl, rfl, ?_⟩; conv => whnf) | (refine .inl ⟨_, cl, ?_⟩; conv => whnf) | fail))
        (refine ⟨((layB L[k]).map bD).map A.d, rfl, by rw [List.length_map]; exact lenB hl40, by rw [List.length_map, lenB hl40]; decide, oneB _, ?_⟩; conv => whnf)
        (refine .l ⟨by decide, (layB L[k]).map byC, sliceB rfl hl40, byL _, by rw [List.length_map]; exact hl40, ?_⟩; conv => whnf)
        (refine .l ?_; conv => whnf)
        (refine .inl ⟨_, cj, ?_⟩; conv => whnf)
        refine ⟨m - 1, by omega, k + 1, by omega, ?_⟩
        rw [w1 k (by omega)]
       ·have f3 : decide ((k : Int) < ((L.map cdC).length : Int)) = false := decide_eq_false (by rw [hmL]; omega)
        have hkL : L.take k = L := List.take_of_length_le (by omega)
        rw [hkL]
        by_cases h8 : 8000 < ((L.map layB).flatten).length
        ·have f4 : decide (((((L.map layB).flatten).map byC).length : Int) > 8000) = true := decide_eq_true (by rw [List.length_map]; omega)
         rw [if_pos h8]
         conv => whnf
         (repeat' (first | (apply kT (by with_reducible first | rfl | assumption); conv => whnf) | (apply kF (by with_reducible first | rfl | assumption); conv => whnf) | (apply kT (by decide); conv => whnf) | (apply kF (by decide); conv => whnf) | (apply kB <;> intro _ <;> conv => whnf) | fail))
         rfl
        ·have f4 : decide (((((L.map layB).flatten).map byC).length : Int) > 8000) = false := decide_eq_false (by rw [List.length_map]; omega)
         rw [if_neg h8]
         conv => whnf
         (repeat' (first | (apply kT (by with_reducible first | rfl | assumption); conv => whnf) | (apply kF (by with_reducible first | rfl | assumption); conv => whnf) | (apply kT (by decide); conv => whnf) | (apply kF (by decide); conv => whnf) | (apply kB <;> intro _ <;> conv => whnf) | fail))
         rfl
end Go.Ev.Ytljkplahkokpaaa


set_option linter.unusedVariables false
set_option linter.unusedSimpArgs false
set_option maxRecDepth 100000
namespace Go.Ev.Ytljkplahkokpaaa
open Go.Proofs
def cardOf (p : List Int × Bool) : Option Cd := bif p.2 then readR p.1 else none
def addO (t : Tr) (o : Option Cd) : Tr := match o with
 | none => ⟨t.es, t.sp + 1, t.tw⟩
 | some c => match findC t.es c.n c.i with
  | some old => ⟨t.es, t.sp, t.tw || !decide (old = c)⟩
  | none => ⟨t.es ++ [c], t.sp, t.tw⟩
theorem addC_O {t : Tr} {p : List Int × Bool} (hb : By p.1) (ht : ∀ c ∈ t.es, CdOK c) : addC t p = addO t (cardOf p) := by
 unfold addC cardOf
 cases hr : readR p.1 with
 | none => cases p.2 <;> rfl
 | some c =>
  cases p.2 with
  | false => rfl
  | true =>
   simp only [cond_true, addO]
   cases hf : findC t.es c.n c.i with
   | none => rfl
   | some old =>
    simp only
    obtain ⟨h1, h2⟩ := readR_ok hb hr
    have h3 := ht old (find_mem hf).1
    have e : decide (layB old = p.1) = decide (old = c) := by
     by_cases h : old = c
     ·rw [decide_eq_true h, decide_eq_true (by rw [h, h2])]
     ·rw [decide_eq_false h, decide_eq_false fun e => h (layB_inj h3 h1 (by rw [h2, e]))]
    rw [e]
def Vs (l : List Int) : List (Option Cd) := (blks l).map cardOf
theorem fold_O : ∀ (ps : List (List Int × Bool)) {t : Tr} {b : Int}, TrOK t b → (∀ p ∈ ps, By p.1) → ps.foldl addC t = (ps.map cardOf).foldl addO t
 | [], _, _, _, _ => rfl
 | p :: ps, t, b, ht, hb => by
  have h1 := addC_O (hb p (by simp)) ht.1
  rw [List.foldl_cons, List.map_cons, List.foldl_cons, ← h1]
  exact fold_O ps (addC_ok ht (hb p (by simp))) fun q hq => hb q (by simp [hq])
theorem blks_by {l : List Int} (hb : By l) : ∀ p ∈ blks l, By p.1 := fun p hp => by
 unfold blks chL at hp
 rw [List.map_map, List.mem_map] at hp
 obtain ⟨k, _, rfl⟩ := hp
 exact chAt_by hb k
theorem addL_O {t : Tr} {b : Int} {l : List Int} (ht : TrOK t b) (hb : By l) : addL t l = (Vs l).foldl addO t := fold_O _ ht (blks_by hb)
theorem Vs_ok {l : List Int} (hb : By l) {c : Cd} (h : some c ∈ Vs l) : CdOK c := by
 unfold Vs at h
 obtain ⟨p, hp, e⟩ := List.mem_map.1 h
 unfold cardOf at e
 cases hp2 : p.2 with
 | false => rw [hp2] at e; cases e
 | true => rw [hp2, cond_true] at e; exact (readR_ok (blks_by hb p hp) e).1
def Conf (os : List (Option Cd)) : Prop := ∃ c d, some c ∈ os ∧ some d ∈ os ∧ c.n = d.n ∧ c.i = d.i ∧ c ≠ d
def MConf (os : List (Option Cd)) : Prop := ∃ c d, some c ∈ os ∧ some d ∈ os ∧ c.n = d.n ∧ c.m ≠ d.m
structure TrL (os : List (Option Cd)) (t : Tr) : Prop where
 sp : t.sp = (os.countP Option.isNone : Nat)
 keys : Keys t.es
 sub : ∀ c ∈ t.es, some c ∈ os
 cov : ∀ c, some c ∈ os → ∃ d ∈ t.es, d.n = c.n ∧ d.i = c.i ∧ (t.tw = false → d = c)
 tw : t.tw = true → Conf os
theorem Conf.mono {a b : List (Option Cd)} (h : ∀ c, some c ∈ a → some c ∈ b) : Conf a → Conf b := fun ⟨c, d, h1, h2, h3⟩ => ⟨c, d, h c h1, h d h2, h3⟩
theorem MConf.mono {a b : List (Option Cd)} (h : ∀ c, some c ∈ a → some c ∈ b) : MConf a → MConf b := fun ⟨c, d, h1, h2, h3⟩ => ⟨c, d, h c h1, h d h2, h3⟩
theorem TrL.step {os : List (Option Cd)} {t : Tr} (h : TrL os t) (o : Option Cd) : TrL (os ++ [o]) (addO t o) := by
 cases o with
 | none =>
  refine ⟨?_, h.keys, fun c hc => by simp [h.sub c hc], fun c hc => ?_, fun ht => (h.tw ht).mono fun c hc => by simp [hc]⟩
  ·show t.sp + 1 = _
   rw [h.sp, List.countP_append]; simp
  ·rcases List.mem_append.1 hc with hc | hc
   ·exact h.cov c hc
   ·simp at hc
 | some c =>
  have hsp : ∀ x : Tr, x.sp = t.sp → x.sp = ((os ++ [some c]).countP Option.isNone : Nat) := fun x hx => by
   rw [hx, h.sp, List.countP_append]; simp
  unfold addO
  simp only
  cases hf : findC t.es c.n c.i with
  | none =>
   simp only
   refine ⟨hsp _ rfl, List.pairwise_append.2 ⟨h.keys, List.pairwise_singleton _ _, fun a ha b hb => ?_⟩, fun d hd => ?_, fun d hd => ?_, fun ht => (h.tw ht).mono fun c hc => by simp [hc]⟩
   ·rw [List.mem_singleton.1 hb]
    exact find_none hf a ha
   ·rcases List.mem_append.1 hd with hd | hd
    ·simp [h.sub d hd]
    ·rw [List.mem_singleton.1 hd]; simp
   ·rcases List.mem_append.1 hd with hd | hd
    ·obtain ⟨x, h1, h2⟩ := h.cov d hd
     exact ⟨x, by simp [h1], h2⟩
    ·simp only [List.mem_singleton, Option.some.injEq] at hd
     exact ⟨c, by simp, by rw [hd], by rw [hd], fun _ => hd.symm⟩
  | some old =>
   simp only
   obtain ⟨q1, q2, q3⟩ := find_mem hf
   refine ⟨hsp _ rfl, h.keys, fun d hd => by simp [h.sub d hd], fun d hd => ?_, fun ht => ?_⟩
   ·rcases List.mem_append.1 hd with hd | hd
    ·obtain ⟨x, h1, h2, h3, h4⟩ := h.cov d hd
     refine ⟨x, h1, h2, h3, fun ht => h4 ?_⟩
     rw [Bool.or_eq_false_iff] at ht
     exact ht.1
    ·simp only [List.mem_singleton, Option.some.injEq] at hd
     subst hd
     refine ⟨old, q1, q2, q3, fun ht => ?_⟩
     rw [Bool.or_eq_false_iff] at ht
     simpa using ht.2
   ·rw [Bool.or_eq_true] at ht
    rcases ht with ht | ht
    ·exact (h.tw ht).mono fun c hc => by simp [hc]
    ·have hne : old ≠ c := by simpa using ht
     exact ⟨old, c, by simp [h.sub old q1], by simp, q2, q3, hne⟩
theorem tray_law : ∀ (os : List (Option Cd)), TrL os (os.foldl addO tr0) := by
 have key : ∀ (ps os : List (Option Cd)) (t : Tr), TrL os t → TrL (os ++ ps) (ps.foldl addO t) := by
  intro ps
  induction ps with
  | nil => intro os t h; simpa using h
  | cons p ps ih =>
   intro os t h
   have := ih (os ++ [p]) (addO t p) (h.step p)
   rwa [List.append_assoc] at this
 intro os
 have := key os [] tr0 ⟨rfl, tr0_keys, fun c hc => by simp [tr0] at hc, fun c hc => by simp at hc, fun h => by simp [tr0] at h⟩
 rwa [List.nil_append] at this
theorem keys_one {l : List Cd} (hk : Keys l) {a b : Cd} (ha : a ∈ l) (hb : b ∈ l) (h1 : a.n = b.n) (h2 : a.i = b.i) : a = b := by
 induction l with
 | nil => simp at ha
 | cons x r ih =>
  unfold Keys at hk ih
  rw [List.pairwise_cons] at hk
  rcases List.mem_cons.1 ha with ha' | ha'
  ·rcases List.mem_cons.1 hb with hb' | hb'
   ·rw [ha', hb']
   ·rw [ha'] at h1 h2
    exact absurd ⟨h1, h2⟩ (hk.1 b hb')
  ·rcases List.mem_cons.1 hb with hb' | hb'
   ·rw [hb'] at h1 h2
    exact absurd ⟨h1.symm, h2.symm⟩ (hk.1 a ha')
   ·exact ih hk.2 ha' hb'
theorem TrL.tw_iff {os : List (Option Cd)} {t : Tr} (h : TrL os t) : t.tw = true ↔ Conf os := by
 refine ⟨h.tw, fun ⟨c, d, h1, h2, h3, h4, h5⟩ => ?_⟩
 cases ht : t.tw with
 | true => rfl
 | false =>
  obtain ⟨x, x1, x2, x3, x4⟩ := h.cov c h1
  obtain ⟨y, y1, y2, y3, y4⟩ := h.cov d h2
  have hx := x4 ht
  have hy := y4 ht
  subst hx hy
  exact absurd (keys_one h.keys x1 y1 h3 h4) h5
theorem TrL.mem {os : List (Option Cd)} {t : Tr} (h : TrL os t) (ht : t.tw = false) (c : Cd) : c ∈ t.es ↔ some c ∈ os := by
 refine ⟨h.sub c, fun hc => ?_⟩
 obtain ⟨d, d1, _, _, d4⟩ := h.cov c hc
 rw [← d4 ht]; exact d1
theorem Keys.nodup {l : List Cd} (h : Keys l) : l.Nodup := h.imp fun hk e => hk ⟨by rw [e], by rw [e]⟩
def Srt (os : List (Option Cd)) (L : List Cd) : Prop := L.Pairwise kLt ∧ ∀ c, c ∈ L ↔ some c ∈ os
theorem kLt_irr {a : Cd} : ¬ kLt a a := by unfold kLt; omega
theorem Srt.nodup {os : List (Option Cd)} {L : List Cd} (h : Srt os L) : L.Nodup := h.1.imp fun hk e => by rw [e] at hk; exact kLt_irr hk
theorem kLt_asym {a b : Cd} (h : kLt a b) : ¬ kLt b a := by unfold kLt at *; omega
theorem Srt.unique {os : List (Option Cd)} {L M : List Cd} (h : Srt os L) (g : Srt os M) : L = M := by
 have hp : L.Perm M := (List.perm_ext_iff_of_nodup h.nodup g.nodup).2 fun c => by rw [h.2, g.2]
 exact (sorted_one L M hp h.1 (g.1.imp kLt_asym)).symm
theorem TrL.srt {os : List (Option Cd)} {t : Tr} (h : TrL os t) (ht : t.tw = false) : Srt os (sortC t.es) :=
 ⟨sortC_sorted h.keys, fun c => by rw [(sortC_perm _).mem_iff, h.mem ht]⟩
theorem goG_tw : ∀ (r : List Cd) (done : List (List Cd)) (h : Cd) (t : List Cd) (tw : Bool), (h :: r).Pairwise (fun a b => a.n ≤ b.n) →
  ((goG done h t tw r).2 = true ↔ tw = true ∨ ∃ c d, c ∈ h :: r ∧ d ∈ h :: r ∧ c.n = d.n ∧ c.m ≠ d.m)
 | [], done, h, t, tw, _ => by
  rw [goG_nil]
  constructor
  ·exact .inl
  ·rintro (h1 | ⟨c, d, hc, hd, _, hm⟩)
   ·exact h1
   ·rw [List.mem_singleton.1 hc, List.mem_singleton.1 hd] at hm
    exact absurd rfl hm
 | c :: r, done, h, t, tw, hs => by
  rw [List.pairwise_cons] at hs
  obtain ⟨hs1, hs2⟩ := hs
  by_cases hn : h.n = c.n
  ·rw [goG_same hn, goG_tw r done h (t ++ [c]) _ (List.pairwise_cons.2 ⟨fun x hx => hs1 x (by simp [hx]), (List.pairwise_cons.1 hs2).2⟩)]
   rw [Bool.or_eq_true, bne_iff_ne]
   constructor
   ·rintro ((h1 | h1) | ⟨a, b, ha, hb, hab, hm⟩)
    ·exact .inl h1
    ·exact .inr ⟨h, c, by simp, by simp, hn, h1⟩
    ·exact .inr ⟨a, b, by rcases List.mem_cons.1 ha with rfl | ha <;> simp [*], by rcases List.mem_cons.1 hb with rfl | hb <;> simp [*], hab, hm⟩
   ·rintro (h1 | ⟨a, b, ha, hb, hab, hm⟩)
    ·exact .inl (.inl h1)
    ·by_cases hmc : h.m = c.m
     ·right
      have fix : ∀ x, x ∈ h :: c :: r → ∃ y, y ∈ h :: r ∧ y.n = x.n ∧ y.m = x.m := fun x hx => by
       rcases List.mem_cons.1 hx with rfl | hx
       ·exact ⟨x, by simp, rfl, rfl⟩
       ·rcases List.mem_cons.1 hx with rfl | hx
        ·exact ⟨h, by simp, hn, hmc⟩
        ·exact ⟨x, by simp [hx], rfl, rfl⟩
      obtain ⟨a', a1, a2, a3⟩ := fix a ha
      obtain ⟨b', b1, b2, b3⟩ := fix b hb
      exact ⟨a', b', a1, b1, by rw [a2, b2, hab], by rw [a3, b3]; exact hm⟩
     ·exact .inl (.inr hmc)
  ·rw [goG_new hn, goG_tw r _ c [] tw hs2]
   constructor
   ·rintro (h1 | ⟨a, b, ha, hb, hab⟩)
    ·exact .inl h1
    ·exact .inr ⟨a, b, by simp [ha], by simp [hb], hab⟩
   ·rintro (h1 | ⟨a, b, ha, hb, hab, hm⟩)
    ·exact .inl h1
    ·have hlt : ∀ x, x ∈ c :: r → h.n < x.n := fun x hx => by
      have h1 := hs1 c (by simp)
      have h2 : c.n ≤ x.n := by
       rcases List.mem_cons.1 hx with rfl | hx
       ·exact Int.le_refl _
       ·exact (List.pairwise_cons.1 hs2).1 x hx
      omega
     right
     rcases List.mem_cons.1 ha with ha | ha
     ·rcases List.mem_cons.1 hb with hb | hb
      ·rw [ha, hb] at hm; exact absurd rfl hm
      ·have := hlt b hb; rw [ha] at hab; omega
     ·rcases List.mem_cons.1 hb with hb | hb
      ·have := hlt a ha; rw [hb] at hab; omega
      ·exact ⟨a, b, ha, hb, hab, hm⟩
theorem numG_tw {tw : Bool} {L : List Cd} (hs : L.Pairwise kLt) : (numG tw L).2 = true ↔ tw = true ∨ ∃ c d, c ∈ L ∧ d ∈ L ∧ c.n = d.n ∧ c.m ≠ d.m := by
 cases L with
 | nil => unfold numG; simp
 | cons h r => unfold numG; exact goG_tw r [] h [] tw (hs.imp fun hk => by unfold kLt at hk; omega)
def Grp : List (List Cd) → Prop
 | [] => True
 | g :: G => g ≠ [] ∧ (∀ c ∈ g, c.n = headN g) ∧ (∀ g' ∈ G.head?, headN g' ≠ headN g) ∧ Grp G
end Go.Ev.Ytljkplahkokpaaa


set_option linter.unusedVariables false
set_option linter.unusedSimpArgs false
set_option maxRecDepth 100000
namespace Go.Ev.Ytljkplahkokpaaa
open Go.Proofs
theorem chL_app {A B : List Int} {n : Nat} (h : A.length = 40 * n) : chL (A ++ B) = chL A ++ chL B := by
 unfold chL
 have e1 : nCh A = n := by unfold nCh; omega
 have e2 : nCh (A ++ B) = n + nCh B := by unfold nCh; rw [List.length_append]; omega
 rw [e1, e2, List.range_add, List.map_append, List.map_map]
 congr 1
 ·refine List.map_congr_left fun k hk => ?_
  rw [List.mem_range] at hk
  unfold chAt
  rw [List.drop_append_of_le_length (by omega), List.take_append_of_le_length (by rw [List.length_drop]; omega)]
 ·refine List.map_congr_left fun k hk => ?_
  show chAt (A ++ B) (n + k) = chAt B k
  unfold chAt
  rw [List.drop_append, List.drop_of_length_le (by omega), List.nil_append]
  congr 2
  omega
theorem Vs_app {A B : List Int} {n : Nat} (h : A.length = 40 * n) : Vs (A ++ B) = Vs A ++ Vs B := by
 unfold Vs blks
 rw [chL_app h, List.map_append, List.map_append]
theorem pad_full {x : List Int} (h : x.length = 40) : pad x = x := by unfold pad; rw [h]; simp
theorem chL_one {x : List Int} (h0 : 0 < x.length) (h : x.length ≤ 40) : chL x = [x] := by
 unfold chL
 have e : nCh x = 1 := by unfold nCh; omega
 rw [e]
 show [chAt x 0] = [x]
 unfold chAt
 rw [show 40 * 0 = 0 from rfl, List.drop_zero, List.take_of_length_le h]
theorem Vs_short {x : List Int} (h0 : 0 < x.length) (h : x.length < 40) : Vs x = [none] := by
 unfold Vs blks
 rw [chL_one h0 (by omega), List.map_cons, List.map_nil, List.map_cons, List.map_nil]
 unfold cardOf
 rw [decide_eq_false (by omega)]
 rfl
theorem Vs_nil : Vs [] = [] := rfl
def SameS (a b : List (Option Cd)) : Prop := ∀ c, some c ∈ a ↔ some c ∈ b
def turnedL (b : List Int) (k t : Nat) : List Int := bif decide (b.length / 40 = 0) then b else
 ((b.drop (40 * k)).take (40 * (b.length / 40) - 40 * k) ++ b.take (40 * k)) ++ (bif decide (b.length + 40 ≤ 8000) then (b.drop (40 * t)).take 40 else []) ++ b.drop (40 * (b.length / 40))
end Go.Ev.Ytljkplahkokpaaa


set_option linter.unusedVariables false
set_option linter.unusedSimpArgs false
set_option maxRecDepth 100000
namespace Go.Ev.Ytljkplahkokpaaa
open Go.Proofs
def ShOK (s : Sh) : Prop := PtsOK s.ps ∧ s.ps.length ≤ 100 ∧ 0 ≤ s.n ∧ s.n ≤ 9999
theorem ShOK.check {s : Sh} (h : ShOK s) : checkI [s] = 0 := check_one h.2.1 (shB_ok.2 ⟨h.2.2.1, h.2.2.2, h.1⟩)
theorem ShOK.run {s : Sh} (h : ShOK s) : Run s.ps := (runB_ok.1 h.1).2.2
theorem ShOK.pos {s : Sh} (h : ShOK s) : 0 < s.ps.length := (runB_ok.1 h.1).1
theorem ShOK.many {s : Sh} (h : ShOK s) : 0 < (cardsL s).length ∧ (cardsL s).length ≤ 10 := by
 have := cuts_count s.ps
 have h2 := h.2.1
 rw [cards_len]
 refine ⟨?_, by omega⟩
 rw [cuts_cons h.pos]
 simp
theorem card_at {s : Sh} {c : Cd} (h : c ∈ cardsL s) : ∃ (k : Nat) (hk : k < (cardsL s).length), c = ⟨s.n, k, (cardsL s).length, (cuts s.ps)[k]'(by rw [← cards_len]; exact hk)⟩ := by
 obtain ⟨k, hk, rfl⟩ := List.getElem_of_mem h
 refine ⟨k, hk, ?_⟩
 rw [cards_at s k hk]
 simp only [cards_len]
theorem ShOK.card {s : Sh} (h : ShOK s) {c : Cd} (hc : c ∈ cardsL s) : CdOK c ∧ c.n = s.n ∧ c.m = (cardsL s).length := by
 have hroom := cards_room h.run hc
 obtain ⟨k, hk, rfl⟩ := card_at hc
 have hm := h.many
 have hp : (cuts s.ps)[k]'(by rw [← cards_len]; exact hk) ∈ cuts s.ps := List.getElem_mem _
 have hv := cutsF_v _ _ h.1.v _ hp
 have h0 := ((cuts_ok h.run).1 _ hp).1
 refine ⟨⟨h.2.2, ⟨?_, ?_⟩, ⟨?_, ?_⟩, hv.ok h0, hroom⟩, rfl, rfl⟩
 ·show (1 : Int) ≤ ((cardsL s).length : Nat); omega
 ·show (((cardsL s).length : Nat) : Int) ≤ 20; omega
 ·show (0 : Int) ≤ (k : Nat); omega
 ·show ((k : Nat) : Int) < ((cardsL s).length : Nat); omega
def keptAt (keep : Cd → Bool) (s : Sh) : List Cd := (cardsL s).filter keep
def kept (keep : Cd → Bool) (S : List Sh) : List (List Cd) := (S.map (keptAt keep)).filter fun g => !g.isEmpty
def cardsA (l : List Sh) : List Cd := (l.map cardsL).flatten
end Go.Ev.Ytljkplahkokpaaa


set_option linter.unusedVariables false
set_option linter.unusedSimpArgs false
set_option maxRecDepth 100000
namespace Go.Ev.Ytljkplahkokpaaa
open Go.Proofs
def insS (s : Sh) : List Sh → List Sh
 | [] => [s]
 | t :: r => bif decide (s.n < t.n) then s :: t :: r else t :: insS s r
def sortS (l : List Sh) : List Sh := l.foldr insS []
abbrev sLt (a b : Sh) : Prop := a.n < b.n
attribute [local irreducible] Pure Bor Iter Pan sortS
end Go.Ev.Ytljkplahkokpaaa


set_option linter.unusedVariables false
set_option linter.unusedSimpArgs false
set_option maxRecDepth 100000
namespace Go.Ev.Ytljkplahkokpaaa
open Go.Proofs
def readyB (l : List Sh) : Bool := thinB l && (checkI l == 0) && decide ((l.map Sh.n).Nodup)
attribute [local irreducible] Pure Bor Iter Pan sortS fileL checkI thinB ReadL MissL
end Go.Ev.Ytljkplahkokpaaa


set_option linter.unusedVariables false
set_option linter.unusedSimpArgs false
set_option maxRecDepth 100000
namespace Go.Ev.Ytljkplahkokpaaa
open Go.Proofs
def VsF (fs : List (List Int)) : List (Option Cd) := (fs.map Vs).flatten
theorem trF_O : ∀ (fs : List (List Int)) {t : Tr} {b : Int}, TrOK t b → (∀ f ∈ fs, By f) → fs.foldl addL t = (VsF fs).foldl addO t
 | [], _, _, _, _ => rfl
 | f :: fs, t, b, ht, hb => by
  have e : VsF (f :: fs) = Vs f ++ VsF fs := by unfold VsF; rw [List.map_cons, List.flatten_cons]
  rw [List.foldl_cons, e, List.foldl_append, ← addL_O ht (hb f (by simp))]
  exact trF_O fs (addL_ok ht (hb f (by simp))) fun x hx => hb x (by simp [hx])
theorem mend_good {fs : List (List Int)} (h5 : fs.length ≤ 5) (hg : ∀ f ∈ fs, f.length ≤ 8000) : ¬ (5 < fs.length ∨ fs.all goodF = false) := by
 rintro (h | h)
 ·omega
 ·have : fs.all goodF = true := List.all_eq_true.2 fun f hf => decide_eq_true (hg f hf)
  rw [this] at h; cases h
theorem mend_ok {fs : List (List Int)} (h5 : fs.length ≤ 5) (hg : ∀ f ∈ fs, f.length ≤ 8000) (hb : ∀ f ∈ fs, By f) {L : List Cd} (hL : Srt (VsF fs) L) (hc : ¬ Conf (VsF fs)) (hm : ¬ MConf (VsF fs)) :
  MendL fs = if 8000 < (L.map layB).flatten.length then ([], 3) else ((L.map layB).flatten, 0) := by
 have ht := tray_law (VsF fs)
 rw [← trF_O fs tr0_ok hb] at ht
 have htw : (fs.foldl addL tr0).tw = false := by
  cases e : (fs.foldl addL tr0).tw with
  | false => rfl
  | true => exact absurd (ht.tw e) hc
 have e := (ht.srt htw).unique hL
 have h2 : (numG false L).2 = false := by
  cases e2 : (numG false L).2 with
  | false => rfl
  | true =>
   rcases (numG_tw hL.1).1 e2 with h | ⟨c, d, h1, h2, h3⟩
   ·cases h
   ·exact absurd ⟨c, d, (hL.2 c).1 h1, (hL.2 d).1 h2, h3⟩ hm
 unfold MendL trF
 rw [if_neg (mend_good h5 hg), htw, e, h2, cond_false]
theorem mend_bad {fs : List (List Int)} (h5 : fs.length ≤ 5) (hg : ∀ f ∈ fs, f.length ≤ 8000) (hb : ∀ f ∈ fs, By f) (h : Conf (VsF fs) ∨ MConf (VsF fs)) : MendL fs = ([], 6) := by
 have ht := tray_law (VsF fs)
 rw [← trF_O fs tr0_ok hb] at ht
 have h2 : (numG (fs.foldl addL tr0).tw (sortC (fs.foldl addL tr0).es)).2 = true := by
  rw [numG_tw (sortC_sorted ht.keys)]
  cases e : (fs.foldl addL tr0).tw with
  | true => exact .inl rfl
  | false =>
   rcases h with h | ⟨c, d, h1, h2, h3⟩
   ·rw [ht.tw_iff.2 h] at e; cases e
   ·have hs := ht.srt e
    exact .inr ⟨c, d, (hs.2 c).2 h1, (hs.2 d).2 h2, h3⟩
 unfold MendL trF
 rw [if_neg (mend_good h5 hg), h2, cond_true]
theorem cat_by {L : List Cd} (h : ∀ c ∈ L, CdOK c) : By (L.map layB).flatten := flat_by fun y hy => by
 obtain ⟨c, hc, rfl⟩ := List.mem_map.1 hy
 obtain ⟨q1, q2, q3, q4, q5⟩ := h c hc
 exact layB_by (h c hc).many.1 (runB_ok.1 q4).2.2
end Go.Ev.Ytljkplahkokpaaa


set_option linter.unusedVariables false
set_option linter.unusedSimpArgs false
set_option maxRecDepth 100000
namespace Go.Ev.Ytljkplahkokpaaa
open Go.Proofs
attribute [local irreducible] Pure Bor Iter Pan MendL
theorem files_pure (l : List (List Int)) (hl : l.length ≤ 1000) (hb : ∀ f ∈ l, f.length ≤ 1000000) : Pure Try.prog 38 [.seq (l.map chE)] (.seq (l.map chE)) := by
 have hm : ((l.map chE).length : Int) = l.length := by rw [List.length_map]
 refine pure_of pg Try.func38 (by kernel_rfl) ?_
 conv => whnf
 refine ⟨[.own 3 22, .rex], [0, 3, 4], [0], 1, fun m s => ∃ k : Nat, k + m = l.length ∧ s = ⟨[(0, .d (.seq (l.map chE))), (3, .own 0), (4, .d (dI k))], [(0, .arr 22 ((l.take k).map chE))], 1⟩, ?_, ?_⟩
 ·conv => whnf
  exact ⟨l.length, 0, by omega, rfl⟩
 ·rintro m _ ⟨k, hk, rfl⟩
  by_cases hkl : k < l.length
  ·have f1 : decide ((k : Int) < ((l.map chE).length : Int)) = true := decide_eq_true (by rw [hm]; omega)
   have cp := bytes_pure l[k] (hb _ (List.getElem_mem hkl))
   conv => whnf
   (repeat' (first | (apply kT (by with_reducible first | rfl | assumption); conv => whnf) | (apply kF (by with_reducible first | rfl | assumption); conv => whnf) | (apply kT (by decide); conv => whnf) | (apply kF (by decide); conv => whnf) | (apply kB <;> intro _ <;> conv => whnf) | (refine ⟨k, _, rfl, getch l k hkl, rfl, ?_⟩; conv => whnf) | (refine .inl ⟨_, cp, ?_⟩; conv => whnf) | fail))
   (refine .l ?_; conv => whnf)
   (refine ⟨fun el h => by rw [List.mem_singleton.1 h]; rfl, by rw [List.length_map, List.length_take]; show (min k _ + 1) * 24 ≤ _; omega, ?_⟩; conv => whnf)
   (refine ⟨[0], ?_⟩; conv => whnf)
   refine ⟨m - 1, by omega, k + 1, by omega, ?_⟩
   rw [w1 k (by omega), List.take_add_one, List.getElem?_eq_getElem hkl, List.map_append]
   rfl
  ·have f1 : decide ((k : Int) < ((l.map chE).length : Int)) = false := decide_eq_false (by rw [hm]; omega)
   conv => whnf
   (apply kF (f1); conv => whnf)
   rw [List.take_of_length_le (by omega)]
   rfl
end Go.Ev.Ytljkplahkokpaaa


set_option linter.unusedVariables false
set_option linter.unusedSimpArgs false
set_option maxRecDepth 100000
namespace Go.Ev.Ytljkplahkokpaaa
open Go.Proofs
theorem getD_set (x : List Int) {j : Nat} (hj : j < x.length) (v : Int) (i : Nat) : (x.set j v).getD i 0 = if i = j then v else x.getD i 0 := by
 rw [List.getD_eq_getElem?_getD, List.getD_eq_getElem?_getD, List.getElem?_set]
 by_cases h : j = i
 ·subst h; simp [hj]
 ·rw [if_neg h, if_neg fun e => h e.symm]
theorem wsum_set' (x : List Int) {j : Nat} (hj : j < x.length) (v : Int) : ∀ k, wsum (x.set j v) k = wsum x k + if j < k then ((j : Int) + 1) * (v - x.getD j 0) else 0
 | 0 => by simp [wsum]
 | k + 1 => by
  rw [wsum, wsum, wsum_set' x hj v k, getD_set x hj]
  by_cases h : k = j
  ·subst h
   rw [if_pos rfl, if_neg (by omega), if_pos (by omega), Int.mul_sub]
   omega
  ·rw [if_neg h]
   by_cases h2 : j < k
   ·rw [if_pos h2, if_pos (by omega)]; omega
   ·rw [if_neg h2, if_neg (by omega)]; omega
theorem psum_set' (x : List Int) {j : Nat} (hj : j < x.length) (v : Int) : ∀ k, psum (x.set j v) k = psum x k + if j < k then (v - x.getD j 0) else 0
 | 0 => by simp [psum]
 | k + 1 => by
  rw [psum, psum, psum_set' x hj v k, getD_set x hj]
  by_cases h : k = j
  ·subst h
   rw [if_pos rfl, if_neg (by omega), if_pos (by omega)]
   omega
  ·rw [if_neg h]
   by_cases h2 : j < k
   ·rw [if_pos h2, if_pos (by omega)]; omega
   ·rw [if_neg h2, if_neg (by omega)]; omega
theorem getD_last (P : List Int) (a b : Int) (h : P.length = 38) : (P ++ [a, b]).getD 38 0 = a ∧ (P ++ [a, b]).getD 39 0 = b := by
 constructor
 ·rw [List.getD_eq_getElem?_getD, List.getElem?_append_right (by omega), h]; rfl
 ·rw [List.getD_eq_getElem?_getD, List.getElem?_append_right (by omega), h]; rfl
theorem chk_of {c : Cd} (h : CdOK c) : (layB c).length = 40 ∧ (layB c).getD 38 0 = wsum (layB c) 38 % 251 ∧ (layB c).getD 39 0 = psum (layB c) 38 % 253 := by
 have hl := lay_len h.many.1
 have e := layB_room h.many.1 h.2.2.2.2
 have hP := pad38_len h.2.2.2.2
 refine ⟨hl, ?_⟩
 generalize pad38 (cardRaw c) = P at e hP
 have h1 : wsum (layB c) 38 = wsum P 38 := wsum_congr 38 fun i hi => by rw [e, getD_app (by omega)]
 have h2 : psum (layB c) 38 = psum P 38 := psum_congr 38 fun i hi => by rw [e, getD_app (by omega)]
 rw [h1, h2, e]
 exact getD_last P _ _ hP
theorem bad_block {c : Cd} (h : CdOK c) (hb : By (layB c)) {j : Nat} (hj : j < 40) {v : Int} (hv : 0 ≤ v ∧ v < 256) (hne : v ≠ (layB c).getD j 0) : readR ((layB c).set j v) = none := by
 cases hr : readR ((layB c).set j v) with
 | none => rfl
 | some d =>
  exfalso
  obtain ⟨hl, c1, c2⟩ := chk_of h
  obtain ⟨hd, hx⟩ := readR_ok (hb.set hv) hr
  obtain ⟨_, d1, d2⟩ := chk_of hd
  have hj' : j < (layB c).length := by omega
  rw [hx, getD_set _ hj', wsum_set' _ hj'] at d1
  rw [hx, getD_set _ hj', psum_set' _ hj'] at d2
  have hold : 0 ≤ (layB c).getD j 0 ∧ (layB c).getD j 0 < 256 := by
   rw [List.getD_eq_getElem?_getD, List.getElem?_eq_getElem hj']
   exact hb _ (List.getElem_mem hj')
  generalize hp : (layB c).getD 38 0 = p at *
  generalize hq : (layB c).getD 39 0 = q at *
  generalize wsum (layB c) 38 = W at *
  generalize psum (layB c) 38 = Q at *
  by_cases h38 : j < 38
  ·rw [if_neg (by omega), if_pos h38] at d1 d2
   generalize (layB c).getD j 0 = o at *
   have hδ : v - o = 253 ∨ v - o = -253 := by omega
   rcases hδ with hδ | hδ
   ·rw [hδ] at d1; omega
   ·rw [hδ] at d1; omega
  ·rw [if_neg h38] at d1 d2
   by_cases h8 : j = 38
   ·subst h8
    rw [if_pos rfl] at d1
    omega
   ·have h9 : j = 39 := by omega
    subst h9
    rw [hq] at hne
    rw [if_pos rfl] at d2
    omega
theorem chAt_len {x : List Int} {N i : Nat} (h : x.length = 40 * N) (hi : i < N) : (chAt x i).length = 40 := by unfold chAt; rw [List.length_take, List.length_drop]; omega
theorem Vs_ch {x : List Int} {N : Nat} (h : x.length = 40 * N) : Vs x = (List.range N).map fun i => readR (chAt x i) := by
 unfold Vs blks chL
 have e : nCh x = N := by unfold nCh; omega
 rw [e, List.map_map, List.map_map]
 refine List.map_congr_left fun i hi => ?_
 have hl := chAt_len h (List.mem_range.1 hi)
 show cardOf (pad (chAt x i), decide ((chAt x i).length = 40)) = _
 unfold cardOf
 rw [decide_eq_true hl, pad_full hl]
 rfl
theorem chAt_set (x : List Int) (k r i : Nat) (hr : r < 40) (v : Int) : chAt (x.set (40 * k + r) v) i = if i = k then (chAt x i).set r v else chAt x i := by
 unfold chAt
 rw [List.drop_set]
 by_cases h : i = k
 ·subst h
  rw [if_pos rfl, if_neg (by omega), List.take_set, show 40 * i + r - 40 * i = r from by omega]
 ·rw [if_neg h]
  by_cases h2 : 40 * k + r < 40 * i
  ·rw [if_pos h2]
  ·rw [if_neg h2, List.take_set, List.set_eq_of_length_le (by rw [List.length_take]; omega)]
structure Cpy (cs : List Cd) (x : List Int) : Prop where
 len : x.length = 40 * cs.length
 by' : By x
 at' : ∀ i (h : i < cs.length), chAt x i = layB cs[i] ∨ readR (chAt x i) = none
theorem Cpy.mem {cs : List Cd} {x : List Int} (hok : ∀ c ∈ cs, CdOK c) (h : Cpy cs x) {c : Cd} (hc : some c ∈ Vs x) : c ∈ cs := by
 rw [Vs_ch h.len] at hc
 obtain ⟨i, hi, e⟩ := List.mem_map.1 hc
 rw [List.mem_range] at hi
 rcases h.at' i hi with q | q
 ·rw [q, readR_enc (hok _ (List.getElem_mem hi))] at e
  cases e
  exact List.getElem_mem hi
 ·rw [q] at e; cases e
theorem Cpy.has {cs : List Cd} {x : List Int} (hok : ∀ c ∈ cs, CdOK c) (h : Cpy cs x) {i : Nat} (hi : i < cs.length) (e : chAt x i = layB cs[i]) : some cs[i] ∈ Vs x := by
 rw [Vs_ch h.len]
 exact List.mem_map.2 ⟨i, List.mem_range.2 hi, by rw [e, readR_enc (hok _ (List.getElem_mem hi))]⟩
theorem Cpy.set {cs : List Cd} {x : List Int} (hok : ∀ c ∈ cs, CdOK c) (h : Cpy cs x) {k r : Nat} (hk : k < cs.length) (hr : r < 40) (e : chAt x k = layB cs[k]) {v : Int} (hv : 0 ≤ v ∧ v < 256) (hne : v ≠ x.getD (40 * k + r) 0) : Cpy cs (x.set (40 * k + r) v) := by
 refine ⟨by rw [List.length_set]; exact h.len, h.by'.set hv, fun i hi => ?_⟩
 rw [chAt_set x k r i hr]
 by_cases hik : i = k
 ·subst hik
  rw [if_pos rfl, e]
  right
  have hxl := h.len
  have hby : By (layB cs[i]) := by rw [← e]; exact (h.by'.drop _).take _
  refine bad_block (hok _ (List.getElem_mem hi)) hby hr hv ?_
  rw [← e]
  have : (chAt x i).getD r 0 = x.getD (40 * i + r) 0 := by
   unfold chAt
   rw [List.getD_eq_getElem?_getD, List.getD_eq_getElem?_getD, List.getElem?_take_of_lt hr, List.getElem?_drop]
  rw [this]
  exact hne
 ·rw [if_neg hik]
  exact h.at' i hi
end Go.Ev.Ytljkplahkokpaaa


set_option linter.unusedVariables false
set_option linter.unusedSimpArgs false
set_option maxRecDepth 100000
namespace Go.Ev.Ytljkplahkokpaaa
open Go.Proofs
abbrev woC (w : Int) : List D := [.v (.int .u16 w)]
theorem Mend_as {fs : List (List Int)} {b : List Int} {e : Int} (hl : fs.length ≤ 100000) (hb : ∀ f ∈ fs, By f) (h : MendL fs = (b, e)) : Pure Try.prog 37 [.seq (fs.map chE)] (.tup [bsD b, dI e]) := by
 have := Mend_pure fs hl hb
 rw [h] at this
 exact this
attribute [local irreducible] Pure Bor Iter Pan sortS fileL checkI thinB ReadL MissL cardsL cardsA readyB MendL layB readR
end Go.Ev.Ytljkplahkokpaaa


set_option linter.unusedVariables false
set_option linter.unusedSimpArgs false
set_option maxRecDepth 100000
namespace Go.Ev.Ytljkplahkokpaaa
open Go.Proofs
def gpN (b : List Int) (at' : Nat) : Int × Nat := if b.getD (at' + 1) 0 < 128 then (b.getD (at' + 1) 0, at' + 2) else (256 * (b.getD (at' + 1) 0 - 128) + b.getD (at' + 2) 0, at' + 3)
def gpF (b : List Int) : Nat → Nat → Pt → List Pt
 | 0, _, _ => []
 | j + 1, at', p => if at' + 1 < 38 then ⟨p.s + b.getD at' 0, p.l + unF (gpN b at').1⟩ :: gpF b j (gpN b at').2 ⟨p.s + b.getD at' 0, p.l + unF (gpN b at').1⟩ else []
def gp0 (b : List Int) : Pt := ⟨256 * b.getD 5 0 + b.getD 6 0, 65536 * b.getD 7 0 + 256 * b.getD 8 0 + b.getD 9 0⟩
def guessL (b : List Int) : Cd := ⟨256 * b.getD 0 0 + b.getD 1 0, b.getD 2 0, b.getD 3 0, gp0 b :: gpF b ((b.getD 4 0).toNat - 1) 10 (gp0 b)⟩
theorem take_drop_cons {b : List Int} (hb : b.length = 40) {a : Nat} {c : Int} {r : List Int} (h : (b.take 38).drop a = c :: r) : a < 38 ∧ c = b.getD a 0 ∧ r = (b.take 38).drop (a + 1) := by
 have hl : (b.take 38).length = 38 := by rw [List.length_take]; omega
 have ha : a < 38 := by
  rcases Nat.lt_or_ge a 38 with h1 | h1
  ·exact h1
  ·rw [List.drop_of_length_le (by omega)] at h; cases h
 have h2 := List.drop_eq_getElem_cons (show a < (b.take 38).length by omega)
 rw [h2, List.cons.injEq] at h
 refine ⟨ha, ?_, h.2.symm⟩
 rw [← h.1, List.getElem_take, List.getD_eq_getElem?_getD, List.getElem?_eq_getElem (by omega)]
 rfl
theorem gpF_of {b : List Int} (hb : b.length = 40) : ∀ (j a : Nat) (p : Pt) (g : List Pt), ptsR j p ((b.take 38).drop a) = some g → gpF b j a p = g
 | 0, a, p, g, h => by rw [ptsR] at h; cases h; rfl
 | j + 1, a, p, g, h => by
  unfold ptsR at h
  cases hr : (b.take 38).drop a with
  | nil => rw [hr] at h; cases h
  | cons c r =>
   obtain ⟨ha, hc, hr2⟩ := take_drop_cons hb hr
   rw [hr] at h
   simp only at h
   cases hs : stepR r with
   | none => rw [hs] at h; cases h
   | some y =>
    obtain ⟨d, q⟩ := y
    rw [hs] at h
    simp only at h
    cases hr3 : r with
    | nil => rw [hr3] at hs; cases hs
    | cons c2 r2 =>
     rw [hr3] at hr2 hs
     obtain ⟨ha2, hc2, hr4⟩ := take_drop_cons hb hr2.symm
     have key : d = unF (gpN b a).1 ∧ q = (b.take 38).drop (gpN b a).2 := by
      rw [stepR] at hs
      unfold gpN
      by_cases h1 : c2 < 128
      ·rw [if_pos h1] at hs
       cases hs
       rw [if_pos (by rw [← hc2]; exact h1), ← hc2]
       exact ⟨rfl, hr4⟩
      ·rw [if_neg h1] at hs
       rw [if_neg (by rw [← hc2]; exact h1), ← hc2]
       cases hr5 : r2 with
       | nil => rw [hr5] at hs; cases hs
       | cons c3 r3 =>
        rw [hr5] at hr4 hs
        obtain ⟨_, hc3, hr6⟩ := take_drop_cons hb hr4.symm
        rw [stepS] at hs
        cases hs
        refine ⟨?_, hr6⟩
        rw [hc3]
        congr 1
        show (c2 - 128) * 256 + b.getD (a + 2) 0 = 256 * (c2 - 128) + b.getD (a + 2) 0
        omega
     obtain ⟨k1, k2⟩ := key
     cases hp : ptsR j ⟨p.s + c, p.l + d⟩ q with
     | none => rw [hp] at h; cases h
     | some l =>
      rw [hp] at h
      cases h
      rw [gpF, if_pos (by omega), ← hc, ← k1]
      rw [k2] at hp
      rw [gpF_of hb j _ _ l hp]
theorem getD_drop_take {b : List Int} (hb : b.length = 40) : numB ((b.drop 5).take 2) 0 = 256 * b.getD 5 0 + b.getD 6 0 ∧ numB ((b.drop 7).take 3) 0 = 65536 * b.getD 7 0 + 256 * b.getD 8 0 + b.getD 9 0 ∧ numB (b.take 2) 0 = 256 * b.getD 0 0 + b.getD 1 0 := by
 match b, hb with
 | b0 :: b1 :: b2 :: b3 :: b4 :: b5 :: b6 :: b7 :: b8 :: b9 :: r, _ =>
  refine ⟨?_, ?_, ?_⟩
  ·show (0 * 256 + b5) * 256 + b6 = 256 * b5 + b6
   omega
  ·show ((0 * 256 + b7) * 256 + b8) * 256 + b9 = 65536 * b7 + 256 * b8 + b9
   omega
  ·show (0 * 256 + b0) * 256 + b1 = 256 * b0 + b1
   omega
theorem guess_of {b : List Int} (hb : b.length = 40) {c : Cd} (h : readR b = some c) : guessL b = c := by
 unfold readR at h
 cases hr : rawR b with
 | none => rw [hr] at h; cases h
 | some d =>
  rw [hr] at h
  simp only at h
  split at h
  ·cases h
   obtain ⟨e1, e2, e3⟩ := getD_drop_take hb
   unfold rawR at hr
   rw [e1, e2, e3] at hr
   cases hp : ptsR ((b.getD 4 0).toNat - 1) ⟨256 * b.getD 5 0 + b.getD 6 0, 65536 * b.getD 7 0 + 256 * b.getD 8 0 + b.getD 9 0⟩ ((b.take 38).drop 10) with
   | none => rw [hp] at hr; cases hr
   | some g =>
    rw [hp] at hr
    cases hr
    have := gpF_of hb _ _ _ _ hp
    unfold guessL gp0
    rw [this]
  ·cases h
def blockB (b : List Int) : Bool := inB (guessL b).n 0 9999 && inB (guessL b).m 1 20 && !decide ((guessL b).i ≥ (guessL b).m) && runB (guessL b).ps && decide (refCard (guessL b) = b)
theorem block_read {b : List Int} (hb : By b) (hl : b.length = 40) : readR b = bif blockB b then some (guessL b) else none := by
 have hi : 0 ≤ (guessL b).i := (hb.getD 2).1
 cases hk : blockB b with
 | true =>
  unfold blockB inB at hk
  simp only [Bool.and_eq_true, decide_eq_true_eq, Bool.not_eq_true', decide_eq_false_iff_not] at hk
  obtain ⟨⟨⟨⟨q1, q2⟩, q3⟩, q4⟩, q5⟩ := hk
  have h0 := (runB_ok.1 q4).1
  have hroom : (cardRaw (guessL b)).length ≤ 38 := by
   rcases Nat.lt_or_ge 38 (cardRaw (guessL b)).length with h | h
   ·unfold refCard at q5
    rw [if_pos h] at q5
    rw [← q5] at hl
    cases hl
   ·exact h
  have hok : CdOK (guessL b) := ⟨q1, q2, ⟨hi, by omega⟩, q4, hroom⟩
  have e : layB (guessL b) = b := by
   rw [refCard_eq h0, (layF_iff h0).2 hroom] at q5
   exact q5
  have := readR_enc hok
  rw [e] at this
  exact this
 | false =>
  cases hr : readR b with
  | none => rfl
  | some c =>
   exfalso
   have hg := guess_of hl hr
   obtain ⟨hok, he⟩ := readR_ok hb hr
   obtain ⟨⟨a1, a2⟩, ⟨a3, a4⟩, ⟨a5, a6⟩, a7, a8⟩ := hok
   have h0 := (runB_ok.1 a7).1
   have e : refCard c = b := by rw [refCard_eq h0, (layF_iff h0).2 a8]; exact he
   unfold blockB inB at hk
   rw [hg, e, decide_eq_true a1, decide_eq_true a2, decide_eq_true a3, decide_eq_true a4, a7, decide_eq_false (by omega), decide_eq_true rfl] at hk
   cases hk
end Go.Ev.Ytljkplahkokpaaa


set_option linter.unusedVariables false
set_option linter.unusedSimpArgs false
set_option maxRecDepth 100000
namespace Go.Ev.Ytljkplahkokpaaa
open Go.Proofs
abbrev heldC (c : Cd) (b : List Int) : List D := [dI c.n, dI c.i, dI c.m, ptsD c.ps, .v (.string (strB b))]
attribute [local irreducible] Pure Bor Iter Pan
theorem unfold_pure (n : Int) (h0 : 0 ≤ n) (h : n ≤ 100000) : Pure Try.prog 90 [dI n] (dI (unF n)) := by
 refine pure_of pg Try.func90 (by kernel_rfl) ?_
 have et : n.tmod 2 = n % 2 := Int.tmod_eq_emod_of_nonneg h0
 by_cases h2 : n % 2 = 1
 ·have f1 : (n.tmod 2 == 1) = true := by rw [et, h2]; rfl
  have e := unF_odd h0 h h2
  conv => whnf
  (repeat' (first | (apply kT (by with_reducible first | rfl | assumption); conv => whnf) | (apply kF (by with_reducible first | rfl | assumption); conv => whnf) | (apply kT (by decide); conv => whnf) | (apply kF (by decide); conv => whnf) | (apply kB <;> intro _ <;> conv => whnf) | (refine ⟨by decide, ?_⟩; conv => whnf) | fail))
  rw [← e]
  rfl
 ·have f1 : (n.tmod 2 == 1) = false := by rw [et, beq_eq_false_iff_ne]; exact h2
  have e : IntKind.i64.wrap (n.tdiv 2) = unF n := by
   rw [unF, if_neg h2, Int.tdiv_eq_ediv_of_nonneg h0]
   exact wS (by omega) (by omega)
  conv => whnf
  (repeat' (first | (apply kT (by with_reducible first | rfl | assumption); conv => whnf) | (apply kF (by with_reducible first | rfl | assumption); conv => whnf) | (apply kT (by decide); conv => whnf) | (apply kF (by decide); conv => whnf) | (apply kB <;> intro _ <;> conv => whnf) | (refine ⟨by decide, ?_⟩; conv => whnf) | fail))
  rw [← e]
  rfl
theorem bget {b : List Int} (hl : b.length = 40) (k : Nat) (hk : k < 40) : (b.map byC)[k]? = some (byC (b.getD k 0)) := by
 rw [List.getElem?_map, List.getD_eq_getElem?_getD, List.getElem?_eq_getElem (by omega)]
 rfl
attribute [local irreducible] gpF gpN
theorem guess_pure (b : List Int) (hb : By b) (hl : b.length = 40) : Pure Try.prog 72 [bsD b] (.agg (heldC (guessL b) b)) := by
 have g := bget hl
 have r := hb.getD
 have e8 : ∀ k, IntKind.i64.wrap (b.getD k 0) = b.getD k 0 := fun k => wS (by have := r k; omega) (by have := r k; omega)
 refine pure_of pg Try.func72 (by kernel_rfl) ?_
 conv => whnf
 (repeat' (first | (apply kT (by with_reducible first | rfl | assumption); conv => whnf) | (apply kF (by with_reducible first | rfl | assumption); conv => whnf) | (apply kT (by decide); conv => whnf) | (apply kF (by decide); conv => whnf) | (apply kB <;> intro _ <;> conv => whnf) | (refine ⟨0, _, rfl, g 0 (by omega), rfl, ?_⟩; conv => whnf) | (refine ⟨1, _, rfl, g 1 (by omega), rfl, ?_⟩; conv => whnf) | (refine ⟨2, _, rfl, g 2 (by omega), rfl, ?_⟩; conv => whnf) | (refine ⟨3, _, rfl, g 3 (by omega), rfl, ?_⟩; conv => whnf) | (refine ⟨5, _, rfl, g 5 (by omega), rfl, ?_⟩; conv => whnf) | (refine ⟨6, _, rfl, g 6 (by omega), rfl, ?_⟩; conv => whnf) | (refine ⟨7, _, rfl, g 7 (by omega), rfl, ?_⟩; conv => whnf) | (refine ⟨8, _, rfl, g 8 (by omega), rfl, ?_⟩; conv => whnf) | (refine ⟨9, _, rfl, g 9 (by omega), rfl, ?_⟩; conv => whnf) | (refine ⟨strB b, strB_bytes hb, ?_⟩; conv => whnf) | fail))
 (refine .r ⟨by decide, ?_⟩; conv => whnf)
 (repeat' (first | (apply kT (by with_reducible first | rfl | assumption); conv => whnf) | (apply kF (by with_reducible first | rfl | assumption); conv => whnf) | (apply kT (by decide); conv => whnf) | (apply kF (by decide); conv => whnf) | (apply kB <;> intro _ <;> conv => whnf) | fail))
 have q0 := r 0; have q1 := r 1; have q4 := r 4; have q5 := r 5; have q6 := r 6; have q7 := r 7; have q8 := r 8; have q9 := r 9
 have eN : IntKind.i64.wrap (IntKind.i64.wrap (256 * IntKind.i64.wrap (b.getD 0 0)) + IntKind.i64.wrap (b.getD 1 0)) = (guessL b).n := by
  rw [e8, e8, wS (z := 256 * b.getD 0 0) (by omega) (by omega), wS (by omega) (by omega)]
  rfl
 have eS : IntKind.i64.wrap (IntKind.i64.wrap (256 * IntKind.i64.wrap (b.getD 5 0)) + IntKind.i64.wrap (b.getD 6 0)) = (gp0 b).s := by
  rw [e8, e8, wS (z := 256 * b.getD 5 0) (by omega) (by omega), wS (by omega) (by omega)]
  rfl
 have eL : IntKind.i64.wrap (IntKind.i64.wrap (IntKind.i64.wrap (65536 * IntKind.i64.wrap (b.getD 7 0)) + IntKind.i64.wrap (256 * IntKind.i64.wrap (b.getD 8 0))) + IntKind.i64.wrap (b.getD 9 0)) = (gp0 b).l := by
  rw [e8, e8, e8, wS (z := 65536 * b.getD 7 0) (by omega) (by omega), wS (z := 256 * b.getD 8 0) (by omega) (by omega), wS (z := 65536 * b.getD 7 0 + 256 * b.getD 8 0) (by omega) (by omega), wS (by omega) (by omega)]
  rfl
 have gs : (gp0 b).s = 256 * b.getD 5 0 + b.getD 6 0 := rfl
 have gl : (gp0 b).l = 65536 * b.getD 7 0 + 256 * b.getD 8 0 + b.getD 9 0 := rfl
 refine ⟨[], [0, 2, 3, 4, 5], [0, 169, 401, 417], 418, fun m t => ∃ (pts : List Pt) (a : Nat) (p : Pt), pts ++ gpF b m a p = (guessL b).ps ∧ pts.length + m = 1 + ((b.getD 4 0).toNat - 1) ∧ 1 ≤ pts.length ∧ 10 ≤ a ∧ a ≤ 40 ∧ (0 ≤ p.s ∧ p.s ≤ 65535 + 256 * pts.length) ∧ (-20000 * (pts.length : Int) ≤ p.l ∧ p.l ≤ 16777216 + 20000 * pts.length) ∧
  t = ⟨[(0, .d (bsD b)), (2, .ref 0 0), (3, .ref 169 0), (4, .ref 401 0), (5, .d (dI a))], [(0, .var false 65 [.d (dI 0), .d (dI 0), .d (dI 0), .d (.v (.slice none 0 0)), .d (.v (.string ByteArray.empty))]), (169, .var false 65 [.d (dI (guessL b).n), .d (dI (guessL b).i), .d (dI (guessL b).m), .own 417, .d (.v (.string (strB b)))]), (401, .var false 73 [.d (dI p.s), .d (dI p.l)]), (417, .arr 73 (pts.map ptD))], 418⟩, ?_, ?_⟩
 ·conv => whnf
  refine ⟨(b.getD 4 0).toNat - 1, [gp0 b], 10, gp0 b, rfl, by simp, by simp, by omega, by omega, by rw [gs]; simp only [List.length_singleton]; omega, by rw [gl]; simp only [List.length_singleton]; omega, ?_⟩
  rw [eN, eS, eL, e8, e8]
  rfl
 ·rintro m _ ⟨pts, a, p, hps, hlen, h1, ha1, ha2, hs, hl2, rfl⟩
  have hmp : ((pts.map ptD).length : Int) = pts.length := by rw [List.length_map]
  have hL : pts.length ≤ 256 := by omega
  cases m with
  | zero =>
   have f1 : decide (((pts.map ptD).length : Int) < IntKind.i64.wrap (b.getD 4 0)) = false := decide_eq_false (by rw [hmp, e8]; omega)
   have ep : pts = (guessL b).ps := by rw [← hps]; unfold gpF; simp
   conv => whnf
   (repeat' (first | (apply kT (by with_reducible first | rfl | assumption); conv => whnf) | (apply kF (by with_reducible first | rfl | assumption); conv => whnf) | (apply kT (by decide); conv => whnf) | (apply kF (by decide); conv => whnf) | (apply kB <;> intro _ <;> conv => whnf) | (refine ⟨4, _, rfl, g 4 (by omega), rfl, ?_⟩; conv => whnf) | fail))
   rw [ep]
   rfl
  | succ m =>
   have f1 : decide (((pts.map ptD).length : Int) < IntKind.i64.wrap (b.getD 4 0)) = true := decide_eq_true (by rw [hmp, e8]; omega)
   have ea1 : IntKind.i64.wrap ((a : Int) + 1) = ((a + 1 : Nat) : Int) := w1 a (by omega)
   by_cases ha : a + 1 < 38
   ·have f2 : decide (IntKind.i64.wrap ((a : Int) + 1) < 38) = true := decide_eq_true (by rw [ea1]; omega)
    have qa := r a
    have qn := r (a + 1)
    have qm := r (a + 2)
    have es : IntKind.i64.wrap (p.s + IntKind.i64.wrap (b.getD a 0)) = p.s + b.getD a 0 := by rw [e8]; exact wS (by omega) (by omega)
    have ea2 : IntKind.i64.wrap ((a : Int) + 2) = ((a + 2 : Nat) : Int) := by rw [wS (by omega) (by omega)]; rfl
    have ea3 : IntKind.i64.wrap (IntKind.i64.wrap ((a : Int) + 2) + 1) = ((a + 3 : Nat) : Int) := by rw [ea2]; exact w1 _ (by omega)
    have unb : ∀ n : Int, 0 ≤ n → n < 32768 → -20000 ≤ unF n ∧ unF n ≤ 20000 := fun n h1 h2 => by unfold unF; split <;> omega
    by_cases hn : b.getD (a + 1) 0 < 128
    ·have f3 : decide (IntKind.i64.wrap (b.getD (a + 1) 0) ≥ 128) = false := decide_eq_false (by rw [e8]; omega)
     have cu : Pure Try.prog 90 [dI (IntKind.i64.wrap (b.getD (a + 1) 0))] (dI (unF (b.getD (a + 1) 0))) := by rw [e8]; exact unfold_pure _ (by omega) (by omega)
     have hu := unb (b.getD (a + 1) 0) (by omega) (by omega)
     have el : IntKind.i64.wrap (p.l + unF (b.getD (a + 1) 0)) = p.l + unF (b.getD (a + 1) 0) := wS (by omega) (by omega)
     have eg : gpN b a = (b.getD (a + 1) 0, a + 2) := by unfold gpN; rw [if_pos hn]
     have enx : gpF b (m + 1) a p = ⟨p.s + b.getD a 0, p.l + unF (b.getD (a + 1) 0)⟩ :: gpF b m (a + 2) ⟨p.s + b.getD a 0, p.l + unF (b.getD (a + 1) 0)⟩ := by rw [gpF, if_pos ha, eg]
     conv => whnf
     (repeat' (first | (apply kT (by with_reducible first | rfl | assumption); conv => whnf) | (apply kF (by with_reducible first | rfl | assumption); conv => whnf) | (apply kT (by decide); conv => whnf) | (apply kF (by decide); conv => whnf) | (apply kB <;> intro _ <;> conv => whnf) | (refine ⟨4, _, rfl, g 4 (by omega), rfl, ?_⟩; conv => whnf) | (refine ⟨a, _, rfl, g a (by omega), rfl, ?_⟩; conv => whnf) | (refine ⟨a + 1, _, ea1, g (a + 1) (by omega), rfl, ?_⟩; conv => whnf) | (refine .inl ⟨_, cu, ?_⟩; conv => whnf) | (refine ChL.l ?_; conv => whnf) | fail))
     (refine ⟨fun el h => by rw [List.mem_singleton.1 h]; rfl, by rw [List.length_map]; show (pts.length + 1) * 16 ≤ _; omega, ?_⟩; conv => whnf)
     refine ⟨m, by omega, pts ++ [⟨p.s + b.getD a 0, p.l + unF (b.getD (a + 1) 0)⟩], a + 2, ⟨p.s + b.getD a 0, p.l + unF (b.getD (a + 1) 0)⟩, by rw [← hps, enx, List.append_assoc]; rfl, by rw [List.length_append, List.length_singleton]; omega, by rw [List.length_append, List.length_singleton]; omega, by omega, by omega, by rw [List.length_append, List.length_singleton]; show 0 ≤ p.s + b.getD a 0 ∧ p.s + b.getD a 0 ≤ _; omega, by rw [List.length_append, List.length_singleton]; show _ ≤ p.l + unF (b.getD (a + 1) 0) ∧ p.l + unF (b.getD (a + 1) 0) ≤ _; omega, ?_⟩
     rw [es, el, ea2, List.map_append]
     rfl
    ·have f3 : decide (IntKind.i64.wrap (b.getD (a + 1) 0) ≥ 128) = true := decide_eq_true (by rw [e8]; omega)
     have er : IntKind.i64.wrap (IntKind.i64.wrap (256 * IntKind.i64.wrap (IntKind.i64.wrap (b.getD (a + 1) 0) - 128)) + IntKind.i64.wrap (b.getD (a + 2) 0)) = 256 * (b.getD (a + 1) 0 - 128) + b.getD (a + 2) 0 := by
      rw [e8, e8, wS (z := b.getD (a + 1) 0 - 128) (by omega) (by omega), wS (z := 256 * (b.getD (a + 1) 0 - 128)) (by omega) (by omega)]
      exact wS (by omega) (by omega)
     have cu : Pure Try.prog 90 [dI (IntKind.i64.wrap (IntKind.i64.wrap (256 * IntKind.i64.wrap (IntKind.i64.wrap (b.getD (a + 1) 0) - 128)) + IntKind.i64.wrap (b.getD (a + 2) 0)))] (dI (unF (256 * (b.getD (a + 1) 0 - 128) + b.getD (a + 2) 0))) := by rw [er]; exact unfold_pure _ (by omega) (by omega)
     have hu := unb (256 * (b.getD (a + 1) 0 - 128) + b.getD (a + 2) 0) (by omega) (by omega)
     have el : IntKind.i64.wrap (p.l + unF (256 * (b.getD (a + 1) 0 - 128) + b.getD (a + 2) 0)) = p.l + unF (256 * (b.getD (a + 1) 0 - 128) + b.getD (a + 2) 0) := wS (by omega) (by omega)
     have eg : gpN b a = (256 * (b.getD (a + 1) 0 - 128) + b.getD (a + 2) 0, a + 3) := by unfold gpN; rw [if_neg hn]
     have enx : gpF b (m + 1) a p = ⟨p.s + b.getD a 0, p.l + unF (256 * (b.getD (a + 1) 0 - 128) + b.getD (a + 2) 0)⟩ :: gpF b m (a + 3) ⟨p.s + b.getD a 0, p.l + unF (256 * (b.getD (a + 1) 0 - 128) + b.getD (a + 2) 0)⟩ := by rw [gpF, if_pos ha, eg]
     conv => whnf
     (repeat' (first | (apply kT (by with_reducible first | rfl | assumption); conv => whnf) | (apply kF (by with_reducible first | rfl | assumption); conv => whnf) | (apply kT (by decide); conv => whnf) | (apply kF (by decide); conv => whnf) | (apply kB <;> intro _ <;> conv => whnf) | (refine ⟨4, _, rfl, g 4 (by omega), rfl, ?_⟩; conv => whnf) | (refine ⟨a, _, rfl, g a (by omega), rfl, ?_⟩; conv => whnf) | (refine ⟨a + 1, _, ea1, g (a + 1) (by omega), rfl, ?_⟩; conv => whnf) | (refine ⟨a + 2, _, ea2, g (a + 2) (by omega), rfl, ?_⟩; conv => whnf) | (refine .inl ⟨_, cu, ?_⟩; conv => whnf) | (refine ChL.l ?_; conv => whnf) | fail))
     (refine ⟨fun el h => by rw [List.mem_singleton.1 h]; rfl, by rw [List.length_map]; show (pts.length + 1) * 16 ≤ _; omega, ?_⟩; conv => whnf)
     refine ⟨m, by omega, pts ++ [⟨p.s + b.getD a 0, p.l + unF (256 * (b.getD (a + 1) 0 - 128) + b.getD (a + 2) 0)⟩], a + 3, ⟨p.s + b.getD a 0, p.l + unF (256 * (b.getD (a + 1) 0 - 128) + b.getD (a + 2) 0)⟩, by rw [← hps, enx, List.append_assoc]; rfl, by rw [List.length_append, List.length_singleton]; omega, by rw [List.length_append, List.length_singleton]; omega, by omega, by omega, by rw [List.length_append, List.length_singleton]; show 0 ≤ p.s + b.getD a 0 ∧ p.s + b.getD a 0 ≤ _; omega, by rw [List.length_append, List.length_singleton]; show _ ≤ p.l + unF (256 * (b.getD (a + 1) 0 - 128) + b.getD (a + 2) 0) ∧ p.l + unF (256 * (b.getD (a + 1) 0 - 128) + b.getD (a + 2) 0) ≤ _; omega, ?_⟩
     rw [es, el, ea3, List.map_append]
     rfl
   ·have f2 : decide (IntKind.i64.wrap ((a : Int) + 1) < 38) = false := decide_eq_false (by rw [ea1]; omega)
    have ep : pts = (guessL b).ps := by rw [← hps]; unfold gpF; rw [if_neg ha]; simp
    conv => whnf
    (repeat' (first | (apply kT (by with_reducible first | rfl | assumption); conv => whnf) | (apply kF (by with_reducible first | rfl | assumption); conv => whnf) | (apply kT (by decide); conv => whnf) | (apply kF (by decide); conv => whnf) | (apply kB <;> intro _ <;> conv => whnf) | (refine ⟨4, _, rfl, g 4 (by omega), rfl, ?_⟩; conv => whnf) | fail))
    rw [ep]
    rfl
end Go.Ev.Ytljkplahkokpaaa


set_option linter.unusedVariables false
set_option linter.unusedSimpArgs false
set_option maxRecDepth 100000
namespace Go.Ev.Ytljkplahkokpaaa
open Go.Proofs
theorem gpF_len (b : List Int) : ∀ (j a : Nat) (p : Pt), (gpF b j a p).length ≤ j
 | 0, a, p => by simp [gpF]
 | j + 1, a, p => by
  rw [gpF]
  split
  ·rw [List.length_cons]
   have := gpF_len b j (gpN b a).2 ⟨p.s + b.getD a 0, p.l + unF (gpN b a).1⟩
   omega
  ·simp
theorem guess_len (b : List Int) (hb : By b) : (guessL b).ps.length ≤ 256 ∧ 0 < (guessL b).ps.length := by
 have h1 := gpF_len b ((b.getD 4 0).toNat - 1) 10 (gp0 b)
 have h2 := hb.getD 4
 show (gp0 b :: gpF b ((b.getD 4 0).toNat - 1) 10 (gp0 b)).length ≤ 256 ∧ 0 < (gp0 b :: gpF b ((b.getD 4 0).toNat - 1) 10 (gp0 b)).length
 rw [List.length_cons]
 omega
theorem refCard_by {c : Cd} (h : runB c.ps = true) : By (refCard c) := by
 obtain ⟨h0, _, hr⟩ := runB_ok.1 h
 rw [refCard_eq h0]
 cases (layF c).2 with
 | true => exact layB_by h0 hr
 | false => exact .nil
attribute [local irreducible] Pure Bor Iter Pan guessL refCard
theorem block_pure (b : List Int) (hb : By b) (hl : b.length = 40) : Pure Try.prog 53 [bsD b] (.tup [.agg (heldC (guessL b) b), dB (blockB b)]) := by
 have cg := guess_pure b hb hl
 obtain ⟨g1, g2⟩ := guess_len b hb
 unfold blockB
 generalize guessL b = c at cg g1 g2
 have c1 := in_pure c.n 0 9999
 have c2 := in_pure c.m 1 20
 have c3 := refRun_pure c.ps (by omega)
 cases e1 : inB c.n 0 9999 with
 | false =>
  rw [e1] at c1
  refine pure_of pg Try.func53 (by kernel_rfl) ?_
  conv => whnf
  (repeat' (first | (apply kT (by with_reducible first | rfl | assumption); conv => whnf) | (apply kF (by with_reducible first | rfl | assumption); conv => whnf) | (apply kT (by decide); conv => whnf) | (apply kF (by decide); conv => whnf) | (apply kB <;> intro _ <;> conv => whnf) | (refine .inl ⟨_, cg, ?_⟩; conv => whnf) | (refine .inl ⟨_, c1, ?_⟩; conv => whnf) | fail))
  rfl
 | true =>
  rw [e1] at c1
  have hn : 0 ≤ c.n ∧ c.n ≤ 9999 := by unfold inB at e1; simpa using e1
  cases e2 : inB c.m 1 20 with
  | false =>
   rw [e2] at c2
   refine pure_of pg Try.func53 (by kernel_rfl) ?_
   conv => whnf
   (repeat' (first | (apply kT (by with_reducible first | rfl | assumption); conv => whnf) | (apply kF (by with_reducible first | rfl | assumption); conv => whnf) | (apply kT (by decide); conv => whnf) | (apply kF (by decide); conv => whnf) | (apply kB <;> intro _ <;> conv => whnf) | (refine .inl ⟨_, cg, ?_⟩; conv => whnf) | (refine .inl ⟨_, c1, ?_⟩; conv => whnf) | (refine .inl ⟨_, c2, ?_⟩; conv => whnf) | fail))
   rfl
  | true =>
   rw [e2] at c2
   cases e3 : decide (c.i ≥ c.m) with
   | true =>
    refine pure_of pg Try.func53 (by kernel_rfl) ?_
    conv => whnf
    (repeat' (first | (apply kT (by with_reducible first | rfl | assumption); conv => whnf) | (apply kF (by with_reducible first | rfl | assumption); conv => whnf) | (apply kT (by decide); conv => whnf) | (apply kF (by decide); conv => whnf) | (apply kB <;> intro _ <;> conv => whnf) | (refine .inl ⟨_, cg, ?_⟩; conv => whnf) | (refine .inl ⟨_, c1, ?_⟩; conv => whnf) | (refine .inl ⟨_, c2, ?_⟩; conv => whnf) | fail))
    rfl
   | false =>
    cases e4 : runB c.ps with
    | false =>
     rw [e4] at c3
     refine pure_of pg Try.func53 (by kernel_rfl) ?_
     conv => whnf
     (repeat' (first | (apply kT (by with_reducible first | rfl | assumption); conv => whnf) | (apply kF (by with_reducible first | rfl | assumption); conv => whnf) | (apply kT (by decide); conv => whnf) | (apply kF (by decide); conv => whnf) | (apply kB <;> intro _ <;> conv => whnf) | (refine .inl ⟨_, cg, ?_⟩; conv => whnf) | (refine .inl ⟨_, c1, ?_⟩; conv => whnf) | (refine .inl ⟨_, c2, ?_⟩; conv => whnf) | (refine .inl ⟨_, c3, ?_⟩; conv => whnf) | fail))
     rfl
    | true =>
     rw [e4] at c3
     have cc := card_pure c e4 (by omega) ⟨hn.1, by omega⟩
     have hrb := refCard_by e4
     refine pure_of pg Try.func53 (by kernel_rfl) ?_
     conv => whnf
     (repeat' (first | (apply kT (by with_reducible first | rfl | assumption); conv => whnf) | (apply kF (by with_reducible first | rfl | assumption); conv => whnf) | (apply kT (by decide); conv => whnf) | (apply kF (by decide); conv => whnf) | (apply kB <;> intro _ <;> conv => whnf) | (refine .inl ⟨_, cg, ?_⟩; conv => whnf) | (refine .inl ⟨_, c1, ?_⟩; conv => whnf) | (refine .inl ⟨_, c2, ?_⟩; conv => whnf) | (refine .inl ⟨_, c3, ?_⟩; conv => whnf) | (refine .inl ⟨_, cc, ?_⟩; conv => whnf) | (refine ⟨strB (refCard c), strB_bytes hrb, ?_⟩; conv => whnf) | (refine ⟨strB b, strB_bytes hb, ?_⟩; conv => whnf) | (refine ⟨decide (refCard c = b), strB_eq hrb hb, ?_⟩; conv => whnf) | fail))
     rfl
end Go.Ev.Ytljkplahkokpaaa


set_option linter.unusedVariables false
set_option linter.unusedSimpArgs false
set_option maxRecDepth 100000
namespace Go.Ev.Ytljkplahkokpaaa
open Go.Proofs
def insW (c : Cd) (H : List Cd) : List Cd := H.filter (fun x => !ltC c x) ++ c :: H.filter (fun x => ltC c x)
def addH (H : List Cd) : Option Cd → List Cd
 | none => H
 | some c => bif decide (c ∈ H) then H else insW c H
theorem addH_some (H : List Cd) (c : Cd) : addH H (some c) = bif decide (c ∈ H) then H else insW c H := rfl
def heldL (os : List (Option Cd)) : List Cd := os.foldl addH []
structure WS (H : List Cd) : Prop where
 ok : ∀ c ∈ H, CdOK c
 nd : H.Nodup
 so : H.Pairwise fun a b => ¬ kLt b a
theorem insW_of {c : Cd} {B C : List Cd} (hB : ∀ x ∈ B, ¬ kLt c x) (hC : ∀ x ∈ C, kLt c x) : insW c (B ++ C) = B ++ c :: C := by
 unfold insW
 have b1 : ∀ x ∈ B, ltC c x = false := fun x hx => by
  cases h : ltC c x with
  | false => rfl
  | true => exact absurd (ltC_iff.1 h) (hB x hx)
 have c1 : ∀ x ∈ C, ltC c x = true := fun x hx => ltC_iff.2 (hC x hx)
 rw [List.filter_append, List.filter_append, List.filter_eq_self.2 (fun x hx => by rw [b1 x hx]; rfl), List.filter_eq_nil_iff.2 (fun x hx => by rw [c1 x hx]; simp), List.filter_eq_nil_iff.2 (fun x hx => by rw [b1 x hx]; simp), List.filter_eq_self.2 c1, List.append_nil, List.nil_append]
theorem mem_insW {c d : Cd} {H : List Cd} : d ∈ insW c H ↔ d = c ∨ d ∈ H := by
 unfold insW
 simp only [List.mem_append, List.mem_cons, List.mem_filter]
 constructor
 ·rintro (h | h | h)
  ·exact .inr h.1
  ·exact .inl h
  ·exact .inr h.1
 ·rintro (h | h)
  ·exact .inr (.inl h)
  ·cases e : ltC c d with
   | true => exact .inr (.inr ⟨h, rfl⟩)
   | false => exact .inl ⟨h, rfl⟩
theorem WS.ins {H : List Cd} (h : WS H) {c : Cd} (hc : CdOK c) (hn : c ∉ H) : WS (insW c H) := by
 refine ⟨fun d hd => ?_, ?_, ?_⟩
 ·rcases mem_insW.1 hd with e | e
  ·rw [e]; exact hc
  ·exact h.ok d e
 ·unfold insW
  rw [List.nodup_append]
  refine ⟨h.nd.sublist List.filter_sublist, List.nodup_cons.2 ⟨fun e => hn (List.mem_filter.1 e).1, h.nd.sublist List.filter_sublist⟩, fun a ha b hb e => ?_⟩
  subst e
  obtain ⟨a1, a2⟩ := List.mem_filter.1 ha
  rcases List.mem_cons.1 hb with hb | hb
  ·exact hn (hb ▸ a1)
  ·have := (List.mem_filter.1 hb).2
   rw [this] at a2; cases a2
 ·unfold insW
  refine List.pairwise_append.2 ⟨h.so.sublist List.filter_sublist, List.pairwise_cons.2 ⟨fun b hb => ?_, h.so.sublist List.filter_sublist⟩, fun a ha b hb => ?_⟩
  ·exact kLt_asym (ltC_iff.1 (List.mem_filter.1 hb).2)
  ·have a2 : ¬ kLt c a := fun e => by have := (List.mem_filter.1 ha).2; rw [ltC_iff.2 e] at this; cases this
   rcases List.mem_cons.1 hb with hb | hb
   ·rw [hb]; exact a2
   ·have b2 := ltC_iff.1 (List.mem_filter.1 hb).2
    unfold kLt at *
    omega
theorem addH_ok {H : List Cd} (h : WS H) {o : Option Cd} (ho : ∀ c, o = some c → CdOK c) : WS (addH H o) := by
 cases o with
 | none => exact h
 | some c =>
  rw [addH_some]
  by_cases hc : c ∈ H
  ·rw [decide_eq_true hc]; exact h
  ·rw [decide_eq_false hc]; exact h.ins (ho c rfl) hc
theorem mem_addH {H : List Cd} {o : Option Cd} {d : Cd} : d ∈ addH H o ↔ d ∈ H ∨ o = some d := by
 cases o with
 | none => unfold addH; simp
 | some c =>
  rw [addH_some]
  by_cases hc : c ∈ H
  ·rw [decide_eq_true hc, cond_true]
   exact ⟨.inl, fun h => h.elim id fun e => by cases e; exact hc⟩
  ·rw [decide_eq_false hc, cond_false, mem_insW]
   exact ⟨fun h => h.elim (fun e => .inr (by rw [e])) .inl, fun h => h.elim .inr fun e => .inl (by cases e; rfl)⟩
theorem held_ws : ∀ (os : List (Option Cd)) {H : List Cd}, WS H → (∀ c, some c ∈ os → CdOK c) → WS (os.foldl addH H)
 | [], _, h, _ => h
 | o :: os, H, h, ho => held_ws os (addH_ok h fun c e => ho c (by rw [e]; simp)) fun c hc => ho c (by simp [hc])
theorem mem_held : ∀ (os : List (Option Cd)) {H : List Cd} {d : Cd}, d ∈ os.foldl addH H ↔ d ∈ H ∨ some d ∈ os
 | [], H, d => by simp
 | o :: os, H, d => by
  rw [List.foldl_cons, mem_held os, mem_addH, List.mem_cons, or_assoc]
  constructor
  ·rintro (h | h | h)
   ·exact .inl h
   ·exact .inr (.inl h.symm)
   ·exact .inr (.inr h)
  ·rintro (h | h | h)
   ·exact .inl h
   ·exact .inr (.inl h.symm)
   ·exact .inr (.inr h)
theorem ws_nil : WS [] := ⟨fun c hc => (by simp at hc), List.nodup_nil, .nil⟩
theorem heldL_ws {os : List (Option Cd)} (ho : ∀ c, some c ∈ os → CdOK c) : WS (heldL os) := held_ws os ws_nil ho
theorem mem_heldL {os : List (Option Cd)} {d : Cd} : d ∈ heldL os ↔ some d ∈ os := by unfold heldL; rw [mem_held]; simp
theorem heldL_len : ∀ (os : List (Option Cd)) (H : List Cd), (os.foldl addH H).length ≤ H.length + os.length
 | [], H => by simp
 | o :: os, H => by
  rw [List.foldl_cons, List.length_cons]
  have := heldL_len os (addH H o)
  have h2 : (addH H o).length ≤ H.length + 1 := by
   cases o with
   | none => show H.length ≤ _; omega
   | some c =>
    rw [addH_some]
    cases decide (c ∈ H) with
    | true => show H.length ≤ _; omega
    | false =>
     show (insW c H).length ≤ _
     unfold insW
     rw [List.length_append, List.length_cons]
     have e : (H.filter fun x => !ltC c x).length + (H.filter fun x => ltC c x).length = H.length := by
      clear this
      induction H with
      | nil => rfl
      | cons x H ih =>
       rw [List.filter_cons, List.filter_cons]
       cases ltC c x <;> simp only [Bool.not_true, Bool.not_false, if_true, Bool.false_eq_true, if_false, List.length_cons] <;> omega
     omega
  omega
theorem held_srt {os : List (Option Cd)} (ho : ∀ c, some c ∈ os → CdOK c) (hc : ¬ Conf os) : Srt os (heldL os) := by
 have h := heldL_ws ho
 refine ⟨?_, fun c => mem_heldL⟩
 have h2 := h.so.and h.nd
 refine h2.imp_of_mem fun {a b} ha hb hab => ?_
 have : ¬ (a.n = b.n ∧ a.i = b.i) := fun ⟨e1, e2⟩ => hc ⟨a, b, mem_heldL.1 ha, mem_heldL.1 hb, e1, e2, hab.2⟩
 have h3 := hab.1
 unfold kLt at *
 omega
def contraB (H : List Cd) : Bool := decide (∃ c ∈ H, ∃ d ∈ H, c.n = d.n ∧ c ≠ d ∧ (c.i = d.i ∨ c.m ≠ d.m))
theorem contra_iff (os : List (Option Cd)) : contraB (heldL os) = true ↔ Conf os ∨ MConf os := by
 unfold contraB
 rw [decide_eq_true_eq]
 constructor
 ·rintro ⟨c, hc, d, hd, h1, h2, h3⟩
  rw [mem_heldL] at hc hd
  rcases h3 with h3 | h3
  ·exact .inl ⟨c, d, hc, hd, h1, h3, h2⟩
  ·exact .inr ⟨c, d, hc, hd, h1, h3⟩
 ·rintro (⟨c, d, hc, hd, h1, h2, h3⟩ | ⟨c, d, hc, hd, h1, h2⟩)
  ·exact ⟨c, mem_heldL.2 hc, d, mem_heldL.2 hd, h1, h3, .inl h2⟩
  ·exact ⟨c, mem_heldL.2 hc, d, mem_heldL.2 hd, h1, fun e => h2 (by rw [e]), .inr h2⟩
end Go.Ev.Ytljkplahkokpaaa


set_option linter.unusedVariables false
set_option linter.unusedSimpArgs false
set_option maxRecDepth 100000
namespace Go.Ev.Ytljkplahkokpaaa
open Go.Proofs
abbrev hdC (c : Cd) : List D := heldC c (layB c)
theorem gethd (l : List Cd) (k : Nat) (h : k < l.length) : (l.map hdC)[k]? = some (hdC l[k]) := by simp [h]
theorem Vs_len (b : List Int) : (Vs b).length = nCh b := by unfold Vs; rw [List.length_map, blks_len]
theorem Vs_get (b : List Int) {k : Nat} (h : k < nCh b) : (Vs b)[k]? = some (bif decide ((chAt b k).length = 40) then readR (pad (chAt b k)) else none) := by
 unfold Vs
 rw [List.getElem?_map, blks_get b h]
 rfl
theorem held_take (os : List (Option Cd)) {k : Nat} {o : Option Cd} (h : os[k]? = some o) : heldL (os.take (k + 1)) = addH (heldL (os.take k)) o ∧ (os.take (k + 1)).countP Option.isNone = (os.take k).countP Option.isNone + (if o.isNone = true then 1 else 0) := by
 have e : os.take (k + 1) = os.take k ++ [o] := by rw [List.take_add_one, h]; rfl
 rw [e]
 constructor
 ·unfold heldL
  rw [List.foldl_append]
  rfl
 ·rw [List.countP_append, List.countP_singleton]
theorem addH_none (H : List Cd) : addH H none = H := rfl
attribute [local irreducible] Pure Bor Iter Pan guessL blockB readR layB heldL addH Vs
set_option maxHeartbeats 4000000 in
theorem Blocks_pure (b : List Int) (hb : By b) (hl : b.length ≤ 20000) : Pure Try.prog 19 [bsD b] (.tup [.seq ((heldL (Vs b)).map hdC), dI ((Vs b).countP Option.isNone : Nat)]) := by
 have hm : ((b.map byC).length : Int) = b.length := by rw [List.length_map]
 refine pure_of pg Try.func19 (by kernel_rfl) ?_
 conv => whnf
 refine ⟨[.own 4 65], [0, 4, 5, 6], [0], 1, fun m s => ∃ k : Nat, k + m = nCh b ∧ s = ⟨[(0, .d (bsD b)), (4, .own 0), (5, .d (dI (((Vs b).take k).countP Option.isNone : Nat))), (6, .d (dI (40 * k : Nat)))], [(0, .arr 65 ((heldL ((Vs b).take k)).map hdC))], 1⟩, ?_, ?_⟩
 ·conv => whnf
  refine ⟨nCh b, 0, by omega, ?_⟩
  rw [List.take_zero]
  unfold heldL
  rfl
 ·rintro m _ ⟨k, hk, rfl⟩
  have hws : WS (heldL ((Vs b).take k)) := heldL_ws fun c hc => Vs_ok hb (List.mem_of_mem_take hc)
  have hHl : (heldL ((Vs b).take k)).length ≤ 600 := by
   have := heldL_len ((Vs b).take k) []
   rw [List.length_take, Vs_len, List.length_nil] at this
   unfold nCh at *
   show (heldL ((Vs b).take k)).length ≤ 600
   unfold heldL
   omega
  have hspl : ((Vs b).take k).countP Option.isNone ≤ 600 := by
   have := List.countP_le_length (p := Option.isNone) (l := (Vs b).take k)
   rw [List.length_take, Vs_len] at this
   unfold nCh at *
   omega
  by_cases hkl : k < nCh b
  ·have hkb := nCh_lt.1 hkl
   have f1 : decide (((40 * k : Nat) : Int) < ((b.map byC).length : Int)) = true := decide_eq_true (by rw [hm]; omega)
   have e40 : IntKind.i64.wrap (((40 * k : Nat) : Int) + 40) = ((40 * (k + 1) : Nat) : Int) := by rw [wS (by omega) (by omega)]; omega
   have esp : IntKind.i64.wrap ((((Vs b).take k).countP Option.isNone : Nat) + 1 : Int) = ((((Vs b).take k).countP Option.isNone + 1 : Nat) : Int) := w1 _ (by omega)
   have hg := Vs_get b hkl
   have hcl : (chAt b k).length = min 40 (b.length - 40 * k) := by unfold chAt; rw [List.length_take, List.length_drop]
   by_cases hsh : 40 * (k + 1) > b.length
   ·have f2 : decide (IntKind.i64.wrap (((40 * k : Nat) : Int) + 40) > ((b.map byC).length : Int)) = true := decide_eq_true (by rw [e40, hm]; omega)
    rw [decide_eq_false (by omega), cond_false] at hg
    obtain ⟨q1, q2⟩ := held_take (Vs b) hg
    rw [addH_none] at q1
    have q2' : ((Vs b).take (k + 1)).countP Option.isNone = ((Vs b).take k).countP Option.isNone + 1 := q2
    conv => whnf
    (repeat' (first | (apply kT (by with_reducible first | rfl | assumption); conv => whnf) | (apply kF (by with_reducible first | rfl | assumption); conv => whnf) | (apply kT (by decide); conv => whnf) | (apply kF (by decide); conv => whnf) | (apply kB <;> intro _ <;> conv => whnf) | fail))
    refine ⟨m - 1, by omega, k + 1, by omega, ?_⟩
    rw [e40, esp, q1, q2']
   ·have f2 : decide (IntKind.i64.wrap (((40 * k : Nat) : Int) + 40) > ((b.map byC).length : Int)) = false := decide_eq_false (by rw [e40, hm]; omega)
    have hx40 : (chAt b k).length = 40 := by omega
    have hxb : By (chAt b k) := (hb.drop _).take _
    rw [decide_eq_true hx40, cond_true, pad_full hx40] at hg
    have s1 : ((b.map byC).take (40 * (k + 1))).drop (40 * k) = (chAt b k).map byC := by
     unfold chAt
     rw [← List.map_take, ← List.map_drop, List.drop_take]
     congr 3
     omega
    have cb := block_pure (chAt b k) hxb hx40
    have hbr := block_read hxb hx40
    generalize chAt b k = x at *
    have cb' : Pure Try.prog 53 [.seq (((b.map byC).take (40 * (k + 1))).drop (40 * k))] (.tup [.agg (heldC (guessL x) x), dB (blockB x)]) := by rw [s1]; exact cb
    cases hB : blockB x with
    | false =>
     rw [hB] at cb'
     rw [hbr, hB, cond_false] at hg
     obtain ⟨q1, q2⟩ := held_take (Vs b) hg
     rw [addH_none] at q1
     have q2' : ((Vs b).take (k + 1)).countP Option.isNone = ((Vs b).take k).countP Option.isNone + 1 := q2
     conv => whnf
     (repeat' (first | (apply kT (by with_reducible first | rfl | assumption); conv => whnf) | (apply kF (by with_reducible first | rfl | assumption); conv => whnf) | (apply kT (by decide); conv => whnf) | (apply kF (by decide); conv => whnf) | (apply kB <;> intro _ <;> conv => whnf) | (refine ⟨40 * k, rfl, 40 * (k + 1), e40, by omega, by rw [List.length_map]; omega, byL _, ?_⟩; conv => whnf) | (refine .inl ⟨_, cb', ?_⟩; conv => whnf) | fail))
     refine ⟨m - 1, by omega, k + 1, by omega, ?_⟩
     rw [e40, esp, q1, q2']
    | true =>
     rw [hB] at cb'
     rw [hbr, hB, cond_true] at hg
     rw [hB, cond_true] at hbr
     obtain ⟨q1, q2⟩ := held_take (Vs b) hg
     conv => whnf
     (repeat' (first | (apply kT (by with_reducible first | rfl | assumption); conv => whnf) | (apply kF (by with_reducible first | rfl | assumption); conv => whnf) | (apply kT (by decide); conv => whnf) | (apply kF (by decide); conv => whnf) | (apply kB <;> intro _ <;> conv => whnf) | (refine ⟨40 * k, rfl, 40 * (k + 1), e40, by omega, by rw [List.length_map]; omega, byL _, ?_⟩; conv => whnf) | (refine .inl ⟨_, cb', ?_⟩; conv => whnf) | fail))
     obtain ⟨hcok, hcx⟩ := readR_ok hxb hbr
     generalize guessL x = c at *
     have q2' : ((Vs b).take (k + 1)).countP Option.isNone = ((Vs b).take k).countP Option.isNone := q2
     rw [addH_some] at q1
     generalize hH : heldL ((Vs b).take k) = H at *
     have hmH : ((H.map hdC).length : Int) = H.length := by rw [List.length_map]
     refine ⟨[], [0, 4, 5, 6, 7, 9, 10], [0, 1], 2, fun q t => ∃ i : Nat, i + q = H.length ∧ t = ⟨[(0, .d (bsD b)), (4, .own 0), (5, .d (dI (((Vs b).take k).countP Option.isNone : Nat))), (6, .d (dI (40 * k : Nat))), (7, .ref 1 0), (9, .d (dB (decide (c ∈ H.take i)))), (10, .d (dI i))], [(0, .arr 65 (H.map hdC)), (1, .var false 65 ((heldC c x).map A.d))], 2⟩, ?_, ?_⟩
     ·conv => whnf
      refine ⟨H.length, 0, by omega, ?_⟩
      rw [List.take_zero, decide_eq_false (by simp)]
      rfl
     ·rintro q _ ⟨i, hi, rfl⟩
      by_cases hil : i < H.length
      ·have g1 : decide ((i : Int) < ((H.map hdC).length : Int)) = true := decide_eq_true (by rw [hmH]; omega)
       have htk : H.take (i + 1) = H.take i ++ [H[i]] := by rw [List.take_add_one, List.getElem?_eq_getElem hil]; rfl
       have hHi := hws.ok _ (List.getElem_mem hil)
       have hby : By (layB H[i]) := layB_by hHi.many.1 (runB_ok.1 hHi.2.2.2.1).2.2
       have hseq : ((strB (layB H[i])).toList == (strB x).toList) = decide (H[i] = c) := by
        rw [strB_eq hby hxb]
        by_cases h : H[i] = c
        ·rw [decide_eq_true h, decide_eq_true (by rw [h]; exact hcx)]
        ·rw [decide_eq_false h, decide_eq_false fun e => h (layB_inj hHi hcok (by rw [e, hcx]))]
       have hbo : i < (H.map hdC).length := by rw [List.length_map]; exact hil
       refine (Decidable.em (c ∈ H.take i)).elim (fun hin => ?_) fun hin => ?_
       ·have hin' : decide (c ∈ H.take i) = true := decide_eq_true hin
        have e : decide (c ∈ H.take (i + 1)) = true := decide_eq_true (by rw [htk]; exact List.mem_append_left _ hin)
        conv => whnf
        (repeat' (first | (apply kT (by with_reducible first | rfl | assumption); conv => whnf) | (apply kF (by with_reducible first | rfl | assumption); conv => whnf) | (apply kT (by decide); conv => whnf) | (apply kF (by decide); conv => whnf) | (apply kB <;> intro _ <;> conv => whnf) | fail))
        refine ⟨q - 1, by omega, i + 1, by omega, ?_⟩
        rw [e, w1 i (by omega)]
        rfl
       ·have hin' : decide (c ∈ H.take i) = false := decide_eq_false hin
        have e : decide (c ∈ H.take (i + 1)) = decide (H[i] = c) := by
         have := hin
         rw [htk]
         by_cases h : H[i] = c
         ·rw [decide_eq_true h, h]; simp
         ·rw [decide_eq_false h, decide_eq_false]
          simp only [List.mem_append, List.mem_singleton, not_or]
          exact ⟨this, fun e => h e.symm⟩
        conv => whnf
        (repeat' (first | (apply kT (by with_reducible first | rfl | assumption); conv => whnf) | (apply kF (by with_reducible first | rfl | assumption); conv => whnf) | (apply kT (by decide); conv => whnf) | (apply kF (by decide); conv => whnf) | (apply kB <;> intro _ <;> conv => whnf) | (refine ⟨i, rfl, hbo, ?_⟩; conv => whnf) | (refine ⟨_, gethd H i hil, ?_⟩; conv => whnf) | (refine ⟨_, rfl, ?_⟩; conv => whnf) | (refine ⟨decide (H[i] = c), hseq, ?_⟩; conv => whnf) | fail))
        refine ⟨q - 1, by omega, i + 1, by omega, ?_⟩
        rw [e, ← hseq, w1 i (by omega)]
        rfl
      ·have g1 : decide ((i : Int) < ((H.map hdC).length : Int)) = false := decide_eq_false (by rw [hmH]; omega)
       have ett : H.take i = H := List.take_of_length_le (by omega)
       refine (Decidable.em (c ∈ H)).elim (fun hin => ?_) fun hin => ?_
       ·have hin' : decide (c ∈ H.take i) = true := decide_eq_true (by rw [ett]; exact hin)
        rw [decide_eq_true hin, cond_true] at q1
        conv => whnf
        (repeat' (first | (apply kT (by with_reducible first | rfl | assumption); conv => whnf) | (apply kF (by with_reducible first | rfl | assumption); conv => whnf) | (apply kT (by decide); conv => whnf) | (apply kF (by decide); conv => whnf) | (apply kB <;> intro _ <;> conv => whnf) | fail))
        refine ⟨m - 1, by omega, k + 1, by omega, ?_⟩
        rw [e40, q1, q2']
       ·have hin' : decide (c ∈ H.take i) = false := decide_eq_false (by rw [ett]; exact hin)
        rw [decide_eq_false hin, cond_false] at q1
        conv => whnf
        (repeat' (first | (apply kT (by with_reducible first | rfl | assumption); conv => whnf) | (apply kF (by with_reducible first | rfl | assumption); conv => whnf) | (apply kT (by decide); conv => whnf) | (apply kF (by decide); conv => whnf) | (apply kB <;> intro _ <;> conv => whnf) | (refine ChL.l ?_; conv => whnf) | fail))
        (refine ⟨fun el h => by rw [List.mem_singleton.1 h]; rfl, by rw [List.length_map]; show (H.length + 1) * 64 ≤ _; omega, ?_⟩; conv => whnf)
        have ehd : hdC c = heldC c x := by show heldC c (layB c) = _; rw [hcx]
        have elen : IntKind.i64.wrap (((H.map hdC ++ [heldC c x]).length : Int) - 1) = ((H.length : Nat) : Int) := by
         rw [List.length_append, List.length_map, List.length_singleton, wS (by omega) (by omega)]
         omega
        have eins := fun {B C : List Cd} (h1 : ∀ y ∈ B, ¬ kLt c y) (h2 : ∀ y ∈ C, kLt c y) => insW_of h1 h2
        refine ⟨[], [0, 4, 5, 6, 11], [0], 2, fun q t => ∃ (B C : List Cd), B.length = q ∧ H = B ++ C ∧ (∀ y ∈ C, kLt c y) ∧ t = ⟨[(0, .d (bsD b)), (4, .own 0), (5, .d (dI (((Vs b).take k).countP Option.isNone : Nat))), (6, .d (dI (40 * k : Nat))), (11, .d (dI (B.length : Nat)))], [(0, .arr 65 ((B ++ c :: C).map hdC))], 2⟩, ?_, ?_⟩
        ·conv => whnf
         refine ⟨H.length, H, [], rfl, by simp, fun y hy => by simp at hy, ?_⟩
         rw [List.map_append, ← elen, show List.map hdC [c] = [heldC c x] from by rw [List.map_cons, List.map_nil, ehd]]
        ·rintro q _ ⟨B, C, hq, hBC, hC, rfl⟩
         rcases List.eq_nil_or_concat B with rfl | ⟨B', a, rfl⟩
         ·have g1 : decide (((([] : List Cd).length : Nat) : Int) > 0) = false := rfl
          conv => whnf
          (repeat' (first | (apply kT (by with_reducible first | rfl | assumption); conv => whnf) | (apply kF (by with_reducible first | rfl | assumption); conv => whnf) | (apply kT (by decide); conv => whnf) | (apply kF (by decide); conv => whnf) | (apply kB <;> intro _ <;> conv => whnf) | fail))
          refine ⟨m - 1, by omega, k + 1, by omega, ?_⟩
          rw [e40, q1, q2', hBC, insW_of (fun y hy => by simp at hy) hC]
         ·rw [List.concat_eq_append] at *
          have hBl : (B' ++ [a]).length = B'.length + 1 := by simp
          have hB300 : B'.length + 1 ≤ 600 := by
           have := congrArg List.length hBC
           rw [List.length_append, hBl] at this
           omega
          have g1 : decide (((((B' ++ [a]).length : Nat)) : Int) > 0) = true := decide_eq_true (by rw [hBl]; omega)
          have e1 : IntKind.i64.wrap (((B' ++ [a]).length : Nat) - 1 : Int) = ((B'.length : Nat) : Int) := by rw [hBl, wS (by omega) (by omega)]; omega
          have hgx : (((B' ++ [a]) ++ c :: C).map hdC)[(B' ++ [a]).length]? = some (hdC c) := by
           rw [List.getElem?_map, List.getElem?_append_right (Nat.le_refl _), Nat.sub_self]; rfl
          have hga : (((B' ++ [a]) ++ c :: C).map hdC)[B'.length]? = some (hdC a) := by
           rw [List.getElem?_map, List.append_assoc, List.getElem?_append_right (Nat.le_refl _), Nat.sub_self]; rfl
          have hLl : (((B' ++ [a]) ++ c :: C).map hdC).length = (B' ++ [a]).length + (1 + C.length) := by rw [List.length_map, List.length_append, List.length_cons]; omega
          have es1 : (((B' ++ [a]) ++ c :: C).map hdC).set (B' ++ [a]).length (List.take 0 (hdC c) ++ hdC a ++ List.drop (0 + (hdC a).length) (hdC c)) = ((B' ++ [a]) ++ a :: C).map hdC := by
           show (((B' ++ [a]) ++ c :: C).map hdC).set (B' ++ [a]).length (hdC a) = _
           rw [← List.map_set, List.set_append_right _ _ (Nat.le_refl _), Nat.sub_self]
           rfl
          have hga2 : (((B' ++ [a]) ++ a :: C).map hdC)[B'.length]? = some (hdC a) := by
           rw [List.getElem?_map, List.append_assoc, List.getElem?_append_right (Nat.le_refl _), Nat.sub_self]; rfl
          have es2 : (((B' ++ [a]) ++ a :: C).map hdC).set B'.length (List.take 0 (hdC a) ++ hdC c ++ List.drop (0 + (hdC c).length) (hdC a)) = (B' ++ c :: (a :: C)).map hdC := by
           show (((B' ++ [a]) ++ a :: C).map hdC).set B'.length (hdC c) = _
           rw [← List.map_set, List.append_assoc, List.set_append_right _ _ (Nat.le_refl _), Nat.sub_self]
           rfl
          have hLl2 : (((B' ++ [a]) ++ a :: C).map hdC).length = (B' ++ [a]).length + (1 + C.length) := by rw [List.length_map, List.length_append, List.length_cons]; omega
          have hexit : ¬ kLt c a → ∀ y ∈ B' ++ [a], ¬ kLt c y := fun hn y hy => by
           rcases List.mem_append.1 hy with hy | hy
           ·have hs := hws.so
            rw [hBC] at hs
            have := (List.pairwise_append.1 (List.pairwise_append.1 hs).1).2.2 y hy a (by simp)
            unfold kLt at *
            omega
           ·rw [List.mem_singleton.1 hy]; exact hn
          refine (Decidable.em (c.n < a.n)).elim (fun h1 => ?_) fun h1 => ?_
          ·have g2 : decide (c.n < a.n) = true := decide_eq_true h1
           have hlt : kLt c a := .inl h1
           conv => whnf
           (repeat' (first | (apply kT (by with_reducible first | rfl | assumption); conv => whnf) | (apply kF (by with_reducible first | rfl | assumption); conv => whnf) | (apply kT (by decide); conv => whnf) | (apply kF (by decide); conv => whnf) | (apply kB <;> intro _ <;> conv => whnf) | (refine ⟨(B' ++ [a]).length, rfl, by rw [hLl]; omega, ?_⟩; conv => whnf) | (refine ⟨B'.length, e1, by rw [hLl, hBl]; omega, ?_⟩; conv => whnf) | (refine ⟨_, hgx, ?_⟩; conv => whnf) | (refine ⟨_, hga, ?_⟩; conv => whnf) | (refine ⟨_, rfl, ?_⟩; conv => whnf) | (refine ⟨rfl, ?_⟩; conv => whnf) | fail))
           (refine ⟨Nat.le_refl 5, _, es1, ?_⟩; conv => whnf)
           (repeat' (first | (apply kT (by with_reducible first | rfl | assumption); conv => whnf) | (apply kF (by with_reducible first | rfl | assumption); conv => whnf) | (apply kT (by decide); conv => whnf) | (apply kF (by decide); conv => whnf) | (apply kB <;> intro _ <;> conv => whnf) | (refine ⟨B'.length, e1, by rw [hLl2, hBl]; omega, ?_⟩; conv => whnf) | (refine ⟨_, hga2, ?_⟩; conv => whnf) | (refine ⟨rfl, ?_⟩; conv => whnf) | fail))
           (refine ⟨Nat.le_refl 5, _, es2, ?_⟩; conv => whnf)
           refine ⟨q - 1, by omega, B', a :: C, by omega, by rw [List.append_assoc] at hBC; exact hBC, fun y hy => ?_, ?_⟩
           ·rcases List.mem_cons.1 hy with hy | hy
            ·rw [hy]; exact hlt
            ·exact hC y hy
           ·rw [e1]
          ·have g2 : decide (c.n < a.n) = false := decide_eq_false h1
           refine (Decidable.em (c.n = a.n)).elim (fun h2 => ?_) fun h2 => ?_
           ·have g3 : (c.n == a.n) = true := by rw [h2]; simp
            refine (Decidable.em (c.i < a.i)).elim (fun h3 => ?_) fun h3 => ?_
            ·have g4 : decide (c.i < a.i) = true := decide_eq_true h3
             have hlt : kLt c a := .inr ⟨h2, h3⟩
             conv => whnf
             (repeat' (first | (apply kT (by with_reducible first | rfl | assumption); conv => whnf) | (apply kF (by with_reducible first | rfl | assumption); conv => whnf) | (apply kT (by decide); conv => whnf) | (apply kF (by decide); conv => whnf) | (apply kB <;> intro _ <;> conv => whnf) | (refine ⟨(B' ++ [a]).length, rfl, by rw [hLl]; omega, ?_⟩; conv => whnf) | (refine ⟨B'.length, e1, by rw [hLl, hBl]; omega, ?_⟩; conv => whnf) | (refine ⟨_, hgx, ?_⟩; conv => whnf) | (refine ⟨_, hga, ?_⟩; conv => whnf) | (refine ⟨_, rfl, ?_⟩; conv => whnf) | (refine ⟨rfl, ?_⟩; conv => whnf) | fail))
             (refine ⟨Nat.le_refl 5, _, es1, ?_⟩; conv => whnf)
             (repeat' (first | (apply kT (by with_reducible first | rfl | assumption); conv => whnf) | (apply kF (by with_reducible first | rfl | assumption); conv => whnf) | (apply kT (by decide); conv => whnf) | (apply kF (by decide); conv => whnf) | (apply kB <;> intro _ <;> conv => whnf) | (refine ⟨B'.length, e1, by rw [hLl2, hBl]; omega, ?_⟩; conv => whnf) | (refine ⟨_, hga2, ?_⟩; conv => whnf) | (refine ⟨rfl, ?_⟩; conv => whnf) | fail))
             (refine ⟨Nat.le_refl 5, _, es2, ?_⟩; conv => whnf)
             refine ⟨q - 1, by omega, B', a :: C, by omega, by rw [List.append_assoc] at hBC; exact hBC, fun y hy => ?_, ?_⟩
             ·rcases List.mem_cons.1 hy with hy | hy
              ·rw [hy]; exact hlt
              ·exact hC y hy
             ·rw [e1]
            ·have g4 : decide (c.i < a.i) = false := decide_eq_false h3
             have hlt : ¬ kLt c a := by unfold kLt; omega
             have hBx := hexit hlt
             conv => whnf
             (repeat' (first | (apply kT (by with_reducible first | rfl | assumption); conv => whnf) | (apply kF (by with_reducible first | rfl | assumption); conv => whnf) | (apply kT (by decide); conv => whnf) | (apply kF (by decide); conv => whnf) | (apply kB <;> intro _ <;> conv => whnf) | (refine ⟨(B' ++ [a]).length, rfl, by rw [hLl]; omega, ?_⟩; conv => whnf) | (refine ⟨B'.length, e1, by rw [hLl, hBl]; omega, ?_⟩; conv => whnf) | (refine ⟨_, hgx, ?_⟩; conv => whnf) | (refine ⟨_, hga, ?_⟩; conv => whnf) | (refine ⟨_, rfl, ?_⟩; conv => whnf) | (refine ⟨rfl, ?_⟩; conv => whnf) | fail))
             refine ⟨m - 1, by omega, k + 1, by omega, ?_⟩
             rw [e40, q1, q2', hBC, insW_of hBx hC]
           ·have g3 : (c.n == a.n) = false := by rw [beq_eq_false_iff_ne]; exact h2
            have hlt : ¬ kLt c a := by unfold kLt; omega
            have hBx := hexit hlt
            conv => whnf
            (repeat' (first | (apply kT (by with_reducible first | rfl | assumption); conv => whnf) | (apply kF (by with_reducible first | rfl | assumption); conv => whnf) | (apply kT (by decide); conv => whnf) | (apply kF (by decide); conv => whnf) | (apply kB <;> intro _ <;> conv => whnf) | (refine ⟨(B' ++ [a]).length, rfl, by rw [hLl]; omega, ?_⟩; conv => whnf) | (refine ⟨B'.length, e1, by rw [hLl, hBl]; omega, ?_⟩; conv => whnf) | (refine ⟨_, hgx, ?_⟩; conv => whnf) | (refine ⟨_, hga, ?_⟩; conv => whnf) | (refine ⟨_, rfl, ?_⟩; conv => whnf) | (refine ⟨rfl, ?_⟩; conv => whnf) | fail))
            refine ⟨m - 1, by omega, k + 1, by omega, ?_⟩
            rw [e40, q1, q2', hBC, insW_of hBx hC]
  ·have f1 : decide (((40 * k : Nat) : Int) < ((b.map byC).length : Int)) = false := decide_eq_false (by rw [hm]; have := mt nCh_lt.2 hkl; omega)
   have et : (Vs b).take k = Vs b := List.take_of_length_le (by rw [Vs_len]; omega)
   rw [et]
   conv => whnf
   (apply kF (f1); conv => whnf)
   rfl
end Go.Ev.Ytljkplahkokpaaa


set_option linter.unusedVariables false
set_option linter.unusedSimpArgs false
set_option maxRecDepth 100000
namespace Go.Ev.Ytljkplahkokpaaa
open Go.Proofs
def badP (c d : Cd) : Prop := c.n = d.n ∧ (c.i = d.i ∨ c.m ≠ d.m)
theorem contra_yes {H : List Cd} (hn : H.Nodup) {i k : Nat} (hi : i < H.length) (hk : k < i) (hb : badP H[i] (H[k]'(by omega))) : contraB H = true := by
 unfold contraB
 refine decide_eq_true ⟨_, List.getElem_mem hi, _, List.getElem_mem (by omega), hb.1, fun e => ?_, hb.2⟩
 exact List.pairwise_iff_getElem.1 hn k i (by omega) hi hk e.symm
theorem contra_no {H : List Cd} (h : ∀ i (hi : i < H.length) k (hk : k < i), ¬ badP H[i] (H[k]'(by omega))) : contraB H = false := by
 unfold contraB
 rw [decide_eq_false_iff_not]
 rintro ⟨c, hc, d, hd, h1, h2, h3⟩
 obtain ⟨i, hi, rfl⟩ := List.getElem_of_mem hc
 obtain ⟨k, hk, rfl⟩ := List.getElem_of_mem hd
 rcases Nat.lt_trichotomy i k with hik | hik | hik
 ·exact h k hk i hik ⟨h1.symm, h3.imp Eq.symm fun e e2 => e e2.symm⟩
 ·subst hik; exact h2 rfl
 ·exact h i hi k hik ⟨h1, h3⟩
attribute [local irreducible] Pure Bor Iter Pan layB contraB
theorem contradict_pure (H : List Cd) (hn : H.Nodup) (hl : H.length ≤ 100000) : Pure Try.prog 20 [.seq (H.map hdC)] (dB (contraB H)) := by
 have hm : ((H.map hdC).length : Int) = H.length := by rw [List.length_map]
 refine pure_of pg Try.func20 (by kernel_rfl) ?_
 conv => whnf
 refine ⟨[], [0, 3], [], 0, fun m s => ∃ i : Nat, i + m = H.length ∧ (∀ i' (h : i' < H.length) k (hk : k < i'), i' < i → ¬ badP H[i'] (H[k]'(by omega))) ∧ s = ⟨[(0, .d (.seq (H.map hdC))), (3, .d (dI i))], [], 0⟩, ?_, ?_⟩
 ·conv => whnf
  exact ⟨H.length, 0, by omega, fun i' h k hk h0 => by omega, rfl⟩
 ·rintro m _ ⟨i, hi, hall, rfl⟩
  by_cases hil : i < H.length
  ·have f1 : decide ((i : Int) < ((H.map hdC).length : Int)) = true := decide_eq_true (by rw [hm]; omega)
   conv => whnf
   (repeat' (first | (apply kT (by with_reducible first | rfl | assumption); conv => whnf) | (apply kF (by with_reducible first | rfl | assumption); conv => whnf) | (apply kT (by decide); conv => whnf) | (apply kF (by decide); conv => whnf) | (apply kB <;> intro _ <;> conv => whnf) | fail))
   refine ⟨[], [0, 3, 4], [], 0, fun q s => ∃ k : Nat, k + q = i ∧ (∀ k' (h : k' < i), k' < k → ¬ badP H[i] (H[k']'(by omega))) ∧ s = ⟨[(0, .d (.seq (H.map hdC))), (3, .d (dI i)), (4, .d (dI k))], [], 0⟩, ?_, ?_⟩
   ·conv => whnf
    exact ⟨i, 0, by omega, fun k' h h0 => by omega, rfl⟩
   ·rintro q _ ⟨k, hk, hall2, rfl⟩
    by_cases hki : k < i
    ·have f2 : decide ((k : Int) < (i : Int)) = true := decide_eq_true (by omega)
     have hkl : k < H.length := by omega
     by_cases h1 : H[i].n = H[k].n
     ·have g1 : (H[i].n == H[k].n) = true := by rw [h1]; simp
      by_cases h2 : H[i].i = H[k].i
      ·have g2 : (H[i].i == H[k].i) = true := by rw [h2]; simp
       rw [contra_yes hn hil hki ⟨h1, .inl h2⟩]
       conv => whnf
       (repeat' (first | (apply kT (by with_reducible first | rfl | assumption); conv => whnf) | (apply kF (by with_reducible first | rfl | assumption); conv => whnf) | (apply kT (by decide); conv => whnf) | (apply kF (by decide); conv => whnf) | (apply kB <;> intro _ <;> conv => whnf) | (refine ⟨i, _, rfl, gethd H i hil, rfl, ?_⟩; conv => whnf) | (refine ⟨k, _, rfl, gethd H k hkl, rfl, ?_⟩; conv => whnf) | fail))
       rfl
      ·have g2 : (H[i].i == H[k].i) = false := by rw [beq_eq_false_iff_ne]; exact h2
       by_cases h3 : H[i].m = H[k].m
       ·have g3 : (H[i].m != H[k].m) = false := by rw [h3]; simp
        conv => whnf
        (repeat' (first | (apply kT (by with_reducible first | rfl | assumption); conv => whnf) | (apply kF (by with_reducible first | rfl | assumption); conv => whnf) | (apply kT (by decide); conv => whnf) | (apply kF (by decide); conv => whnf) | (apply kB <;> intro _ <;> conv => whnf) | (refine ⟨i, _, rfl, gethd H i hil, rfl, ?_⟩; conv => whnf) | (refine ⟨k, _, rfl, gethd H k hkl, rfl, ?_⟩; conv => whnf) | fail))
        refine ⟨q - 1, by omega, k + 1, by omega, fun k' h h0 => ?_, ?_⟩
        ·rcases Nat.lt_or_ge k' k with h4 | h4
         ·exact hall2 k' h h4
         ·have : k' = k := by omega
          subst this
          exact fun hb => hb.2.elim h2 fun e => e h3
        ·rw [w1 k (by omega)]
       ·have g3 : (H[i].m != H[k].m) = true := by simpa using h3
        rw [contra_yes hn hil hki ⟨h1, .inr h3⟩]
        conv => whnf
        (repeat' (first | (apply kT (by with_reducible first | rfl | assumption); conv => whnf) | (apply kF (by with_reducible first | rfl | assumption); conv => whnf) | (apply kT (by decide); conv => whnf) | (apply kF (by decide); conv => whnf) | (apply kB <;> intro _ <;> conv => whnf) | (refine ⟨i, _, rfl, gethd H i hil, rfl, ?_⟩; conv => whnf) | (refine ⟨k, _, rfl, gethd H k hkl, rfl, ?_⟩; conv => whnf) | fail))
        rfl
     ·have g1 : (H[i].n == H[k].n) = false := by rw [beq_eq_false_iff_ne]; exact h1
      conv => whnf
      (repeat' (first | (apply kT (by with_reducible first | rfl | assumption); conv => whnf) | (apply kF (by with_reducible first | rfl | assumption); conv => whnf) | (apply kT (by decide); conv => whnf) | (apply kF (by decide); conv => whnf) | (apply kB <;> intro _ <;> conv => whnf) | (refine ⟨i, _, rfl, gethd H i hil, rfl, ?_⟩; conv => whnf) | (refine ⟨k, _, rfl, gethd H k hkl, rfl, ?_⟩; conv => whnf) | fail))
      refine ⟨q - 1, by omega, k + 1, by omega, fun k' h h0 => ?_, ?_⟩
      ·rcases Nat.lt_or_ge k' k with h4 | h4
       ·exact hall2 k' h h4
       ·have : k' = k := by omega
        subst this
        exact fun hb => h1 hb.1
      ·rw [w1 k (by omega)]
    ·have f2 : decide ((k : Int) < (i : Int)) = false := decide_eq_false (by omega)
     conv => whnf
     (repeat' (first | (apply kT (by with_reducible first | rfl | assumption); conv => whnf) | (apply kF (by with_reducible first | rfl | assumption); conv => whnf) | (apply kT (by decide); conv => whnf) | (apply kF (by decide); conv => whnf) | (apply kB <;> intro _ <;> conv => whnf) | fail))
     refine ⟨m - 1, by omega, i + 1, by omega, fun i' h k' hk' h0 => ?_, ?_⟩
     ·rcases Nat.lt_or_ge i' i with h4 | h4
      ·exact hall i' h k' hk' h4
      ·have : i' = i := by omega
       subst this
       exact hall2 k' hk' (by omega)
     ·rw [w1 i (by omega)]
  ·have f1 : decide ((i : Int) < ((H.map hdC).length : Int)) = false := decide_eq_false (by rw [hm]; omega)
   rw [contra_no fun i' h k hk => hall i' h k hk (by omega)]
   conv => whnf
   (apply kF (f1); conv => whnf)
   rfl
end Go.Ev.Ytljkplahkokpaaa


set_option linter.unusedVariables false
set_option linter.unusedSimpArgs false
set_option maxRecDepth 100000
namespace Go.Ev.Ytljkplahkokpaaa
open Go.Proofs
def cutB (f : List Int) : List Int := f.take (40 * (f.length / 40))
def allL (l : List (List Int)) : List Int := (l.map cutB).flatten
theorem cutB_len (f : List Int) : (cutB f).length = 40 * (f.length / 40) := by
 unfold cutB
 rw [List.length_take]
 omega
theorem cutB_same (f : List Int) (c : Cd) : some c ∈ Vs f ↔ some c ∈ Vs (cutB f) := by
 have e : Vs f = Vs (cutB f) ++ Vs (f.drop (40 * (f.length / 40))) := by
  rw [← Vs_app (cutB_len f)]
  unfold cutB
  rw [List.take_append_drop]
 have hl : (f.drop (40 * (f.length / 40))).length < 40 := by rw [List.length_drop]; omega
 have hn : some c ∉ Vs (f.drop (40 * (f.length / 40))) := by
  generalize f.drop (40 * (f.length / 40)) = x at hl
  cases x with
  | nil => rw [Vs_nil]; simp
  | cons a r => rw [Vs_short (by simp) hl]; simp
 rw [e, List.mem_append]
 exact ⟨fun h => h.resolve_right hn, .inl⟩
theorem allL_cons (f : List Int) (l : List (List Int)) : allL (f :: l) = cutB f ++ allL l := by unfold allL; rw [List.map_cons, List.flatten_cons]
theorem all_same : ∀ l : List (List Int), SameS (VsF l) (Vs (allL l))
 | [], c => by unfold VsF allL; rw [List.map_nil, List.flatten_nil, List.map_nil, List.flatten_nil, Vs_nil]
 | f :: l, c => by
  have e : VsF (f :: l) = Vs f ++ VsF l := by unfold VsF; rw [List.map_cons, List.flatten_cons]
  rw [e, allL_cons, Vs_app (cutB_len f), List.mem_append, List.mem_append, all_same l c, cutB_same f c]
theorem all_by {l : List (List Int)} (h : ∀ f ∈ l, By f) : By (allL l) := flat_by fun y hy => by
 obtain ⟨f, hf, rfl⟩ := List.mem_map.1 hy
 exact fun z hz => h f hf z (List.mem_of_mem_take hz)
theorem all_snoc (l : List (List Int)) {k : Nat} (h : k < l.length) : allL (l.take (k + 1)) = allL (l.take k) ++ cutB l[k] := by
 unfold allL
 rw [List.take_add_one, List.getElem?_eq_getElem h, List.map_append, List.flatten_append]
 simp
theorem all_len_le : ∀ (l : List (List Int)), (∀ f ∈ l, f.length ≤ 8100) → (allL l).length ≤ 8100 * l.length
 | [], _ => by unfold allL; simp
 | f :: l, h => by
  have := all_len_le l fun x hx => h x (by simp [hx])
  have h2 := h f (by simp)
  rw [allL_cons, List.length_append, cutB_len, List.length_cons]
  omega
theorem mends_bad {l : List (List Int)} (h5 : l.length ≤ 5) (hg : ∀ f ∈ l, f.length ≤ 8000) (hb : ∀ f ∈ l, By f) (h : contraB (heldL (Vs (allL l))) = true) : MendL l = ([], 6) := by
 have hs := all_same l
 exact mend_bad h5 hg hb (((contra_iff _).1 h).imp (fun h1 => h1.mono fun c => (hs c).2) fun h1 => h1.mono fun c => (hs c).2)
theorem mends_ok {l : List (List Int)} (h5 : l.length ≤ 5) (hg : ∀ f ∈ l, f.length ≤ 8000) (hb : ∀ f ∈ l, By f) (h : contraB (heldL (Vs (allL l))) = false) :
  MendL l = if 8000 < 40 * (heldL (Vs (allL l))).length then ([], 3) else (((heldL (Vs (allL l))).map layB).flatten, 0) := by
 have hs := all_same l
 have hno : ¬ (Conf (Vs (allL l)) ∨ MConf (Vs (allL l))) := fun e => by rw [(contra_iff _).2 e] at h; cases h
 have hok : ∀ c, some c ∈ Vs (allL l) → CdOK c := fun c hc => Vs_ok (all_by hb) hc
 have hst := held_srt hok fun e => hno (.inl e)
 have hL : Srt (VsF l) (heldL (Vs (allL l))) := ⟨hst.1, fun c => (hst.2 c).trans (hs c).symm⟩
 rw [mend_ok h5 hg hb hL (fun e => hno (.inl (e.mono fun c => (hs c).1))) (fun e => hno (.inr (e.mono fun c => (hs c).1))), layL_len fun c hc => (hok c ((hst.2 c).1 hc)).many.1]
theorem mends_lim {l : List (List Int)} (h : 5 < l.length ∨ ∃ f ∈ l, 8000 < f.length) : MendL l = ([], 3) := by
 unfold MendL
 rw [if_pos]
 refine h.imp id fun ⟨f, hf, h⟩ => ?_
 rw [List.all_eq_false]
 exact ⟨f, hf, by unfold goodF; simpa using h⟩
end Go.Ev.Ytljkplahkokpaaa


set_option linter.unusedVariables false
set_option linter.unusedSimpArgs false
set_option maxRecDepth 100000
namespace Go.Ev.Ytljkplahkokpaaa
open Go.Proofs
def shortM (l : List (List Int)) : Bool := decide (l.length ≤ 8) && l.all fun f => decide (f.length ≤ 8100)
attribute [local irreducible] Pure Bor Iter Pan MendL layB heldL Vs contraB allL
theorem shortM_pure (l : List (List Int)) : Pure Try.prog 36 [.seq (l.map chE)] (dB (shortM l)) := by
 have hm : ((l.map chE).length : Int) = l.length := by rw [List.length_map]
 refine pure_of pg Try.func36 (by kernel_rfl) ?_
 conv => whnf
 refine ⟨[], [0, 3], [], 0, fun m s => ∃ k : Nat, k + m = 9 ∧ k ≤ l.length ∧ (∀ i (h : i < k) (h1 : i < l.length), l[i].length ≤ 8100) ∧ s = ⟨[(0, .d (.seq (l.map chE))), (3, .d (dI k))], [], 0⟩, ?_, ?_⟩
 ·conv => whnf
  exact ⟨9, 0, by omega, by omega, fun i h => by omega, rfl⟩
 ·rintro m _ ⟨k, hk, hkl, hall, rfl⟩
  by_cases hkl2 : k < l.length
  ·have f1 : decide ((k : Int) < ((l.map chE).length : Int)) = true := decide_eq_true (by rw [hm]; omega)
   by_cases h13 : k < 9
   ·have f2 : decide ((k : Int) < 9) = true := decide_eq_true (by omega)
    have hmp : ((l[k].map byC).length : Int) = l[k].length := by rw [List.length_map]
    by_cases h110 : l[k].length ≤ 8100
    ·have f3 : decide (((l[k].map byC).length : Int) > 8100) = false := decide_eq_false (by rw [hmp]; omega)
     conv => whnf
     (repeat' (first | (apply kT (by with_reducible first | rfl | assumption); conv => whnf) | (apply kF (by with_reducible first | rfl | assumption); conv => whnf) | (apply kT (by decide); conv => whnf) | (apply kF (by decide); conv => whnf) | (apply kB <;> intro _ <;> conv => whnf) | (refine ⟨k, _, rfl, getch l k hkl2, rfl, ?_⟩; conv => whnf) | fail))
     refine ⟨m - 1, by omega, k + 1, by omega, by omega, fun i hi h1 => ?_, ?_⟩
     ·by_cases h : i < k
      ·exact hall i h h1
      ·have : i = k := by omega
       subst this
       exact h110
     ·rw [w1 k (by omega)]
    ·have f3 : decide (((l[k].map byC).length : Int) > 8100) = true := decide_eq_true (by rw [hmp]; omega)
     have e : shortM l = false := by
      unfold shortM
      rw [show (l.all fun s => decide (s.length ≤ 8100)) = false from by
       rw [List.all_eq_false]
       exact ⟨l[k], List.getElem_mem _, by simpa using h110⟩, Bool.and_false]
     rw [e]
     conv => whnf
     (repeat' (first | (apply kT (by with_reducible first | rfl | assumption); conv => whnf) | (apply kF (by with_reducible first | rfl | assumption); conv => whnf) | (apply kT (by decide); conv => whnf) | (apply kF (by decide); conv => whnf) | (apply kB <;> intro _ <;> conv => whnf) | (refine ⟨k, _, rfl, getch l k hkl2, rfl, ?_⟩; conv => whnf) | fail))
     rfl
   ·have f2 : decide ((k : Int) < 9) = false := decide_eq_false (by omega)
    have f4 : decide (((l.map chE).length : Int) ≤ 8) = false := decide_eq_false (by rw [hm]; omega)
    have e : shortM l = false := by unfold shortM; rw [decide_eq_false (by omega), Bool.false_and]
    rw [e]
    conv => whnf
    (repeat' (first | (apply kT (by with_reducible first | rfl | assumption); conv => whnf) | (apply kF (by with_reducible first | rfl | assumption); conv => whnf) | (apply kT (by decide); conv => whnf) | (apply kF (by decide); conv => whnf) | (apply kB <;> intro _ <;> conv => whnf) | fail))
    rw [f4]
    rfl
  ·have f1 : decide ((k : Int) < ((l.map chE).length : Int)) = false := decide_eq_false (by rw [hm]; omega)
   have e : shortM l = decide (((l.map chE).length : Int) ≤ 8) := by
    unfold shortM
    rw [show (l.all fun s => decide (s.length ≤ 8100)) = true from List.all_eq_true.2 fun s hs => by
     obtain ⟨i, hi, rfl⟩ := List.getElem_of_mem hs
     exact decide_eq_true (hall i (by omega) hi), Bool.and_true, hm]
    by_cases h : l.length ≤ 8
    ·rw [decide_eq_true h, decide_eq_true (by omega)]
    ·rw [decide_eq_false h, decide_eq_false (by omega)]
   rw [e]
   conv => whnf
   (repeat' (first | (apply kT (by with_reducible first | rfl | assumption); conv => whnf) | (apply kF (by with_reducible first | rfl | assumption); conv => whnf) | (apply kT (by decide); conv => whnf) | (apply kF (by decide); conv => whnf) | (apply kB <;> intro _ <;> conv => whnf) | fail))
   rfl
def wantM (n : Nat) (l : List (List Int)) : Int := bif decide (5 < n) || l.any (fun f => decide (8000 < f.length)) then 3 else 0
theorem wantM_snoc (n : Nat) (l : List (List Int)) {k : Nat} (h : k < l.length) : wantM n (l.take (k + 1)) = bif decide (8000 < l[k].length) then 3 else wantM n (l.take k) := by
 unfold wantM
 have e : ([l[k]].any fun f => decide (8000 < f.length)) = decide (8000 < l[k].length) := by simp
 rw [List.take_add_one, List.getElem?_eq_getElem h, List.any_append, Option.toList_some, e]
 cases decide (8000 < l[k].length) <;> cases decide (5 < n) <;> cases (l.take k).any _ <;> rfl
theorem wantM_cases (l : List (List Int)) : (wantM l.length l = 3 ∧ (5 < l.length ∨ ∃ f ∈ l, 8000 < f.length)) ∨ (wantM l.length l = 0 ∧ l.length ≤ 5 ∧ ∀ f ∈ l, f.length ≤ 8000) := by
 unfold wantM
 by_cases h : 5 < l.length
 ·rw [decide_eq_true h]; exact .inl ⟨rfl, .inl h⟩
 ·rw [decide_eq_false h, Bool.false_or]
  cases ha : l.any fun f => decide (8000 < f.length) with
  | true =>
   obtain ⟨f, hf, h8⟩ := List.any_eq_true.1 ha
   exact .inl ⟨rfl, .inr ⟨f, hf, by simpa using h8⟩⟩
  | false =>
   refine .inr ⟨rfl, by omega, fun f hf => ?_⟩
   have := List.any_eq_false.1 ha f hf
   simpa using this
attribute [local irreducible] wantM
theorem mends_due (l : List (List Int)) (hb : ∀ f ∈ l, By f) (h20 : (allL l).length ≤ 20000) : ∃ (b : List Int) (e W : Int) (N : Nat), MendL l = (b, e) ∧ By b ∧
  ((wantM l.length l = 3 ∧ b = [] ∧ e = 3) ∨ (wantM l.length l = 0 ∧ N = (heldL (Vs (allL l))).length ∧
   ((contraB (heldL (Vs (allL l))) = true ∧ b = [] ∧ e = 6) ∨ (contraB (heldL (Vs (allL l))) = false ∧ 8000 < 40 * N ∧ b = [] ∧ e = 3) ∨ (contraB (heldL (Vs (allL l))) = false ∧ 40 * N ≤ 8000 ∧ b = ((heldL (Vs (allL l))).map layB).flatten ∧ e = 0)))) := by
 rcases wantM_cases l with ⟨hw, hc⟩ | ⟨hw, h5, h8⟩
 ·exact ⟨_, _, 0, 0, mends_lim hc, fun x hx => by simp at hx, .inl ⟨hw, rfl, rfl⟩⟩
 ·cases hco : contraB (heldL (Vs (allL l))) with
  | true => exact ⟨_, _, 0, _, mends_bad h5 h8 hb hco, fun x hx => by simp at hx, .inr ⟨hw, rfl, .inl ⟨rfl, rfl, rfl⟩⟩⟩
  | false =>
   have h := mends_ok h5 h8 hb hco
   by_cases h4 : 8000 < 40 * (heldL (Vs (allL l))).length
   ·rw [if_pos h4] at h
    exact ⟨_, _, 0, _, h, fun x hx => by simp at hx, .inr ⟨hw, rfl, .inr (.inl ⟨rfl, h4, rfl, rfl⟩)⟩⟩
   ·rw [if_neg h4] at h
    refine ⟨_, _, 0, _, h, cat_by fun c hc => Vs_ok (all_by hb) (mem_heldL.1 hc), .inr ⟨hw, rfl, .inr (.inr ⟨rfl, by omega, rfl, rfl⟩)⟩⟩
theorem strB_size (l : List Int) : (strB l).size = l.length := by unfold strB; simp [ByteArray.size]
theorem nil_by : By [] := fun x hx => by simp at hx
set_option maxHeartbeats 4000000 in
theorem mends_walk (l : List (List Int)) (hb : ∀ f ∈ l, By f) (hsh : shortM l = true) : Pure Try.prog 7 [.seq (l.map chE)] (dB true) := by
 have hm : ((l.map chE).length : Int) = l.length := by rw [List.length_map]
 have cs := shortM_pure l
 rw [hsh] at cs
 unfold shortM at hsh
 rw [Bool.and_eq_true, decide_eq_true_eq, List.all_eq_true] at hsh
 obtain ⟨h8, h81⟩ := hsh
 have h81 : ∀ f ∈ l, f.length ≤ 8100 := fun f hf => by simpa using h81 f hf
 have hAl : ∀ k, (allL (l.take k)).length ≤ 64800 := fun k => by
  have := all_len_le (l.take k) fun f hf => h81 f (List.mem_of_mem_take hf)
  rw [List.length_take] at this
  omega
 have cf := files_pure l (by omega) fun f hf => by have := h81 f hf; omega
 have hw0 : (decide (((l.map chE).length : Int) > 5) = true ∧ wantM l.length (l.take 0) = 3) ∨ (decide (((l.map chE).length : Int) > 5) = false ∧ wantM l.length (l.take 0) = 0) := by
  rw [hm]
  by_cases h : 5 < l.length
  ·exact .inl ⟨decide_eq_true (by omega), by unfold wantM; rw [decide_eq_true h]; rfl⟩
  ·exact .inr ⟨decide_eq_false (by omega), by unfold wantM; rw [decide_eq_false h]; rfl⟩
 have hwk : ∀ k, k ≤ l.length → ∃ w, wantM l.length (l.take k) = w := fun k _ => ⟨_, rfl⟩
 have hal0 : allL (l.take 0) = [] := by unfold allL; rfl
 refine pure_of pg Try.func7 (by kernel_rfl) ?_
 rcases hw0 with ⟨f1, hw0⟩ | ⟨f1, hw0⟩
 all_goals
  conv => whnf
  (repeat' (first | (apply kT (by with_reducible first | rfl | assumption); conv => whnf) | (apply kF (by with_reducible first | rfl | assumption); conv => whnf) | (apply kT (by decide); conv => whnf) | (apply kF (by decide); conv => whnf) | (apply kB <;> intro _ <;> conv => whnf) | (refine .inl ⟨_, cs, ?_⟩; conv => whnf) | fail))
  refine ⟨[.own 3 5, .rex], [0, 3, 4, 5], [0], 1, fun m s => ∃ k : Nat, k + m = l.length ∧ s = ⟨[(0, .d (.seq (l.map chE))), (3, .own 0), (4, .d (dI (wantM l.length (l.take k)))), (5, .d (dI k))], [(0, .arr 5 ((allL (l.take k)).map byC))], 1⟩, ?_, ?_⟩
  ·conv => whnf
   refine ⟨l.length, 0, by omega, ?_⟩
   rw [hw0, hal0]
   rfl
  ·rintro m _ ⟨k, hk, rfl⟩
   by_cases hkl : k < l.length
   ·have g1 : decide ((k : Int) < ((l.map chE).length : Int)) = true := decide_eq_true (by rw [hm]; omega)
    have hfk := h81 _ (List.getElem_mem hkl)
    have hmf : ((l[k].map byC).length : Int) = l[k].length := by rw [List.length_map]
    have hq : IntKind.i64.wrap ((IntKind.i64.wrap (((l[k].map byC).length : Int).tdiv 40)) * 40) = ((40 * (l[k].length / 40) : Nat) : Int) := by
     rw [hmf, Int.tdiv_eq_ediv_of_nonneg (by omega), wS (z := (l[k].length : Int) / 40) (by omega) (by omega), wS (by omega) (by omega)]
     omega
    have hsn := wantM_snoc l.length l hkl
    have has := all_snoc l hkl
    have hcut : List.drop 0 (List.take (40 * (l[k].length / 40)) (l[k].map byC)) = (cutB l[k]).map byC := by
     unfold cutB
     rw [List.drop_zero, List.map_take]
    have hak := hAl k
    have hcl := cutB_len l[k]
    rcases Decidable.em (8000 < l[k].length) with h80 | h80
    ·have g2 : decide (((l[k].map byC).length : Int) > 8000) = true := decide_eq_true (by rw [hmf]; omega)
     rw [decide_eq_true h80, cond_true] at hsn
     conv => whnf
     (repeat' (first | (apply kT (by with_reducible first | rfl | assumption); conv => whnf) | (apply kF (by with_reducible first | rfl | assumption); conv => whnf) | (apply kT (by decide); conv => whnf) | (apply kF (by decide); conv => whnf) | (apply kB <;> intro _ <;> conv => whnf) | (refine ⟨k, _, rfl, getch l k hkl, rfl, ?_⟩; conv => whnf) | (refine ⟨by decide, ?_⟩; conv => whnf) | fail))
     (refine ⟨40 * (l[k].length / 40), hq, by omega, by rw [List.length_map]; omega, byL _, ?_⟩; conv => whnf)
     rw [hcut]
     (refine ⟨byL _, by rw [List.length_map, List.length_map]; show (_ + _) * 1 ≤ _; omega, ?_⟩; conv => whnf)
     (refine ⟨[105], ?_⟩; conv => whnf)
     refine ⟨m - 1, by omega, k + 1, by omega, ?_⟩
     rw [hsn, w1 k (by omega), has, List.map_append]
     rfl
    ·have g2 : decide (((l[k].map byC).length : Int) > 8000) = false := decide_eq_false (by rw [hmf]; omega)
     rw [decide_eq_false h80, cond_false] at hsn
     conv => whnf
     (repeat' (first | (apply kT (by with_reducible first | rfl | assumption); conv => whnf) | (apply kF (by with_reducible first | rfl | assumption); conv => whnf) | (apply kT (by decide); conv => whnf) | (apply kF (by decide); conv => whnf) | (apply kB <;> intro _ <;> conv => whnf) | (refine ⟨k, _, rfl, getch l k hkl, rfl, ?_⟩; conv => whnf) | (refine ⟨by decide, ?_⟩; conv => whnf) | fail))
     (refine ⟨40 * (l[k].length / 40), hq, by omega, by rw [List.length_map]; omega, byL _, ?_⟩; conv => whnf)
     rw [hcut]
     (refine ⟨byL _, by rw [List.length_map, List.length_map]; show (_ + _) * 1 ≤ _; omega, ?_⟩; conv => whnf)
     (refine ⟨[105], ?_⟩; conv => whnf)
     refine ⟨m - 1, by omega, k + 1, by omega, ?_⟩
     rw [hsn, w1 k (by omega), has, List.map_append]
     rfl
   ·have g1 : decide ((k : Int) < ((l.map chE).length : Int)) = false := decide_eq_false (by rw [hm]; omega)
    have ekl : k = l.length := by omega
    have hak := hAl k
    rw [ekl, List.take_length] at hak ⊢
    rw [ekl] at g1
    have hmA : (((allL l).map byC).length : Int) = (allL l).length := by rw [List.length_map]
    rcases Decidable.em ((allL l).length ≤ 20000) with h20 | h20
    ·have g2 : decide ((((allL l).map byC).length : Int) > 20000) = false := decide_eq_false (by rw [hmA]; omega)
     obtain ⟨b, e, W, N, hM, hby, hcase⟩ := mends_due l hb h20
     have cm := Mend_as (by omega) hb hM
     have hA := all_by hb
     have cbl := Blocks_pure (allL l) hA h20
     have hws := heldL_ws (os := Vs (allL l)) fun c hc => Vs_ok hA hc
     have hlen : (heldL (Vs (allL l))).length ≤ 600 := by
      have := heldL_len (Vs (allL l)) []
      rw [Vs_len, List.length_nil] at this
      unfold nCh at this
      have e : heldL (Vs (allL l)) = (Vs (allL l)).foldl addH [] := by unfold heldL; rfl
      rw [e]
      omega
     have cco := contradict_pure (heldL (Vs (allL l))) hws.nd (by omega)
     have hok := hws.ok
     have sq : (strB ([] : List Int)).toList == (strB ([] : List Int)).toList := beq_self_eq_true _
     rcases hcase with ⟨hw3, rfl, rfl⟩ | ⟨hw0, hN, hcase⟩
     ·rw [hw3]
      conv => whnf
      (repeat' (first | (apply kT (by with_reducible first | rfl | assumption); conv => whnf) | (apply kF (by with_reducible first | rfl | assumption); conv => whnf) | (apply kT (by decide); conv => whnf) | (apply kF (by decide); conv => whnf) | (apply kB <;> intro _ <;> conv => whnf) | (refine .inl ⟨_, cf, ?_⟩; conv => whnf) | (refine .inl ⟨_, cm, ?_⟩; conv => whnf) | (refine .inl ⟨_, awake_pure, ?_⟩; conv => whnf) | fail))
      (refine ⟨strB [], strB_bytes nil_by, ?_⟩; conv => whnf)
      (repeat' (first | (apply kT (by with_reducible first | rfl | assumption); conv => whnf) | (apply kF (by with_reducible first | rfl | assumption); conv => whnf) | (apply kT (by decide); conv => whnf) | (apply kF (by decide); conv => whnf) | (apply kB <;> intro _ <;> conv => whnf) | fail))
      (refine ⟨strB [], strB_bytes nil_by, ?_⟩; conv => whnf)
      (repeat' (first | (apply kT (by with_reducible first | rfl | assumption); conv => whnf) | (apply kF (by with_reducible first | rfl | assumption); conv => whnf) | (apply kT (by decide); conv => whnf) | (apply kF (by decide); conv => whnf) | (apply kB <;> intro _ <;> conv => whnf) | fail))
      (refine ⟨true, beq_self_eq_true _, ?_⟩; conv => whnf)
      (repeat' (first | (apply kT (by with_reducible first | rfl | assumption); conv => whnf) | (apply kF (by with_reducible first | rfl | assumption); conv => whnf) | (apply kT (by decide); conv => whnf) | (apply kF (by decide); conv => whnf) | (apply kB <;> intro _ <;> conv => whnf) | (refine .inl ⟨_, awake_pure, ?_⟩; conv => whnf) | fail))
      rfl
     ·rw [hw0]
      generalize heldL (Vs (allL l)) = H at *
      generalize (Vs (allL l)).countP Option.isNone = sp at *
      obtain ⟨co, hco⟩ : ∃ co, co = contraB H := ⟨_, rfl⟩
      rw [← hco] at cco hcase
      have hmH : ((H.map hdC).length : Int) = H.length := by rw [List.length_map]
      have e40 : IntKind.i64.wrap (40 * ((H.map hdC).length : Int)) = ((40 * H.length : Nat) : Int) := by rw [hmH, wS (by omega) (by omega)]; omega
      rcases hcase with ⟨hc, rfl, rfl⟩ | ⟨hc, hbig, rfl, rfl⟩ | ⟨hc, hsm, hb', rfl⟩
      ·rw [hc] at cco
       conv => whnf
       (repeat' (first | (apply kT (by with_reducible first | rfl | assumption); conv => whnf) | (apply kF (by with_reducible first | rfl | assumption); conv => whnf) | (apply kT (by decide); conv => whnf) | (apply kF (by decide); conv => whnf) | (apply kB <;> intro _ <;> conv => whnf) | (refine .inl ⟨_, cf, ?_⟩; conv => whnf) | (refine .inl ⟨_, cm, ?_⟩; conv => whnf) | (refine .inl ⟨_, cbl, ?_⟩; conv => whnf) | (refine ChC.r ?_; conv => whnf) | (refine .inl ⟨_, cco, ?_⟩; conv => whnf) | fail))
       refine ⟨[.own 8 5, .rex], [4, 6, 7, 8, 9, 11], [1], 2, fun m s => ∃ i : Nat, i + m = H.length ∧ i = 0 ∧ s = ⟨[(4, .d (dI 6)), (6, .d (bsD [])), (7, .d (dI 6)), (8, .own 1), (9, .d (.seq (H.map hdC))), (11, .d (dI i))], [(1, .arr 5 [])], 2⟩, ?_, ?_⟩
       ·conv => whnf
        exact ⟨H.length, 0, by omega, rfl, rfl⟩
       ·rintro q _ ⟨i, hi, rfl, rfl⟩
        conv => whnf
        (repeat' (first | (apply kT (by with_reducible first | rfl | assumption); conv => whnf) | (apply kF (by with_reducible first | rfl | assumption); conv => whnf) | (apply kT (by decide); conv => whnf) | (apply kF (by decide); conv => whnf) | (apply kB <;> intro _ <;> conv => whnf) | fail))
        all_goals
         (refine ⟨strB [], strB_bytes nil_by, ?_⟩; conv => whnf)
         (repeat' (first | (apply kT (by with_reducible first | rfl | assumption); conv => whnf) | (apply kF (by with_reducible first | rfl | assumption); conv => whnf) | (apply kT (by decide); conv => whnf) | (apply kF (by decide); conv => whnf) | (apply kB <;> intro _ <;> conv => whnf) | fail))
         (refine ⟨strB [], strB_bytes nil_by, ?_⟩; conv => whnf)
         (repeat' (first | (apply kT (by with_reducible first | rfl | assumption); conv => whnf) | (apply kF (by with_reducible first | rfl | assumption); conv => whnf) | (apply kT (by decide); conv => whnf) | (apply kF (by decide); conv => whnf) | (apply kB <;> intro _ <;> conv => whnf) | fail))
         (refine ⟨true, beq_self_eq_true _, ?_⟩; conv => whnf)
         (repeat' (first | (apply kT (by with_reducible first | rfl | assumption); conv => whnf) | (apply kF (by with_reducible first | rfl | assumption); conv => whnf) | (apply kT (by decide); conv => whnf) | (apply kF (by decide); conv => whnf) | (apply kB <;> intro _ <;> conv => whnf) | (refine .inl ⟨_, awake_pure, ?_⟩; conv => whnf) | fail))
         rfl
      ·rw [hc] at cco
       have g3 : decide (IntKind.i64.wrap (40 * ((H.map hdC).length : Int)) > 8000) = true := decide_eq_true (by rw [e40]; omega)
       conv => whnf
       (repeat' (first | (apply kT (by with_reducible first | rfl | assumption); conv => whnf) | (apply kF (by with_reducible first | rfl | assumption); conv => whnf) | (apply kT (by decide); conv => whnf) | (apply kF (by decide); conv => whnf) | (apply kB <;> intro _ <;> conv => whnf) | (refine .inl ⟨_, cf, ?_⟩; conv => whnf) | (refine .inl ⟨_, cm, ?_⟩; conv => whnf) | (refine .inl ⟨_, cbl, ?_⟩; conv => whnf) | (refine ChC.r ?_; conv => whnf) | (refine .inl ⟨_, cco, ?_⟩; conv => whnf) | fail))
       refine ⟨[.own 8 5, .rex], [4, 6, 7, 8, 9, 11], [1], 2, fun m s => ∃ i : Nat, i + m = H.length ∧ i = 0 ∧ s = ⟨[(4, .d (dI 3)), (6, .d (bsD [])), (7, .d (dI 3)), (8, .own 1), (9, .d (.seq (H.map hdC))), (11, .d (dI i))], [(1, .arr 5 [])], 2⟩, ?_, ?_⟩
       ·conv => whnf
        exact ⟨H.length, 0, by omega, rfl, rfl⟩
       ·rintro q _ ⟨i, hi, rfl, rfl⟩
        conv => whnf
        (repeat' (first | (apply kT (by with_reducible first | rfl | assumption); conv => whnf) | (apply kF (by with_reducible first | rfl | assumption); conv => whnf) | (apply kT (by decide); conv => whnf) | (apply kF (by decide); conv => whnf) | (apply kB <;> intro _ <;> conv => whnf) | fail))
        all_goals
         (refine ⟨strB [], strB_bytes nil_by, ?_⟩; conv => whnf)
         (repeat' (first | (apply kT (by with_reducible first | rfl | assumption); conv => whnf) | (apply kF (by with_reducible first | rfl | assumption); conv => whnf) | (apply kT (by decide); conv => whnf) | (apply kF (by decide); conv => whnf) | (apply kB <;> intro _ <;> conv => whnf) | fail))
         (refine ⟨strB [], strB_bytes nil_by, ?_⟩; conv => whnf)
         (repeat' (first | (apply kT (by with_reducible first | rfl | assumption); conv => whnf) | (apply kF (by with_reducible first | rfl | assumption); conv => whnf) | (apply kT (by decide); conv => whnf) | (apply kF (by decide); conv => whnf) | (apply kB <;> intro _ <;> conv => whnf) | fail))
         (refine ⟨true, beq_self_eq_true _, ?_⟩; conv => whnf)
         (repeat' (first | (apply kT (by with_reducible first | rfl | assumption); conv => whnf) | (apply kF (by with_reducible first | rfl | assumption); conv => whnf) | (apply kT (by decide); conv => whnf) | (apply kF (by decide); conv => whnf) | (apply kB <;> intro _ <;> conv => whnf) | (refine .inl ⟨_, awake_pure, ?_⟩; conv => whnf) | fail))
         rfl
      ·rw [hc] at cco
       have g3 : decide (IntKind.i64.wrap (40 * ((H.map hdC).length : Int)) > 8000) = false := decide_eq_false (by rw [e40]; omega)
       conv => whnf
       (repeat' (first | (apply kT (by with_reducible first | rfl | assumption); conv => whnf) | (apply kF (by with_reducible first | rfl | assumption); conv => whnf) | (apply kT (by decide); conv => whnf) | (apply kF (by decide); conv => whnf) | (apply kB <;> intro _ <;> conv => whnf) | (refine .inl ⟨_, cf, ?_⟩; conv => whnf) | (refine .inl ⟨_, cm, ?_⟩; conv => whnf) | (refine .inl ⟨_, cbl, ?_⟩; conv => whnf) | (refine ChC.r ?_; conv => whnf) | (refine .inl ⟨_, cco, ?_⟩; conv => whnf) | fail))
       refine ⟨[.own 8 5, .rex], [4, 6, 7, 8, 9, 11], [1], 2, fun m s => ∃ i : Nat, i + m = H.length ∧ s = ⟨[(4, .d (dI 0)), (6, .d (bsD b)), (7, .d (dI 0)), (8, .own 1), (9, .d (.seq (H.map hdC))), (11, .d (dI i))], [(1, .arr 5 (((H.take i).map layB).flatten.map byC))], 2⟩, ?_, ?_⟩
       ·conv => whnf
        exact ⟨H.length, 0, by omega, rfl⟩
       ·rintro q _ ⟨i, hi, rfl⟩
        rcases Decidable.em (i < H.length) with hil | hil
        ·have k1 : decide ((i : Int) < ((H.map hdC).length : Int)) = true := decide_eq_true (by rw [hmH]; omega)
         have hci := hok _ (List.getElem_mem hil)
         have hlb := layB_by hci.many.1 (runB_ok.1 hci.2.2.2.1).2.2
         have hfl : ((H.take (i + 1)).map layB).flatten = ((H.take i).map layB).flatten ++ layB H[i] := by
          rw [List.take_add_one, List.getElem?_eq_getElem hil, List.map_append, List.flatten_append]
          simp
         have hl1 : ((H.take i).map layB).flatten.length ≤ 24000 := by
          rw [layL_len fun c hc => (hok c (List.mem_of_mem_take hc)).many.1, List.length_take]
          omega
         have hl2 : (strB (layB H[i])).size = 40 := by rw [strB_size, lay_len hci.many.1]
         conv => whnf
         (repeat' (first | (apply kT (by with_reducible first | rfl | assumption); conv => whnf) | (apply kF (by with_reducible first | rfl | assumption); conv => whnf) | (apply kT (by decide); conv => whnf) | (apply kF (by decide); conv => whnf) | (apply kB <;> intro _ <;> conv => whnf) | (refine ⟨i, _, rfl, gethd H i hil, rfl, ?_⟩; conv => whnf) | fail))
         (refine ⟨by rw [List.length_map, hl2]; show (_ + 40) * 1 ≤ _; omega, (((H.take (i + 1)).map layB).flatten).map byC, by rw [hfl, List.map_append, strB_bytes hlb], ?_⟩; conv => whnf)
         (refine ⟨[0, 2], ?_⟩; conv => whnf)
         refine ⟨q - 1, by omega, i + 1, by omega, ?_⟩
         rw [w1 i (by omega)]
         rfl
        ·have k1 : decide ((i : Int) < ((H.map hdC).length : Int)) = false := decide_eq_false (by rw [hmH]; omega)
         have ei : H.take i = H := List.take_of_length_le (by omega)
         rw [ei, ← hb']
         conv => whnf
         (repeat' (first | (apply kT (by with_reducible first | rfl | assumption); conv => whnf) | (apply kF (by with_reducible first | rfl | assumption); conv => whnf) | (apply kT (by decide); conv => whnf) | (apply kF (by decide); conv => whnf) | (apply kB <;> intro _ <;> conv => whnf) | fail))
         (refine ⟨strB b, strB_bytes hby, ?_⟩; conv => whnf)
         (repeat' (first | (apply kT (by with_reducible first | rfl | assumption); conv => whnf) | (apply kF (by with_reducible first | rfl | assumption); conv => whnf) | (apply kT (by decide); conv => whnf) | (apply kF (by decide); conv => whnf) | (apply kB <;> intro _ <;> conv => whnf) | fail))
         (refine ⟨strB b, strB_bytes hby, ?_⟩; conv => whnf)
         (repeat' (first | (apply kT (by with_reducible first | rfl | assumption); conv => whnf) | (apply kF (by with_reducible first | rfl | assumption); conv => whnf) | (apply kT (by decide); conv => whnf) | (apply kF (by decide); conv => whnf) | (apply kB <;> intro _ <;> conv => whnf) | fail))
         (refine ⟨true, beq_self_eq_true _, ?_⟩; conv => whnf)
         (repeat' (first | (apply kT (by with_reducible first | rfl | assumption); conv => whnf) | (apply kF (by with_reducible first | rfl | assumption); conv => whnf) | (apply kT (by decide); conv => whnf) | (apply kF (by decide); conv => whnf) | (apply kB <;> intro _ <;> conv => whnf) | (refine .inl ⟨_, awake_pure, ?_⟩; conv => whnf) | fail))
         rfl
    ·have g2 : decide ((((allL l).map byC).length : Int) > 20000) = true := decide_eq_true (by rw [hmA]; omega)
     conv => whnf
     (repeat' (first | (apply kT (by with_reducible first | rfl | assumption); conv => whnf) | (apply kF (by with_reducible first | rfl | assumption); conv => whnf) | (apply kT (by decide); conv => whnf) | (apply kF (by decide); conv => whnf) | (apply kB <;> intro _ <;> conv => whnf) | (refine .inl ⟨_, awake_pure, ?_⟩; conv => whnf) | fail))
     rfl
theorem mends_pure (l : List (List Int)) (hb : ∀ f ∈ l, By f) : Pure Try.prog 7 [.seq (l.map chE)] (dB true) := by
 cases hsh : shortM l with
 | true => exact mends_walk l hb hsh
 | false =>
  have cs := shortM_pure l
  rw [hsh] at cs
  refine pure_of pg Try.func7 (by kernel_rfl) ?_
  conv => whnf
  (repeat' (first | (apply kT (by with_reducible first | rfl | assumption); conv => whnf) | (apply kF (by with_reducible first | rfl | assumption); conv => whnf) | (apply kT (by decide); conv => whnf) | (apply kF (by decide); conv => whnf) | (apply kB <;> intro _ <;> conv => whnf) | (refine .inl ⟨_, cs, ?_⟩; conv => whnf) | (refine .inl ⟨_, awake_pure, ?_⟩; conv => whnf) | fail))
  rfl
end Go.Ev.Ytljkplahkokpaaa


set_option linter.unusedVariables false
set_option linter.unusedSimpArgs false
namespace Go.Ev.Ytljkplahkokpaaa
open Go.Proofs
theorem map_of {α β : Type} {f : α → β} {q : α → Prop} : ∀ {es : List β}, (∀ el ∈ es, ∃ x, el = f x ∧ q x) → ∃ l : List α, es = l.map f ∧ ∀ x ∈ l, q x
 | [], _ => ⟨[], rfl, fun x hx => by cases hx⟩
 | e :: es, h => by
  obtain ⟨x, rfl, hq⟩ := h e (by simp)
  obtain ⟨l, rfl, hl⟩ := map_of (es := es) fun el he => h el (by simp [he])
  exact ⟨x :: l, rfl, fun y hy => by
   rcases List.mem_cons.1 hy with rfl | hy
   ·exact hq
   ·exact hl y hy⟩
theorem byte_of {n : Int} (h : (Lit.int .u8 n).wf = true) : 0 ≤ n ∧ n < 256 := by
 have h : IntKind.u8.min ≤ n ∧ n ≤ IntKind.u8.max := by simpa [Lit.wf] using h
 have h1 : IntKind.u8.min = 0 := rfl
 have h2 : IntKind.u8.max = 255 := rfl
 omega
theorem law_own : ownKnob Try.prog.godebug = none := by kernel_rfl
theorem law_laid : laidOutB Try.prog = true := by kernel_rfl
end Go.Ev.Ytljkplahkokpaaa


set_option linter.unusedVariables false
set_option linter.unusedSimpArgs false
namespace Go.Ev.Ytljkplahkokpaaa
open Go.Proofs
theorem okV_bss {d : D} (h : OkV tb 6 45 d) : ∃ l : List (List Int), d = .seq (l.map fun b => [bsD b]) ∧ ∀ b ∈ l, By b := by
 obtain ⟨y, ds, hy, hd, rfl⟩ := h
 cases hy
 obtain ⟨es, rfl, hlen, hel⟩ := hd
 obtain ⟨l, rfl, hl⟩ := map_of (f := fun b : List Int => [bsD b]) (q := By) (es := es) fun el he => by
  obtain ⟨qs, rfl, ql, qel⟩ := hel el he
  obtain ⟨l, rfl, hl⟩ := map_of (f := byC) (q := fun n => 0 ≤ n ∧ n < 256) (es := qs) fun el he => by
   obtain ⟨i, rfl, hw⟩ := qel el he
   exact ⟨i, rfl, byte_of hw⟩
  exact ⟨l, rfl, hl⟩
 exact ⟨l, rfl, hl⟩
end Go.Ev.Ytljkplahkokpaaa

