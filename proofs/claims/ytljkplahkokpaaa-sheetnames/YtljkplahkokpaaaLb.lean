/-
  Contracts of functions, and plain laws, that lead to the statement. Written by an agent.
-/
import Derived.Test.YtljkplahkokpaaaRows
import Derived.Test.YtljkplahkokpaaaLa
set_option linter.unusedVariables false
set_option linter.unusedSimpArgs false
set_option linter.unusedVariables false
set_option linter.unusedSimpArgs false
set_option maxRecDepth 100000
namespace Go.Ev.Ytljkplahkokpaaa
open Go.Proofs
attribute [local irreducible] Pure Bor Iter Pan layB layF readR readD findC addC addK addL chAt sortC goG numG openL
def sameL (a b : Cd) : Bool := decide (a.ps.length = b.ps.length)
theorem sameL_pure (a b : Cd) : Pure Try.prog 71 [.agg (cdC a), .agg (cdC b)] (dB (sameL a b)) := by
 have e : sameL a b = (((a.ps.map ptD).length : Int) == ((b.ps.map ptD).length : Int)) := by
  rw [List.length_map, List.length_map, sameL]
  by_cases h : a.ps.length = b.ps.length
  ·rw [h]; simp
  ·rw [decide_eq_false h]; symm; rw [beq_eq_false_iff_ne]; omega
 rw [e]
 refine pure_of pg Try.func71 (by kernel_rfl) ?_
 conv => whnf
 (repeat' (first | (apply kT (by with_reducible first | rfl | assumption); conv => whnf) | (apply kF (by with_reducible first | rfl | assumption); conv => whnf) | (apply kT (by decide); conv => whnf) | (apply kF (by decide); conv => whnf) | (apply kB <;> intro _ <;> conv => whnf) | fail))
 rfl
def alikeL : List Cd → List Cd → Bool
 | [], [] => true
 | a :: l, b :: r => sameL a b && alikeL l r
 | _, _ => false
theorem alikeL_iff : ∀ {a b : List Cd}, alikeL a b = true ↔ a.length = b.length ∧ ∀ i (h : i < a.length) (h2 : i < b.length), sameL a[i] b[i] = true
 | [], [] => by simp [alikeL]
 | [], b :: r => by simp [alikeL]
 | a :: l, [] => by simp [alikeL]
 | a :: l, b :: r => by
  rw [alikeL, Bool.and_eq_true, alikeL_iff (a := l) (b := r)]
  constructor
  ·rintro ⟨h1, h2, h3⟩
   refine ⟨by simp [h2], fun i hi hi2 => ?_⟩
   cases i with
   | zero => exact h1
   | succ i => exact h3 i (by simpa using hi) (by simpa using hi2)
  ·rintro ⟨h1, h2⟩
   exact ⟨h2 0 (by simp) (by simp), by simpa using h1, fun i hi hi2 => h2 (i + 1) (by simpa using hi) (by simpa using hi2)⟩
theorem alikeL_false {a b : List Cd} {i : Nat} (h : i < a.length) (h2 : i < b.length) (hf : sameL a[i] b[i] = false) : alikeL a b = false := by
 cases e : alikeL a b with
 | false => rfl
 | true => have := (alikeL_iff.1 e).2 i h h2; rw [hf] at this; cases this
attribute [local irreducible] sameL
theorem equal_pure (a b : List Cd) (ha : a.length ≤ 100000) (hb : b.length ≤ 100000) : Pure Try.prog 70 [.seq (a.map cdC), .seq (b.map cdC), .fn (.func 71) [] []] (dB (alikeL a b)) := by
 have hma : ((a.map cdC).length : Int) = a.length := by rw [List.length_map]
 have hmb : ((b.map cdC).length : Int) = b.length := by rw [List.length_map]
 refine pure_of pg Try.func70 (by kernel_rfl) ?_
 by_cases hl : a.length = b.length
 ·have f1 : (((a.map cdC).length : Int) != ((b.map cdC).length : Int)) = false := by rw [hma, hmb, hl]; simp
  conv => whnf
  (repeat' (first | (apply kT (by with_reducible first | rfl | assumption); conv => whnf) | (apply kF (by with_reducible first | rfl | assumption); conv => whnf) | (apply kT (by decide); conv => whnf) | (apply kF (by decide); conv => whnf) | (apply kB <;> intro _ <;> conv => whnf) | fail))
  refine ⟨[], [1, 2, 15, 16, 17], [], 0, fun m s => ∃ k : Nat, k + m = a.length ∧ (∀ i (h : i < k) (h1 : i < a.length) (h2 : i < b.length), sameL a[i] b[i] = true) ∧ s = ⟨[(1, .d (.seq (b.map cdC))), (2, .d (.fn (.func 71) [] [])), (15, .d (.seq (a.map cdC))), (16, .d (dI (a.map cdC).length)), (17, .d (dI k))], [], 0⟩, ?_, ?_⟩
  ·conv => whnf
   exact ⟨a.length, 0, by omega, fun i h => by omega, rfl⟩
  ·rintro m _ ⟨k, hk, hall, rfl⟩
   by_cases hkl : k < a.length
   ·have f2 : decide ((k : Int) < ((a.map cdC).length : Int)) = true := decide_eq_true (by rw [hma]; omega)
    cases hs : sameL a[k] b[k] with
    | true =>
     have cs := sameL_pure a[k] b[k]
     rw [hs] at cs
     conv => whnf
     (repeat' (first | (apply kT (by with_reducible first | rfl | assumption); conv => whnf) | (apply kF (by with_reducible first | rfl | assumption); conv => whnf) | (apply kT (by decide); conv => whnf) | (apply kF (by decide); conv => whnf) | (apply kB <;> intro _ <;> conv => whnf) | (refine ⟨k, _, rfl, getcd a k hkl, rfl, ?_⟩; conv => whnf) | (refine ⟨k, _, rfl, getcd b k (by omega), rfl, ?_⟩; conv => whnf) | (refine .inl ⟨_, cs, ?_⟩; conv => whnf) | fail))
     refine ⟨m - 1, by omega, k + 1, by omega, fun i hi h1 h2 => ?_, ?_⟩
     ·by_cases h : i < k
      ·exact hall i h h1 h2
      ·have : i = k := by omega
       subst this
       exact hs
     ·rw [w1 k (by omega)]
    | false =>
     have cs := sameL_pure a[k] b[k]
     rw [hs] at cs
     rw [alikeL_false hkl (by omega) hs]
     conv => whnf
     (repeat' (first | (apply kT (by with_reducible first | rfl | assumption); conv => whnf) | (apply kF (by with_reducible first | rfl | assumption); conv => whnf) | (apply kT (by decide); conv => whnf) | (apply kF (by decide); conv => whnf) | (apply kB <;> intro _ <;> conv => whnf) | (refine ⟨k, _, rfl, getcd a k hkl, rfl, ?_⟩; conv => whnf) | (refine ⟨k, _, rfl, getcd b k (by omega), rfl, ?_⟩; conv => whnf) | (refine .inl ⟨_, cs, ?_⟩; conv => whnf) | fail))
     rfl
   ·have f2 : decide ((k : Int) < ((a.map cdC).length : Int)) = false := decide_eq_false (by rw [hma]; omega)
    have e : alikeL a b = true := alikeL_iff.2 ⟨hl, fun i h1 h2 => hall i (by omega) h1 h2⟩
    rw [e]
    conv => whnf
    (apply kF (f2); conv => whnf)
    rfl
 ·have f1 : (((a.map cdC).length : Int) != ((b.map cdC).length : Int)) = true := by rw [hma, hmb, bne_iff_ne]; omega
  have e : alikeL a b = false := by
   cases e : alikeL a b with
   | false => rfl
   | true => exact absurd (alikeL_iff.1 e).1 hl
  rw [e]
  conv => whnf
  (apply kT (f1); conv => whnf)
  rfl
def ptsOf (g : List Cd) : List Pt := (g.map Cd.ps).flatten
def wholeL (g : List Cd) : Sh × Bool := match g with
 | [] => (⟨0, []⟩, false)
 | h :: t => (⟨h.n, ptsOf (h :: t)⟩, decide (((h :: t).length : Int) = h.m) && (checkI [⟨h.n, ptsOf (h :: t)⟩] == 0) && (decide ((cardsL ⟨h.n, ptsOf (h :: t)⟩).length = (h :: t).length) && alikeL (cardsL ⟨h.n, ptsOf (h :: t)⟩) (h :: t)))
theorem ptsOf_len {g : List Cd} (h : ∀ c ∈ g, CdOK c) : (ptsOf g).length ≤ g.length * 15 := by
 induction g with
 | nil => simp [ptsOf]
 | cons c r ih =>
  have h1 := (h c (by simp)).many
  have h2 := ih fun d hd => h d (by simp [hd])
  unfold ptsOf at *
  rw [List.map_cons, List.flatten_cons, List.length_append, List.length_cons]
  omega
theorem ptsOf_take (g : List Cd) {k : Nat} (h : k < g.length) : ptsOf (g.take (k + 1)) = ptsOf (g.take k) ++ g[k].ps := by
 unfold ptsOf
 rw [List.take_add_one, List.getElem?_eq_getElem h, List.map_append, List.flatten_append]
 simp
attribute [local irreducible] cardsL checkI alikeL
theorem whole_pure (h : Cd) (t : List Cd) (hg : ∀ c ∈ h :: t, CdOK c) (hl : t.length ≤ 5000) : Pure Try.prog 52 [.seq ((h :: t).map cdC)] (.tup [.agg (shC (wholeL (h :: t)).1), dB (wholeL (h :: t)).2]) := by
 obtain ⟨g, hgd⟩ : ∃ g, g = h :: t := ⟨_, rfl⟩
 have hg0 : 0 < g.length := by rw [hgd]; simp
 have hgl : g.length ≤ 5001 := by rw [hgd]; simp; omega
 have hgh : (g.map cdC)[0]? = some (cdC h) := by rw [hgd]; rfl
 have hw : wholeL (h :: t) = (⟨h.n, ptsOf g⟩, decide ((g.length : Int) = h.m) && (checkI [⟨h.n, ptsOf g⟩] == 0) && (decide ((cardsL ⟨h.n, ptsOf g⟩).length = g.length) && alikeL (cardsL ⟨h.n, ptsOf g⟩) g)) := by rw [hgd]; rfl
 rw [hw, ← hgd]
 rw [← hgd] at hg
 clear hw
 have hm : ((g.map cdC).length : Int) = g.length := by rw [List.length_map]
 have hpl := ptsOf_len hg
 refine pure_of pg Try.func52 (by kernel_rfl) ?_
 conv => whnf
 (refine ⟨0, _, rfl, hgh, rfl, ?_⟩; conv => whnf)
 refine ⟨[.cown 1 1 74], [0, 2, 3, 4, 13, 14, 15], [0, 1, 2], 3, fun m s => ∃ k : Nat, k + m = g.length ∧ s = ⟨[(0, .d (.seq (g.map cdC))), (2, .ref 0 0), (3, .d (dB false)), (4, .ref 1 0), (13, .d (.seq (g.map cdC))), (14, .d (dI (g.map cdC).length)), (15, .d (dI k))],
  [(0, .var false 50 [.d (dI 0), .d (.v (.slice none 0 0))]), (1, .var false 50 [.d (dI h.n), .own 2]), (2, .arr 74 ((ptsOf (g.take k)).map ptD))], 3⟩, ?_, ?_⟩
 ·conv => whnf
  exact ⟨g.length, 0, by omega, rfl⟩
 ·rintro m _ ⟨k, hk, rfl⟩
  by_cases hkl : k < g.length
  ·have f1 : decide ((k : Int) < ((g.map cdC).length : Int)) = true := decide_eq_true (by rw [hm]; omega)
   have hpt := ptsOf_take g hkl
   have hptl : (ptsOf (g.take (k + 1))).length ≤ (g.take (k + 1)).length * 15 := ptsOf_len fun c hc => hg c (List.mem_of_mem_take hc)
   rw [hpt, List.length_append, List.length_take] at hptl
   conv => whnf
   (repeat' (first | (apply kT (by with_reducible first | rfl | assumption); conv => whnf) | (apply kF (by with_reducible first | rfl | assumption); conv => whnf) | (apply kT (by decide); conv => whnf) | (apply kF (by decide); conv => whnf) | (apply kB <;> intro _ <;> conv => whnf) | (refine ⟨k, _, rfl, getcd g k hkl, rfl, ?_⟩; conv => whnf) | fail))
   (refine ⟨ptL _, by rw [List.length_map, List.length_map]; show _ * 16 ≤ _; omega, ?_⟩; conv => whnf)
   refine ⟨m - 1, by omega, k + 1, by omega, ?_⟩
   rw [w1 k (by omega), hpt, List.map_append]
  ·have f1 : decide ((k : Int) < ((g.map cdC).length : Int)) = false := decide_eq_false (by rw [hm]; omega)
   have hkg : g.take k = g := List.take_of_length_le (by omega)
   rw [hkg]
   by_cases hmm : (g.length : Int) = h.m
   ·have f2 : (((g.map cdC).length : Int) != h.m) = false := by rw [hm, hmm]; simp
    have ck := check_pure [⟨h.n, ptsOf g⟩] (by simp) (by simp; omega)
    rw [decide_eq_true hmm, Bool.true_and]
    by_cases hc0 : checkI [⟨h.n, ptsOf g⟩] = 0
    ·have f3 : (checkI [⟨h.n, ptsOf g⟩] != 0) = false := by simp [hc0]
     have f3' : (checkI [⟨h.n, ptsOf g⟩] == 0) = true := by simp [hc0]
     rw [f3', Bool.true_and]
     have h1 := (checkI_ok.1 hc0).2 _ (List.mem_singleton.2 rfl)
     have hr := (runB_ok.1 (shB_ok.1 h1.2).2.2).2.2
     have cc := cards_pure ⟨h.n, ptsOf g⟩ (by dsimp only; omega) hr
     have hcl := (cardsL_ok hr).2
     dsimp only at hcl
     have ce := equal_pure (cardsL ⟨h.n, ptsOf g⟩) g (by omega) (by omega)
     have hmc : (((cardsL ⟨h.n, ptsOf g⟩).map cdC).length : Int) = (cardsL ⟨h.n, ptsOf g⟩).length := by rw [List.length_map]
     by_cases hln : (cardsL ⟨h.n, ptsOf g⟩).length = g.length
     ·have f4 : ((((cardsL ⟨h.n, ptsOf g⟩).map cdC).length : Int) == ((g.map cdC).length : Int)) = true := by rw [hmc, hm, hln]; simp
      rw [decide_eq_true hln, Bool.true_and]
      conv => whnf
      (repeat' (first | (apply kT (by with_reducible first | rfl | assumption); conv => whnf) | (apply kF (by with_reducible first | rfl | assumption); conv => whnf) | (apply kT (by decide); conv => whnf) | (apply kF (by decide); conv => whnf) | (apply kB <;> intro _ <;> conv => whnf) | (refine ⟨0, _, rfl, hgh, rfl, ?_⟩; conv => whnf) | fail))
      (refine .l ?_; conv => whnf)
      (repeat' (first | (apply kT (by with_reducible first | rfl | assumption); conv => whnf) | (apply kF (by with_reducible first | rfl | assumption); conv => whnf) | (apply kT (by decide); conv => whnf) | (apply kF (by decide); conv => whnf) | (apply kB <;> intro _ <;> conv => whnf) | (refine .inl ⟨_, ck, ?_⟩; conv => whnf) | (refine .inl ⟨_, cc, ?_⟩; conv => whnf) | (refine .inl ⟨_, ce, ?_⟩; conv => whnf) | fail))
      rfl
     ·have f4 : ((((cardsL ⟨h.n, ptsOf g⟩).map cdC).length : Int) == ((g.map cdC).length : Int)) = false := by rw [hmc, hm, beq_eq_false_iff_ne]; omega
      rw [decide_eq_false hln, Bool.false_and]
      conv => whnf
      (repeat' (first | (apply kT (by with_reducible first | rfl | assumption); conv => whnf) | (apply kF (by with_reducible first | rfl | assumption); conv => whnf) | (apply kT (by decide); conv => whnf) | (apply kF (by decide); conv => whnf) | (apply kB <;> intro _ <;> conv => whnf) | (refine ⟨0, _, rfl, hgh, rfl, ?_⟩; conv => whnf) | fail))
      (refine .l ?_; conv => whnf)
      (repeat' (first | (apply kT (by with_reducible first | rfl | assumption); conv => whnf) | (apply kF (by with_reducible first | rfl | assumption); conv => whnf) | (apply kT (by decide); conv => whnf) | (apply kF (by decide); conv => whnf) | (apply kB <;> intro _ <;> conv => whnf) | (refine .inl ⟨_, ck, ?_⟩; conv => whnf) | (refine .inl ⟨_, cc, ?_⟩; conv => whnf) | fail))
      rfl
    ·have f3 : (checkI [⟨h.n, ptsOf g⟩] != 0) = true := by simpa using hc0
     have f3' : (checkI [⟨h.n, ptsOf g⟩] == 0) = false := by simpa using hc0
     rw [f3', Bool.false_and]
     conv => whnf
     (repeat' (first | (apply kT (by with_reducible first | rfl | assumption); conv => whnf) | (apply kF (by with_reducible first | rfl | assumption); conv => whnf) | (apply kT (by decide); conv => whnf) | (apply kF (by decide); conv => whnf) | (apply kB <;> intro _ <;> conv => whnf) | (refine ⟨0, _, rfl, hgh, rfl, ?_⟩; conv => whnf) | fail))
     (refine .l ?_; conv => whnf)
     (repeat' (first | (apply kT (by with_reducible first | rfl | assumption); conv => whnf) | (apply kF (by with_reducible first | rfl | assumption); conv => whnf) | (apply kT (by decide); conv => whnf) | (apply kF (by decide); conv => whnf) | (apply kB <;> intro _ <;> conv => whnf) | (refine .inl ⟨_, ck, ?_⟩; conv => whnf) | fail))
     rfl
   ·have f2 : (((g.map cdC).length : Int) != h.m) = true := by rw [hm]; simpa using hmm
    rw [decide_eq_false hmm, Bool.false_and, Bool.false_and]
    conv => whnf
    (repeat' (first | (apply kT (by with_reducible first | rfl | assumption); conv => whnf) | (apply kF (by with_reducible first | rfl | assumption); conv => whnf) | (apply kT (by decide); conv => whnf) | (apply kF (by decide); conv => whnf) | (apply kB <;> intro _ <;> conv => whnf) | (refine ⟨0, _, rfl, hgh, rfl, ?_⟩; conv => whnf) | fail))
    rfl
theorem whole_pure' (g : List Cd) (hne : g ≠ []) (hg : ∀ c ∈ g, CdOK c) (hl : g.length ≤ 5000) : Pure Try.prog 52 [.seq (g.map cdC)] (.tup [.agg (shC (wholeL g).1), dB (wholeL g).2]) := by
 cases g with
 | nil => exact absurd rfl hne
 | cons h t => exact whole_pure h t hg (by simp at hl; omega)
def readG : List (List Cd) → List Sh
 | [] => []
 | g :: r => bif (wholeL g).2 then (wholeL g).1 :: readG r else readG r
def ReadL (l : List Int) : List Sh × Int × Int := (readG (openL l).1, (openL l).2.1, (openL l).2.2)
theorem readG_append : ∀ (a b : List (List Cd)), readG (a ++ b) = readG a ++ readG b
 | [], b => rfl
 | g :: a, b => by
  rw [List.cons_append, readG, readG, readG_append a b]
  cases (wholeL g).2 <;> rfl
theorem readG_len : ∀ (a : List (List Cd)), (readG a).length ≤ a.length
 | [] => Nat.le_refl _
 | g :: a => by
  have := readG_len a
  rw [readG]
  cases (wholeL g).2 with
  | true => rw [cond_true, List.length_cons, List.length_cons]; omega
  | false => rw [cond_false, List.length_cons]; omega
def GsOK (G : List (List Cd)) : Prop := G.length ≤ 5000 ∧ ∀ g ∈ G, g ≠ [] ∧ g.length ≤ 5000 ∧ ∀ c ∈ g, CdOK c
attribute [local irreducible] wholeL
theorem getgp (G : List (List Cd)) (k : Nat) (h : k < G.length) : (G.map fun g => [gpD g])[k]? = some [gpD G[k]] := by simp [h]
theorem openL_err {l : List Int} (h : (openL l).2.2 ≠ 0) : (openL l).1 = [] ∧ (openL l).2.1 = 0 := by
 unfold openL at *
 split
 ·exact ⟨rfl, rfl⟩
 ·rename_i h8
  rw [if_neg h8] at h
  cases hc : (numG (addL tr0 l).tw (sortC (addL tr0 l).es)).2 with
  | true => exact ⟨rfl, rfl⟩
  | false => rw [hc] at h; exact absurd rfl h
theorem Read_pure (l : List Int) (hl : l.length ≤ 100000) (hb : By l) (hG : GsOK (openL l).1) : Pure Try.prog 17 [bsD l] (.tup [shsD (ReadL l).1, dI (ReadL l).2.1, dI (ReadL l).2.2]) := by
 have co := open_pure l hl hb
 have hE := openL_err (l := l)
 unfold ReadL
 generalize openL l = r at *
 obtain ⟨G, sp, e⟩ := r
 dsimp only at *
 have co : Pure Try.prog 51 [bsD l] (.tup [gpsD G, dI sp, dI e]) := co
 have hm : ((G.map fun g => [gpD g]).length : Int) = G.length := by rw [List.length_map]
 obtain ⟨hG1, hG2⟩ := hG
 refine pure_of pg Try.func17 (by kernel_rfl) ?_
 by_cases he : e = 0
 ·have f1 : (e != 0) = false := by simp [he]
  conv => whnf
  (refine .inl ⟨_, co, ?_⟩; conv => whnf)
  (apply kF (f1); conv => whnf)
  refine ⟨[.own 2 50], [2, 3, 19, 20, 21], [0], 1, fun m s => ∃ k : Nat, k + m = G.length ∧ s = ⟨[(2, .own 0), (3, .d (dI sp)), (19, .d (gpsD G)), (20, .d (dI (G.map fun g => [gpD g]).length)), (21, .d (dI k))], [(0, .arr 50 ((readG (G.take k)).map shC))], 1⟩, ?_, ?_⟩
  ·conv => whnf
   exact ⟨G.length, 0, by omega, rfl⟩
  ·rintro m _ ⟨k, hk, rfl⟩
   by_cases hkl : k < G.length
   ·have f2 : decide ((k : Int) < ((G.map fun g => [gpD g]).length : Int)) = true := decide_eq_true (by rw [hm]; omega)
    have hgk := hG2 _ (List.getElem_mem hkl)
    have cw := whole_pure' G[k] hgk.1 hgk.2.2 hgk.2.1
    have hrt : readG (G.take (k + 1)) = readG (G.take k) ++ bif (wholeL G[k]).2 then [(wholeL G[k]).1] else [] := by
     rw [List.take_add_one, List.getElem?_eq_getElem hkl, readG_append]
     congr 1
    have hrl := readG_len (G.take k)
    rw [List.length_take] at hrl
    cases hw : (wholeL G[k]).2 with
    | true =>
     rw [hw] at cw
     conv => whnf
     (repeat' (first | (apply kT (by with_reducible first | rfl | assumption); conv => whnf) | (apply kF (by with_reducible first | rfl | assumption); conv => whnf) | (apply kT (by decide); conv => whnf) | (apply kF (by decide); conv => whnf) | (apply kB <;> intro _ <;> conv => whnf) | (refine ⟨k, _, rfl, getgp G k hkl, rfl, ?_⟩; conv => whnf) | (refine .inl ⟨_, cw, ?_⟩; conv => whnf) | fail))
     (refine .l ?_; conv => whnf)
     (refine ⟨fun el h => by rw [List.mem_singleton.1 h]; rfl, by rw [List.length_map]; show (_ + 1) * 32 ≤ _; omega, ?_⟩; conv => whnf)
     refine ⟨m - 1, by omega, k + 1, by omega, ?_⟩
     rw [w1 k (by omega), hrt, hw, cond_true, List.map_append]
     rfl
    | false =>
     rw [hw] at cw
     conv => whnf
     (repeat' (first | (apply kT (by with_reducible first | rfl | assumption); conv => whnf) | (apply kF (by with_reducible first | rfl | assumption); conv => whnf) | (apply kT (by decide); conv => whnf) | (apply kF (by decide); conv => whnf) | (apply kB <;> intro _ <;> conv => whnf) | (refine ⟨k, _, rfl, getgp G k hkl, rfl, ?_⟩; conv => whnf) | (refine .inl ⟨_, cw, ?_⟩; conv => whnf) | fail))
     refine ⟨m - 1, by omega, k + 1, by omega, ?_⟩
     rw [w1 k (by omega), hrt, hw, cond_false, List.append_nil]
   ·have f2 : decide ((k : Int) < ((G.map fun g => [gpD g]).length : Int)) = false := decide_eq_false (by rw [hm]; omega)
    rw [List.take_of_length_le (show G.length ≤ k by omega), he]
    conv => whnf
    (apply kF (f2); conv => whnf)
    rfl
 ·obtain ⟨q1, q2⟩ := hE he
  have f1 : (e != 0) = true := by simpa using he
  subst q1 q2
  conv => whnf
  (refine .inl ⟨_, co, ?_⟩; conv => whnf)
  (apply kT (f1); conv => whnf)
  rfl
theorem goG_flat : ∀ (r : List Cd) (done : List (List Cd)) (h : Cd) (t : List Cd) (tw : Bool), (goG done h t tw r).1.flatten = done.flatten ++ (h :: t) ++ r
 | [], done, h, t, tw => by rw [goG_nil]; simp
 | c :: r, done, h, t, tw => by
  by_cases hn : h.n = c.n
  ·rw [goG_same hn, goG_flat r]; simp
  ·rw [goG_new hn, goG_flat r]; simp
theorem goG_ne : ∀ (r : List Cd) (done : List (List Cd)) (h : Cd) (t : List Cd) (tw : Bool), ∀ g ∈ (goG done h t tw r).1, g ∈ done ∨ g ≠ []
 | [], done, h, t, tw => by
  rw [goG_nil]
  intro g hg
  rcases List.mem_append.1 hg with hg | hg
  ·exact .inl hg
  ·rw [List.mem_singleton.1 hg]; exact .inr (by simp)
 | c :: r, done, h, t, tw => by
  intro g hg
  by_cases hn : h.n = c.n
  ·rw [goG_same hn] at hg
   exact goG_ne r _ _ _ _ g hg
  ·rw [goG_new hn] at hg
   rcases goG_ne r _ _ _ _ g hg with hg | hg
   ·rcases List.mem_append.1 hg with hg | hg
    ·exact .inl hg
    ·rw [List.mem_singleton.1 hg]; exact .inr (by simp)
   ·exact .inr hg
theorem numG_flat (tw : Bool) (L : List Cd) : (numG tw L).1.flatten = L := by
 cases L with
 | nil => unfold numG; rfl
 | cons c r => unfold numG; rw [goG_flat]; simp
theorem numG_ne (tw : Bool) (L : List Cd) : ∀ g ∈ (numG tw L).1, g ≠ [] := by
 cases L with
 | nil => unfold numG; intro g hg; simp at hg
 | cons c r =>
  unfold numG
  intro g hg
  rcases goG_ne r _ _ _ _ g hg with hg | hg
  ·simp at hg
  ·exact hg
theorem flat_lens : ∀ {G : List (List Cd)}, (∀ g ∈ G, g ≠ []) → G.length ≤ G.flatten.length ∧ ∀ g ∈ G, g.length ≤ G.flatten.length
 | [], _ => ⟨Nat.le_refl _, fun g hg => by simp at hg⟩
 | x :: G, h => by
  obtain ⟨h1, h2⟩ := flat_lens (G := G) fun g hg => h g (by simp [hg])
  have hx : 0 < x.length := List.length_pos_iff.2 (h x (by simp))
  rw [List.flatten_cons, List.length_append, List.length_cons]
  refine ⟨by omega, fun g hg => ?_⟩
  rcases List.mem_cons.1 hg with rfl | hg
  ·omega
  ·have := h2 g hg; omega
theorem openL_gs {l : List Int} (hl : l.length ≤ 100000) (hb : By l) : GsOK (openL l).1 := by
 have hok := addL_ok tr0_ok hb
 have hlen := addL_len tr0 l
 have h0 : tr0.es.length = 0 := rfl
 have hn : nCh l ≤ 2500 := by unfold nCh; omega
 have e0 : GsOK [] := ⟨by simp, fun g hg => by simp at hg⟩
 unfold openL
 split
 ·exact e0
 ·cases hc : (numG (addL tr0 l).tw (sortC (addL tr0 l).es)).2 with
  | true => exact e0
  | false =>
   rw [cond_false]
   have hf := numG_flat (addL tr0 l).tw (sortC (addL tr0 l).es)
   have hne := numG_ne (addL tr0 l).tw (sortC (addL tr0 l).es)
   obtain ⟨q1, q2⟩ := flat_lens hne
   rw [hf, (sortC_perm _).length_eq] at q1 q2
   refine ⟨by dsimp only; omega, fun g hg => ⟨hne g hg, by have := q2 g hg; omega, fun c hc => ?_⟩⟩
   have : c ∈ (numG (addL tr0 l).tw (sortC (addL tr0 l).es)).1.flatten := List.mem_flatten.2 ⟨g, hg, hc⟩
   rw [hf] at this
   exact hok.1 c ((sortC_perm _).mem_iff.1 this)
theorem Read_pure' (l : List Int) (hl : l.length ≤ 100000) (hb : By l) : Pure Try.prog 17 [bsD l] (.tup [shsD (ReadL l).1, dI (ReadL l).2.1, dI (ReadL l).2.2]) := Read_pure l hl hb (openL_gs hl hb)
end Go.Ev.Ytljkplahkokpaaa


set_option linter.unusedVariables false
set_option linter.unusedSimpArgs false
set_option maxRecDepth 100000
namespace Go.Ev.Ytljkplahkokpaaa
open Go.Proofs
def smallS : Sh := ⟨258, [⟨3, 5⟩, ⟨4, 4⟩]⟩
def laidL : List Int := [1, 2, 0, 1, 2, 0, 3, 0, 0, 5, 1, 1, 0, 0, 0, 0, 0, 0, 0, 0, 0, 0, 0, 0, 0, 0, 0, 0, 0, 0, 0, 0, 0, 0, 0, 0, 0, 0, 113, 16]
theorem small_ok : checkI [smallS] = 0 := by kernel_rfl
theorem small_cards : (cardsL smallS).map bytesRow = [[bsD laidL]] := by kernel_rfl
theorem small_read : ReadL (laidL ++ [1, 2, 3, 4, 5]) = ([smallS], 1, 0) := by kernel_rfl
def strB (l : List Int) : ByteArray := ⟨(l.map fun n => UInt8.ofNat n.toNat).toArray⟩
theorem strB_bytes {l : List Int} (h : By l) : l.map byC = bytesD (strB l) := by
 unfold bytesD strB
 rw [List.map_map]
 refine List.map_congr_left fun n hn => ?_
 have := h n hn
 have e : (UInt8.ofNat n.toNat).toNat = n.toNat := UInt8.toNat_ofNat_of_lt' (by show n.toNat < 256; omega)
 show [D.v (.int .u8 n)] = [D.v (.int .u8 ((UInt8.ofNat n.toNat).toNat : Nat))]
 rw [e]
 congr 3
 omega
theorem laid_by : By laidL := by
 unfold laidL
 repeat first | exact .nil | refine .cons (by omega) ?_
theorem small_pure : Pure Try.prog 50 [] (.agg (shC smallS)) := by
 refine pure_of pg Try.func50 (by kernel_rfl) ?_
 conv => whnf
 (refine .l ?_; conv => whnf)
 (repeat' (first | (apply kT (by with_reducible first | rfl | assumption); conv => whnf) | (apply kF (by with_reducible first | rfl | assumption); conv => whnf) | (apply kT (by decide); conv => whnf) | (apply kF (by decide); conv => whnf) | (apply kB <;> intro _ <;> conv => whnf) | fail))
 rfl
theorem laid_bor : Bor tb Try.prog 49 [] [] 1 (.own 0) [(0, .arr 5 (laidL.map byC))] := by
 refine bor_ofO pg Try.func49 (by kernel_rfl) ?_
 conv => whnf
 (refine ⟨40, rfl, rfl, by decide, by decide, (List.replicate 40 0).map byC, rfl, ?_⟩; conv => whnf)
 (refine .l ?_; conv => whnf)
 (refine ⟨byL [1, 2, 0, 1, 2, 0, 3, 0, 0, 5, 1, 1], (laidL.take 38 ++ [0, 0]).map byC, rfl, ?_⟩; conv => whnf)
 (refine ⟨38, rfl, by decide, ?_⟩; conv => whnf)
 (refine ⟨byC 0, rfl, rfl, by decide, (laidL.take 38 ++ [113, 0]).map byC, rfl, ?_⟩; conv => whnf)
 (refine ⟨39, rfl, by decide, ?_⟩; conv => whnf)
 (refine ⟨byC 0, rfl, rfl, by decide, laidL.map byC, rfl, ?_⟩; conv => whnf)
 (refine ⟨[0], ?_⟩; conv => whnf)
 exact ⟨rfl, rfl⟩
attribute [local irreducible] Pure Bor Iter Pan
theorem awake_pure : Pure Try.prog 16 [] (dB true) := by
 have c1 := Cards_ok smallS small_ok
 rw [small_cards] at c1
 have c2 := Read_pure' (laidL ++ [1, 2, 3, 4, 5]) (by decide) (laid_by.app (by repeat first | exact .nil | refine .cons (by omega) ?_))
 rw [small_read] at c2
 refine pure_of pg Try.func16 (by kernel_rfl) ?_
 conv => whnf
 (refine .inl ⟨_, small_pure, ?_⟩; conv => whnf)
 (refine .inl ⟨_, c1, ?_⟩; conv => whnf)
 (refine .inr ⟨[], 1, _, _, laid_bor, ?_⟩; conv => whnf)
 (refine .l ?_; conv => whnf)
 (refine ⟨byL [1, 2, 3, 4, 5], by decide, ?_⟩; conv => whnf)
 (refine .inl ⟨_, c2, ?_⟩; conv => whnf)
 (refine .r ?_; conv => whnf)
 (repeat' (first | (apply kT (by with_reducible first | rfl | assumption); conv => whnf) | (apply kF (by with_reducible first | rfl | assumption); conv => whnf) | (apply kT (by decide); conv => whnf) | (apply kF (by decide); conv => whnf) | (apply kB <;> intro _ <;> conv => whnf) | (refine ⟨0, _, rfl, rfl, rfl, ?_⟩; conv => whnf) | (refine ⟨strB laidL, strB_bytes laid_by, ?_⟩; conv => whnf) | (refine .inr ⟨[], 1, _, _, laid_bor, ?_⟩; conv => whnf) | (refine ⟨true, beq_self_eq_true _, ?_⟩; conv => whnf) | (refine ⟨1, _, rfl, rfl, rfl, ?_⟩; conv => whnf) | fail))
 rfl
end Go.Ev.Ytljkplahkokpaaa


set_option linter.unusedVariables false
set_option linter.unusedSimpArgs false
set_option maxRecDepth 100000
namespace Go.Ev.Ytljkplahkokpaaa
open Go.Proofs
attribute [local irreducible] Pure Bor Iter Pan
def thinB (l : List Sh) : Bool := decide (l.length ≤ 12) && l.all fun s => decide (s.ps.length ≤ 110)
end Go.Ev.Ytljkplahkokpaaa


set_option linter.unusedVariables false
set_option linter.unusedSimpArgs false
set_option maxRecDepth 100000
namespace Go.Ev.Ytljkplahkokpaaa
open Go.Proofs
attribute [local irreducible] Pure Bor Iter Pan furL stepL
def PtsOK (l : List Pt) : Prop := runB l = true
theorem PtsOK.get {l : List Pt} (h : PtsOK l) {k : Nat} (hk : k < l.length) : 0 ≤ l[k].s ∧ l[k].s ≤ 65535 ∧ 0 ≤ l[k].l ∧ l[k].l ≤ 1000000 := ptB_ok.1 ((runB_ok.1 h).2.1 _ (List.getElem_mem hk))
def bodyH (l : List Pt) : List Int := match l with
 | [] => []
 | p :: r => [((r.length + 1 : Nat) : Int) % 256, p.s / 256 % 256, p.s % 256, p.l / 65536 % 256, p.l / 256 % 256, p.l % 256]
attribute [local irreducible] bodyL wsum psum
end Go.Ev.Ytljkplahkokpaaa


set_option linter.unusedVariables false
set_option linter.unusedSimpArgs false
set_option maxRecDepth 100000
namespace Go.Ev.Ytljkplahkokpaaa
open Go.Proofs
def PtsV (l : List Pt) : Prop := (∀ p ∈ l, ptB p = true) ∧ Run l
theorem PtsV.take {l : List Pt} (h : PtsV l) (k : Nat) : PtsV (l.take k) := ⟨fun p hp => h.1 p (List.mem_of_mem_take hp), fun i hi => by
 rw [List.length_take] at hi
 have := h.2 i (by omega)
 simpa using this⟩
theorem PtsV.drop {l : List Pt} (h : PtsV l) (k : Nat) : PtsV (l.drop k) := ⟨fun p hp => h.1 p (List.mem_of_mem_drop hp), h.2.drop k⟩
theorem PtsV.ok {l : List Pt} (h : PtsV l) (h0 : 0 < l.length) : PtsOK l := runB_ok.2 ⟨h0, h.1, h.2⟩
theorem PtsOK.v {l : List Pt} (h : PtsOK l) : PtsV l := ⟨(runB_ok.1 h).2.1, (runB_ok.1 h).2.2⟩
abbrev rowP (l : List Pt) : List D := [ptsD l]
attribute [local irreducible] Pure Bor Iter Pan furL stepL bodyL growN cutN
end Go.Ev.Ytljkplahkokpaaa


set_option linter.unusedVariables false
set_option linter.unusedSimpArgs false
set_option maxRecDepth 100000
namespace Go.Ev.Ytljkplahkokpaaa
open Go.Proofs
theorem grow_room : ∀ (l : List Pt) (room : Nat), room ≤ 38 → room + (furs (l.take (1 + growN room l))).flatten.length ≤ 38
 | [], room, h => by simpa [furs] using h
 | [a], room, h => by rw [List.take_of_length_le (by simp)]; simpa [furs] using h
 | a :: b :: r, room, h => by
  rw [growN_cons]
  split
  ·rename_i h1
   have ih := grow_room (b :: r) (room + (furL a b).length) h1
   rw [show 1 + (1 + growN (room + (furL a b).length) (b :: r)) = (1 + growN (room + (furL a b).length) (b :: r)) + 1 from by omega, List.take_succ_cons]
   rw [show 1 + growN (room + (furL a b).length) (b :: r) = growN (room + (furL a b).length) (b :: r) + 1 from by omega, List.take_succ_cons] at ih ⊢
   rw [furs, List.flatten_cons, List.length_append]
   omega
  ·rw [show 1 + 0 = 0 + 1 from rfl, List.take_succ_cons, List.take_zero]
   simpa [furs] using h
theorem cut_room (l : List Pt) : 10 + (furs (l.take (cutN l))).flatten.length ≤ 38 := grow_room l 10 (by omega)
theorem cutsF_room : ∀ (f : Nat) (l : List Pt), ∀ p ∈ cutsF f l, 10 + (furs p).flatten.length ≤ 38
 | 0, l => fun p hp => by simp [cutsF] at hp
 | f + 1, l => fun p hp => by
  rw [cutsF] at hp
  split at hp
  ·simp at hp
  ·rcases List.mem_cons.1 hp with rfl | hp
   ·exact cut_room l
   ·exact cutsF_room f _ p hp
theorem cards_room {s : Sh} (hr : Run s.ps) {c : Cd} (hc : c ∈ cardsL s) : (cardRaw c).length ≤ 38 := by
 have h0 := ((cardsL_ok hr).1 c hc).1
 rw [raw_len h0]
 exact cutsF_room _ _ _ (mem_cds hc)
theorem cutsF_v : ∀ (f : Nat) (l : List Pt), PtsV l → ∀ p ∈ cutsF f l, PtsV p
 | 0, l, _ => fun p hp => by simp [cutsF] at hp
 | f + 1, l, h => fun p hp => by
  rw [cutsF] at hp
  split at hp
  ·simp at hp
  ·rcases List.mem_cons.1 hp with rfl | hp
   ·exact h.take _
   ·exact cutsF_v f _ (h.drop _) p hp
theorem cards_len (s : Sh) : (cardsL s).length = (cuts s.ps).length := by unfold cardsL; rw [cds_len]
theorem cards_get (s : Sh) (k : Nat) (h : k < (cuts s.ps).length) : (cardsL s)[k]? = some ⟨s.n, k, (cuts s.ps).length, (cuts s.ps)[k]⟩ := by
 unfold cardsL; rw [cds_get _ _ _ _ _ h, Nat.zero_add]
attribute [local irreducible] Pure Bor Iter Pan furL stepL bodyL growN cutN layB cardsL cuts refCard
theorem layL_take (l : List Cd) (k : Nat) (h : k < l.length) : ((l.take (k + 1)).map layB).flatten = ((l.take k).map layB).flatten ++ layB l[k] := by
 rw [List.take_add_one, List.getElem?_eq_getElem h, List.map_append, List.flatten_append]; simp
theorem layL_len {l : List Cd} (h : ∀ c ∈ l, 0 < c.ps.length) : (l.map layB).flatten.length = 40 * l.length := by
 induction l with
 | nil => rfl
 | cons c r ih =>
  rw [List.map_cons, List.flatten_cons, List.length_append, ih fun d hd => h d (by simp [hd]), lay_len (h c (by simp)), List.length_cons]
  omega
attribute [local irreducible] checkI
end Go.Ev.Ytljkplahkokpaaa


set_option linter.unusedVariables false
set_option linter.unusedSimpArgs false
set_option maxRecDepth 100000
namespace Go.Ev.Ytljkplahkokpaaa
open Go.Proofs
theorem grow_ge : ∀ (j : Nat) (l : List Pt) (room : Nat), room + 3 * j ≤ 38 → min j (l.length - 1) ≤ growN room l
 | 0, l, room, _ => by simp
 | j + 1, [], room, _ => by simp
 | j + 1, [a], room, _ => by simp
 | j + 1, a :: b :: r, room, h => by
  have hf := furL_len a b
  have ih := grow_ge j (b :: r) (room + (furL a b).length) (by omega)
  rw [growN_cons, if_pos (by omega)]
  simp only [List.length_cons] at *
  omega
theorem cutN_ge (l : List Pt) : min 10 l.length ≤ cutN l ∨ l.length = 0 := by
 have := grow_ge 9 l 10 (by omega)
 rcases Nat.eq_zero_or_pos l.length with h | h
 ·exact .inr h
 ·left
  unfold cutN
  omega
theorem cutsF_count : ∀ (f : Nat) (l : List Pt), l.length ≤ f → (cutsF f l).length ≤ (l.length + 9) / 10
 | 0, l, h => by rw [cutsF]; simp
 | f + 1, l, h => by
  rw [cutsF]
  split
  ·simp
  ·rename_i h0
   have h1 := cutN_le (l := l) (by omega)
   have h2 := (cutN_ge l).resolve_right (by omega)
   have ih := cutsF_count f (l.drop (cutN l)) (by rw [List.length_drop]; omega)
   rw [List.length_drop] at ih
   rw [List.length_cons]
   omega
theorem cuts_count (l : List Pt) : (cuts l).length ≤ (l.length + 9) / 10 := cutsF_count _ _ (Nat.le_refl _)
theorem cutsF_more : ∀ (f g : Nat) (l : List Pt), l.length ≤ f → l.length ≤ g → cutsF f l = cutsF g l
 | 0, 0, l, _, _ => rfl
 | 0, g + 1, l, h, _ => by rw [cutsF, cutsF, if_pos (by omega)]
 | f + 1, 0, l, _, h => by rw [cutsF, cutsF, if_pos (by omega)]
 | f + 1, g + 1, l, hf, hg => by
  rw [cutsF, cutsF]
  split
  ·rfl
  ·rename_i h0
   have h1 := cutN_le (l := l) (by omega)
   rw [cutsF_more f g (l.drop (cutN l)) (by rw [List.length_drop]; omega) (by rw [List.length_drop]; omega)]
theorem cuts_cons {l : List Pt} (h : 0 < l.length) : cuts l = l.take (cutN l) :: cuts (l.drop (cutN l)) := by
 have h1 := cutN_le h
 have e : l.length = (l.length - 1) + 1 := by omega
 unfold cuts
 conv => lhs; rw [e, cutsF]
 rw [if_neg (by omega), cutsF_more (l.length - 1) (l.drop (cutN l)).length _ (by rw [List.length_drop]; omega) (Nat.le_refl _)]
def ahead (l : List Pt) (i : Nat) : Nat := ((cuts l).take i).flatten.length
end Go.Ev.Ytljkplahkokpaaa


set_option linter.unusedVariables false
set_option linter.unusedSimpArgs false
set_option maxRecDepth 100000
namespace Go.Ev.Ytljkplahkokpaaa
open Go.Proofs
def WriteL (l : List Sh) : List Int × Int := if checkI l = 0 then writeI l else ([], checkI l)
theorem Write_pure (l : List Sh) (hl : l.length ≤ 100000) (hp : ∀ s ∈ l, s.ps.length ≤ 100000) : Pure Try.prog 29 [shsD l] (.tup [bsD (WriteL l).1, dI (WriteL l).2]) := by
 unfold WriteL
 split
 ·rename_i h; exact Write_ok l h
 ·rename_i h; exact Write_bad l hl hp h
def CardsL (s : Sh) : List Cd × Int := if checkI [s] = 0 then (cardsL s, 0) else ([], checkI [s])
def wantI (l : List Sh) : Int := if checkI l = 0 then (if (l.map Sh.n).Nodup then 0 else 6) else checkI l
theorem Write_as {l : List Sh} {b : List Int} {e : Int} (hl : l.length ≤ 100000) (hp : ∀ s ∈ l, s.ps.length ≤ 100000) (h : WriteL l = (b, e)) : Pure Try.prog 29 [shsD l] (.tup [bsD b, dI e]) := by
 have := Write_pure l hl hp
 rw [h] at this
 exact this
attribute [local irreducible] Pure Bor Iter Pan layB cardsL cuts refCard checkI thinB fileL
end Go.Ev.Ytljkplahkokpaaa


set_option linter.unusedVariables false
set_option linter.unusedSimpArgs false
set_option maxRecDepth 100000
namespace Go.Ev.Ytljkplahkokpaaa
open Go.Proofs
theorem check_one {s : Sh} (h1 : s.ps.length ≤ 100) (h2 : shB s = true) : checkI [s] = 0 := checkI_ok.2 ⟨by simp, fun x hx => by rw [List.mem_singleton.1 hx]; exact ⟨h1, h2⟩⟩
theorem cards_at (s : Sh) (k : Nat) (h : k < (cardsL s).length) : (cardsL s)[k] = ⟨s.n, k, (cuts s.ps).length, (cuts s.ps)[k]'(by rw [← cards_len]; exact h)⟩ := by
 have h2 : k < (cuts s.ps).length := by rw [← cards_len]; exact h
 have := cards_get s k h2
 rw [List.getElem?_eq_getElem h] at this
 exact Option.some.inj this
attribute [local irreducible] Pure Bor Iter Pan layB cardsL cuts refCard checkI thinB fileL shB cutN growN
end Go.Ev.Ytljkplahkokpaaa


set_option linter.unusedVariables false
set_option linter.unusedSimpArgs false
set_option maxRecDepth 100000
namespace Go.Ev.Ytljkplahkokpaaa
open Go.Proofs
def lackF (n : Int) : Nat → Nat → List Cd → List (Int × Int)
 | 0, _, _ => []
 | j + 1, i, [] => (n, (i : Int)) :: lackF n j (i + 1) []
 | j + 1, i, c :: r => bif c.i == (i : Int) then lackF n j (i + 1) r else (n, (i : Int)) :: lackF n j (i + 1) (c :: r)
def lacks : List Cd → List (Int × Int)
 | [] => []
 | h :: t => lackF h.n h.m.toNat 0 (h :: t)
def missG (G : List (List Cd)) : List (Int × Int) := (G.map lacks).flatten
def MissL (l : List Int) : List (Int × Int) × Int := (missG (openL l).1, (openL l).2.2)
abbrev lkC (p : Int × Int) : List D := [dI p.1, dI p.2]
theorem missG_take (G : List (List Cd)) {k : Nat} (h : k < G.length) : missG (G.take (k + 1)) = missG (G.take k) ++ lacks G[k] := by
 unfold missG
 rw [List.take_add_one, List.getElem?_eq_getElem h, List.map_append, List.flatten_append]; simp
theorem lackF_nil (n : Int) (j i : Nat) : lackF n (j + 1) i [] = (n, (i : Int)) :: lackF n j (i + 1) [] := by rw [lackF]
theorem lackF_hit {n : Int} {j i : Nat} {c : Cd} {r : List Cd} (h : c.i = (i : Int)) : lackF n (j + 1) i (c :: r) = lackF n j (i + 1) r := by
 rw [lackF, h]; simp
theorem lackF_no {n : Int} {j i : Nat} {c : Cd} {r : List Cd} (h : c.i ≠ (i : Int)) : lackF n (j + 1) i (c :: r) = (n, (i : Int)) :: lackF n j (i + 1) (c :: r) := by
 rw [lackF, show (c.i == (i : Int)) = false from by rw [beq_eq_false_iff_ne]; exact h, cond_false]
theorem lackF_len (n : Int) : ∀ (j i : Nat) (r : List Cd), (lackF n j i r).length ≤ j
 | 0, _, _ => by rw [lackF]; exact Nat.le_refl _
 | j + 1, i, [] => by
  have := lackF_len n j (i + 1) []
  rw [lackF, List.length_cons]; omega
 | j + 1, i, c :: r => by
  rw [lackF]
  cases c.i == (i : Int) with
  | true => have := lackF_len n j (i + 1) r; rw [cond_true]; omega
  | false => have := lackF_len n j (i + 1) (c :: r); rw [cond_false, List.length_cons]; omega
theorem missG_len : ∀ {G : List (List Cd)}, (∀ g ∈ G, ∀ c ∈ g, CdOK c) → (missG G).length ≤ G.length * 20
 | [], _ => by simp [missG]
 | g :: G, h => by
  have ih := missG_len (G := G) fun x hx => h x (by simp [hx])
  have e : missG (g :: G) = lacks g ++ missG G := rfl
  have hl : (lacks g).length ≤ 20 := by
   cases g with
   | nil => simp [lacks]
   | cons a t =>
    have h1 := lackF_len a.n a.m.toNat 0 (a :: t)
    have h2 := (h (a :: t) (by simp) a (by simp)).2.1
    exact Nat.le_trans h1 (by omega)
  rw [e, List.length_append, List.length_cons]
  omega
attribute [local irreducible] Pure Bor Iter Pan layB cardsL cuts refCard checkI thinB fileL openL lackF
theorem Missing_pure (l : List Int) (hl : l.length ≤ 100000) (hb : By l) : Pure Try.prog 42 [bsD l] (.tup [.seq ((MissL l).1.map lkC), dI (MissL l).2]) := by
 have co := open_pure l hl hb
 have hE := openL_err (l := l)
 have hGs := openL_gs hl hb
 unfold MissL
 generalize openL l = r at *
 obtain ⟨G, sp, e⟩ := r
 dsimp only at *
 have co : Pure Try.prog 51 [bsD l] (.tup [gpsD G, dI sp, dI e]) := co
 have hm : ((G.map fun g => [gpD g]).length : Int) = G.length := by rw [List.length_map]
 obtain ⟨hG1, hG2⟩ := hGs
 refine pure_of pg Try.func42 (by kernel_rfl) ?_
 by_cases he : e = 0
 ·have f1 : (e != 0) = false := by simp [he]
  rw [he]
  subst he
  conv => whnf
  (refine .inl ⟨_, co, ?_⟩; conv => whnf)
  (apply kF (f1); conv => whnf)
  refine ⟨[.own 7 86], [7, 21, 22, 23], [0], 1, fun m s => ∃ k : Nat, k + m = G.length ∧ s = ⟨[(7, .own 0), (21, .d (gpsD G)), (22, .d (dI (G.map fun g => [gpD g]).length)), (23, .d (dI k))], [(0, .arr 86 ((missG (G.take k)).map lkC))], 1⟩, ?_, ?_⟩
  ·conv => whnf
   exact ⟨G.length, 0, by omega, rfl⟩
  ·rintro m _ ⟨k, hk, rfl⟩
   by_cases hkl : k < G.length
   ·have f2 : decide ((k : Int) < ((G.map fun g => [gpD g]).length : Int)) = true := decide_eq_true (by rw [hm]; omega)
    obtain ⟨hgne, hgl, hgc⟩ := hG2 _ (List.getElem_mem hkl)
    have htk := missG_take G hkl
    have hml := missG_len (G := G.take k) fun g hg c hc => (hG2 g (List.mem_of_mem_take hg)).2.2 c hc
    rw [List.length_take] at hml
    have hgt := getgp G k hkl
    generalize hgd : G[k] = g at *
    obtain ⟨h, t, rfl⟩ : ∃ h t, g = h :: t := by
     cases g with
     | nil => exact absurd rfl hgne
     | cons h t => exact ⟨h, t, rfl⟩
    have hc0 := hgc h (by simp)
    obtain ⟨_, ⟨m1, m2⟩, _⟩ := hc0
    have hmg : ((((h :: t).map cdC).length : Nat) : Int) = ((h :: t).length : Nat) := by rw [List.length_map]
    conv => whnf
    (repeat' (first | (apply kT (by with_reducible first | rfl | assumption); conv => whnf) | (apply kF (by with_reducible first | rfl | assumption); conv => whnf) | (apply kT (by decide); conv => whnf) | (apply kF (by decide); conv => whnf) | (apply kB <;> intro _ <;> conv => whnf) | (refine ⟨k, _, rfl, hgt, rfl, ?_⟩; conv => whnf) | (refine ⟨0, _, rfl, rfl, rfl, ?_⟩; conv => whnf) | fail))
    obtain ⟨M, hM⟩ : ∃ M : Nat, h.m = M := ⟨h.m.toNat, by omega⟩
    have hla : lacks (h :: t) = lackF h.n M 0 (h :: t) := by show lackF h.n h.m.toNat 0 (h :: t) = _; rw [hM]; rfl
    rw [hla] at htk
    generalize hgg : h :: t = g at *
    have hgl0 : 0 < g.length := by rw [← hgg]; simp
    have hg0 : (g.map cdC)[0]? = some (cdC h) := by rw [← hgg]; rfl
    refine ⟨[], [7, 9, 10, 21, 22, 23, 30, 31], [0], 1, fun q s => ∃ (i a : Nat) (P : List (Int × Int)), i + q = M ∧ a ≤ g.length ∧ P.length ≤ i ∧ lackF h.n M 0 g = P ++ lackF h.n q i (g.drop a) ∧ s = ⟨[(7, .own 0), (9, .d (gpD g)), (10, .d (dI a)), (21, .d (gpsD G)), (22, .d (dI (G.map fun g => [gpD g]).length)), (23, .d (dI k)), (30, .d (dI h.m)), (31, .d (dI i))], [(0, .arr 86 ((missG (G.take k) ++ P).map lkC))], 1⟩, ?_, ?_⟩
    ·conv => whnf
     refine ⟨M, 0, 0, [], by omega, by omega, by simp, by simp, ?_⟩
     rw [List.append_nil]
     rfl
    ·rintro q _ ⟨i, a, P, hi, ha, hP, hlk, rfl⟩
     by_cases hiM : i < M
     ·have f3 : decide ((i : Int) < h.m) = true := decide_eq_true (by omega)
      obtain ⟨q', rfl⟩ : ∃ q', q = q' + 1 := ⟨q - 1, by omega⟩
      have hbound : ((missG (G.take k) ++ P).map lkC).length + 1 ≤ 200000 := by rw [List.length_map, List.length_append]; omega
      by_cases hag : a < g.length
      ·have f4 : decide ((a : Int) < ((g.map cdC).length : Int)) = true := decide_eq_true (by rw [hmg]; omega)
       have hd : g.drop a = g[a] :: g.drop (a + 1) := List.drop_eq_getElem_cons hag
       rw [hd] at hlk
       by_cases hit : g[a].i = (i : Int)
       ·have f5 : (g[a].i == (i : Int)) = true := by rw [hit]; simp
        rw [lackF_hit hit] at hlk
        conv => whnf
        (repeat' (first | (apply kT (by with_reducible first | rfl | assumption); conv => whnf) | (apply kF (by with_reducible first | rfl | assumption); conv => whnf) | (apply kT (by decide); conv => whnf) | (apply kF (by decide); conv => whnf) | (apply kB <;> intro _ <;> conv => whnf) | (refine ⟨a, _, rfl, getcd g a hag, rfl, ?_⟩; conv => whnf) | fail))
        refine ⟨q', by omega, i + 1, a + 1, P, by omega, by omega, by omega, hlk, ?_⟩
        rw [w1 i (by omega), w1 a (by omega)]
       ·have f5 : (g[a].i == (i : Int)) = false := by rw [beq_eq_false_iff_ne]; exact hit
        rw [lackF_no hit, ← hd] at hlk
        conv => whnf
        (repeat' (first | (apply kT (by with_reducible first | rfl | assumption); conv => whnf) | (apply kF (by with_reducible first | rfl | assumption); conv => whnf) | (apply kT (by decide); conv => whnf) | (apply kF (by decide); conv => whnf) | (apply kB <;> intro _ <;> conv => whnf) | (refine ⟨a, _, rfl, getcd g a hag, rfl, ?_⟩; conv => whnf) | fail))
        (refine ⟨0, _, rfl, hg0, rfl, ?_⟩; conv => whnf)
        (refine .l ?_; conv => whnf)
        (refine ⟨fun el h => by rw [List.mem_singleton.1 h]; rfl, by show (_ + 1) * 16 ≤ _; omega, ?_⟩; conv => whnf)
        refine ⟨q', by omega, i + 1, a, P ++ [(h.n, (i : Int))], by omega, by omega, by rw [List.length_append]; simp; omega, by rw [hlk]; simp, ?_⟩
        rw [w1 i (by omega), ← List.append_assoc, List.map_append (l₁ := missG _ ++ P)]
        rfl
      ·have f4 : decide ((a : Int) < ((g.map cdC).length : Int)) = false := decide_eq_false (by rw [hmg]; omega)
       have hd : g.drop a = [] := List.drop_of_length_le (by omega)
       rw [hd, lackF_nil] at hlk
       conv => whnf
       (repeat' (first | (apply kT (by with_reducible first | rfl | assumption); conv => whnf) | (apply kF (by with_reducible first | rfl | assumption); conv => whnf) | (apply kT (by decide); conv => whnf) | (apply kF (by decide); conv => whnf) | (apply kB <;> intro _ <;> conv => whnf) | fail))
       (refine ⟨0, _, rfl, hg0, rfl, ?_⟩; conv => whnf)
       (refine .l ?_; conv => whnf)
       (refine ⟨fun el h => by rw [List.mem_singleton.1 h]; rfl, by show (_ + 1) * 16 ≤ _; omega, ?_⟩; conv => whnf)
       refine ⟨q', by omega, i + 1, a, P ++ [(h.n, (i : Int))], by omega, by omega, by rw [List.length_append]; simp; omega, by rw [hlk, hd]; simp, ?_⟩
       rw [w1 i (by omega), ← List.append_assoc, List.map_append (l₁ := missG _ ++ P)]
       rfl
     ·have f3 : decide ((i : Int) < h.m) = false := decide_eq_false (by omega)
      have hq : q = 0 := by omega
      subst hq
      have e0 : lackF h.n 0 i (g.drop a) = [] := by rw [lackF]
      rw [e0, List.append_nil] at hlk
      conv => whnf
      (apply kF (f3); conv => whnf)
      refine ⟨m - 1, by omega, k + 1, by omega, ?_⟩
      rw [w1 k (by omega), htk, hlk]
   ·have f2 : decide ((k : Int) < ((G.map fun g => [gpD g]).length : Int)) = false := decide_eq_false (by rw [hm]; omega)
    rw [List.take_of_length_le (show G.length ≤ k by omega)]
    conv => whnf
    (apply kF (f2); conv => whnf)
    rfl
 ·obtain ⟨q1, q2⟩ := hE he
  have f1 : (e != 0) = true := by simpa using he
  subst q1 q2
  conv => whnf
  (refine .inl ⟨_, co, ?_⟩; conv => whnf)
  (apply kT (f1); conv => whnf)
  rfl
end Go.Ev.Ytljkplahkokpaaa


set_option linter.unusedVariables false
set_option linter.unusedSimpArgs false
set_option maxRecDepth 100000
namespace Go.Ev.Ytljkplahkokpaaa
open Go.Proofs
def pieceF : List Pt → Int → List Cd → List (List Pt)
 | cur, _, [] => [cur]
 | cur, i, c :: r => bif i + 1 == c.i then pieceF (cur ++ c.ps) c.i r else cur :: pieceF c.ps c.i r
def piecesC : List Cd → List (List Pt)
 | [] => []
 | h :: t => pieceF h.ps h.i t
def headN : List Cd → Int
 | [] => -1
 | h :: _ => h.n
def piecesG (n : Int) : List (List Cd) → List (List Pt)
 | [] => []
 | g :: G => bif headN g != n then piecesG n G else piecesC g ++ piecesG n G
def PiecesL (l : List Int) (n : Int) : List (List Pt) × Int :=
 bif (openL l).2.2 != 0 then ([], (openL l).2.2) else bif !inB n 0 9999 then ([], 2) else bif (piecesG n (openL l).1).length == 0 then ([], 7) else (piecesG n (openL l).1, 0)
theorem piecesG_append (n : Int) : ∀ (A B : List (List Cd)), piecesG n (A ++ B) = piecesG n A ++ piecesG n B
 | [], B => rfl
 | g :: A, B => by
  rw [List.cons_append, piecesG, piecesG, piecesG_append n A B]
  cases headN g != n with
  | true => rfl
  | false => simp
theorem piecesG_take (n : Int) (G : List (List Cd)) {k : Nat} (h : k < G.length) : piecesG n (G.take (k + 1)) = piecesG n (G.take k) ++ (bif headN G[k] != n then [] else piecesC G[k]) := by
 rw [List.take_add_one, List.getElem?_eq_getElem h, piecesG_append]
 congr 1
 show piecesG n [G[k]] = _
 rw [piecesG, piecesG, List.append_nil]
theorem pieceF_nil (cur : List Pt) (i : Int) : pieceF cur i [] = [cur] := by rw [pieceF]
theorem pieceF_on {cur : List Pt} {i : Int} {c : Cd} {r : List Cd} (h : i + 1 = c.i) : pieceF cur i (c :: r) = pieceF (cur ++ c.ps) c.i r := by rw [pieceF, h]; simp
theorem pieceF_new {cur : List Pt} {i : Int} {c : Cd} {r : List Cd} (h : i + 1 ≠ c.i) : pieceF cur i (c :: r) = cur :: pieceF c.ps c.i r := by
 rw [pieceF, show (i + 1 == c.i) = false from by rw [beq_eq_false_iff_ne]; exact h, cond_false]
theorem cloneP_bor (l : List Pt) (h0 : 0 < l.length) (hl : l.length ≤ 100000) : Bor tb Try.prog 68 [.d (ptsD l)] [] 1 (.own 0) [(0, .arr 74 (l.map ptD))] := by
 have hne : l.map ptD ≠ [] := by intro h; rw [List.map_eq_nil_iff] at h; rw [h] at h0; simp at h0
 have hel : ∀ x ∈ l.map ptD, x.length = 2 := fun x h => by rw [List.mem_map] at h; obtain ⟨y, _, rfl⟩ := h; rfl
 have hb : (0 + (l.map ptD).length) * 16 ≤ 140737488355328 := by rw [List.length_map]; omega
 refine bor_ofO pg Try.func68 (by kernel_rfl) ?_
 conv => whnf
 (refine ⟨hne, ?_⟩; conv => whnf)
 (repeat' (first | (apply kT (by with_reducible first | rfl | assumption); conv => whnf) | (apply kF (by with_reducible first | rfl | assumption); conv => whnf) | (apply kT (by decide); conv => whnf) | (apply kF (by decide); conv => whnf) | (apply kB <;> intro _ <;> conv => whnf) | fail))
 (refine ⟨hel, hb, ?_⟩; conv => whnf)
 (refine ⟨[0], ?_⟩; conv => whnf)
 exact ⟨rfl, rfl⟩
abbrev ppA (done : List (List Pt)) : List A := done.map fun p => A.d (ptsD p)
theorem invP (ρ : List Nat) (x : A) : ∀ done : List (List Pt), invAL ρ (ppA done ++ [x]) = ppA done ++ [invA ρ x]
 | [] => rfl
 | g :: r => by rw [ppA, List.map_cons, List.cons_append, invAL, invP ρ x r]; rfl
theorem frzPp (i : Nat) (d : D) : ∀ done : List (List Pt), frzAL [(i, d)] (ppA done ++ [.own i]) = ppA done ++ [.d d]
 | [] => by show [frzA [(i, d)] (.own i)] = _; rw [frzA, lookD, beq_self]; rfl
 | g :: r => by rw [ppA, List.map_cons, List.cons_append, frzAL, frzPp i d r]; rfl
theorem onlyPp {os : List Nat} {x : A} (h : x.onlyB os = true) : ∀ done : List (List Pt), A.onlyL os (ppA done ++ [x]) = true
 | [] => by show (x.onlyB os && true) = true; rw [h]; rfl
 | g :: r => by rw [ppA, List.map_cons, List.cons_append, A.onlyL, onlyPp h r]; rfl
def pcO (out : List (List Pt)) (ob : List (Nat × Ob)) : Prop :=
 (out = [] ∧ ∃ X : List Pt, ob = [(0, .arr 74 (X.map ptD)), (1, .arw 48 [])]) ∨
 ∃ (done : List (List Pt)) (cur : List Pt), out = done ++ [cur] ∧ ob = [(0, .arr 74 (cur.map ptD)), (1, .arw 48 (ppA done ++ [.own 0]))]
theorem pieceF_len : ∀ (r : List Cd) (cur : List Pt) (i : Int), (pieceF cur i r).length ≤ 1 + r.length
 | [], cur, i => by rw [pieceF]; simp
 | c :: r, cur, i => by
  rw [pieceF]
  cases i + 1 == c.i with
  | true => have := pieceF_len r (cur ++ c.ps) c.i; rw [cond_true, List.length_cons]; omega
  | false => have := pieceF_len r c.ps c.i; rw [cond_false, List.length_cons, List.length_cons]; omega
theorem piecesC_len (g : List Cd) : (piecesC g).length ≤ g.length := by
 cases g with
 | nil => exact Nat.le_refl _
 | cons h t => have := pieceF_len t h.ps h.i; rw [List.length_cons]; show (pieceF h.ps h.i t).length ≤ _; omega
theorem piecesG_len (n : Int) : ∀ {G : List (List Cd)}, (∀ g ∈ G, g.length ≤ 5000) → (piecesG n G).length ≤ 5000 * G.length
 | [], _ => by simp [piecesG]
 | g :: G, h => by
  have ih := piecesG_len n (G := G) fun x hx => h x (by simp [hx])
  have h1 := piecesC_len g
  have h2 := h g (by simp)
  rw [piecesG, List.length_cons]
  cases headN g != n with
  | true => rw [cond_true]; omega
  | false => rw [cond_false, List.length_append]; omega
theorem piecesG_nil (n : Int) : piecesG n [] = [] := rfl
theorem piecesC_cons (h : Cd) (t : List Cd) : piecesC (h :: t) = pieceF h.ps h.i t := rfl
attribute [local irreducible] Pure Bor Iter Pan layB cardsL cuts refCard checkI thinB fileL openL pieceF piecesG piecesC
theorem Pieces_pure (l : List Int) (n : Int) (hl : l.length ≤ 100000) (hb : By l) : Pure Try.prog 40 [bsD l, dI n] (.tup [.seq ((PiecesL l n).1.map rowP), dI (PiecesL l n).2]) := by
 have co := open_pure l hl hb
 have hE := openL_err (l := l)
 have hGs := openL_gs hl hb
 have cw := within_pure n 0 9999
 unfold PiecesL
 generalize openL l = r at *
 obtain ⟨G, sp, e⟩ := r
 dsimp only at *
 have co : Pure Try.prog 51 [bsD l] (.tup [gpsD G, dI sp, dI e]) := co
 have hm : ((G.map fun g => [gpD g]).length : Int) = G.length := by rw [List.length_map]
 obtain ⟨hG1, hG2⟩ := hGs
 by_cases he : e = 0
 ·have f1 : (e != 0) = false := by simp [he]
  rw [f1, cond_false]
  cases hin : inB n 0 9999 with
  | false =>
   rw [hin] at cw
   refine pure_of pg Try.func40 (by kernel_rfl) ?_
   conv => whnf
   (repeat' (first | (apply kT (by with_reducible first | rfl | assumption); conv => whnf) | (apply kF (by with_reducible first | rfl | assumption); conv => whnf) | (apply kT (by decide); conv => whnf) | (apply kF (by decide); conv => whnf) | (apply kB <;> intro _ <;> conv => whnf) | (refine .inl ⟨_, co, ?_⟩; conv => whnf) | (refine .inl ⟨_, cw, ?_⟩; conv => whnf) | fail))
   rfl
  | true =>
   rw [hin] at cw
   rw [Bool.not_true, cond_false]
   obtain ⟨R, hR⟩ : ∃ R, R = piecesG n G := ⟨_, rfl⟩
   rw [← hR]
   refine pure_of_v pg Try.func40 (by kernel_rfl) ?_
   conv => whnf
   (repeat' (first | (apply kT (by with_reducible first | rfl | assumption); conv => whnf) | (apply kF (by with_reducible first | rfl | assumption); conv => whnf) | (apply kT (by decide); conv => whnf) | (apply kF (by decide); conv => whnf) | (apply kB <;> intro _ <;> conv => whnf) | (refine .inl ⟨_, co, ?_⟩; conv => whnf) | (refine .inl ⟨_, cw, ?_⟩; conv => whnf) | fail))
   refine ⟨[.own 4 74, .ownw 9 48, .rex], [1, 9, 28, 29, 30], [0, 1], 2, fun m s => ∃ (k : Nat) (ob : List (Nat × Ob)), k + m = G.length ∧ pcO (piecesG n (G.take k)) ob ∧ s = ⟨[(1, .d (dI n)), (9, .own 1), (28, .d (gpsD G)), (29, .d (dI (G.map fun g => [gpD g]).length)), (30, .d (dI k))], ob, 2⟩, ?_, ?_⟩
   ·conv => whnf
    (refine ⟨rfl, ?_⟩; conv => whnf)
    exact ⟨G.length, 0, _, by omega, .inl ⟨by rw [List.take_zero, piecesG_nil], [], rfl⟩, rfl⟩
   ·rintro m _ ⟨k, ob, hk, hob, rfl⟩
    by_cases hkl : k < G.length
    ·have f2 : decide ((k : Int) < ((G.map fun g => [gpD g]).length : Int)) = true := decide_eq_true (by rw [hm]; omega)
     obtain ⟨hgne, hgl, hgc⟩ := hG2 _ (List.getElem_mem hkl)
     have htk := piecesG_take n G hkl
     have hgt := getgp G k hkl
     have hlen1 := piecesG_len n (G := G.take (k + 1)) fun g hg => (hG2 g (List.mem_of_mem_take hg)).2.1
     rw [List.length_take] at hlen1
     generalize hT : piecesG n (G.take (k + 1)) = T at *
     generalize hO : piecesG n (G.take k) = O at *
     generalize hgd : G[k] = g at *
     obtain ⟨h, t, hgt2⟩ : ∃ h t, g = h :: t := by
      cases g with
      | nil => exact absurd rfl hgne
      | cons h t => exact ⟨h, t, rfl⟩
     have hgl0 : 0 < g.length := by rw [hgt2]; simp
     have hg0 : (g.map cdC)[0]? = some (cdC h) := by rw [hgt2]; rfl
     have hhd : headN g = h.n := by rw [hgt2]; rfl
     have hg0' : ∀ h0 : 0 < g.length, g[0] = h := fun _ => by simp only [hgt2, List.getElem_cons_zero]
     have hdr1 : g.drop 1 = t := by rw [hgt2]; rfl
     have hmg : ((g.map cdC).length : Int) = g.length := by rw [List.length_map]
     rw [hhd] at htk
     by_cases hn : h.n = n
     ·have f3 : (h.n != n) = false := by simp [hn]
      rw [f3, cond_false] at htk
      have hpc : piecesC g = pieceF h.ps h.i t := by rw [hgt2, piecesC_cons]
      rw [hpc] at htk
      conv => whnf
      (repeat' (first | (apply kT (by with_reducible first | rfl | assumption); conv => whnf) | (apply kF (by with_reducible first | rfl | assumption); conv => whnf) | (apply kT (by decide); conv => whnf) | (apply kF (by decide); conv => whnf) | (apply kB <;> intro _ <;> conv => whnf) | (refine ⟨k, _, rfl, hgt, rfl, ?_⟩; conv => whnf) | (refine ⟨0, _, rfl, hg0, rfl, ?_⟩; conv => whnf) | fail))
      refine ⟨[.rex], [1, 9, 11, 28, 29, 30, 40, 41, 42], [0, 1], 2, fun q s => ∃ (j : Nat) (ob : List (Nat × Ob)), j + q = g.length ∧
       ((j = 0 ∧ pcO O ob) ∨ ∃ (done : List (List Pt)) (cur : List Pt) (j' : Nat) (hj' : j' < g.length), j = j' + 1 ∧ cur.length ≤ 15 * j ∧ T = done ++ pieceF cur g[j'].i (g.drop j) ∧ ob = [(0, .arr 74 (cur.map ptD)), (1, .arw 48 (ppA done ++ [.own 0]))]) ∧
       s = ⟨[(1, .d (dI n)), (9, .own 1), (11, .d (gpD g)), (28, .d (gpsD G)), (29, .d (dI (G.map fun g => [gpD g]).length)), (30, .d (dI k)), (40, .d (gpD g)), (41, .d (dI (g.map cdC).length)), (42, .d (dI j))], ob, 2⟩, ?_, ?_⟩
      ·rcases hob with ⟨hO0, X, rfl⟩ | ⟨done, cur, hO1, rfl⟩
       ·conv => whnf
        (refine ⟨rfl, ?_⟩; conv => whnf)
        exact ⟨g.length, 0, _, by omega, .inl ⟨rfl, .inl ⟨hO0, X, rfl⟩⟩, rfl⟩
       ·conv => whnf
        (refine ⟨onlyPp rfl _, ?_⟩; conv => whnf)
        exact ⟨g.length, 0, _, by omega, .inl ⟨rfl, .inr ⟨done, cur, hO1, rfl⟩⟩, rfl⟩
      ·rintro q _ ⟨j, ob, hj, hst, rfl⟩
       by_cases hjl : j < g.length
       ·have g1 : decide ((j : Int) < ((g.map cdC).length : Int)) = true := decide_eq_true (by rw [hmg]; omega)
        have hcj := hgc _ (List.getElem_mem hjl)
        have hcm := hcj.many
        have ccl := cloneP_bor g[j].ps hcm.1 (by omega)
        rcases hst with ⟨rfl, ⟨hO0, X, rfl⟩ | ⟨done, cur, hO1, rfl⟩⟩ | ⟨done, cur, j', hj', rfl, hcur, hTd, rfl⟩
        ·conv => whnf
         (repeat' (first | (apply kT (by with_reducible first | rfl | assumption); conv => whnf) | (apply kF (by with_reducible first | rfl | assumption); conv => whnf) | (apply kT (by decide); conv => whnf) | (apply kF (by decide); conv => whnf) | (apply kB <;> intro _ <;> conv => whnf) | (refine ⟨0, _, rfl, getcd g 0 hjl, rfl, ?_⟩; conv => whnf) | (refine .inr ⟨[], 1, _, _, ccl, ?_⟩; conv => whnf) | fail))
         (refine .r ⟨[], ?_⟩; conv => whnf)
         (refine ⟨_, rfl, ?_⟩; conv => whnf)
         (refine ⟨by decide, [.own 115], rfl, ?_⟩; conv => whnf)
         (refine ⟨[115, 117], ?_⟩; conv => whnf)
         (refine ⟨rfl, ?_⟩; conv => whnf)
         refine ⟨q - 1, by omega, 1, _, by omega, .inr ⟨[], g[0].ps, 0, hjl, rfl, by omega, by rw [htk, hO0, hg0', hdr1], rfl⟩, ?_⟩
         rw [w1 0 (by omega)]
         rfl
        ·have hdl : done.length ≤ 30000000 := by
          have := congrArg List.length htk
          rw [hO1, List.length_append, List.length_append] at this
          simp only [List.length_singleton] at this
          omega
         conv => whnf
         (repeat' (first | (apply kT (by with_reducible first | rfl | assumption); conv => whnf) | (apply kF (by with_reducible first | rfl | assumption); conv => whnf) | (apply kT (by decide); conv => whnf) | (apply kF (by decide); conv => whnf) | (apply kB <;> intro _ <;> conv => whnf) | (refine ⟨0, _, rfl, getcd g 0 hjl, rfl, ?_⟩; conv => whnf) | (refine .inr ⟨[], 1, _, _, ccl, ?_⟩; conv => whnf) | fail))
         (refine .r ⟨[0], ?_⟩; conv => whnf)
         (refine ⟨_, rfl, ?_⟩; conv => whnf)
         (refine ⟨_, frzPp 0 _ done, ?_⟩; conv => whnf)
         (refine ⟨by rw [List.length_append, List.length_map]; show (done.length + 1 + 1) * 24 ≤ _; omega, ppA (done ++ [cur]) ++ [.own 115], by rw [show ppA (done ++ [cur]) = ppA done ++ [A.d (ptsD cur)] from List.map_append]; rfl, ?_⟩; conv => whnf)
         (refine ⟨[115, 117], ?_⟩; conv => whnf)
         (refine ⟨by rw [invP]; exact onlyPp rfl _, ?_⟩; conv => whnf)
         refine ⟨q - 1, by omega, 1, _, by omega, .inr ⟨done ++ [cur], g[0].ps, 0, hjl, rfl, by omega, by rw [htk, hO1, hg0', hdr1], rfl⟩, ?_⟩
         rw [invP, w1 0 (by omega)]
         rfl
        ·have hdl : done.length ≤ 30000000 := by
          have := congrArg List.length hTd
          rw [List.length_append] at this
          omega
         have hgj : g.drop (j' + 1) = g[j' + 1] :: g.drop (j' + 1 + 1) := List.drop_eq_getElem_cons hjl
         rw [hgj] at hTd
         have hcp := hgc _ (List.getElem_mem hj')
         obtain ⟨_, ⟨p1, p2⟩, ⟨p3, p4⟩, _⟩ := hcp
         have g2 : decide (((j' + 1 : Nat) : Int) > 0) = true := decide_eq_true (by omega)
         have e1 : IntKind.i64.wrap (((j' + 1 : Nat) : Int) - 1) = ((j' : Nat) : Int) := by rw [wrapI (by omega) (by omega)]; omega
         have e2 : IntKind.i64.wrap (g[j'].i + 1) = g[j'].i + 1 := wS (by omega) (by omega)
         by_cases hon : g[j'].i + 1 = g[j' + 1].i
         ·have g3 : (IntKind.i64.wrap (g[j'].i + 1) == g[j' + 1].i) = true := by rw [e2, hon]; simp
          have hAl : (ppA done ++ [A.own 0]).length = done.length + 1 := by simp
          have hAg : (ppA done ++ [A.own 0])[done.length]? = some (A.own 0) := by simp
          have hAs : ∀ x, (ppA done ++ [A.own 0]).set done.length x = ppA done ++ [x] := fun x => by
           rw [List.set_append_right _ _ (by simp)]; simp
          have ew : IntKind.i64.wrap (((ppA done ++ [A.own 0]).length : Int) - 1) = ((done.length : Nat) : Int) := by rw [hAl, wrapI (by omega) (by omega)]; omega
          rw [pieceF_on hon] at hTd
          conv => whnf
          (repeat' (first | (apply kT (by with_reducible first | rfl | assumption); conv => whnf) | (apply kF (by with_reducible first | rfl | assumption); conv => whnf) | (apply kT (by decide); conv => whnf) | (apply kF (by decide); conv => whnf) | (apply kB <;> intro _ <;> conv => whnf) | (refine ⟨j' + 1, _, rfl, getcd g (j' + 1) hjl, rfl, ?_⟩; conv => whnf) | (refine ⟨j', _, e1, getcd g j' hj', rfl, ?_⟩; conv => whnf) | (refine ⟨done.length, ew, by rw [hAl]; omega, ?_⟩; conv => whnf) | (refine ⟨_, hAg, ?_⟩; conv => whnf) | fail))
          (refine ⟨ptL _, by rw [List.length_map, List.length_map]; show _ * 16 ≤ _; omega, ?_⟩; conv => whnf)
          (repeat' (first | (apply kT (by with_reducible first | rfl | assumption); conv => whnf) | (apply kF (by with_reducible first | rfl | assumption); conv => whnf) | (apply kT (by decide); conv => whnf) | (apply kF (by decide); conv => whnf) | (apply kB <;> intro _ <;> conv => whnf) | (refine ⟨done.length, ew, by rw [hAl]; omega, ?_⟩; conv => whnf) | (refine ⟨by rw [hAl]; omega, _, hAs _, ?_⟩; conv => whnf) | fail))
          (refine ⟨[211, 1], ?_⟩; conv => whnf)
          (refine ⟨by rw [invP]; exact onlyPp rfl _, ?_⟩; conv => whnf)
          refine ⟨q - 1, by omega, j' + 1 + 1, _, by omega, .inr ⟨done, cur ++ g[j' + 1].ps, j' + 1, hjl, rfl, by rw [List.length_append]; omega, hTd, rfl⟩, ?_⟩
          rw [invP, w1 (j' + 1) (by omega), List.map_append]
          rfl
         ·have g3 : (IntKind.i64.wrap (g[j'].i + 1) == g[j' + 1].i) = false := by rw [e2, beq_eq_false_iff_ne]; exact hon
          rw [pieceF_new hon] at hTd
          conv => whnf
          (repeat' (first | (apply kT (by with_reducible first | rfl | assumption); conv => whnf) | (apply kF (by with_reducible first | rfl | assumption); conv => whnf) | (apply kT (by decide); conv => whnf) | (apply kF (by decide); conv => whnf) | (apply kB <;> intro _ <;> conv => whnf) | (refine ⟨j' + 1, _, rfl, getcd g (j' + 1) hjl, rfl, ?_⟩; conv => whnf) | (refine ⟨j', _, e1, getcd g j' hj', rfl, ?_⟩; conv => whnf) | (refine .inr ⟨[], 1, _, _, ccl, ?_⟩; conv => whnf) | fail))
          (refine .r ⟨[0], ?_⟩; conv => whnf)
          (refine ⟨_, rfl, ?_⟩; conv => whnf)
          (refine ⟨_, frzPp 0 _ done, ?_⟩; conv => whnf)
          (refine ⟨by rw [List.length_append, List.length_map]; show (done.length + 1 + 1) * 24 ≤ _; omega, ppA (done ++ [cur]) ++ [.own 115], by rw [show ppA (done ++ [cur]) = ppA done ++ [A.d (ptsD cur)] from List.map_append]; rfl, ?_⟩; conv => whnf)
          (refine ⟨[115, 117], ?_⟩; conv => whnf)
          (refine ⟨by rw [invP]; exact onlyPp rfl _, ?_⟩; conv => whnf)
          refine ⟨q - 1, by omega, j' + 1 + 1, _, by omega, .inr ⟨done ++ [cur], g[j' + 1].ps, j' + 1, hjl, rfl, by omega, by rw [hTd]; simp, rfl⟩, ?_⟩
          rw [invP, w1 (j' + 1) (by omega)]
          rfl
       ·have g1 : decide ((j : Int) < ((g.map cdC).length : Int)) = false := decide_eq_false (by rw [hmg]; omega)
        rcases hst with ⟨rfl, _⟩ | ⟨done, cur, j', hj', rfl, hcur, hTd, rfl⟩
        ·omega
        rw [List.drop_of_length_le (by omega), pieceF_nil] at hTd
        conv => whnf
        (apply kF (g1); conv => whnf)
        (refine ⟨[0, 1], ?_⟩; conv => whnf)
        (refine ⟨by rw [invP]; exact onlyPp rfl _, ?_⟩; conv => whnf)
        refine ⟨m - 1, by omega, k + 1, _, by omega, .inr ⟨done, cur, by rw [hT, hTd], rfl⟩, ?_⟩
        rw [w1 k (by omega), invP]
        rfl
     ·have f3 : (h.n != n) = true := by simpa using hn
      rw [f3, cond_true, List.append_nil] at htk
      rcases hob with ⟨hO0, X, rfl⟩ | ⟨done, cur, hO1, rfl⟩
      ·conv => whnf
       (repeat' (first | (apply kT (by with_reducible first | rfl | assumption); conv => whnf) | (apply kF (by with_reducible first | rfl | assumption); conv => whnf) | (apply kT (by decide); conv => whnf) | (apply kF (by decide); conv => whnf) | (apply kB <;> intro _ <;> conv => whnf) | (refine ⟨k, _, rfl, hgt, rfl, ?_⟩; conv => whnf) | (refine ⟨0, _, rfl, hg0, rfl, ?_⟩; conv => whnf) | fail))
       (refine ⟨[0, 1], ?_⟩; conv => whnf)
       (refine ⟨rfl, ?_⟩; conv => whnf)
       refine ⟨m - 1, by omega, k + 1, _, by omega, .inl ⟨by rw [hT, htk, hO0], X, rfl⟩, ?_⟩
       rw [w1 k (by omega)]
       rfl
      ·conv => whnf
       (repeat' (first | (apply kT (by with_reducible first | rfl | assumption); conv => whnf) | (apply kF (by with_reducible first | rfl | assumption); conv => whnf) | (apply kT (by decide); conv => whnf) | (apply kF (by decide); conv => whnf) | (apply kB <;> intro _ <;> conv => whnf) | (refine ⟨k, _, rfl, hgt, rfl, ?_⟩; conv => whnf) | (refine ⟨0, _, rfl, hg0, rfl, ?_⟩; conv => whnf) | fail))
       (refine ⟨[0, 1], ?_⟩; conv => whnf)
       (refine ⟨by rw [invP]; exact onlyPp rfl _, ?_⟩; conv => whnf)
       refine ⟨m - 1, by omega, k + 1, _, by omega, .inr ⟨done, cur, by rw [hT, htk, hO1], rfl⟩, ?_⟩
       rw [w1 k (by omega), invP]
       rfl
    ·have f2 : decide ((k : Int) < ((G.map fun g => [gpD g]).length : Int)) = false := decide_eq_false (by rw [hm]; omega)
     have hkG : G.take k = G := List.take_of_length_le (by omega)
     rw [hkG, ← hR] at hob
     rcases hob with ⟨hO0, X, rfl⟩ | ⟨done, cur, hO1, rfl⟩
     ·rw [hO0]
      conv => whnf
      (apply kF (f2); conv => whnf)
      (repeat' (first | (apply kT (by with_reducible first | rfl | assumption); conv => whnf) | (apply kF (by with_reducible first | rfl | assumption); conv => whnf) | (apply kT (by decide); conv => whnf) | (apply kF (by decide); conv => whnf) | (apply kB <;> intro _ <;> conv => whnf) | fail))
      refine ⟨[], ?_⟩
      conv => whnf
      rfl
     ·have f3 : (((done ++ [cur]).length : Nat) == 0) = false := by rw [List.length_append]; simp
      have f4 : ((((ppA done ++ [A.own 0]).length : Nat) : Int) == 0) = false := by rw [List.length_append, beq_eq_false_iff_ne]; simp; omega
      rw [hO1, f3, cond_false]
      conv => whnf
      (apply kF (f2); conv => whnf)
      (repeat' (first | (apply kT (by with_reducible first | rfl | assumption); conv => whnf) | (apply kF (by with_reducible first | rfl | assumption); conv => whnf) | (apply kT (by decide); conv => whnf) | (apply kF (by decide); conv => whnf) | (apply kB <;> intro _ <;> conv => whnf) | fail))
      refine ⟨[.frz 0, .toArr 1], ?_⟩
      conv => whnf
      (refine ⟨_, frzPp 0 _ done, ?_⟩; conv => whnf)
      (refine ⟨(done ++ [cur]).map ptsD, by rw [List.map_map, List.map_append]; rfl, ?_⟩; conv => whnf)
      rw [List.map_map]
      rfl
 ·obtain ⟨q1, q2⟩ := hE he
  have f1 : (e != 0) = true := by simpa using he
  rw [f1, cond_true]
  subst q1 q2
  refine pure_of pg Try.func40 (by kernel_rfl) ?_
  conv => whnf
  (refine .inl ⟨_, co, ?_⟩; conv => whnf)
  (apply kT (f1); conv => whnf)
  rfl
end Go.Ev.Ytljkplahkokpaaa


set_option linter.unusedVariables false
set_option linter.unusedSimpArgs false
set_option maxRecDepth 100000
namespace Go.Ev.Ytljkplahkokpaaa
open Go.Proofs
abbrev BL := List Int
attribute [local irreducible] Pure Bor Iter Pan layB cardsL cuts refCard checkI thinB fileL openL addL sortC numG
abbrev fOB (f : Nat) : Ob := .var false 43 [.d (.fn (.func f) [] [])]
theorem all1B (f : Nat) (p : BL → Bool) (x : BL) (hp : Pure Try.prog f [bsD x] (dB (p x))) : Bor tb Try.prog 81 [.d (bsD x), .ref 0 0] [fOB f] 2 (.d (dB (!p x))) [(0, fOB f)] := by
 refine bor_of pg Try.func81 (by kernel_rfl) ?_
 conv => whnf
 (repeat' (first | (apply kT (by with_reducible first | rfl | assumption); conv => whnf) | (apply kF (by with_reducible first | rfl | assumption); conv => whnf) | (apply kT (by decide); conv => whnf) | (apply kF (by decide); conv => whnf) | (apply kB <;> intro _ <;> conv => whnf) | (refine .inl ⟨_, hp, ?_⟩; conv => whnf) | fail))
 (refine ⟨[], [0], ?_⟩; conv => whnf)
 exact ⟨by cases p x <;> rfl, rfl⟩
theorem idxB (f : Nat) (p : BL → Bool) (l : List BL) (hl : l.length ≤ 100000) (hp : ∀ x ∈ l, Pure Try.prog f [bsD x] (dB (p x))) : Bor tb Try.prog 96 [.d (.seq (l.map chE)), .fn (.func 81) [] [.ref 0 0]] [fOB f] 2 (.d (dI (ixI (fun x => !p x) l))) [(0, fOB f)] := by
 have hm : ((l.map chE).length : Int) = l.length := by rw [List.length_map]
 refine bor_of pg Try.func96 (by kernel_rfl) ?_
 conv => whnf
 (repeat' (first | (apply kT (by with_reducible first | rfl | assumption); conv => whnf) | (apply kF (by with_reducible first | rfl | assumption); conv => whnf) | (apply kT (by decide); conv => whnf) | (apply kF (by decide); conv => whnf) | (apply kB <;> intro _ <;> conv => whnf) | fail))
 refine ⟨[], [0, 1, 7, 8], [0], 1, fun m s => ∃ k : Nat, k + m = l.length ∧ (∀ j (h : j < k) (h2 : j < l.length), (!p l[j]) = false) ∧ s = ⟨[(0, .d (.seq (l.map chE))), (1, .fn (.func 81) [] [.ref 0 0]), (7, .d (dI ((l.map chE).length : Nat))), (8, .d (dI k))], [(0, fOB f)], 1⟩, ?_, ?_⟩
 ·conv => whnf
  exact ⟨l.length, 0, by omega, fun j h => by omega, rfl⟩
 ·rintro m _ ⟨k, hk, hno, rfl⟩
  by_cases hkl : k < l.length
  ·have f1 : decide ((k : Int) < ((l.map chE).length : Int)) = true := decide_eq_true (by rw [hm]; omega)
   have hg : (l.map chE)[k]? = some (chE l[k]) := by rw [List.getElem?_map, List.getElem?_eq_getElem hkl]; rfl
   have w1k : IntKind.i64.wrap ((k : Int) + 1) = ((k + 1 : Nat) : Int) := by rw [wrapI (by omega) (by omega)]; rfl
   have cs := all1B f p l[k] (hp _ (List.getElem_mem _))
   by_cases he : (!p l[k]) = true
   ·have e := ixI_at (q := fun x => !p x) hkl (fun j hj => hno j hj (by omega)) he
    rw [e]
    rw [he] at cs
    conv => whnf
    (repeat' (first | (apply kT (by with_reducible first | rfl | assumption); conv => whnf) | (apply kF (by with_reducible first | rfl | assumption); conv => whnf) | (apply kT (by decide); conv => whnf) | (apply kF (by decide); conv => whnf) | (apply kB <;> intro _ <;> conv => whnf) | fail))
    (refine ⟨k, _, rfl, hg, rfl, ?_⟩; conv => whnf)
    (refine .inr ⟨[0], 2, _, _, cs, ?_⟩; conv => whnf)
    (repeat' (first | (apply kT (by with_reducible first | rfl | assumption); conv => whnf) | (apply kF (by with_reducible first | rfl | assumption); conv => whnf) | (apply kT (by decide); conv => whnf) | (apply kF (by decide); conv => whnf) | (apply kB <;> intro _ <;> conv => whnf) | fail))
    (refine ⟨[], [0], ?_⟩; conv => whnf)
    exact ⟨rfl, rfl⟩
   ·have he := (Bool.not_eq_true _).mp he
    rw [he] at cs
    conv => whnf
    (repeat' (first | (apply kT (by with_reducible first | rfl | assumption); conv => whnf) | (apply kF (by with_reducible first | rfl | assumption); conv => whnf) | (apply kT (by decide); conv => whnf) | (apply kF (by decide); conv => whnf) | (apply kB <;> intro _ <;> conv => whnf) | fail))
    (refine ⟨k, _, rfl, hg, rfl, ?_⟩; conv => whnf)
    (refine .inr ⟨[0], 2, _, _, cs, ?_⟩; conv => whnf)
    (repeat' (first | (apply kT (by with_reducible first | rfl | assumption); conv => whnf) | (apply kF (by with_reducible first | rfl | assumption); conv => whnf) | (apply kT (by decide); conv => whnf) | (apply kF (by decide); conv => whnf) | (apply kB <;> intro _ <;> conv => whnf) | fail))
    refine ⟨m - 1, by omega, k + 1, by omega, fun j hj hjl => ?_, ?_⟩
    ·by_cases h : j < k
     ·exact hno j h hjl
     ·have : j = k := by omega
      subst this
      exact he
    ·rw [w1k]
  ·have f1 : decide ((k : Int) < ((l.map chE).length : Int)) = false := decide_eq_false (by rw [hm]; omega)
   have e := ixI_none (q := fun x => !p x) (l := l) fun j hj => hno j (by omega) hj
   rw [e]
   conv => whnf
   (repeat' (first | (apply kT (by with_reducible first | rfl | assumption); conv => whnf) | (apply kF (by with_reducible first | rfl | assumption); conv => whnf) | (apply kT (by decide); conv => whnf) | (apply kF (by decide); conv => whnf) | (apply kB <;> intro _ <;> conv => whnf) | fail))
   (refine ⟨[], [0], ?_⟩; conv => whnf)
   exact ⟨rfl, rfl⟩
theorem hasB (f : Nat) (p : BL → Bool) (l : List BL) (hl : l.length ≤ 100000) (hp : ∀ x ∈ l, Pure Try.prog f [bsD x] (dB (p x))) : Bor tb Try.prog 80 [.d (.seq (l.map chE)), .fn (.func 81) [] [.ref 0 0]] [fOB f] 2 (.d (dB (!l.all p))) [(0, fOB f)] := by
 have ci := idxB f p l hl hp
 rw [← ixI_all]
 refine bor_of pg Try.func80 (by kernel_rfl) ?_
 conv => whnf
 (repeat' (first | (apply kT (by with_reducible first | rfl | assumption); conv => whnf) | (apply kF (by with_reducible first | rfl | assumption); conv => whnf) | (apply kT (by decide); conv => whnf) | (apply kF (by decide); conv => whnf) | (apply kB <;> intro _ <;> conv => whnf) | fail))
 (refine .inr ⟨[0], 2, _, _, ci, ?_⟩; conv => whnf)
 (repeat' (first | (apply kT (by with_reducible first | rfl | assumption); conv => whnf) | (apply kF (by with_reducible first | rfl | assumption); conv => whnf) | (apply kT (by decide); conv => whnf) | (apply kF (by decide); conv => whnf) | (apply kB <;> intro _ <;> conv => whnf) | fail))
 (refine ⟨[], [0], ?_⟩; conv => whnf)
 exact ⟨rfl, rfl⟩
theorem allB (f : Nat) (p : BL → Bool) (l : List BL) (hl : l.length ≤ 100000) (hp : ∀ x ∈ l, Pure Try.prog f [bsD x] (dB (p x))) : Pure Try.prog 61 [.seq (l.map chE), .fn (.func f) [] []] (dB (l.all p)) := by
 have ci := hasB f p l hl hp
 refine pure_of pg Try.func61 (by kernel_rfl) ?_
 conv => whnf
 (repeat' (first | (apply kT (by with_reducible first | rfl | assumption); conv => whnf) | (apply kF (by with_reducible first | rfl | assumption); conv => whnf) | (apply kT (by decide); conv => whnf) | (apply kF (by decide); conv => whnf) | (apply kB <;> intro _ <;> conv => whnf) | fail))
 (refine .inr ⟨[0], 2, _, _, ci, ?_⟩; conv => whnf)
 (repeat' (first | (apply kT (by with_reducible first | rfl | assumption); conv => whnf) | (apply kF (by with_reducible first | rfl | assumption); conv => whnf) | (apply kT (by decide); conv => whnf) | (apply kF (by decide); conv => whnf) | (apply kB <;> intro _ <;> conv => whnf) | fail))
 cases l.all p <;> rfl
theorem growC (n : Nat) (hn : 0 < n) (hn2 : n ≤ 100000) : Bor tb Try.prog 86 [.d (.v (.slice none 0 0)), .d (dI n)] [] 1 (.own 0) [(0, .arr 129 [])] := by
 have f1 : decide ((n : Int) < 0) = false := decide_eq_false (by omega)
 have w1' : IntKind.i64.wrap ((n : Int) - IntKind.i64.wrap (0 - ((([] : List (List D)).length : Nat) : Int))) = (n : Int) := by rw [show IntKind.i64.wrap (0 - ((([] : List (List D)).length : Nat) : Int)) = 0 from by decide]; rw [wrapI (by omega) (by omega)]; omega
 have f2 : decide ((IntKind.i64.wrap ((n : Int) - IntKind.i64.wrap (0 - ((([] : List (List D)).length : Nat) : Int)))) > 0) = true := decide_eq_true (by rw [w1']; omega)
 refine bor_ofO pg Try.func86 (by kernel_rfl) ?_
 conv => whnf
 (repeat' (first | (apply kT (by with_reducible first | rfl | assumption); conv => whnf) | (apply kF (by with_reducible first | rfl | assumption); conv => whnf) | (apply kT (by decide); conv => whnf) | (apply kF (by decide); conv => whnf) | (apply kB <;> intro _ <;> conv => whnf) | fail))
 (refine ⟨0, rfl, rfl, rfl, ?_⟩; conv => whnf)
 (refine ⟨n, w1', by show n * 48 ≤ 140737488355328; omega, _, rfl, ?_⟩; conv => whnf)
 (refine ⟨0, rfl, Nat.zero_le _, .l ⟨[], rfl, ?_⟩⟩; conv => whnf)
 (refine ⟨[0], ?_⟩; conv => whnf)
 exact ⟨rfl, rfl⟩
theorem growC0 : Bor tb Try.prog 86 [.d (.v (.slice none 0 0)), .d (dI 0)] [] 0 (.d (.v (.slice none 0 0))) [] := by
 refine bor_ofO pg Try.func86 (by kernel_rfl) ?_
 conv => whnf
 (repeat' (first | (apply kT (by with_reducible first | rfl | assumption); conv => whnf) | (apply kF (by with_reducible first | rfl | assumption); conv => whnf) | (apply kT (by decide); conv => whnf) | (apply kF (by decide); conv => whnf) | (apply kB <;> intro _ <;> conv => whnf) | fail))
 (refine ⟨[], ?_⟩; conv => whnf)
 exact ⟨rfl, rfl⟩
theorem concatC (P : List (List Cd)) (hP : P.length ≤ 100000) (hl : P.flatten.length ≤ 100000) : Pure Try.prog 65 [.seq (P.map fun l => [.seq (l.map cdC)])] (.seq (P.flatten.map cdC)) := by
 have hm : ((P.map fun l => [D.seq (l.map cdC)]).length : Int) = P.length := by rw [List.length_map]
 have hg : ∀ k (h : k < P.length), (P.map fun l => [D.seq (l.map cdC)])[k]? = some [D.seq (P[k].map cdC)] := fun k h => by simp [h]
 have hf : ∀ k (h : k < P.length), (P.take (k + 1)).flatten = (P.take k).flatten ++ P[k] := fun k h => by
  rw [List.take_add_one, List.getElem?_eq_getElem h, List.flatten_append]; simp
 have hle : ∀ k, (P.take k).flatten.length ≤ P.flatten.length := fun k => by
  rw [show P.flatten = (P.take k).flatten ++ (P.drop k).flatten from by rw [← List.flatten_append, List.take_append_drop]]
  simp
 have loop2 : ∀ k (h : k < P.length), ((P.take k).flatten.length + P[k].length) = (P.take (k + 1)).flatten.length := fun k h => by rw [hf k h, List.length_append]
 have hel : ∀ k (h : k < P.length), ∀ el ∈ P[k].map cdC, el.length = 4 := fun k h el he => by
  rw [List.mem_map] at he; obtain ⟨x, _, rfl⟩ := he; rfl
 have hby : ∀ k (h : k < P.length), (((P.take k).flatten.map cdC).length + (P[k].map cdC).length) * 48 ≤ 140737488355328 := fun k h => by
  rw [List.length_map, List.length_map, loop2 k h]
  have := hle (k + 1)
  omega
 refine pure_of pg Try.func65 (by kernel_rfl) ?_
 conv => whnf
 (repeat' (first | (apply kT (by with_reducible first | rfl | assumption); conv => whnf) | (apply kF (by with_reducible first | rfl | assumption); conv => whnf) | (apply kT (by decide); conv => whnf) | (apply kF (by decide); conv => whnf) | (apply kB <;> intro _ <;> conv => whnf) | fail))
 refine ⟨[], [0, 3, 9, 10, 11], [], 0, fun m s => ∃ k : Nat, k + m = P.length ∧ s = ⟨[(0, .d (.seq (P.map fun l => [D.seq (l.map cdC)]))), (3, .d (dI (P.take k).flatten.length)), (9, .d (.seq (P.map fun l => [D.seq (l.map cdC)]))), (10, .d (dI ((P.map fun l => [D.seq (l.map cdC)]).length : Nat))), (11, .d (dI k))], [], 0⟩, ?_, ?_⟩
 ·conv => whnf
  exact ⟨P.length, 0, by omega, rfl⟩
 ·rintro m _ ⟨k, hk, rfl⟩
  by_cases hkl : k < P.length
  ·have f1 : decide ((k : Int) < ((P.map fun l => [D.seq (l.map cdC)]).length : Int)) = true := decide_eq_true (by rw [hm]; omega)
   have ew : IntKind.i64.wrap (((P.take k).flatten.length : Int) + ((P[k].map cdC).length : Int)) = ((P.take (k + 1)).flatten.length : Int) := by
    rw [List.length_map, ← loop2 k hkl]
    have := hle (k + 1)
    have := loop2 k hkl
    rw [wrapI (by omega) (by omega)]
    omega
   have f2 : decide (IntKind.i64.wrap (((P.take k).flatten.length : Int) + ((P[k].map cdC).length : Int)) < 0) = false := decide_eq_false (by rw [ew]; omega)
   conv => whnf
   (repeat' (first | (apply kT (by with_reducible first | rfl | assumption); conv => whnf) | (apply kF (by with_reducible first | rfl | assumption); conv => whnf) | (apply kT (by decide); conv => whnf) | (apply kF (by decide); conv => whnf) | (apply kB <;> intro _ <;> conv => whnf) | (refine ⟨k, _, rfl, hg k hkl, rfl, ?_⟩; conv => whnf) | fail))
   refine ⟨m - 1, by omega, k + 1, by omega, ?_⟩
   rw [ew, w1 k (by omega)]
  ·have f1 : decide ((k : Int) < ((P.map fun l => [D.seq (l.map cdC)]).length : Int)) = false := decide_eq_false (by rw [hm]; omega)
   have ek : k = P.length := by omega
   subst ek
   rw [List.take_length]
   by_cases h0 : P.flatten.length = 0
   ·rw [h0]
    conv => whnf
    (apply kF (f1); conv => whnf)
    (refine .inr ⟨[], 0, _, _, growC0, ?_⟩; conv => whnf)
    (repeat' (first | (apply kT (by with_reducible first | rfl | assumption); conv => whnf) | (apply kF (by with_reducible first | rfl | assumption); conv => whnf) | (apply kT (by decide); conv => whnf) | (apply kF (by decide); conv => whnf) | (apply kB <;> intro _ <;> conv => whnf) | fail))
    refine ⟨[.own 6 129], [6, 25, 26, 27], [0], 1, fun m s => ∃ k : Nat, k + m = P.length ∧ s = ⟨[(6, .own 0), (25, .d (.seq (P.map fun l => [D.seq (l.map cdC)]))), (26, .d (dI ((P.map fun l => [D.seq (l.map cdC)]).length : Nat))), (27, .d (dI k))], [(0, .arr 129 ((P.take k).flatten.map cdC))], 1⟩, ?_, ?_⟩
    ·conv => whnf
     exact ⟨P.length, 0, by omega, rfl⟩
    ·rintro m _ ⟨k, hk, rfl⟩
     by_cases hkl : k < P.length
     ·have f1 : decide ((k : Int) < ((P.map fun l => [D.seq (l.map cdC)]).length : Int)) = true := decide_eq_true (by rw [hm]; omega)
      conv => whnf
      (repeat' (first | (apply kT (by with_reducible first | rfl | assumption); conv => whnf) | (apply kF (by with_reducible first | rfl | assumption); conv => whnf) | (apply kT (by decide); conv => whnf) | (apply kF (by decide); conv => whnf) | (apply kB <;> intro _ <;> conv => whnf) | (refine ⟨k, _, rfl, hg k hkl, rfl, ?_⟩; conv => whnf) | fail))
      (refine ⟨hel k hkl, hby k hkl, ?_⟩; conv => whnf)
      refine ⟨m - 1, by omega, k + 1, by omega, ?_⟩
      rw [w1 k (by omega), hf k hkl, List.map_append]
     ·have f1 : decide ((k : Int) < ((P.map fun l => [D.seq (l.map cdC)]).length : Int)) = false := decide_eq_false (by rw [hm]; omega)
      have ek : k = P.length := by omega
      subst ek
      rw [List.take_length]
      conv => whnf
      (apply kF (f1); conv => whnf)
      rfl
   ·conv => whnf
    (apply kF (f1); conv => whnf)
    (refine .inr ⟨[], 1, _, _, growC P.flatten.length (by omega) hl, ?_⟩; conv => whnf)
    (repeat' (first | (apply kT (by with_reducible first | rfl | assumption); conv => whnf) | (apply kF (by with_reducible first | rfl | assumption); conv => whnf) | (apply kT (by decide); conv => whnf) | (apply kF (by decide); conv => whnf) | (apply kB <;> intro _ <;> conv => whnf) | fail))
    refine ⟨[], [6, 25, 26, 27], [0], 1, fun m s => ∃ k : Nat, k + m = P.length ∧ s = ⟨[(6, .own 0), (25, .d (.seq (P.map fun l => [D.seq (l.map cdC)]))), (26, .d (dI ((P.map fun l => [D.seq (l.map cdC)]).length : Nat))), (27, .d (dI k))], [(0, .arr 129 ((P.take k).flatten.map cdC))], 1⟩, ?_, ?_⟩
    ·conv => whnf
     exact ⟨P.length, 0, by omega, rfl⟩
    ·rintro m _ ⟨k, hk, rfl⟩
     by_cases hkl : k < P.length
     ·have f1 : decide ((k : Int) < ((P.map fun l => [D.seq (l.map cdC)]).length : Int)) = true := decide_eq_true (by rw [hm]; omega)
      conv => whnf
      (repeat' (first | (apply kT (by with_reducible first | rfl | assumption); conv => whnf) | (apply kF (by with_reducible first | rfl | assumption); conv => whnf) | (apply kT (by decide); conv => whnf) | (apply kF (by decide); conv => whnf) | (apply kB <;> intro _ <;> conv => whnf) | (refine ⟨k, _, rfl, hg k hkl, rfl, ?_⟩; conv => whnf) | fail))
      (refine ⟨hel k hkl, hby k hkl, ?_⟩; conv => whnf)
      refine ⟨m - 1, by omega, k + 1, by omega, ?_⟩
      rw [w1 k (by omega), hf k hkl, List.map_append]
     ·have f1 : decide ((k : Int) < ((P.map fun l => [D.seq (l.map cdC)]).length : Int)) = false := decide_eq_false (by rw [hm]; omega)
      have ek : k = P.length := by omega
      subst ek
      rw [List.take_length]
      conv => whnf
      (apply kF (f1); conv => whnf)
      rfl
def goodF (l : List Int) : Bool := decide (l.length ≤ 8000)
theorem goodF_pure (l : List Int) : Pure Try.prog 62 [bsD l] (dB (goodF l)) := by
 have e : goodF l = decide (((l.map byC).length : Int) ≤ 8000) := by
  unfold goodF; rw [List.length_map]
  by_cases h : l.length ≤ 8000
  ·rw [decide_eq_true h, decide_eq_true (by omega)]
  ·rw [decide_eq_false h, decide_eq_false (by omega)]
 rw [e]
 refine pure_of pg Try.func62 (by kernel_rfl) ?_
 conv => whnf
 (repeat' (first | (apply kT (by with_reducible first | rfl | assumption); conv => whnf) | (apply kF (by with_reducible first | rfl | assumption); conv => whnf) | (apply kT (by decide); conv => whnf) | (apply kF (by decide); conv => whnf) | (apply kB <;> intro _ <;> conv => whnf) | fail))
 rfl
def trF (fs : List (List Int)) : Tr := fs.foldl addL tr0
theorem trF_ok {fs : List (List Int)} : (∀ f ∈ fs, By f ∧ f.length ≤ 8000) → ∀ {t : Tr} {b : Int}, TrOK t b → Keys t.es → TrOK (fs.foldl addL t) (b + 200 * fs.length) ∧ Keys (fs.foldl addL t).es ∧ (fs.foldl addL t).es.length ≤ t.es.length + 200 * fs.length := by
 induction fs with
 | nil => intro _ t b h1 h2; exact ⟨by simpa using h1, h2, Nat.le_refl _⟩
 | cons f r ih =>
  intro h t b h1 h2
  obtain ⟨q1, q2⟩ := h f (by simp)
  have hn : nCh f ≤ 200 := by unfold nCh; omega
  have k1 := addL_ok h1 q1
  have k2 := addL_keys h2 f
  have k3 := addL_len t f
  obtain ⟨p1, p2, p3⟩ := ih (fun x hx => h x (by simp [hx])) (k1.le (show b + nCh f ≤ b + 200 by omega)) k2
  refine ⟨p1.le (by rw [List.length_cons]; omega), p2, by rw [List.foldl_cons, List.length_cons]; omega⟩
def MendL (fs : List (List Int)) : List Int × Int :=
 if 5 < fs.length ∨ fs.all goodF = false then ([], 3)
 else bif (numG (trF fs).tw (sortC (trF fs).es)).2 then ([], 6)
 else if 8000 < ((sortC (trF fs).es).map layB).flatten.length then ([], 3) else (((sortC (trF fs).es).map layB).flatten, 0)
theorem getch (l : List (List Int)) (k : Nat) (h : k < l.length) : (l.map chE)[k]? = some (chE l[k]) := by simp [h]
theorem Mend_pure (fs : List (List Int)) (hl : fs.length ≤ 100000) (hb : ∀ f ∈ fs, By f) : Pure Try.prog 37 [.seq (fs.map chE)] (.tup [bsD (MendL fs).1, dI (MendL fs).2]) := by
 have hm : ((fs.map chE).length : Int) = fs.length := by rw [List.length_map]
 have ca := allB 62 goodF fs hl fun x _ => goodF_pure x
 refine pure_of pg Try.func37 (by kernel_rfl) ?_
 by_cases h5 : 5 < fs.length
 ·have f1 : decide (((fs.map chE).length : Int) > 5) = true := decide_eq_true (by rw [hm]; omega)
  have e : MendL fs = ([], 3) := if_pos (.inl h5)
  rw [e]
  conv => whnf
  (repeat' (first | (apply kT (by with_reducible first | rfl | assumption); conv => whnf) | (apply kF (by with_reducible first | rfl | assumption); conv => whnf) | (apply kT (by decide); conv => whnf) | (apply kF (by decide); conv => whnf) | (apply kB <;> intro _ <;> conv => whnf) | (refine .inl ⟨_, ca, ?_⟩; conv => whnf) | fail))
  rfl
 ·have f1 : decide (((fs.map chE).length : Int) > 5) = false := decide_eq_false (by rw [hm]; omega)
  cases hall : fs.all goodF with
  | false =>
   have e : MendL fs = ([], 3) := if_pos (.inr hall)
   rw [hall] at ca
   rw [e]
   conv => whnf
   (repeat' (first | (apply kT (by with_reducible first | rfl | assumption); conv => whnf) | (apply kF (by with_reducible first | rfl | assumption); conv => whnf) | (apply kT (by decide); conv => whnf) | (apply kF (by decide); conv => whnf) | (apply kB <;> intro _ <;> conv => whnf) | (refine .inl ⟨_, ca, ?_⟩; conv => whnf) | fail))
   rfl
  | true =>
   rw [hall] at ca
   have hg : ∀ f ∈ fs, By f ∧ f.length ≤ 8000 := fun f hf => ⟨hb f hf, by simpa [goodF] using List.all_eq_true.1 hall f hf⟩
   obtain ⟨t1, t2, t3⟩ := trF_ok hg tr0_ok tr0_keys
   have e0 : tr0.es.length = 0 := rfl
   have cn := numbers_bor (trF fs) _ t1 t2 (by show (fs.foldl addL tr0).es.length ≤ _; omega)
   have hL : (sortC (trF fs).es).length ≤ 1000 := by rw [(sortC_perm _).length_eq]; show (fs.foldl addL tr0).es.length ≤ _; omega
   have hLc : ∀ c ∈ sortC (trF fs).es, CdOK c := fun c hc => t1.1 c ((sortC_perm _).mem_iff.1 hc)
   have hnf := numG_flat (trF fs).tw (sortC (trF fs).es)
   have hne := numG_ne (trF fs).tw (sortC (trF fs).es)
   have hfl := (flat_lens hne).1
   rw [hnf] at hfl
   have e : MendL fs = bif (numG (trF fs).tw (sortC (trF fs).es)).2 then ([], 6) else if 8000 < ((sortC (trF fs).es).map layB).flatten.length then ([], 3) else (((sortC (trF fs).es).map layB).flatten, 0) := if_neg (by rw [hall]; simp; omega)
   rw [e]
   conv => whnf
   (repeat' (first | (apply kT (by with_reducible first | rfl | assumption); conv => whnf) | (apply kF (by with_reducible first | rfl | assumption); conv => whnf) | (apply kT (by decide); conv => whnf) | (apply kF (by decide); conv => whnf) | (apply kB <;> intro _ <;> conv => whnf) | (refine .inl ⟨_, ca, ?_⟩; conv => whnf) | fail))
   refine ⟨[], [4, 25, 26, 27], [0, 1], 2, fun m s => ∃ k : Nat, k + m = fs.length ∧ s = ⟨[(4, .ref 1 0), (25, .d (.seq (fs.map chE))), (26, .d (dI (fs.map chE).length)), (27, .d (dI k))], [(0, knO ((fs.take k).foldl addL tr0).es), (1, trO 0 ((fs.take k).foldl addL tr0))], 2⟩, ?_, ?_⟩
   ·conv => whnf
    exact ⟨fs.length, 0, by omega, rfl⟩
   ·rintro m _ ⟨k, hk, rfl⟩
    by_cases hkl : k < fs.length
    ·have f2 : decide ((k : Int) < ((fs.map chE).length : Int)) = true := decide_eq_true (by rw [hm]; omega)
     have hfk := hg _ (List.getElem_mem hkl)
     have htk := (trF_ok (fs := fs.take k) (fun f hf => hg f (List.mem_of_mem_take hf)) tr0_ok tr0_keys).1
     rw [List.length_take] at htk
     have cad := add_bor ((fs.take k).foldl addL tr0) fs[k] (by omega) hfk.1 (htk.le (by omega))
     conv => whnf
     (repeat' (first | (apply kT (by with_reducible first | rfl | assumption); conv => whnf) | (apply kF (by with_reducible first | rfl | assumption); conv => whnf) | (apply kT (by decide); conv => whnf) | (apply kF (by decide); conv => whnf) | (apply kB <;> intro _ <;> conv => whnf) | (refine ⟨k, _, rfl, getch fs k hkl, rfl, ?_⟩; conv => whnf) | fail))
     (refine .inr ⟨[1, 0], 2, _, _, cad, ?_⟩; conv => whnf)
     refine ⟨m - 1, by omega, k + 1, by omega, ?_⟩
     rw [w1 k (by omega), List.take_add_one, List.getElem?_eq_getElem hkl, List.foldl_append]
     rfl
    ·have f2 : decide ((k : Int) < ((fs.map chE).length : Int)) = false := decide_eq_false (by rw [hm]; omega)
     have hT : (fs.take k).foldl addL tr0 = trF fs := by rw [List.take_of_length_le (by omega)]; rfl
     rw [hT]
     generalize hL2 : sortC (trF fs).es = L at *
     cases ht : (numG (trF fs).tw L).2 with
     | true =>
      rw [ht] at cn
      rw [cond_true]
      conv => whnf
      (apply kF (f2); conv => whnf)
      (refine .inr ⟨[1, 0], 2, _, _, cn, ?_⟩; conv => whnf)
      (repeat' (first | (apply kT (by with_reducible first | rfl | assumption); conv => whnf) | (apply kF (by with_reducible first | rfl | assumption); conv => whnf) | (apply kT (by decide); conv => whnf) | (apply kF (by decide); conv => whnf) | (apply kB <;> intro _ <;> conv => whnf) | fail))
      rfl
     | false =>
      rw [ht] at cn
      rw [cond_false]
      have ccat := concatC (numG (trF fs).tw L).1 (by omega) (by rw [hnf]; omega)
      rw [hnf] at ccat
      have hmL : ((L.map cdC).length : Int) = L.length := by rw [List.length_map]
      have hll : ∀ c ∈ L, 0 < c.ps.length := fun c hc => (hLc c hc).many.1
      have hout := layL_len hll
      conv => whnf
      (apply kF (f2); conv => whnf)
      (refine .inr ⟨[1, 0], 2, _, _, cn, ?_⟩; conv => whnf)
      (repeat' (first | (apply kT (by with_reducible first | rfl | assumption); conv => whnf) | (apply kF (by with_reducible first | rfl | assumption); conv => whnf) | (apply kT (by decide); conv => whnf) | (apply kF (by decide); conv => whnf) | (apply kB <;> intro _ <;> conv => whnf) | (refine .inl ⟨_, ccat, ?_⟩; conv => whnf) | fail))
      refine ⟨[.seq 9], [9, 42, 43, 44], [], 0, fun m s => ∃ k : Nat, k + m = L.length ∧ s = ⟨[(9, .d (bsD ((L.take k).map layB).flatten)), (42, .d (.seq (L.map cdC))), (43, .d (dI (L.map cdC).length)), (44, .d (dI k))], [], 0⟩, ?_, ?_⟩
      ·conv => whnf
       exact ⟨L.length, 0, by omega, rfl⟩
      ·rintro m _ ⟨k, hk, rfl⟩
       by_cases hkl : k < L.length
       ·have f3 : decide ((k : Int) < ((L.map cdC).length : Int)) = true := decide_eq_true (by rw [hmL]; omega)
        have hck := hLc _ (List.getElem_mem hkl)
        have hmn := hck.many
        have cl := lay_pure' L[k] hmn.1 (by omega) (runB_ok.1 hck.2.2.2.1).2.2
        have hl40 := lay_len hmn.1
        have hpl := layL_len (l := L.take k) fun c hc => hll c (List.mem_of_mem_take hc)
        rw [List.length_take] at hpl
        have cj := join_pure [((L.take k).map layB).flatten, layB L[k]] (by simp) (by
         simp only [List.flatten_cons, List.flatten_nil, List.append_nil, List.length_append]
         rw [hl40]
         omega)
        simp only [List.flatten_cons, List.flatten_nil, List.append_nil] at cj
        rw [← layL_take L k hkl] at cj
        conv => whnf
        (repeat' (first | (apply kT (by with_reducible first | rfl | assumption); conv => whnf) | (apply kF (by with_reducible first | rfl | assumption); conv => whnf) | (apply kT (by decide); conv => whnf) | (apply kF (by decide); conv => whnf) | (apply kB <;> intro _ <;> conv => whnf) | (refine ⟨k, _, rfl, getcd L k hkl, rfl, ?_⟩; conv => whnf) | (refine .inl ⟨_, cl, ?_⟩; conv => whnf) | fail))
        (refine ⟨((layB L[k]).map bD).map A.d, rfl, by rw [List.length_map]; exact lenB hl40, by rw [List.length_map, lenB hl40]; decide, oneB _, ?_⟩; conv => whnf)
        (refine .l ⟨by decide, (layB L[k]).map byC, sliceB rfl hl40, byL _, by rw [List.length_map]; exact hl40, ?_⟩; conv => whnf)
        (refine .l ?_; conv => whnf)
        (refine .inl ⟨_, cj, ?_⟩; conv => whnf)
        refine ⟨m - 1, by omega, k + 1, by omega, ?_⟩
        rw [w1 k (by omega)]
       ·have f3 : decide ((k : Int) < ((L.map cdC).length : Int)) = false := decide_eq_false (by rw [hmL]; omega)
        have hkL : L.take k = L := List.take_of_length_le (by omega)
        rw [hkL]
        by_cases h8 : 8000 < ((L.map layB).flatten).length
        ·have f4 : decide (((((L.map layB).flatten).map byC).length : Int) > 8000) = true := decide_eq_true (by rw [List.length_map]; omega)
         rw [if_pos h8]
         conv => whnf
         (repeat' (first | (apply kT (by with_reducible first | rfl | assumption); conv => whnf) | (apply kF (by with_reducible first | rfl | assumption); conv => whnf) | (apply kT (by decide); conv => whnf) | (apply kF (by decide); conv => whnf) | (apply kB <;> intro _ <;> conv => whnf) | fail))
         rfl
        ·have f4 : decide (((((L.map layB).flatten).map byC).length : Int) > 8000) = false := decide_eq_false (by rw [List.length_map]; omega)
         rw [if_neg h8]
         conv => whnf
         (repeat' (first | (apply kT (by with_reducible first | rfl | assumption); conv => whnf) | (apply kF (by with_reducible first | rfl | assumption); conv => whnf) | (apply kT (by decide); conv => whnf) | (apply kF (by decide); conv => whnf) | (apply kB <;> intro _ <;> conv => whnf) | fail))
         rfl
end Go.Ev.Ytljkplahkokpaaa


set_option linter.unusedVariables false
set_option linter.unusedSimpArgs false
set_option maxRecDepth 100000
namespace Go.Ev.Ytljkplahkokpaaa
open Go.Proofs
def cardOf (p : List Int × Bool) : Option Cd := bif p.2 then readR p.1 else none
def addO (t : Tr) (o : Option Cd) : Tr := match o with
 | none => ⟨t.es, t.sp + 1, t.tw⟩
 | some c => match findC t.es c.n c.i with
  | some old => ⟨t.es, t.sp, t.tw || !decide (old = c)⟩
  | none => ⟨t.es ++ [c], t.sp, t.tw⟩
def Vs (l : List Int) : List (Option Cd) := (blks l).map cardOf
def Conf (os : List (Option Cd)) : Prop := ∃ c d, some c ∈ os ∧ some d ∈ os ∧ c.n = d.n ∧ c.i = d.i ∧ c ≠ d
def MConf (os : List (Option Cd)) : Prop := ∃ c d, some c ∈ os ∧ some d ∈ os ∧ c.n = d.n ∧ c.m ≠ d.m
structure TrL (os : List (Option Cd)) (t : Tr) : Prop where
 sp : t.sp = (os.countP Option.isNone : Nat)
 keys : Keys t.es
 sub : ∀ c ∈ t.es, some c ∈ os
 cov : ∀ c, some c ∈ os → ∃ d ∈ t.es, d.n = c.n ∧ d.i = c.i ∧ (t.tw = false → d = c)
 tw : t.tw = true → Conf os
theorem Conf.mono {a b : List (Option Cd)} (h : ∀ c, some c ∈ a → some c ∈ b) : Conf a → Conf b := fun ⟨c, d, h1, h2, h3⟩ => ⟨c, d, h c h1, h d h2, h3⟩
theorem MConf.mono {a b : List (Option Cd)} (h : ∀ c, some c ∈ a → some c ∈ b) : MConf a → MConf b := fun ⟨c, d, h1, h2, h3⟩ => ⟨c, d, h c h1, h d h2, h3⟩
theorem TrL.step {os : List (Option Cd)} {t : Tr} (h : TrL os t) (o : Option Cd) : TrL (os ++ [o]) (addO t o) := by
 cases o with
 | none =>
  refine ⟨?_, h.keys, fun c hc => by simp [h.sub c hc], fun c hc => ?_, fun ht => (h.tw ht).mono fun c hc => by simp [hc]⟩
  ·show t.sp + 1 = _
   rw [h.sp, List.countP_append]; simp
  ·rcases List.mem_append.1 hc with hc | hc
   ·exact h.cov c hc
   ·simp at hc
 | some c =>
  have hsp : ∀ x : Tr, x.sp = t.sp → x.sp = ((os ++ [some c]).countP Option.isNone : Nat) := fun x hx => by
   rw [hx, h.sp, List.countP_append]; simp
  unfold addO
  simp only
  cases hf : findC t.es c.n c.i with
  | none =>
   simp only
   refine ⟨hsp _ rfl, List.pairwise_append.2 ⟨h.keys, List.pairwise_singleton _ _, fun a ha b hb => ?_⟩, fun d hd => ?_, fun d hd => ?_, fun ht => (h.tw ht).mono fun c hc => by simp [hc]⟩
   ·rw [List.mem_singleton.1 hb]
    exact find_none hf a ha
   ·rcases List.mem_append.1 hd with hd | hd
    ·simp [h.sub d hd]
    ·rw [List.mem_singleton.1 hd]; simp
   ·rcases List.mem_append.1 hd with hd | hd
    ·obtain ⟨x, h1, h2⟩ := h.cov d hd
     exact ⟨x, by simp [h1], h2⟩
    ·simp only [List.mem_singleton, Option.some.injEq] at hd
     exact ⟨c, by simp, by rw [hd], by rw [hd], fun _ => hd.symm⟩
  | some old =>
   simp only
   obtain ⟨q1, q2, q3⟩ := find_mem hf
   refine ⟨hsp _ rfl, h.keys, fun d hd => by simp [h.sub d hd], fun d hd => ?_, fun ht => ?_⟩
   ·rcases List.mem_append.1 hd with hd | hd
    ·obtain ⟨x, h1, h2, h3, h4⟩ := h.cov d hd
     refine ⟨x, h1, h2, h3, fun ht => h4 ?_⟩
     rw [Bool.or_eq_false_iff] at ht
     exact ht.1
    ·simp only [List.mem_singleton, Option.some.injEq] at hd
     subst hd
     refine ⟨old, q1, q2, q3, fun ht => ?_⟩
     rw [Bool.or_eq_false_iff] at ht
     simpa using ht.2
   ·rw [Bool.or_eq_true] at ht
    rcases ht with ht | ht
    ·exact (h.tw ht).mono fun c hc => by simp [hc]
    ·have hne : old ≠ c := by simpa using ht
     exact ⟨old, c, by simp [h.sub old q1], by simp, q2, q3, hne⟩
theorem TrL.mem {os : List (Option Cd)} {t : Tr} (h : TrL os t) (ht : t.tw = false) (c : Cd) : c ∈ t.es ↔ some c ∈ os := by
 refine ⟨h.sub c, fun hc => ?_⟩
 obtain ⟨d, d1, _, _, d4⟩ := h.cov c hc
 rw [← d4 ht]; exact d1
def Srt (os : List (Option Cd)) (L : List Cd) : Prop := L.Pairwise kLt ∧ ∀ c, c ∈ L ↔ some c ∈ os
def Grp : List (List Cd) → Prop
 | [] => True
 | g :: G => g ≠ [] ∧ (∀ c ∈ g, c.n = headN g) ∧ (∀ g' ∈ G.head?, headN g' ≠ headN g) ∧ Grp G
end Go.Ev.Ytljkplahkokpaaa


set_option linter.unusedVariables false
set_option linter.unusedSimpArgs false
set_option maxRecDepth 100000
namespace Go.Ev.Ytljkplahkokpaaa
open Go.Proofs
theorem pad_full {x : List Int} (h : x.length = 40) : pad x = x := by unfold pad; rw [h]; simp
def SameS (a b : List (Option Cd)) : Prop := ∀ c, some c ∈ a ↔ some c ∈ b
def turnedL (b : List Int) (k t : Nat) : List Int := bif decide (b.length / 40 = 0) then b else
 ((b.drop (40 * k)).take (40 * (b.length / 40) - 40 * k) ++ b.take (40 * k)) ++ (bif decide (b.length + 40 ≤ 8000) then (b.drop (40 * t)).take 40 else []) ++ b.drop (40 * (b.length / 40))
end Go.Ev.Ytljkplahkokpaaa


set_option linter.unusedVariables false
set_option linter.unusedSimpArgs false
set_option maxRecDepth 100000
namespace Go.Ev.Ytljkplahkokpaaa
open Go.Proofs
def ShOK (s : Sh) : Prop := PtsOK s.ps ∧ s.ps.length ≤ 100 ∧ 0 ≤ s.n ∧ s.n ≤ 9999
theorem ShOK.check {s : Sh} (h : ShOK s) : checkI [s] = 0 := check_one h.2.1 (shB_ok.2 ⟨h.2.2.1, h.2.2.2, h.1⟩)
theorem ShOK.run {s : Sh} (h : ShOK s) : Run s.ps := (runB_ok.1 h.1).2.2
theorem ShOK.pos {s : Sh} (h : ShOK s) : 0 < s.ps.length := (runB_ok.1 h.1).1
theorem ShOK.many {s : Sh} (h : ShOK s) : 0 < (cardsL s).length ∧ (cardsL s).length ≤ 10 := by
 have := cuts_count s.ps
 have h2 := h.2.1
 rw [cards_len]
 refine ⟨?_, by omega⟩
 rw [cuts_cons h.pos]
 simp
theorem card_at {s : Sh} {c : Cd} (h : c ∈ cardsL s) : ∃ (k : Nat) (hk : k < (cardsL s).length), c = ⟨s.n, k, (cardsL s).length, (cuts s.ps)[k]'(by rw [← cards_len]; exact hk)⟩ := by
 obtain ⟨k, hk, rfl⟩ := List.getElem_of_mem h
 refine ⟨k, hk, ?_⟩
 rw [cards_at s k hk]
 simp only [cards_len]
theorem ShOK.card {s : Sh} (h : ShOK s) {c : Cd} (hc : c ∈ cardsL s) : CdOK c ∧ c.n = s.n ∧ c.m = (cardsL s).length := by
 have hroom := cards_room h.run hc
 obtain ⟨k, hk, rfl⟩ := card_at hc
 have hm := h.many
 have hp : (cuts s.ps)[k]'(by rw [← cards_len]; exact hk) ∈ cuts s.ps := List.getElem_mem _
 have hv := cutsF_v _ _ h.1.v _ hp
 have h0 := ((cuts_ok h.run).1 _ hp).1
 refine ⟨⟨h.2.2, ⟨?_, ?_⟩, ⟨?_, ?_⟩, hv.ok h0, hroom⟩, rfl, rfl⟩
 ·show (1 : Int) ≤ ((cardsL s).length : Nat); omega
 ·show (((cardsL s).length : Nat) : Int) ≤ 20; omega
 ·show (0 : Int) ≤ (k : Nat); omega
 ·show ((k : Nat) : Int) < ((cardsL s).length : Nat); omega
def keptAt (keep : Cd → Bool) (s : Sh) : List Cd := (cardsL s).filter keep
def kept (keep : Cd → Bool) (S : List Sh) : List (List Cd) := (S.map (keptAt keep)).filter fun g => !g.isEmpty
def cardsA (l : List Sh) : List Cd := (l.map cardsL).flatten
end Go.Ev.Ytljkplahkokpaaa


set_option linter.unusedVariables false
set_option linter.unusedSimpArgs false
set_option maxRecDepth 100000
namespace Go.Ev.Ytljkplahkokpaaa
open Go.Proofs
def insS (s : Sh) : List Sh → List Sh
 | [] => [s]
 | t :: r => bif decide (s.n < t.n) then s :: t :: r else t :: insS s r
def sortS (l : List Sh) : List Sh := l.foldr insS []
abbrev sLt (a b : Sh) : Prop := a.n < b.n
attribute [local irreducible] Pure Bor Iter Pan sortS
end Go.Ev.Ytljkplahkokpaaa


set_option linter.unusedVariables false
set_option linter.unusedSimpArgs false
set_option maxRecDepth 100000
namespace Go.Ev.Ytljkplahkokpaaa
open Go.Proofs
def readyB (l : List Sh) : Bool := thinB l && (checkI l == 0) && decide ((l.map Sh.n).Nodup)
theorem Read_as {b : List Int} {x : List Sh} {n e : Int} (hl : b.length ≤ 100000) (hb : By b) (h : ReadL b = (x, n, e)) : Pure Try.prog 17 [bsD b] (.tup [shsD x, dI n, dI e]) := by
 have := Read_pure' b hl hb
 rw [h] at this
 exact this
theorem Missing_as {b : List Int} {x : List (Int × Int)} {e : Int} (hl : b.length ≤ 100000) (hb : By b) (h : MissL b = (x, e)) : Pure Try.prog 42 [bsD b] (.tup [.seq (x.map lkC), dI e]) := by
 have := Missing_pure b hl hb
 rw [h] at this
 exact this
theorem Pieces_as {b : List Int} {k : Int} {x : List (List Pt)} {e : Int} (hl : b.length ≤ 100000) (hb : By b) (h : PiecesL b k = (x, e)) : Pure Try.prog 40 [bsD b, dI k] (.tup [.seq (x.map rowP), dI e]) := by
 have := Pieces_pure b k hl hb
 rw [h] at this
 exact this
attribute [local irreducible] Pure Bor Iter Pan sortS fileL checkI thinB ReadL MissL
end Go.Ev.Ytljkplahkokpaaa


set_option linter.unusedVariables false
set_option linter.unusedSimpArgs false
set_option maxRecDepth 100000
namespace Go.Ev.Ytljkplahkokpaaa
open Go.Proofs
def VsF (fs : List (List Int)) : List (Option Cd) := (fs.map Vs).flatten
end Go.Ev.Ytljkplahkokpaaa


set_option linter.unusedVariables false
set_option linter.unusedSimpArgs false
set_option maxRecDepth 100000
namespace Go.Ev.Ytljkplahkokpaaa
open Go.Proofs
theorem getD_set (x : List Int) {j : Nat} (hj : j < x.length) (v : Int) (i : Nat) : (x.set j v).getD i 0 = if i = j then v else x.getD i 0 := by
 rw [List.getD_eq_getElem?_getD, List.getD_eq_getElem?_getD, List.getElem?_set]
 by_cases h : j = i
 ·subst h; simp [hj]
 ·rw [if_neg h, if_neg fun e => h e.symm]
theorem wsum_set' (x : List Int) {j : Nat} (hj : j < x.length) (v : Int) : ∀ k, wsum (x.set j v) k = wsum x k + if j < k then ((j : Int) + 1) * (v - x.getD j 0) else 0
 | 0 => by simp [wsum]
 | k + 1 => by
  rw [wsum, wsum, wsum_set' x hj v k, getD_set x hj]
  by_cases h : k = j
  ·subst h
   rw [if_pos rfl, if_neg (by omega), if_pos (by omega), Int.mul_sub]
   omega
  ·rw [if_neg h]
   by_cases h2 : j < k
   ·rw [if_pos h2, if_pos (by omega)]; omega
   ·rw [if_neg h2, if_neg (by omega)]; omega
theorem psum_set' (x : List Int) {j : Nat} (hj : j < x.length) (v : Int) : ∀ k, psum (x.set j v) k = psum x k + if j < k then (v - x.getD j 0) else 0
 | 0 => by simp [psum]
 | k + 1 => by
  rw [psum, psum, psum_set' x hj v k, getD_set x hj]
  by_cases h : k = j
  ·subst h
   rw [if_pos rfl, if_neg (by omega), if_pos (by omega)]
   omega
  ·rw [if_neg h]
   by_cases h2 : j < k
   ·rw [if_pos h2, if_pos (by omega)]; omega
   ·rw [if_neg h2, if_neg (by omega)]; omega
theorem getD_last (P : List Int) (a b : Int) (h : P.length = 38) : (P ++ [a, b]).getD 38 0 = a ∧ (P ++ [a, b]).getD 39 0 = b := by
 constructor
 ·rw [List.getD_eq_getElem?_getD, List.getElem?_append_right (by omega), h]; rfl
 ·rw [List.getD_eq_getElem?_getD, List.getElem?_append_right (by omega), h]; rfl
theorem chk_of {c : Cd} (h : CdOK c) : (layB c).length = 40 ∧ (layB c).getD 38 0 = wsum (layB c) 38 % 251 ∧ (layB c).getD 39 0 = psum (layB c) 38 % 253 := by
 have hl := lay_len h.many.1
 have e := layB_room h.many.1 h.2.2.2.2
 have hP := pad38_len h.2.2.2.2
 refine ⟨hl, ?_⟩
 generalize pad38 (cardRaw c) = P at e hP
 have h1 : wsum (layB c) 38 = wsum P 38 := wsum_congr 38 fun i hi => by rw [e, getD_app (by omega)]
 have h2 : psum (layB c) 38 = psum P 38 := psum_congr 38 fun i hi => by rw [e, getD_app (by omega)]
 rw [h1, h2, e]
 exact getD_last P _ _ hP
theorem bad_block {c : Cd} (h : CdOK c) (hb : By (layB c)) {j : Nat} (hj : j < 40) {v : Int} (hv : 0 ≤ v ∧ v < 256) (hne : v ≠ (layB c).getD j 0) : readR ((layB c).set j v) = none := by
 cases hr : readR ((layB c).set j v) with
 | none => rfl
 | some d =>
  exfalso
  obtain ⟨hl, c1, c2⟩ := chk_of h
  obtain ⟨hd, hx⟩ := readR_ok (hb.set hv) hr
  obtain ⟨_, d1, d2⟩ := chk_of hd
  have hj' : j < (layB c).length := by omega
  rw [hx, getD_set _ hj', wsum_set' _ hj'] at d1
  rw [hx, getD_set _ hj', psum_set' _ hj'] at d2
  have hold : 0 ≤ (layB c).getD j 0 ∧ (layB c).getD j 0 < 256 := by
   rw [List.getD_eq_getElem?_getD, List.getElem?_eq_getElem hj']
   exact hb _ (List.getElem_mem hj')
  generalize hp : (layB c).getD 38 0 = p at *
  generalize hq : (layB c).getD 39 0 = q at *
  generalize wsum (layB c) 38 = W at *
  generalize psum (layB c) 38 = Q at *
  by_cases h38 : j < 38
  ·rw [if_neg (by omega), if_pos h38] at d1 d2
   generalize (layB c).getD j 0 = o at *
   have hδ : v - o = 253 ∨ v - o = -253 := by omega
   rcases hδ with hδ | hδ
   ·rw [hδ] at d1; omega
   ·rw [hδ] at d1; omega
  ·rw [if_neg h38] at d1 d2
   by_cases h8 : j = 38
   ·subst h8
    rw [if_pos rfl] at d1
    omega
   ·have h9 : j = 39 := by omega
    subst h9
    rw [hq] at hne
    rw [if_pos rfl] at d2
    omega
theorem chAt_len {x : List Int} {N i : Nat} (h : x.length = 40 * N) (hi : i < N) : (chAt x i).length = 40 := by unfold chAt; rw [List.length_take, List.length_drop]; omega
theorem Vs_ch {x : List Int} {N : Nat} (h : x.length = 40 * N) : Vs x = (List.range N).map fun i => readR (chAt x i) := by
 unfold Vs blks chL
 have e : nCh x = N := by unfold nCh; omega
 rw [e, List.map_map, List.map_map]
 refine List.map_congr_left fun i hi => ?_
 have hl := chAt_len h (List.mem_range.1 hi)
 show cardOf (pad (chAt x i), decide ((chAt x i).length = 40)) = _
 unfold cardOf
 rw [decide_eq_true hl, pad_full hl]
 rfl
theorem chAt_set (x : List Int) (k r i : Nat) (hr : r < 40) (v : Int) : chAt (x.set (40 * k + r) v) i = if i = k then (chAt x i).set r v else chAt x i := by
 unfold chAt
 rw [List.drop_set]
 by_cases h : i = k
 ·subst h
  rw [if_pos rfl, if_neg (by omega), List.take_set, show 40 * i + r - 40 * i = r from by omega]
 ·rw [if_neg h]
  by_cases h2 : 40 * k + r < 40 * i
  ·rw [if_pos h2]
  ·rw [if_neg h2, List.take_set, List.set_eq_of_length_le (by rw [List.length_take]; omega)]
structure Cpy (cs : List Cd) (x : List Int) : Prop where
 len : x.length = 40 * cs.length
 by' : By x
 at' : ∀ i (h : i < cs.length), chAt x i = layB cs[i] ∨ readR (chAt x i) = none
theorem Cpy.mem {cs : List Cd} {x : List Int} (hok : ∀ c ∈ cs, CdOK c) (h : Cpy cs x) {c : Cd} (hc : some c ∈ Vs x) : c ∈ cs := by
 rw [Vs_ch h.len] at hc
 obtain ⟨i, hi, e⟩ := List.mem_map.1 hc
 rw [List.mem_range] at hi
 rcases h.at' i hi with q | q
 ·rw [q, readR_enc (hok _ (List.getElem_mem hi))] at e
  cases e
  exact List.getElem_mem hi
 ·rw [q] at e; cases e
theorem Cpy.has {cs : List Cd} {x : List Int} (hok : ∀ c ∈ cs, CdOK c) (h : Cpy cs x) {i : Nat} (hi : i < cs.length) (e : chAt x i = layB cs[i]) : some cs[i] ∈ Vs x := by
 rw [Vs_ch h.len]
 exact List.mem_map.2 ⟨i, List.mem_range.2 hi, by rw [e, readR_enc (hok _ (List.getElem_mem hi))]⟩
theorem Cpy.set {cs : List Cd} {x : List Int} (hok : ∀ c ∈ cs, CdOK c) (h : Cpy cs x) {k r : Nat} (hk : k < cs.length) (hr : r < 40) (e : chAt x k = layB cs[k]) {v : Int} (hv : 0 ≤ v ∧ v < 256) (hne : v ≠ x.getD (40 * k + r) 0) : Cpy cs (x.set (40 * k + r) v) := by
 refine ⟨by rw [List.length_set]; exact h.len, h.by'.set hv, fun i hi => ?_⟩
 rw [chAt_set x k r i hr]
 by_cases hik : i = k
 ·subst hik
  rw [if_pos rfl, e]
  right
  have hxl := h.len
  have hby : By (layB cs[i]) := by rw [← e]; exact (h.by'.drop _).take _
  refine bad_block (hok _ (List.getElem_mem hi)) hby hr hv ?_
  rw [← e]
  have : (chAt x i).getD r 0 = x.getD (40 * i + r) 0 := by
   unfold chAt
   rw [List.getD_eq_getElem?_getD, List.getD_eq_getElem?_getD, List.getElem?_take_of_lt hr, List.getElem?_drop]
  rw [this]
  exact hne
 ·rw [if_neg hik]
  exact h.at' i hi
end Go.Ev.Ytljkplahkokpaaa


set_option linter.unusedVariables false
set_option linter.unusedSimpArgs false
set_option maxRecDepth 100000
namespace Go.Ev.Ytljkplahkokpaaa
open Go.Proofs
abbrev woC (w : Int) : List D := [.v (.int .u16 w)]
theorem Mend_as {fs : List (List Int)} {b : List Int} {e : Int} (hl : fs.length ≤ 100000) (hb : ∀ f ∈ fs, By f) (h : MendL fs = (b, e)) : Pure Try.prog 37 [.seq (fs.map chE)] (.tup [bsD b, dI e]) := by
 have := Mend_pure fs hl hb
 rw [h] at this
 exact this
theorem pure_weak {P : Program} {f : FuncId} {ds es : List D} {r : D} (hp : Pure P f ds r) (h : ∀ (I : Nat → Prop) (x : Array Obj) (vs : List Value), RepL I x es vs → RepL I x ds vs) : Pure P f es r :=
 ⟨hp.1, fun w I vs hI hr => hp.2 w I vs hI (h _ _ _ hr)⟩
theorem rep_nil {I : Nat → Prop} {x : Array Obj} {vs : List Value} (h : RepL I x [.v (.slice none 0 0)] vs) : RepL I x [.seq []] vs := by
 rw [RepL] at h ⊢
 obtain ⟨v, r, rfl, h1, h2⟩ := h
 rw [RepD] at h1
 subst h1
 exact ⟨_, r, rfl, by rw [RepD]; exact ⟨none, 0, 0, rfl, rfl, Nat.le_refl _, .inl rfl⟩, h2⟩
attribute [local irreducible] Pure Bor Iter Pan sortS fileL checkI thinB ReadL MissL cardsL cardsA readyB MendL layB readR
end Go.Ev.Ytljkplahkokpaaa


set_option linter.unusedVariables false
set_option linter.unusedSimpArgs false
set_option maxRecDepth 100000
namespace Go.Ev.Ytljkplahkokpaaa
open Go.Proofs
def stepsS : Sh := ⟨1, [⟨9, 100⟩, ⟨10, 163⟩, ⟨11, 227⟩, ⟨12, 163⟩, ⟨13, 263⟩, ⟨14, 16646⟩]⟩
def stepsB : List Int := [0, 1, 0, 1, 6, 0, 9, 0, 0, 100, 1, 126, 1, 128, 128, 1, 127, 1, 128, 200, 1, 255, 254, 0, 0, 0, 0, 0, 0, 0, 0, 0, 0, 0, 0, 0, 0, 0, 90, 203]
def lateS : Sh := ⟨258, [⟨3, 5⟩, ⟨4, 9⟩]⟩
def lateB : List Int := [1, 2, 0, 1, 2, 0, 3, 0, 0, 5, 1, 8, 0, 0, 0, 0, 0, 0, 0, 0, 0, 0, 0, 0, 0, 0, 0, 0, 0, 0, 0, 0, 0, 0, 0, 0, 0, 0, 197, 23]
def flatS : Sh := ⟨258, [⟨3, 5⟩, ⟨3, 4⟩]⟩
def badL : List Int := [1, 3, 0, 1, 2, 0, 3, 0, 0, 5, 1, 1, 0, 0, 0, 0, 0, 0, 0, 0, 0, 0, 0, 0, 0, 0, 0, 0, 0, 0, 0, 0, 0, 0, 0, 0, 0, 0, 113, 16]
theorem steps_ok : checkI [stepsS] = 0 := by kernel_rfl
theorem steps_cards : (cardsL stepsS).map bytesRow = [[bsD stepsB]] := by kernel_rfl
theorem late_ok : checkI [lateS] = 0 := by kernel_rfl
theorem late_cards : (cardsL lateS).map bytesRow = [[bsD lateB]] := by kernel_rfl
theorem flat_bad : checkI [flatS] = 1 := by kernel_rfl
theorem bad_read : ReadL badL = ([], 1, 0) := by kernel_rfl
theorem laid2_miss : MissL (laidL ++ laidL) = ([], 0) := by kernel_rfl
theorem laid_pieces : PiecesL laidL 258 = ([[⟨3, 5⟩, ⟨4, 4⟩]], 0) := by kernel_rfl
theorem laid_pieces2 : PiecesL laidL 257 = ([], 7) := by kernel_rfl
theorem laid_pieces3 : PiecesL laidL 10000 = ([], 2) := by kernel_rfl
theorem late_read : ReadL (laidL ++ lateB) = ([], 0, 6) := by kernel_rfl
theorem late_mend : MendL [laidL, lateB] = ([], 6) := by kernel_rfl
theorem late_write : WriteL [smallS, lateS] = ([], 6) := by kernel_rfl
theorem nil_mend : MendL [] = ([], 0) := by kernel_rfl
theorem by_of {l : List Int} (h : l.all (fun n => decide (0 ≤ n ∧ n < 256)) = true) : By l := fun x hx => by
 have := List.all_eq_true.1 h x hx
 simpa using this
theorem late_by : By lateB := by_of (by decide)
theorem bad_by : By badL := by_of (by decide)
theorem long_miss : MissL (List.replicate 8001 0) = ([], 3) := by
 have ho : openL (List.replicate 8001 0) = ([], 0, 3) := by
  unfold openL
  rw [if_pos (by rw [List.length_replicate]; omega)]
 unfold MissL
 rw [ho]
 rfl
theorem many_mend : MendL (List.replicate 6 []) = ([], 3) := by
 unfold MendL
 rw [if_pos (.inl (by rw [List.length_replicate]; omega))]
theorem big_bad : checkI [⟨0, List.replicate 101 ⟨0, 0⟩⟩] = 3 := by kernel_rfl
theorem none_bad : checkI [⟨0, []⟩] = 1 := by kernel_rfl
theorem small_bor : Bor tb Try.prog 50 [] [] 2 (.agg [.d (dI 258), .own 1]) [(1, .arr 74 (smallS.ps.map ptD))] := by
 refine bor_ofO pg Try.func50 (by kernel_rfl) ?_
 conv => whnf
 (refine .r ⟨by decide, ?_⟩; conv => whnf)
 (repeat' (first | (apply kT (by with_reducible first | rfl | assumption); conv => whnf) | (apply kF (by with_reducible first | rfl | assumption); conv => whnf) | (apply kT (by decide); conv => whnf) | (apply kF (by decide); conv => whnf) | (apply kB <;> intro _ <;> conv => whnf) | fail))
 (refine ⟨[1], ?_⟩; conv => whnf)
 exact ⟨rfl, rfl⟩
theorem laid_pure : Pure Try.prog 49 [] (bsD laidL) := by
 refine pure_of pg Try.func49 (by kernel_rfl) ?_
 conv => whnf
 (refine ⟨40, rfl, rfl, by decide, by decide, (List.replicate 40 0).map byC, rfl, ?_⟩; conv => whnf)
 (refine .l ?_; conv => whnf)
 (refine ⟨byL [1, 2, 0, 1, 2, 0, 3, 0, 0, 5, 1, 1], (laidL.take 38 ++ [0, 0]).map byC, rfl, ?_⟩; conv => whnf)
 (refine ⟨38, rfl, by decide, ?_⟩; conv => whnf)
 (refine ⟨byC 0, rfl, rfl, by decide, (laidL.take 38 ++ [113, 0]).map byC, rfl, ?_⟩; conv => whnf)
 (refine ⟨39, rfl, by decide, ?_⟩; conv => whnf)
 (refine ⟨byC 0, rfl, rfl, by decide, laidL.map byC, rfl, ?_⟩; conv => whnf)
 rfl
theorem rows_nils {I : Nat → Prop} {x : Array Obj} : ∀ (n : Nat) {vs : List Value}, RepR I x 1 (List.replicate n [D.v (.slice none 0 0)]) vs → RepR I x 1 (List.replicate n [D.seq []]) vs
 | 0, vs, _ => by simp [RepR]
 | n + 1, vs, h => by
  rw [List.replicate_succ, RepR] at h ⊢
  exact ⟨rfl, rep_nil h.2.1, h.2.2.1, rows_nils n h.2.2.2⟩
theorem rows_nilr {I : Nat → Prop} {x : Array Obj} (n : Nat) {vs : List Value} (h : RepL I x [.seq (List.replicate (n + 1) [D.v (.slice none 0 0)])] vs) : RepL I x [.seq (List.replicate (n + 1) [D.seq []])] vs := by
 rw [RepL] at h ⊢
 obtain ⟨v, r, rfl, h1, h2⟩ := h
 refine ⟨_, r, rfl, ?_, h2⟩
 rw [RepD] at h1 ⊢
 obtain ⟨ad, len, cap, q1, q2, q3, q4⟩ := h1
 refine ⟨ad, len, cap, q1, by rw [List.length_replicate] at q2 ⊢; exact q2, q3, q4.imp id ?_⟩
 rintro ⟨sz, bb, off, cc, T, fr, u1, u2, u3, u4⟩
 have hs : sz = 1 := by
  rw [List.replicate_succ, RepR] at u4
  exact u4.1.symm
 subst hs
 exact ⟨1, bb, off, cc, T, fr, u1, u2, u3, rows_nils _ u4⟩
def midL : List Int := [1, 126, 1, 128, 128, 1, 127, 1, 128, 200, 1, 255, 254]
theorem mid_by : By midL := by_of (by decide)
def ldL : List Int := [100, 100, 163, 227, 163, 263, 16646]
attribute [local irreducible] Pure Bor Iter Pan ReadL MissL PiecesL MendL WriteL cardsL checkI
set_option maxHeartbeats 4000000 in
theorem names_pure : Pure Try.prog 15 [] (dB true) := by
 have c1 := Cards_ok stepsS steps_ok
 rw [steps_cards] at c1
 have c2 := Read_as (by decide) bad_by bad_read
 have c3 := Missing_as (by decide) (laid_by.app laid_by) laid2_miss
 have c4 := Pieces_as (by decide) laid_by laid_pieces
 have c5 := Cards_ok lateS late_ok
 rw [late_cards] at c5
 have c6 := Read_as (by decide) (laid_by.app late_by) late_read
 have c7 := Mend_as (by decide) (fun f hf => by
  rcases List.mem_cons.1 hf with rfl | hf
  ·exact laid_by
  ·rw [List.mem_singleton.1 hf]; exact late_by) late_mend
 have c8 := Write_as (by decide) (fun s hs => by
  rcases List.mem_cons.1 hs with rfl | hs
  ·decide
  ·rw [List.mem_singleton.1 hs]; decide) late_write
 have c9 := Pieces_as (by decide) laid_by laid_pieces2
 have c10 := Pieces_as (by decide) laid_by laid_pieces3
 have c11 := Missing_as (by rw [List.length_replicate]; omega) (fun x hx => by rw [(List.mem_replicate.1 hx).2]; omega) long_miss
 have c12 := Mend_as (by rw [List.length_replicate]; omega) (fun f hf => by rw [(List.mem_replicate.1 hf).2]; exact fun x hx => by simp at hx) many_mend
 have c13 := Cards_bad ⟨0, []⟩ (by decide) (by rw [none_bad]; decide)
 have c14 := Cards_bad ⟨0, List.replicate 101 ⟨0, 0⟩⟩ (by decide) (by rw [big_bad]; decide)
 have c15 := Cards_bad flatS (by decide) (by rw [flat_bad]; decide)
 have c16 := Mend_as (fs := []) (by decide) (fun f hf => by simp at hf) nil_mend
 rw [none_bad] at c13
 rw [big_bad] at c14
 rw [flat_bad] at c15
 rw [show bsD (List.replicate 8001 0) = .seq (List.replicate 8001 (byC 0)) from congrArg D.seq (List.map_replicate ..)] at c11
 generalize hZ : List.replicate 8001 (byC 0) = Z at c11
 rw [show (List.replicate 6 ([] : List Int)).map chE = List.replicate 6 (chE []) from List.map_replicate ..] at c12
 have c12 : Pure Try.prog 37 [.seq (List.replicate 6 [D.v (.slice none 0 0)])] (.tup [bsD [], dI 3]) := pure_weak c12 fun I x vs hr => rows_nilr 5 hr
 generalize hY : List.replicate 6 [D.v (.slice none 0 0)] = Y at c12
 have c13 : Pure Try.prog 26 [.agg [dI 0, .v (.slice none 0 0)]] (.tup [.seq [], dI 1]) := pure_weak c13 fun I x vs hr => RepL.nils _ _ hr
 rw [show shC ⟨0, List.replicate 101 ⟨0, 0⟩⟩ = [dI 0, .seq (List.replicate 101 (ptD ⟨0, 0⟩))] from congrArg (fun z => [dI 0, D.seq z]) (List.map_replicate ..)] at c14
 generalize hX : List.replicate 101 (ptD ⟨0, 0⟩) = X at c14
 refine pure_of pg Try.func15 (by kernel_rfl) ?_
 conv => whnf
 refine ⟨[.cown 0 1 74], [1, 2, 3], [0, 1], 2, fun m s => ∃ k : Nat, k + m = 6 ∧ s = ⟨[(1, .ref 0 0), (2, .d (dI (ldL.getD k 0))), (3, .d (dI k))], [(0, .var false 50 [.d (dI 1), .own 1]), (1, .arr 74 ((stepsS.ps.take k).map ptD))], 2⟩, ?_, ?_⟩
 ·conv => whnf
  exact ⟨6, 0, rfl, rfl⟩
 ·rintro m _ ⟨k, hk, rfl⟩
  rcases Decidable.em (k < 6) with hk6 | hk6
  ·have g1 : decide ((k : Int) < 6) = true := decide_eq_true (by omega)
   rcases (by omega : k = 0 ∨ k = 1 ∨ k = 2 ∨ k = 3 ∨ k = 4 ∨ k = 5) with rfl | rfl | rfl | rfl | rfl | rfl
   all_goals
    conv => whnf
    (repeat' (first | (apply kT (by with_reducible first | rfl | assumption); conv => whnf) | (apply kF (by with_reducible first | rfl | assumption); conv => whnf) | (apply kT (by decide); conv => whnf) | (apply kF (by decide); conv => whnf) | (apply kB <;> intro _ <;> conv => whnf) | (refine ChL.l ?_; conv => whnf) | (refine ⟨_, _, rfl, rfl, rfl, ?_⟩; conv => whnf) | fail))
    (refine ⟨fun el h => by rw [List.mem_singleton.1 h]; rfl, by decide, ?_⟩; conv => whnf)
    (repeat' (first | (apply kT (by with_reducible first | rfl | assumption); conv => whnf) | (apply kF (by with_reducible first | rfl | assumption); conv => whnf) | (apply kT (by decide); conv => whnf) | (apply kF (by decide); conv => whnf) | (apply kB <;> intro _ <;> conv => whnf) | fail))
    first | exact ⟨m - 1, by omega, 1, by omega, rfl⟩ | exact ⟨m - 1, by omega, 2, by omega, rfl⟩ | exact ⟨m - 1, by omega, 3, by omega, rfl⟩ | exact ⟨m - 1, by omega, 4, by omega, rfl⟩ | exact ⟨m - 1, by omega, 5, by omega, rfl⟩ | exact ⟨m - 1, by omega, 6, by omega, rfl⟩
  ·have g1 : decide ((k : Int) < 6) = false := decide_eq_false (by omega)
   have hk6 : k = 6 := by omega
   subst hk6
   conv => whnf
   (repeat' (first | (apply kT (by with_reducible first | rfl | assumption); conv => whnf) | (apply kF (by with_reducible first | rfl | assumption); conv => whnf) | (apply kT (by decide); conv => whnf) | (apply kF (by decide); conv => whnf) | (apply kB <;> intro _ <;> conv => whnf) | (refine .inl ⟨_, c1, ?_⟩; conv => whnf) | (refine ChC.r ?_; conv => whnf) | (refine ⟨0, _, rfl, rfl, rfl, ?_⟩; conv => whnf) | fail))
   (repeat' (first | (apply kT (by with_reducible first | rfl | assumption); conv => whnf) | (apply kF (by with_reducible first | rfl | assumption); conv => whnf) | (apply kT (by decide); conv => whnf) | (apply kF (by decide); conv => whnf) | (apply kB <;> intro _ <;> conv => whnf) | (refine ⟨10, rfl, 23, rfl, by decide, by decide, byL _, ?_⟩; conv => whnf) | (refine ⟨strB midL, strB_bytes mid_by, ?_⟩; conv => whnf) | (refine ChL.l ?_; conv => whnf) | (refine ⟨true, beq_self_eq_true _, ?_⟩; conv => whnf) | fail))
   (refine .inr ⟨[], 1, _, _, laid_bor, ?_⟩; conv => whnf)
   (repeat' (first | (apply kT (by with_reducible first | rfl | assumption); conv => whnf) | (apply kF (by with_reducible first | rfl | assumption); conv => whnf) | (apply kT (by decide); conv => whnf) | (apply kF (by decide); conv => whnf) | (apply kB <;> intro _ <;> conv => whnf) | fail))
   (refine ⟨1, rfl, by decide, ?_⟩; conv => whnf)
   (refine ⟨byC 2, rfl, rfl, by decide, badL.map byC, rfl, ?_⟩; conv => whnf)
   (repeat' (first | (apply kT (by with_reducible first | rfl | assumption); conv => whnf) | (apply kF (by with_reducible first | rfl | assumption); conv => whnf) | (apply kT (by decide); conv => whnf) | (apply kF (by decide); conv => whnf) | (apply kB <;> intro _ <;> conv => whnf) | (refine .inl ⟨_, c2, ?_⟩; conv => whnf) | (refine ChC.r ?_; conv => whnf) | fail))
   (refine .inr ⟨[], 1, _, _, laid_bor, ?_⟩; conv => whnf)
   (refine .inr ⟨[], 1, _, _, laid_bor, ?_⟩; conv => whnf)
   (refine ⟨byL _, by decide, ?_⟩; conv => whnf)
   rw [← List.map_append]
   (repeat' (first | (apply kT (by with_reducible first | rfl | assumption); conv => whnf) | (apply kF (by with_reducible first | rfl | assumption); conv => whnf) | (apply kT (by decide); conv => whnf) | (apply kF (by decide); conv => whnf) | (apply kB <;> intro _ <;> conv => whnf) | (refine .inl ⟨_, c3, ?_⟩; conv => whnf) | (refine ChC.r ?_; conv => whnf) | fail))
   (refine .inr ⟨[], 1, _, _, laid_bor, ?_⟩; conv => whnf)
   (repeat' (first | (apply kT (by with_reducible first | rfl | assumption); conv => whnf) | (apply kF (by with_reducible first | rfl | assumption); conv => whnf) | (apply kT (by decide); conv => whnf) | (apply kF (by decide); conv => whnf) | (apply kB <;> intro _ <;> conv => whnf) | (refine .inl ⟨_, c4, ?_⟩; conv => whnf) | (refine ChC.r ?_; conv => whnf) | (refine ⟨0, _, rfl, rfl, rfl, ?_⟩; conv => whnf) | fail))
   (refine .inr ⟨[], 2, _, _, small_bor, ?_⟩; conv => whnf)
   (refine ⟨1, rfl, by decide, ?_⟩; conv => whnf)
   (repeat' (first | (apply kT (by with_reducible first | rfl | assumption); conv => whnf) | (apply kF (by with_reducible first | rfl | assumption); conv => whnf) | (apply kT (by decide); conv => whnf) | (apply kF (by decide); conv => whnf) | (apply kB <;> intro _ <;> conv => whnf) | (refine ⟨ptD ⟨4, 4⟩, rfl, rfl, by decide, lateS.ps.map ptD, rfl, ?_⟩; conv => whnf) | fail))
   (repeat' (first | (apply kT (by with_reducible first | rfl | assumption); conv => whnf) | (apply kF (by with_reducible first | rfl | assumption); conv => whnf) | (apply kT (by decide); conv => whnf) | (apply kF (by decide); conv => whnf) | (apply kB <;> intro _ <;> conv => whnf) | (refine .inl ⟨_, c5, ?_⟩; conv => whnf) | (refine ChC.r ?_; conv => whnf) | fail))
   (refine .inr ⟨[], 1, _, _, laid_bor, ?_⟩; conv => whnf)
   (repeat' (first | (apply kT (by with_reducible first | rfl | assumption); conv => whnf) | (apply kF (by with_reducible first | rfl | assumption); conv => whnf) | (apply kT (by decide); conv => whnf) | (apply kF (by decide); conv => whnf) | (apply kB <;> intro _ <;> conv => whnf) | (refine ⟨0, _, rfl, rfl, rfl, ?_⟩; conv => whnf) | fail))
   (refine ⟨byL _, by decide, ?_⟩; conv => whnf)
   rw [← List.map_append]
   (repeat' (first | (apply kT (by with_reducible first | rfl | assumption); conv => whnf) | (apply kF (by with_reducible first | rfl | assumption); conv => whnf) | (apply kT (by decide); conv => whnf) | (apply kF (by decide); conv => whnf) | (apply kB <;> intro _ <;> conv => whnf) | (refine .inl ⟨_, c6, ?_⟩; conv => whnf) | (refine ChC.r ?_; conv => whnf) | fail))
   (refine .inl ⟨_, laid_pure, ?_⟩; conv => whnf)
   (repeat' (first | (apply kT (by with_reducible first | rfl | assumption); conv => whnf) | (apply kF (by with_reducible first | rfl | assumption); conv => whnf) | (apply kT (by decide); conv => whnf) | (apply kF (by decide); conv => whnf) | (apply kB <;> intro _ <;> conv => whnf) | (refine .inl ⟨_, c7, ?_⟩; conv => whnf) | (refine ⟨0, _, rfl, rfl, rfl, ?_⟩; conv => whnf) | (refine ChL.l ?_; conv => whnf) | fail))
   (refine .inl ⟨_, small_pure, ?_⟩; conv => whnf)
   (repeat' (first | (apply kT (by with_reducible first | rfl | assumption); conv => whnf) | (apply kF (by with_reducible first | rfl | assumption); conv => whnf) | (apply kT (by decide); conv => whnf) | (apply kF (by decide); conv => whnf) | (apply kB <;> intro _ <;> conv => whnf) | (refine .inl ⟨_, c8, ?_⟩; conv => whnf) | (refine ChL.l ?_; conv => whnf) | fail))
   (refine .inl ⟨_, laid_pure, ?_⟩; conv => whnf)
   (repeat' (first | (apply kT (by with_reducible first | rfl | assumption); conv => whnf) | (apply kF (by with_reducible first | rfl | assumption); conv => whnf) | (apply kT (by decide); conv => whnf) | (apply kF (by decide); conv => whnf) | (apply kB <;> intro _ <;> conv => whnf) | (refine .inl ⟨_, c9, ?_⟩; conv => whnf) | fail))
   (refine .inl ⟨_, laid_pure, ?_⟩; conv => whnf)
   (repeat' (first | (apply kT (by with_reducible first | rfl | assumption); conv => whnf) | (apply kF (by with_reducible first | rfl | assumption); conv => whnf) | (apply kT (by decide); conv => whnf) | (apply kF (by decide); conv => whnf) | (apply kB <;> intro _ <;> conv => whnf) | (refine .inl ⟨_, c10, ?_⟩; conv => whnf) | fail))
   (refine ⟨8001, rfl, rfl, by decide, by decide, Z, hZ, ?_⟩; conv => whnf)
   (repeat' (first | (apply kT (by with_reducible first | rfl | assumption); conv => whnf) | (apply kF (by with_reducible first | rfl | assumption); conv => whnf) | (apply kT (by decide); conv => whnf) | (apply kF (by decide); conv => whnf) | (apply kB <;> intro _ <;> conv => whnf) | (refine .inl ⟨_, c11, ?_⟩; conv => whnf) | (refine ChC.r ?_; conv => whnf) | fail))
   (refine ⟨6, rfl, rfl, by decide, by decide, Y, hY, ?_⟩; conv => whnf)
   (repeat' (first | (apply kT (by with_reducible first | rfl | assumption); conv => whnf) | (apply kF (by with_reducible first | rfl | assumption); conv => whnf) | (apply kT (by decide); conv => whnf) | (apply kF (by decide); conv => whnf) | (apply kB <;> intro _ <;> conv => whnf) | (refine .inl ⟨_, c12, ?_⟩; conv => whnf) | (refine ChC.r ?_; conv => whnf) | fail))
   (repeat' (first | (apply kT (by with_reducible first | rfl | assumption); conv => whnf) | (apply kF (by with_reducible first | rfl | assumption); conv => whnf) | (apply kT (by decide); conv => whnf) | (apply kF (by decide); conv => whnf) | (apply kB <;> intro _ <;> conv => whnf) | (refine .inl ⟨_, c13, ?_⟩; conv => whnf) | fail))
   (refine ⟨101, rfl, rfl, by decide, by decide, X, hX, ?_⟩; conv => whnf)
   (repeat' (first | (apply kT (by with_reducible first | rfl | assumption); conv => whnf) | (apply kF (by with_reducible first | rfl | assumption); conv => whnf) | (apply kT (by decide); conv => whnf) | (apply kF (by decide); conv => whnf) | (apply kB <;> intro _ <;> conv => whnf) | (refine .inl ⟨_, c14, ?_⟩; conv => whnf) | (refine ChC.r ?_; conv => whnf) | fail))
   (refine .inr ⟨[], 2, _, _, small_bor, ?_⟩; conv => whnf)
   (refine ⟨1, rfl, by decide, ?_⟩; conv => whnf)
   (repeat' (first | (apply kT (by with_reducible first | rfl | assumption); conv => whnf) | (apply kF (by with_reducible first | rfl | assumption); conv => whnf) | (apply kT (by decide); conv => whnf) | (apply kF (by decide); conv => whnf) | (apply kB <;> intro _ <;> conv => whnf) | (refine ⟨ptD ⟨4, 4⟩, rfl, rfl, by decide, flatS.ps.map ptD, rfl, ?_⟩; conv => whnf) | fail))
   (repeat' (first | (apply kT (by with_reducible first | rfl | assumption); conv => whnf) | (apply kF (by with_reducible first | rfl | assumption); conv => whnf) | (apply kT (by decide); conv => whnf) | (apply kF (by decide); conv => whnf) | (apply kB <;> intro _ <;> conv => whnf) | (refine .inl ⟨_, c15, ?_⟩; conv => whnf) | (refine ChC.r ?_; conv => whnf) | fail))
   (repeat' (first | (apply kT (by with_reducible first | rfl | assumption); conv => whnf) | (apply kF (by with_reducible first | rfl | assumption); conv => whnf) | (apply kT (by decide); conv => whnf) | (apply kF (by decide); conv => whnf) | (apply kB <;> intro _ <;> conv => whnf) | (refine .inl ⟨_, c16, ?_⟩; conv => whnf) | (refine .inl ⟨_, awake_pure, ?_⟩; conv => whnf) | fail))
   rfl
end Go.Ev.Ytljkplahkokpaaa


set_option linter.unusedVariables false
set_option linter.unusedSimpArgs false
namespace Go.Ev.Ytljkplahkokpaaa
open Go.Proofs
theorem law_own : ownKnob Try.prog.godebug = none := by kernel_rfl
theorem law_laid : laidOutB Try.prog = true := by kernel_rfl
end Go.Ev.Ytljkplahkokpaaa


set_option linter.unusedVariables false
set_option linter.unusedSimpArgs false
namespace Go.Ev.Ytljkplahkokpaaa
open Go.Proofs
end Go.Ev.Ytljkplahkokpaaa

