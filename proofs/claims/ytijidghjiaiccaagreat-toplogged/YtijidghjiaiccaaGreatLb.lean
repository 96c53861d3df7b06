/-
  Contracts of functions, and plain laws, that lead to the statement. Written by an agent.
-/
import Derived.Test.YtijidghjiaiccaaGreatRows
import Derived.Test.YtijidghjiaiccaaGreatLa
set_option linter.unusedVariables false
set_option linter.unusedSimpArgs false
set_option linter.unusedSectionVars false
set_option maxRecDepth 100000
namespace Go.Ev.YtijidghjiaiccaaGreat
open Go.Proofs
def cardOf (p : List Int × Bool) : Option Cd := bif p.2 then readR p.1 else none
def addO (t : Tr) (o : Option Cd) : Tr := match o with
 | none => ⟨t.es, t.sp + 1, t.tw⟩
 | some c => match findC t.es c.n c.i with
  | some old => ⟨t.es, t.sp, t.tw || !decide (old = c)⟩
  | none => ⟨t.es ++ [c], t.sp, t.tw⟩
theorem addC_O {t : Tr} {p : List Int × Bool} (hb : By p.1) (ht : ∀ c ∈ t.es, CdOK c) : addC t p = addO t (cardOf p) := by
 unfold addC cardOf
 cases hr : readR p.1 with
 | none => cases p.2 <;> rfl
 | some c =>
  cases p.2 with
  | false => rfl
  | true =>
   simp only [cond_true, addO]
   cases hf : findC t.es c.n c.i with
   | none => rfl
   | some old =>
    simp only
    obtain ⟨h1, h2⟩ := readR_ok hb hr
    have h3 := ht old (find_mem hf).1
    have e : decide (layB old = p.1) = decide (old = c) := by
     by_cases h : old = c
     ·rw [decide_eq_true h, decide_eq_true (by rw [h, h2])]
     ·rw [decide_eq_false h, decide_eq_false fun e => h (layB_inj h3 h1 (by rw [h2, e]))]
    rw [e]
def Vs (l : List Int) : List (Option Cd) := (blks l).map cardOf
theorem fold_O : ∀ (ps : List (List Int × Bool)) {t : Tr} {b : Int}, TrOK t b → (∀ p ∈ ps, By p.1) → ps.foldl addC t = (ps.map cardOf).foldl addO t
 | [], _, _, _, _ => rfl
 | p :: ps, t, b, ht, hb => by
  have h1 := addC_O (hb p (by simp)) ht.1
  rw [List.foldl_cons, List.map_cons, List.foldl_cons, ← h1]
  exact fold_O ps (addC_ok ht (hb p (by simp))) fun q hq => hb q (by simp [hq])
theorem blks_by {l : List Int} (hb : By l) : ∀ p ∈ blks l, By p.1 := fun p hp => by
 unfold blks chL at hp
 rw [List.map_map, List.mem_map] at hp
 obtain ⟨k, _, rfl⟩ := hp
 exact chAt_by hb k
theorem addL_O {t : Tr} {b : Int} {l : List Int} (ht : TrOK t b) (hb : By l) : addL t l = (Vs l).foldl addO t := fold_O _ ht (blks_by hb)
def Conf (os : List (Option Cd)) : Prop := ∃ c d, some c ∈ os ∧ some d ∈ os ∧ c.n = d.n ∧ c.i = d.i ∧ c ≠ d
def MConf (os : List (Option Cd)) : Prop := ∃ c d, some c ∈ os ∧ some d ∈ os ∧ c.n = d.n ∧ c.m ≠ d.m
structure TrL (os : List (Option Cd)) (t : Tr) : Prop where
 sp : t.sp = (os.countP Option.isNone : Nat)
 keys : Keys t.es
 sub : ∀ c ∈ t.es, some c ∈ os
 cov : ∀ c, some c ∈ os → ∃ d ∈ t.es, d.n = c.n ∧ d.i = c.i ∧ (t.tw = false → d = c)
 tw : t.tw = true → Conf os
theorem Conf.mono {a b : List (Option Cd)} (h : ∀ c, some c ∈ a → some c ∈ b) : Conf a → Conf b := fun ⟨c, d, h1, h2, h3⟩ => ⟨c, d, h c h1, h d h2, h3⟩
theorem TrL.step {os : List (Option Cd)} {t : Tr} (h : TrL os t) (o : Option Cd) : TrL (os ++ [o]) (addO t o) := by
 cases o with
 | none =>
  refine ⟨?_, h.keys, fun c hc => by simp [h.sub c hc], fun c hc => ?_, fun ht => (h.tw ht).mono fun c hc => by simp [hc]⟩
  ·show t.sp + 1 = _
   rw [h.sp, List.countP_append]; simp
  ·rcases List.mem_append.1 hc with hc | hc
   ·exact h.cov c hc
   ·simp at hc
 | some c =>
  have hsp : ∀ x : Tr, x.sp = t.sp → x.sp = ((os ++ [some c]).countP Option.isNone : Nat) := fun x hx => by
   rw [hx, h.sp, List.countP_append]; simp
  unfold addO
  simp only
  cases hf : findC t.es c.n c.i with
  | none =>
   simp only
   refine ⟨hsp _ rfl, List.pairwise_append.2 ⟨h.keys, List.pairwise_singleton _ _, fun a ha b hb => ?_⟩, fun d hd => ?_, fun d hd => ?_, fun ht => (h.tw ht).mono fun c hc => by simp [hc]⟩
   ·rw [List.mem_singleton.1 hb]
    exact find_none hf a ha
   ·rcases List.mem_append.1 hd with hd | hd
    ·simp [h.sub d hd]
    ·rw [List.mem_singleton.1 hd]; simp
   ·rcases List.mem_append.1 hd with hd | hd
    ·obtain ⟨x, h1, h2⟩ := h.cov d hd
     exact ⟨x, by simp [h1], h2⟩
    ·simp only [List.mem_singleton, Option.some.injEq] at hd
     exact ⟨c, by simp, by rw [hd], by rw [hd], fun _ => hd.symm⟩
  | some old =>
   simp only
   obtain ⟨q1, q2, q3⟩ := find_mem hf
   refine ⟨hsp _ rfl, h.keys, fun d hd => by simp [h.sub d hd], fun d hd => ?_, fun ht => ?_⟩
   ·rcases List.mem_append.1 hd with hd | hd
    ·obtain ⟨x, h1, h2, h3, h4⟩ := h.cov d hd
     refine ⟨x, h1, h2, h3, fun ht => h4 ?_⟩
     rw [Bool.or_eq_false_iff] at ht
     exact ht.1
    ·simp only [List.mem_singleton, Option.some.injEq] at hd
     subst hd
     refine ⟨old, q1, q2, q3, fun ht => ?_⟩
     rw [Bool.or_eq_false_iff] at ht
     simpa using ht.2
   ·rw [Bool.or_eq_true] at ht
    rcases ht with ht | ht
    ·exact (h.tw ht).mono fun c hc => by simp [hc]
    ·have hne : old ≠ c := by simpa using ht
     exact ⟨old, c, by simp [h.sub old q1], by simp, q2, q3, hne⟩
theorem tray_law : ∀ (os : List (Option Cd)), TrL os (os.foldl addO tr0) := by
 have key : ∀ (ps os : List (Option Cd)) (t : Tr), TrL os t → TrL (os ++ ps) (ps.foldl addO t) := by
  intro ps
  induction ps with
  | nil => intro os t h; simpa using h
  | cons p ps ih =>
   intro os t h
   have := ih (os ++ [p]) (addO t p) (h.step p)
   rwa [List.append_assoc] at this
 intro os
 have := key os [] tr0 ⟨rfl, tr0_keys, fun c hc => by simp [tr0] at hc, fun c hc => by simp at hc, fun h => by simp [tr0] at h⟩
 rwa [List.nil_append] at this
theorem keys_one {l : List Cd} (hk : Keys l) {a b : Cd} (ha : a ∈ l) (hb : b ∈ l) (h1 : a.n = b.n) (h2 : a.i = b.i) : a = b := by
 induction l with
 | nil => simp at ha
 | cons x r ih =>
  unfold Keys at hk ih
  rw [List.pairwise_cons] at hk
  rcases List.mem_cons.1 ha with ha' | ha'
  ·rcases List.mem_cons.1 hb with hb' | hb'
   ·rw [ha', hb']
   ·rw [ha'] at h1 h2
    exact absurd ⟨h1, h2⟩ (hk.1 b hb')
  ·rcases List.mem_cons.1 hb with hb' | hb'
   ·rw [hb'] at h1 h2
    exact absurd ⟨h1.symm, h2.symm⟩ (hk.1 a ha')
   ·exact ih hk.2 ha' hb'
theorem TrL.mem {os : List (Option Cd)} {t : Tr} (h : TrL os t) (ht : t.tw = false) (c : Cd) : c ∈ t.es ↔ some c ∈ os := by
 refine ⟨h.sub c, fun hc => ?_⟩
 obtain ⟨d, d1, _, _, d4⟩ := h.cov c hc
 rw [← d4 ht]; exact d1
def Srt (os : List (Option Cd)) (L : List Cd) : Prop := L.Pairwise kLt ∧ ∀ c, c ∈ L ↔ some c ∈ os
theorem kLt_irr {a : Cd} : ¬ kLt a a := by unfold kLt; omega
theorem Srt.nodup {os : List (Option Cd)} {L : List Cd} (h : Srt os L) : L.Nodup := h.1.imp fun hk e => by rw [e] at hk; exact kLt_irr hk
theorem kLt_asym {a b : Cd} (h : kLt a b) : ¬ kLt b a := by unfold kLt at *; omega
theorem Srt.unique {os : List (Option Cd)} {L M : List Cd} (h : Srt os L) (g : Srt os M) : L = M := by
 have hp : L.Perm M := (List.perm_ext_iff_of_nodup h.nodup g.nodup).2 fun c => by rw [h.2, g.2]
 exact (sorted_one L M hp h.1 (g.1.imp kLt_asym)).symm
theorem TrL.srt {os : List (Option Cd)} {t : Tr} (h : TrL os t) (ht : t.tw = false) : Srt os (sortC t.es) :=
 ⟨sortC_sorted h.keys, fun c => by rw [(sortC_perm _).mem_iff, h.mem ht]⟩
theorem goG_tw : ∀ (r : List Cd) (done : List (List Cd)) (h : Cd) (t : List Cd) (tw : Bool), (h :: r).Pairwise (fun a b => a.n ≤ b.n) →
  ((goG done h t tw r).2 = true ↔ tw = true ∨ ∃ c d, c ∈ h :: r ∧ d ∈ h :: r ∧ c.n = d.n ∧ c.m ≠ d.m)
 | [], done, h, t, tw, _ => by
  rw [goG_nil]
  constructor
  ·exact .inl
  ·rintro (h1 | ⟨c, d, hc, hd, _, hm⟩)
   ·exact h1
   ·rw [List.mem_singleton.1 hc, List.mem_singleton.1 hd] at hm
    exact absurd rfl hm
 | c :: r, done, h, t, tw, hs => by
  rw [List.pairwise_cons] at hs
  obtain ⟨hs1, hs2⟩ := hs
  by_cases hn : h.n = c.n
  ·rw [goG_same hn, goG_tw r done h (t ++ [c]) _ (List.pairwise_cons.2 ⟨fun x hx => hs1 x (by simp [hx]), (List.pairwise_cons.1 hs2).2⟩)]
   rw [Bool.or_eq_true, bne_iff_ne]
   constructor
   ·rintro ((h1 | h1) | ⟨a, b, ha, hb, hab, hm⟩)
    ·exact .inl h1
    ·exact .inr ⟨h, c, by simp, by simp, hn, h1⟩
    ·exact .inr ⟨a, b, by rcases List.mem_cons.1 ha with rfl | ha <;> simp [*], by rcases List.mem_cons.1 hb with rfl | hb <;> simp [*], hab, hm⟩
   ·rintro (h1 | ⟨a, b, ha, hb, hab, hm⟩)
    ·exact .inl (.inl h1)
    ·by_cases hmc : h.m = c.m
     ·right
      have fix : ∀ x, x ∈ h :: c :: r → ∃ y, y ∈ h :: r ∧ y.n = x.n ∧ y.m = x.m := fun x hx => by
       rcases List.mem_cons.1 hx with rfl | hx
       ·exact ⟨x, by simp, rfl, rfl⟩
       ·rcases List.mem_cons.1 hx with rfl | hx
        ·exact ⟨h, by simp, hn, hmc⟩
        ·exact ⟨x, by simp [hx], rfl, rfl⟩
      obtain ⟨a', a1, a2, a3⟩ := fix a ha
      obtain ⟨b', b1, b2, b3⟩ := fix b hb
      exact ⟨a', b', a1, b1, by rw [a2, b2, hab], by rw [a3, b3]; exact hm⟩
     ·exact .inl (.inr hmc)
  ·rw [goG_new hn, goG_tw r _ c [] tw hs2]
   constructor
   ·rintro (h1 | ⟨a, b, ha, hb, hab⟩)
    ·exact .inl h1
    ·exact .inr ⟨a, b, by simp [ha], by simp [hb], hab⟩
   ·rintro (h1 | ⟨a, b, ha, hb, hab, hm⟩)
    ·exact .inl h1
    ·have hlt : ∀ x, x ∈ c :: r → h.n < x.n := fun x hx => by
      have h1 := hs1 c (by simp)
      have h2 : c.n ≤ x.n := by
       rcases List.mem_cons.1 hx with rfl | hx
       ·exact Int.le_refl _
       ·exact (List.pairwise_cons.1 hs2).1 x hx
      omega
     right
     rcases List.mem_cons.1 ha with ha | ha
     ·rcases List.mem_cons.1 hb with hb | hb
      ·rw [ha, hb] at hm; exact absurd rfl hm
      ·have := hlt b hb; rw [ha] at hab; omega
     ·rcases List.mem_cons.1 hb with hb | hb
      ·have := hlt a ha; rw [hb] at hab; omega
      ·exact ⟨a, b, ha, hb, hab, hm⟩
theorem numG_tw {tw : Bool} {L : List Cd} (hs : L.Pairwise kLt) : (numG tw L).2 = true ↔ tw = true ∨ ∃ c d, c ∈ L ∧ d ∈ L ∧ c.n = d.n ∧ c.m ≠ d.m := by
 cases L with
 | nil => unfold numG; simp
 | cons h r => unfold numG; exact goG_tw r [] h [] tw (hs.imp fun hk => by unfold kLt at hk; omega)
def Grp : List (List Cd) → Prop
 | [] => True
 | g :: G => g ≠ [] ∧ (∀ c ∈ g, c.n = headN g) ∧ (∀ g' ∈ G.head?, headN g' ≠ headN g) ∧ Grp G
theorem goG_of : ∀ (G : List (List Cd)) (r : List Cd) (done : List (List Cd)) (h : Cd) (t : List Cd) (tw : Bool), Grp G → (∀ c ∈ r, c.n = h.n) → (∀ g' ∈ G.head?, headN g' ≠ h.n) → (goG done h t tw (r ++ G.flatten)).1 = done ++ [h :: t ++ r] ++ G
 | G, c :: r, done, h, t, tw, hG, hr, hh => by
  rw [List.cons_append, goG_same (hr c (by simp)).symm, goG_of G r done h (t ++ [c]) _ hG (fun x hx => hr x (by simp [hx])) hh]
  simp
 | [], [], done, h, t, tw, _, _, _ => by
  rw [List.flatten_nil, List.append_nil, goG_nil]; simp
 | g :: G, [], done, h, t, tw, hG, _, hh => by
  obtain ⟨g1, g2, g3, g4⟩ := hG
  cases g with
  | nil => exact absurd rfl g1
  | cons x g =>
   have hx : h.n ≠ x.n := fun e => hh (x :: g) rfl e.symm
   rw [List.nil_append, List.flatten_cons, List.cons_append, goG_new hx, goG_of G g _ x [] tw g4 (fun y hy => g2 y (by simp [hy])) g3]
   simp
theorem numG_of {G : List (List Cd)} (tw : Bool) (h : Grp G) : (numG tw G.flatten).1 = G := by
 cases G with
 | nil => rfl
 | cons g G =>
  obtain ⟨g1, g2, g3, g4⟩ := h
  cases g with
  | nil => exact absurd rfl g1
  | cons x g =>
   rw [List.flatten_cons, List.cons_append]
   unfold numG
   rw [goG_of G g [] x [] tw g4 (fun y hy => g2 y (by simp [hy])) g3]
   simp
theorem openL_ok {l : List Int} (hl : l.length ≤ 8000) (hb : By l) {L : List Cd} (hL : Srt (Vs l) L) (hc : ¬ Conf (Vs l)) (hm : ¬ MConf (Vs l)) : openL l = ((numG false L).1, (((Vs l).countP Option.isNone : Nat) : Int), 0) := by
 have ht := tray_law (Vs l)
 rw [← addL_O tr0_ok hb] at ht
 have htw : (addL tr0 l).tw = false := by
  cases e : (addL tr0 l).tw with
  | false => rfl
  | true => exact absurd (ht.tw e) hc
 have hs := ht.srt htw
 have e := hs.unique hL
 have h2 : (numG false L).2 = false := by
  cases e2 : (numG false L).2 with
  | false => rfl
  | true =>
   rcases (numG_tw hL.1).1 e2 with h | ⟨c, d, h1, h2, h3⟩
   ·cases h
   ·exact absurd ⟨c, d, (hL.2 c).1 h1, (hL.2 d).1 h2, h3⟩ hm
 unfold openL
 rw [if_neg (by omega), htw, e, h2, cond_false, ht.sp]
end Go.Ev.YtijidghjiaiccaaGreat


namespace Go.Ev.YtijidghjiaiccaaGreat
open Go.Proofs
theorem chL_app {A B : List Int} {n : Nat} (h : A.length = 40 * n) : chL (A ++ B) = chL A ++ chL B := by
 unfold chL
 have e1 : nCh A = n := by unfold nCh; omega
 have e2 : nCh (A ++ B) = n + nCh B := by unfold nCh; rw [List.length_append]; omega
 rw [e1, e2, List.range_add, List.map_append, List.map_map]
 congr 1
 ·refine List.map_congr_left fun k hk => ?_
  rw [List.mem_range] at hk
  unfold chAt
  rw [List.drop_append_of_le_length (by omega), List.take_append_of_le_length (by rw [List.length_drop]; omega)]
 ·refine List.map_congr_left fun k hk => ?_
  show chAt (A ++ B) (n + k) = chAt B k
  unfold chAt
  rw [List.drop_append, List.drop_of_length_le (by omega), List.nil_append]
  congr 2
  omega
theorem Vs_app {A B : List Int} {n : Nat} (h : A.length = 40 * n) : Vs (A ++ B) = Vs A ++ Vs B := by
 unfold Vs blks
 rw [chL_app h, List.map_append, List.map_append]
theorem pad_full {x : List Int} (h : x.length = 40) : pad x = x := by unfold pad; rw [h]; simp
theorem chL_one {x : List Int} (h0 : 0 < x.length) (h : x.length ≤ 40) : chL x = [x] := by
 unfold chL
 have e : nCh x = 1 := by unfold nCh; omega
 rw [e]
 show [chAt x 0] = [x]
 unfold chAt
 rw [show 40 * 0 = 0 from rfl, List.drop_zero, List.take_of_length_le h]
theorem Vs_block {x : List Int} (h : x.length = 40) : Vs x = [readR x] := by
 unfold Vs blks
 rw [chL_one (by omega) (by omega), List.map_cons, List.map_nil, List.map_cons, List.map_nil, pad_full h]
 unfold cardOf
 rw [decide_eq_true h]
 rfl
end Go.Ev.YtijidghjiaiccaaGreat


namespace Go.Ev.YtijidghjiaiccaaGreat
open Go.Proofs
def ShOK (s : Sh) : Prop := PtsOK s.ps ∧ s.ps.length ≤ 100 ∧ 0 ≤ s.n ∧ s.n ≤ 9999
theorem ShOK.check {s : Sh} (h : ShOK s) : checkI [s] = 0 := check_one h.2.1 (shB_ok.2 ⟨h.2.2.1, h.2.2.2, h.1⟩)
theorem ShOK.run {s : Sh} (h : ShOK s) : Run s.ps := (runB_ok.1 h.1).2.2
theorem ShOK.pos {s : Sh} (h : ShOK s) : 0 < s.ps.length := (runB_ok.1 h.1).1
theorem ShOK.many {s : Sh} (h : ShOK s) : 0 < (cardsL s).length ∧ (cardsL s).length ≤ 10 := by
 have := cuts_count s.ps
 have h2 := h.2.1
 rw [cards_len]
 refine ⟨?_, by omega⟩
 rw [cuts_cons h.pos]
 simp
theorem card_at {s : Sh} {c : Cd} (h : c ∈ cardsL s) : ∃ (k : Nat) (hk : k < (cardsL s).length), c = ⟨s.n, k, (cardsL s).length, (cuts s.ps)[k]'(by rw [← cards_len]; exact hk)⟩ := by
 obtain ⟨k, hk, rfl⟩ := List.getElem_of_mem h
 refine ⟨k, hk, ?_⟩
 rw [cards_at s k hk]
 simp only [cards_len]
theorem ShOK.card {s : Sh} (h : ShOK s) {c : Cd} (hc : c ∈ cardsL s) : CdOK c ∧ c.n = s.n ∧ c.m = (cardsL s).length := by
 have hroom := cards_room h.run hc
 obtain ⟨k, hk, rfl⟩ := card_at hc
 have hm := h.many
 have hp : (cuts s.ps)[k]'(by rw [← cards_len]; exact hk) ∈ cuts s.ps := List.getElem_mem _
 have hv := cutsF_v _ _ h.1.v _ hp
 have h0 := ((cuts_ok h.run).1 _ hp).1
 refine ⟨⟨h.2.2, ⟨?_, ?_⟩, ⟨?_, ?_⟩, hv.ok h0, hroom⟩, rfl, rfl⟩
 ·show (1 : Int) ≤ ((cardsL s).length : Nat); omega
 ·show (((cardsL s).length : Nat) : Int) ≤ 20; omega
 ·show (0 : Int) ≤ (k : Nat); omega
 ·show ((k : Nat) : Int) < ((cardsL s).length : Nat); omega
theorem cards_lt (s : Sh) : (cardsL s).Pairwise kLt := by
 rw [List.pairwise_iff_getElem]
 intro i j hi hj hij
 rw [cards_at s i hi, cards_at s j hj]
 right
 exact ⟨rfl, by show ((i : Nat) : Int) < (j : Nat); omega⟩
theorem cds_ps (n m : Int) : ∀ (l : List (List Pt)) (k : Nat), (cds n m k l).map Cd.ps = l
 | [], k => rfl
 | p :: r, k => by rw [cds_cons, List.map_cons, cds_ps n m r]
theorem ptsOf_cards {s : Sh} (h : ShOK s) : ptsOf (cardsL s) = s.ps := by
 unfold ptsOf cardsL
 rw [cds_ps]
 exact (cuts_ok h.run).2.1
def keptAt (keep : Cd → Bool) (s : Sh) : List Cd := (cardsL s).filter keep
def kept (keep : Cd → Bool) (S : List Sh) : List (List Cd) := (S.map (keptAt keep)).filter fun g => !g.isEmpty
theorem flat_ne : ∀ (G : List (List Cd)), (G.filter fun g => !g.isEmpty).flatten = G.flatten
 | [] => rfl
 | [] :: G => by simp [flat_ne G]
 | (c :: g) :: G => by simp [flat_ne G]
theorem kept_head {keep : Cd → Bool} {S : List Sh} (h : ∀ s ∈ S, ShOK s) {g : List Cd} (hg : g ∈ kept keep S) : ∃ s ∈ S, g = keptAt keep s ∧ g ≠ [] ∧ headN g = s.n ∧ ∀ c ∈ g, c.n = s.n := by
 unfold kept at hg
 obtain ⟨h1, h2⟩ := List.mem_filter.1 hg
 obtain ⟨s, hs, rfl⟩ := List.mem_map.1 h1
 have hn : ∀ c ∈ keptAt keep s, c.n = s.n := fun c hc => ((h s hs).card (List.mem_filter.1 hc).1).2.1
 refine ⟨s, hs, rfl, ?_, ?_, hn⟩
 ·cases e : keptAt keep s with
  | nil => rw [e] at h2; simp at h2
  | cons => simp
 ·cases e : keptAt keep s with
  | nil => rw [e] at h2; simp at h2
  | cons c t => exact hn c (by rw [e]; simp)
theorem kept_grp (keep : Cd → Bool) : ∀ {S : List Sh}, (∀ s ∈ S, ShOK s) → S.Pairwise (fun a b => a.n < b.n) → Grp (kept keep S)
 | [], _, _ => trivial
 | s :: S, h, hp => by
  rw [List.pairwise_cons] at hp
  have ih := kept_grp keep (S := S) (fun x hx => h x (by simp [hx])) hp.2
  have e : kept keep (s :: S) = if (!(keptAt keep s).isEmpty) = true then keptAt keep s :: kept keep S else kept keep S := by
   unfold kept
   rw [List.map_cons, List.filter_cons]
  rw [e]
  split
  ·rename_i he
   obtain ⟨s', hs', e1, e2, e3, e4⟩ := kept_head (S := [s]) (keep := keep) (fun x hx => h x (by rw [List.mem_singleton.1 hx]; simp)) (g := keptAt keep s) (by unfold kept; rw [List.map_cons, List.filter_cons, if_pos he]; simp)
   rw [List.mem_singleton.1 hs'] at e3 e4
   refine ⟨e2, fun c hc => by rw [e3, e4 c hc], fun g' hg' => ?_, ih⟩
   obtain ⟨x, hx, _, _, q, _⟩ := kept_head (S := S) (keep := keep) (fun x hx => h x (by simp [hx])) (List.mem_of_mem_head? hg')
   have := hp.1 x hx
   rw [q, e3]
   omega
  ·exact ih
theorem kept_flat (keep : Cd → Bool) (S : List Sh) : (kept keep S).flatten = (S.map (keptAt keep)).flatten := flat_ne _
theorem kept_srt (keep : Cd → Bool) {S : List Sh} (h : ∀ s ∈ S, ShOK s) (hp : S.Pairwise fun a b => a.n < b.n) : (S.map (keptAt keep)).flatten.Pairwise kLt := by
 rw [List.pairwise_flatten]
 refine ⟨fun g hg => ?_, ?_⟩
 ·obtain ⟨s, hs, rfl⟩ := List.mem_map.1 hg
  exact (cards_lt s).sublist List.filter_sublist
 ·rw [List.pairwise_map]
  refine hp.imp_of_mem fun {a b} ha hb hab => ?_
  intro x hx y hy
  have h1 := ((h a ha).card (List.mem_filter.1 hx).1).2.1
  have h2 := ((h b hb).card (List.mem_filter.1 hy).1).2.1
  left
  omega
theorem srt_one {L : List Cd} (h : L.Pairwise kLt) {c d : Cd} (hc : c ∈ L) (hd : d ∈ L) (h1 : c.n = d.n) (h2 : c.i = d.i) : c = d :=
 keys_one (l := L) (h.imp fun hk => by unfold kLt at hk; omega) hc hd h1 h2
theorem mem_kept {keep : Cd → Bool} {S : List Sh} {c : Cd} : c ∈ (S.map (keptAt keep)).flatten ↔ (∃ s ∈ S, c ∈ cardsL s) ∧ keep c = true := by
 rw [List.mem_flatten]
 constructor
 ·rintro ⟨g, hg, hc⟩
  obtain ⟨s, hs, rfl⟩ := List.mem_map.1 hg
  obtain ⟨h1, h2⟩ := List.mem_filter.1 hc
  exact ⟨⟨s, hs, h1⟩, h2⟩
 ·rintro ⟨⟨s, hs, h1⟩, h2⟩
  exact ⟨_, List.mem_map.2 ⟨s, hs, rfl⟩, List.mem_filter.2 ⟨h1, h2⟩⟩
theorem kept_open {keep : Cd → Bool} {S : List Sh} (h : ∀ s ∈ S, ShOK s) (hp : S.Pairwise fun a b => a.n < b.n) {b : List Int} (hb : By b) (hl : b.length ≤ 8000)
  (hv : ∀ c, some c ∈ Vs b ↔ (∃ s ∈ S, c ∈ cardsL s) ∧ keep c = true) : openL b = (kept keep S, (((Vs b).countP Option.isNone : Nat) : Int), 0) := by
 have hs : Srt (Vs b) (S.map (keptAt keep)).flatten := ⟨kept_srt keep h hp, fun c => by rw [mem_kept, hv]⟩
 have hone : ∀ s t, s ∈ S → t ∈ S → s.n = t.n → s = t := by
  intro s t hs ht hn
  obtain ⟨i, hi, rfl⟩ := List.getElem_of_mem hs
  obtain ⟨j, hj, rfl⟩ := List.getElem_of_mem ht
  rcases Nat.lt_trichotomy i j with hij | hij | hij
  ·have := List.pairwise_iff_getElem.1 hp i j hi hj hij; omega
  ·subst hij; rfl
  ·have := List.pairwise_iff_getElem.1 hp j i hj hi hij; omega
 have hc : ¬ Conf (Vs b) := fun ⟨c, d, h1, h2, h3, h4, h5⟩ => h5 (srt_one hs.1 ((hs.2 c).2 h1) ((hs.2 d).2 h2) h3 h4)
 have hm : ¬ MConf (Vs b) := fun ⟨c, d, h1, h2, h3, h4⟩ => by
  obtain ⟨⟨s, s1, s2⟩, _⟩ := (hv c).1 h1
  obtain ⟨⟨t, t1, t2⟩, _⟩ := (hv d).1 h2
  obtain ⟨_, u1, u2⟩ := (h s s1).card s2
  obtain ⟨_, v1, v2⟩ := (h t t1).card t2
  have := hone s t s1 t1 (by omega)
  subst this
  omega
 rw [openL_ok hl hb hs hc hm, ← kept_flat, numG_of false (kept_grp keep h hp)]
theorem Vs_flat : ∀ (cs : List Cd), (∀ c ∈ cs, CdOK c) → Vs ((cs.map layB).flatten) = cs.map some
 | [], _ => rfl
 | c :: cs, h => by
  have hc := h c (by simp)
  rw [List.map_cons, List.flatten_cons, Vs_app (n := 1) (lay_len hc.many.1), Vs_block (lay_len hc.many.1), readR_enc hc, Vs_flat cs fun d hd => h d (by simp [hd])]
  rfl
end Go.Ev.YtijidghjiaiccaaGreat


namespace Go.Ev.YtijidghjiaiccaaGreat
open Go.Proofs
def onL (on : Nat → Bool) (s : Sh) (k : Nat) : List Cd := ((cardsL s).take k).filter fun c => on c.i.toNat
def onB (on : Nat → Bool) (s : Sh) (k : Nat) : List Int := ((onL on s k).reverse.map layB).flatten
def onN (on : Nat → Bool) : Nat → Nat
 | 0 => 0
 | k + 1 => onN on k + (bif on k && (decide (k = 0) || !on (k - 1)) then 1 else 0)
theorem card_i {s : Sh} {k : Nat} (h : k < (cardsL s).length) : (cardsL s)[k].i = (k : Int) := by rw [cards_at s k h]
theorem onL_succ (on : Nat → Bool) {s : Sh} {k : Nat} (h : k < (cardsL s).length) : onL on s (k + 1) = onL on s k ++ (bif on k then [(cardsL s)[k]] else []) := by
 unfold onL
 rw [List.take_add_one, List.getElem?_eq_getElem h, List.filter_append, Option.toList_some, List.filter_cons, card_i h, Int.toNat_natCast]
 cases on k <;> rfl
theorem onB_succ (on : Nat → Bool) {s : Sh} {k : Nat} (h : k < (cardsL s).length) : onB on s (k + 1) = bif on k then layB (cardsL s)[k] ++ onB on s k else onB on s k := by
 unfold onB
 rw [onL_succ on h]
 cases on k <;> simp
theorem onL_zero (on : Nat → Bool) (s : Sh) : onL on s 0 = [] := by unfold onL; rw [List.take_zero]; rfl
theorem onB_zero (on : Nat → Bool) (s : Sh) : onB on s 0 = [] := by unfold onB; rw [onL_zero]; rfl
theorem onL_all (on : Nat → Bool) (s : Sh) : onL on s (cardsL s).length = keptAt (fun c => on c.i.toNat) s := by unfold onL keptAt; rw [List.take_length]
theorem pieceF_flat : ∀ (r : List Cd) (cur : List Pt) (i : Int), (pieceF cur i r).flatten = cur ++ ptsOf r
 | [], cur, i => by rw [pieceF]; unfold ptsOf; simp
 | c :: r, cur, i => by
  have e : ptsOf (c :: r) = c.ps ++ ptsOf r := by unfold ptsOf; rw [List.map_cons, List.flatten_cons]
  rw [pieceF, e]
  cases i + 1 == c.i with
  | true => rw [cond_true, pieceF_flat r, List.append_assoc]
  | false => rw [cond_false, List.flatten_cons, pieceF_flat r]
theorem piecesC_flat (g : List Cd) : (piecesC g).flatten = ptsOf g := by
 cases g with
 | nil => rfl
 | cons c t =>
  rw [piecesC_cons, pieceF_flat]
  unfold ptsOf
  rw [List.map_cons, List.flatten_cons]
theorem pieceF_snoc : ∀ (r : List Cd) (cur : List Pt) (i : Int) (c : Cd), (pieceF cur i (r ++ [c])).length = (pieceF cur i r).length + (bif ((r.getLast?.elim i Cd.i) + 1 == c.i) then 0 else 1)
 | [], cur, i, c => by
  rw [List.nil_append, pieceF, pieceF, pieceF, pieceF]
  show _ = _ + (bif i + 1 == c.i then 0 else 1)
  cases i + 1 == c.i <;> rfl
 | d :: r, cur, i, c => by
  have e : (d :: r).getLast?.elim i Cd.i = r.getLast?.elim d.i Cd.i := by
   cases r with
   | nil => rfl
   | cons a r => rw [List.getLast?_cons_cons]; cases h : (a :: r).getLast? with
    | none => rw [List.getLast?_eq_none_iff] at h; cases h
    | some x => rfl
  rw [List.cons_append, pieceF, pieceF, e]
  cases i + 1 == d.i with
  | true => rw [cond_true, cond_true]; exact pieceF_snoc r _ _ c
  | false => rw [cond_false, cond_false, List.length_cons, List.length_cons, pieceF_snoc r _ _ c]; omega
theorem piecesC_snoc (g : List Cd) (c : Cd) : (piecesC (g ++ [c])).length = (piecesC g).length + (bif g.getLast?.elim false (fun d => d.i + 1 == c.i) then 0 else 1) := by
 cases g with
 | nil => rfl
 | cons d t =>
  rw [List.cons_append, piecesC_cons, piecesC_cons, pieceF_snoc]
  congr 2
  cases t with
  | nil => rfl
  | cons a t => rw [List.getLast?_cons_cons]; cases h : (a :: t).getLast? with
   | none => rw [List.getLast?_eq_none_iff] at h; cases h
   | some x => rfl
theorem on_last (on : Nat → Bool) {s : Sh} : ∀ (k : Nat), k ≤ (cardsL s).length → (onL on s k).getLast?.elim false (fun d => d.i + 1 == (k : Int)) = (decide (0 < k) && on (k - 1))
 | 0, _ => by rw [onL_zero]; rfl
 | k + 1, h => by
  have ih := on_last (s := s) on k (by omega)
  rw [onL_succ on (s := s) (k := k) (by omega)]
  rw [show decide (0 < k + 1) = true from decide_eq_true (by omega), Bool.true_and, Nat.add_sub_cancel]
  cases ho : on k with
  | true =>
   rw [cond_true, List.getLast?_concat]
   show ((cardsL s)[k].i + 1 == ((k + 1 : Nat) : Int)) = true
   rw [card_i (s := s) (k := k) (by omega)]
   simp
  | false =>
   rw [cond_false, List.append_nil]
   cases hl : (onL on s k).getLast? with
   | none => rfl
   | some d =>
    have hd := List.mem_of_getLast? hl
    unfold onL at hd
    have hd := (List.mem_filter.1 hd).1
    obtain ⟨j, hj, rfl⟩ := List.getElem_of_mem hd
    rw [List.length_take] at hj
    rw [List.getElem_take]
    show ((cardsL s)[j].i + 1 == ((k + 1 : Nat) : Int)) = false
    rw [card_i (s := s) (k := j) (by omega), beq_eq_false_iff_ne]
    omega
theorem on_pieces (on : Nat → Bool) {s : Sh} : ∀ (k : Nat), k ≤ (cardsL s).length → (piecesC (onL on s k)).length = onN on k
 | 0, _ => by rw [onL_zero]; rfl
 | k + 1, h => by
  have ih := on_pieces (s := s) on k (by omega)
  have hla := on_last (s := s) on k (by omega)
  rw [onL_succ on (s := s) (k := k) (by omega), onN]
  cases ho : on k with
  | false => rw [cond_false, List.append_nil, ih]; rfl
  | true =>
   rw [cond_true, piecesC_snoc, ih, card_i (s := s) (k := k) (by omega), hla]
   congr 1
   by_cases hk : k = 0
   ·subst hk; rfl
   ·rw [decide_eq_true (by omega : 0 < k), decide_eq_false hk]
    cases on (k - 1) <;> rfl
theorem on_ok {s : Sh} (h : ShOK s) (on : Nat → Bool) (k : Nat) : ∀ c ∈ onL on s k, CdOK c := fun c hc => (h.card (List.mem_of_mem_take (List.mem_filter.1 hc).1)).1
theorem on_law {s : Sh} (h : ShOK s) (on : Nat → Bool) : By (onB on s (cardsL s).length) ∧ (onB on s (cardsL s).length).length ≤ 400 ∧
  ((onN on (cardsL s).length = 0 ∧ PiecesL (onB on s (cardsL s).length) s.n = ([], 7)) ∨ (0 < onN on (cardsL s).length ∧ PiecesL (onB on s (cardsL s).length) s.n = (piecesC (keptAt (fun c => on c.i.toNat) s), 0))) := by
 have hok := on_ok h on (cardsL s).length
 have hok2 : ∀ c ∈ (onL on s (cardsL s).length).reverse, CdOK c := fun c hc => hok c (List.mem_reverse.1 hc)
 have hmany := h.many
 have hl : (onL on s (cardsL s).length).length ≤ 10 := by
  unfold onL
  refine Nat.le_trans (List.length_filter_le _ _) ?_
  rw [List.length_take]; omega
 have hbl : (onB on s (cardsL s).length).length ≤ 400 := by
  unfold onB
  rw [layL_len fun c hc => (hok2 c hc).many.1, List.length_reverse]
  omega
 have hby : By (onB on s (cardsL s).length) := cat_by hok2
 refine ⟨hby, hbl, ?_⟩
 have hv : ∀ c, some c ∈ Vs (onB on s (cardsL s).length) ↔ (∃ t ∈ [s], c ∈ cardsL t) ∧ (fun c : Cd => on c.i.toNat) c = true := fun c => by
  have e : Vs (onB on s (cardsL s).length) = (onL on s (cardsL s).length).reverse.map some := by unfold onB; rw [Vs_flat _ hok2]
  rw [e, List.mem_map]
  simp only [List.mem_reverse, Option.some.injEq, exists_eq_right, List.mem_singleton, exists_eq_left]
  rw [onL_all]
  unfold keptAt
  rw [List.mem_filter]
 have ho := kept_open (keep := fun c : Cd => on c.i.toNat) (S := [s]) (fun t ht => by rw [List.mem_singleton.1 ht]; exact h) (List.pairwise_singleton _ _) hby (by omega) hv
 have hp := on_pieces (s := s) on _ (Nat.le_refl _)
 rw [onL_all] at hp
 have hin : inB s.n 0 9999 = true := by
  unfold inB
  rw [Bool.and_eq_true, decide_eq_true_eq, decide_eq_true_eq]
  exact ⟨h.2.2.1, h.2.2.2⟩
 have hkn : kept (fun c : Cd => on c.i.toNat) [s] = if (!(keptAt (fun c : Cd => on c.i.toNat) s).isEmpty) = true then [keptAt (fun c : Cd => on c.i.toNat) s] else [] := by
  unfold kept
  rw [List.map_cons, List.map_nil, List.filter_cons]
  rfl
 unfold PiecesL
 rw [ho, hin, hkn]
 have hn : ∀ c ∈ keptAt (fun c : Cd => on c.i.toNat) s, c.n = s.n := fun c hc => (h.card (List.mem_filter.1 hc).1).2.1
 generalize keptAt (fun c : Cd => on c.i.toNat) s = K at *
 cases K with
 | nil =>
  left
  refine ⟨by rw [← hp]; rfl, rfl⟩
 | cons c t =>
  right
  have h0 : 0 < (piecesC (c :: t)).length := by
   rw [piecesC_cons]
   have : ∀ (r : List Cd) (cur : List Pt) (i : Int), 0 < (pieceF cur i r).length := by
    intro r
    induction r with
    | nil => intro cur i; rw [pieceF]; simp
    | cons d r ih =>
     intro cur i
     rw [pieceF]
     cases i + 1 == d.i with
     | true => exact ih _ _
     | false => simp
   exact this _ _ _
  refine ⟨by omega, ?_⟩
  have e : piecesG s.n [c :: t] = piecesC (c :: t) := by
   show (bif headN (c :: t) != s.n then piecesG s.n [] else piecesC (c :: t) ++ piecesG s.n []) = _
   rw [show (headN (c :: t) != s.n) = false from by show (c.n != s.n) = false; rw [hn c (by simp)]; simp, cond_false, piecesG_nil, List.append_nil]
  rw [if_pos (show (!(c :: t).isEmpty) = true from rfl)]
  show (bif (piecesG s.n [c :: t]).length == 0 then ([], 7) else (piecesG s.n [c :: t], 0)) = _
  rw [e, show ((piecesC (c :: t)).length == 0) = false from by rw [beq_eq_false_iff_ne]; omega, cond_false]
end Go.Ev.YtijidghjiaiccaaGreat


namespace Go.Ev.YtijidghjiaiccaaGreat.C
open Go.Proofs
abbrev P3 := Int × Int × Int
def ptD (x : P3) : List D := [dI x.1, dI x.2.1, dI x.2.2]
abbrev z3 : P3 := (0, 0, 0)
abbrev ptsD (l : List P3) : D := .seq (l.map ptD)
abbrev crD (l : List P3) : D := .agg [ptsD l]
abbrev ruD (r : P3) : D := .agg (ptD r)
abbrev rdD (l : List P3) (r : P3) : D := .agg [ptsD l, dI r.1, dI r.2.1, dI r.2.2]
abbrev isD (t : List Int) : D := .seq (t.map fun n => [dI n])
def inB (n lo hi : Int) : Bool := decide (lo ≤ n) && decide (n ≤ hi)
theorem getp (l : List P3) (k : Nat) (h : k < l.length) : (l.map ptD)[k]? = some (ptD l[k]) := by simp [h]
theorem geti (l : List Int) (k : Nat) (h : k < l.length) : (l.map fun n => [dI n])[k]? = some [dI l[k]] := by simp [h]
theorem w1 (k : Nat) (h : k ≤ 1000) : IntKind.i64.wrap ((k : Int) + 1) = ((k + 1 : Nat) : Int) := by rw [wrapI (by omega) (by omega)]; rfl
theorem within_pure (n lo hi : Int) : Pure Tryz.prog 69 [dI n, dI lo, dI hi] (dB (inB n lo hi)) := by
 refine pure_of pg Tryz.func69 (by kernel_rfl) ?_
 ((conv=>whnf);repeat((first|refine ChL.l ?_|refine ChC.r ?_|fail);conv=>whnf))
 (repeat' ((first|refine kA ?_|refine kE ?_|apply kB<;>intro _|refine ChL.l ?_|refine ChC.r ?_|fail)<;>conv=>whnf))
 all_goals (rename_i h; unfold inB; rw [h]; rfl)
def ptB (x : P3) : Bool := inB x.1 0 1000 && decide (0 ≤ x.2.1) && decide (x.2.1 ≤ x.2.2) && decide (x.2.2 ≤ 100000)
def ruB (r : P3) : Bool := inB r.1 1 100000 && inB r.2.1 1 1000 && inB r.2.2 0 1000
attribute [local irreducible] Pure Bor Iter inB
theorem ptvalid_pure (x : P3) : Pure Tryz.prog 101 [.agg (ptD x)] (dB (ptB x)) := by
 refine pure_of pg Tryz.func101 (by kernel_rfl) ?_
 ((conv=>whnf);repeat((first|refine ChL.l ?_|refine ChC.r ?_|fail);conv=>whnf))
 (repeat' ((first|refine kA ?_|refine kE ?_|apply kB<;>intro _|refine .inl ⟨_, within_pure .., ?_⟩|refine ChL.l ?_|refine ChC.r ?_|fail)<;>conv=>whnf))
 all_goals (unfold ptB; simp only [*, Bool.true_and, Bool.false_and, Bool.and_true, Bool.and_false]; rfl)
theorem ruvalid_pure (r : P3) : Pure Tryz.prog 68 [ruD r] (dB (ruB r)) := by
 refine pure_of pg Tryz.func68 (by kernel_rfl) ?_
 ((conv=>whnf);repeat((first|refine ChL.l ?_|refine ChC.r ?_|fail);conv=>whnf))
 (repeat' ((first|refine kA ?_|refine kE ?_|apply kB<;>intro _|refine .inl ⟨_, within_pure .., ?_⟩|refine ChL.l ?_|refine ChC.r ?_|fail)<;>conv=>whnf))
 all_goals (unfold ruB; simp only [*, Bool.true_and, Bool.false_and, Bool.and_true, Bool.and_false]; rfl)
abbrev rightO : Ob := .var false 209 [.d (.fn (.func 101) [] [])]
theorem all1_bor (x : P3) : Bor tb Tryz.prog 132 [.d (.agg (ptD x)), .ref 0 0] [rightO] 1 (.d (dB (!ptB x))) [(0, rightO)] := by
 refine bor_of pg Tryz.func132 (by kernel_rfl) ?_
 ((conv=>whnf);repeat((first|refine ChL.l ?_|refine ChC.r ?_|fail);conv=>whnf))
 (refine .inl ⟨_, ptvalid_pure x, ?_⟩; ((conv=>whnf);repeat((first|refine ChL.l ?_|refine ChC.r ?_|fail);conv=>whnf)))
 refine ⟨[], [0], ?_⟩
 ((conv=>whnf);repeat((first|refine ChL.l ?_|refine ChC.r ?_|fail);conv=>whnf))
 exact ⟨rfl, rfl⟩
theorem indexFunc_bor (l : List P3) (hl : l.length ≤ 1000) : Bor tb Tryz.prog 150 [.d (ptsD l), .fn (.func 132) [] [.ref 0 0]] [rightO] 1 (.d (dI (match l.findIdx? (fun x => !ptB x) with | some i => (i : Int) | none => -1))) [(0, rightO)] := by
 have hm : ((List.map ptD l).length : Int) = (l.length : Int) := by rw [List.length_map]
 refine bor_of pg Tryz.func150 (by kernel_rfl) ?_
 ((conv=>whnf);repeat((first|refine ChL.l ?_|refine ChC.r ?_|fail);conv=>whnf))
 refine ⟨[], [0, 1, 7, 8], [0], 1, fun m s => ∃ k : Nat, k + m = l.length ∧ (∀ i (h : i < k) (h' : i < l.length), ptB l[i] = true) ∧ s = ⟨[(0, .d (ptsD l)), (1, .fn (.func 132) [] [.ref 0 0]), (7, .d (dI (l.map ptD).length)), (8, .d (dI k))], [(0, rightO)], 1⟩, ?_, ?_⟩
 ·((conv=>whnf);repeat((first|refine ChL.l ?_|refine ChC.r ?_|fail);conv=>whnf))
  exact ⟨l.length, 0, by simp, by simp, rfl⟩
 ·rintro m _ ⟨k, hk, hall, rfl⟩
  ((conv=>whnf);repeat((first|refine ChL.l ?_|refine ChC.r ?_|fail);conv=>whnf))
  (apply kB <;> intro h <;> ((conv=>whnf);repeat((first|refine ChL.l ?_|refine ChC.r ?_|fail);conv=>whnf)))
  ·have hlt : k < l.length := by rw [decide_eq_true_eq, hm] at h; omega
   (refine ⟨k, ptD l[k], rfl, getp l k hlt, rfl, ?_⟩; ((conv=>whnf);repeat((first|refine ChL.l ?_|refine ChC.r ?_|fail);conv=>whnf)))
   (refine .inr ⟨[0], 1, _, _, all1_bor l[k], ?_⟩; ((conv=>whnf);repeat((first|refine ChL.l ?_|refine ChC.r ?_|fail);conv=>whnf)))
   (apply kB <;> intro h1 <;> ((conv=>whnf);repeat((first|refine ChL.l ?_|refine ChC.r ?_|fail);conv=>whnf)))
   ·refine ⟨[], [0], ?_⟩
    ((conv=>whnf);repeat((first|refine ChL.l ?_|refine ChC.r ?_|fail);conv=>whnf))
    refine ⟨?_, rfl⟩
    have hf : l.findIdx? (fun x => !ptB x) = some k := by
     rw [List.findIdx?_eq_some_iff_getElem]
     exact ⟨hlt, h1, fun j hj => by simp [hall j hj (by omega)]⟩
    rw [hf]
    rfl
   ·refine ⟨m - 1, by omega, k + 1, by omega, fun i hi hi' => ?_, ?_⟩
    ·rcases Nat.lt_or_ge i k with h2 | h2
     ·exact hall i h2 hi'
     ·have : i = k := by omega
      subst this
      simpa using h1
    ·rw [w1 k (by omega)]
  ·have hge : l.length ≤ k := by rw [decide_eq_false_iff_not, hm] at h; omega
   refine ⟨[], [0], ?_⟩
   ((conv=>whnf);repeat((first|refine ChL.l ?_|refine ChC.r ?_|fail);conv=>whnf))
   refine ⟨?_, rfl⟩
   have hf : l.findIdx? (fun x => !ptB x) = none := by
    rw [List.findIdx?_eq_none_iff]
    intro x hx
    obtain ⟨i, hi, rfl⟩ := List.mem_iff_getElem.1 hx
    simp [hall i (by omega) hi]
   rw [hf]
   rfl
theorem contains_bor (l : List P3) (hl : l.length ≤ 1000) : Bor tb Tryz.prog 131 [.d (ptsD l), .fn (.func 132) [] [.ref 0 0]] [rightO] 1 (.d (dB (!l.all ptB))) [(0, rightO)] := by
 refine bor_of pg Tryz.func131 (by kernel_rfl) ?_
 ((conv=>whnf);repeat((first|refine ChL.l ?_|refine ChC.r ?_|fail);conv=>whnf))
 (refine .inr ⟨[0], 1, _, _, indexFunc_bor l hl, ?_⟩; ((conv=>whnf);repeat((first|refine ChL.l ?_|refine ChC.r ?_|fail);conv=>whnf)))
 refine ⟨[], [0], ?_⟩
 ((conv=>whnf);repeat((first|refine ChL.l ?_|refine ChC.r ?_|fail);conv=>whnf))
 refine ⟨?_, rfl⟩
 show A.d (dB (decide ((match l.findIdx? (fun x => !ptB x) with | some i => (i : Int) | none => -1) ≥ 0))) = _
 congr 1
 cases h : l.findIdx? (fun x => !ptB x) with
 | none =>
  rw [List.findIdx?_eq_none_iff] at h
  have : l.all ptB = true := by
   rw [List.all_eq_true]
   intro x hx
   simpa using h x hx
  simp [this]
 | some i =>
  rw [List.findIdx?_eq_some_iff_getElem] at h
  obtain ⟨h1, h2, _⟩ := h
  have : l.all ptB = false := by
   rw [Bool.eq_false_iff]
   intro h3
   have := List.all_eq_true.1 h3 _ (List.getElem_mem h1)
   rw [this] at h2
   cases h2
  rw [this]
  have : (i : Int) ≥ 0 := by omega
  simp [this]
theorem all_pure (l : List P3) (hl : l.length ≤ 1000) : Pure Tryz.prog 100 [ptsD l, .fn (.func 101) [] []] (dB (l.all ptB)) := by
 refine pure_of pg Tryz.func100 (by kernel_rfl) ?_
 ((conv=>whnf);repeat((first|refine ChL.l ?_|refine ChC.r ?_|fail);conv=>whnf))
 (refine .inr ⟨[0], 1, _, _, contains_bor l hl, ?_⟩; ((conv=>whnf);repeat((first|refine ChL.l ?_|refine ChC.r ?_|fail);conv=>whnf)))
 simp [oneD]
end Go.Ev.YtijidghjiaiccaaGreat.C


namespace Go.Ev.YtijidghjiaiccaaGreat.C
open Go.Proofs
def pAt (l : List P3) (i : Nat) : P3 := l.getD i z3
theorem pAt_eq {l : List P3} {i : Nat} (h : i < l.length) : pAt l i = l[i] := by unfold pAt; rw [List.getD_eq_getElem?_getD, List.getElem?_eq_getElem h]; rfl
def goodB (l : List P3) (i : Nat) : Bool := ptB (pAt l i) && (decide (i = 0) || decide ((pAt l (i - 1)).1 < (pAt l i).1))
def okL (l : List P3) : Bool := (List.range l.length).all (goodB l)
theorem okL_iff {l : List P3} : okL l = true ↔ ∀ i, i < l.length → goodB l i = true := by unfold okL; simp [List.all_eq_true]
theorem okL_bad {l : List P3} {i : Nat} (hi : i < l.length) (h : goodB l i = false) : okL l = false := by
 rw [Bool.eq_false_iff]; intro h'; rw [okL_iff.1 h' i hi] at h; cases h
def ckC (l : List P3) : Int := if (l.length : Int) > 20 then 3 else if l.length = 0 then 1 else if okL l = false then 1 else 0
theorem ckC_bad {l : List P3} (h : ¬ (l.length : Int) > 20) (h' : okL l = false) : ckC l = 1 := by
 unfold ckC; rw [if_neg h, if_pos h']; split <;> rfl
theorem ckC_ok {l : List P3} (h : ¬ (l.length : Int) > 20) (h0 : l.length ≠ 0) (h' : okL l = true) : ckC l = 0 := by
 unfold ckC; rw [if_neg h, if_neg h0, if_neg (by simp [h'])]
attribute [local irreducible] Pure Bor Iter inB ptB ruB okL goodB
theorem check_pure (l : List P3) (hl : l.length ≤ 1000) : Pure Tryz.prog 67 [crD l] (dI (ckC l)) := by
 have hm : ((List.map ptD l).length : Int) = (l.length : Int) := by rw [List.length_map]
 refine pure_of pg Tryz.func67 (by kernel_rfl) ?_
 ((conv=>whnf);repeat((first|refine ChL.l ?_|refine ChC.r ?_|fail);conv=>whnf))
 (apply kB <;> intro h <;> ((conv=>whnf);repeat((first|refine ChL.l ?_|refine ChC.r ?_|fail);conv=>whnf)))
 ·have hh := h
  rw [decide_eq_true_eq, hm] at hh
  unfold ckC; rw [if_pos hh]; rfl
 ·have hh := h
  rw [decide_eq_false_iff_not, hm] at hh
  by_cases hl0 : l.length = 0
  ·have h0 : (((List.map ptD l).length : Int) == 0) = true := by rw [hm, hl0]; rfl
   (repeat' ((first|refine kA ?_|refine kE ?_|apply kB<;>intro _|refine ChL.l ?_|refine ChC.r ?_|fail)<;>conv=>whnf))
   unfold ckC; rw [if_neg hh, if_pos hl0]; rfl
  ·have h0 : (((List.map ptD l).length : Int) == 0) = false := by rw [beq_eq_false_iff_ne, hm]; omega
   have allp : l.all ptB = true ↔ ∀ i, i < l.length → ptB (pAt l i) = true := by
    rw [List.all_eq_true]
    constructor
    ·intro h i hi; rw [pAt_eq hi]; exact h _ (List.getElem_mem hi)
    ·intro h x hx
     obtain ⟨i, hi, rfl⟩ := List.mem_iff_getElem.1 hx
     rw [← pAt_eq hi]; exact h i hi
   (repeat' ((first|refine kA ?_|refine kE ?_|apply kB<;>intro _|refine .inl ⟨_, all_pure l hl, ?_⟩|refine ChL.l ?_|refine ChC.r ?_|fail)<;>conv=>whnf))
   ·rename_i h1
    have h1' : l.all ptB = false := by simpa using h1
    have hbad : okL l = false := by
     rw [Bool.eq_false_iff]; intro h2
     have := allp.2 fun i hi => by have := okL_iff.1 h2 i hi; unfold goodB at this; rw [Bool.and_eq_true] at this; exact this.1
     rw [this] at h1'; cases h1'
    rw [ckC_bad hh hbad]; rfl
   ·rename_i h1
    have h1' : l.all ptB = true := by simpa using h1
    rw [allp] at h1'
    clear allp
    (refine ⟨1, rfl, ?_⟩; ((conv=>whnf);repeat((first|refine ChL.l ?_|refine ChC.r ?_|fail);conv=>whnf)))
    (refine ⟨by rw [List.length_map]; omega, Nat.le_refl _, by intro el he; obtain ⟨x, _, rfl⟩ := List.mem_map.1 he; rfl, ?_⟩; ((conv=>whnf);repeat((first|refine ChL.l ?_|refine ChC.r ?_|fail);conv=>whnf)))
    have hm2 : ((List.drop 1 (List.take (List.map ptD l).length (List.map ptD l))).length : Int) = ((l.length - 1 : Nat) : Int) := by simp
    refine ⟨[], [1, 23, 24, 25], [0], 1, fun m s => ∃ k : Nat, k + m = l.length - 1 ∧ (∀ i, i < k → (pAt l i).1 < (pAt l (i + 1)).1) ∧ s = ⟨[(1, .ref 0 0), (23, .d (.seq (List.drop 1 (List.take (List.map ptD l).length (List.map ptD l))))), (24, .d (dI (List.drop 1 (List.take (List.map ptD l).length (List.map ptD l))).length)), (25, .d (dI k))], [(0, .var false 84 [.d (ptsD l)])], 1⟩, ?_, ?_⟩
    ·((conv=>whnf);repeat((first|refine ChL.l ?_|refine ChC.r ?_|fail);conv=>whnf))
     exact ⟨l.length - 1, 0, by omega, fun i hi => by omega, rfl⟩
    ·rintro m _ ⟨k, hk, hall, rfl⟩
     ((conv=>whnf);repeat((first|refine ChL.l ?_|refine ChC.r ?_|fail);conv=>whnf))
     (apply kB <;> intro h2 <;> ((conv=>whnf);repeat((first|refine ChL.l ?_|refine ChC.r ?_|fail);conv=>whnf)))
     ·have hlt : k < l.length - 1 := by rw [decide_eq_true_eq, hm2] at h2; omega
      (refine ⟨k, ptD l[k + 1], rfl, by rw [List.take_length, List.getElem?_drop, Nat.add_comm]; exact getp l (k + 1) (by omega), rfl, ?_⟩; ((conv=>whnf);repeat((first|refine ChL.l ?_|refine ChC.r ?_|fail);conv=>whnf)))
      (refine ⟨k, ptD l[k], rfl, getp l k (by omega), rfl, ?_⟩; ((conv=>whnf);repeat((first|refine ChL.l ?_|refine ChC.r ?_|fail);conv=>whnf)))
      (apply kB <;> intro h3 <;> ((conv=>whnf);repeat((first|refine ChL.l ?_|refine ChC.r ?_|fail);conv=>whnf)))
      ·have h3' := h3
       rw [decide_eq_true_eq] at h3'
       have hbad : okL l = false := okL_bad (i := k + 1) (by omega) (by
        unfold goodB
        rw [pAt_eq (by omega : k + 1 < l.length), pAt_eq (by omega : k + 1 - 1 < l.length)]
        simp only [Nat.add_sub_cancel, Bool.and_eq_false_iff, Bool.or_eq_false_iff, decide_eq_false_iff_not]
        exact .inr ⟨by omega, by omega⟩)
       rw [ckC_bad hh hbad]; rfl
      ·have h3' := h3
       rw [decide_eq_false_iff_not] at h3'
       refine ⟨m - 1, by omega, k + 1, by omega, fun i hi => ?_, ?_⟩
       ·rcases Nat.lt_or_ge i k with h4 | h4
        ·exact hall i h4
        ·have : i = k := by omega
         subst this
         rw [pAt_eq (by omega : i + 1 < l.length), pAt_eq (by omega : i < l.length)]
         omega
       ·rw [w1 k (by omega)]
     ·have hge : l.length - 1 ≤ k := by rw [decide_eq_false_iff_not, hm2] at h2; omega
      have hgood : okL l = true := by
       rw [okL_iff]; intro i hi
       unfold goodB
       rw [Bool.and_eq_true, Bool.or_eq_true]
       refine ⟨h1' i hi, ?_⟩
       rcases i with _ | i
       ·exact .inl (by simp)
       ·exact .inr (by simpa using hall i (by omega))
      rw [ckC_ok hh hl0 hgood]; rfl
def erC (l : List P3) (r : P3) : Int := if ckC l = 0 then if ruB r = true then 0 else 1 else ckC l
attribute [local irreducible] ckC
theorem read_pure (l : List P3) (hl : l.length ≤ 1000) (r : P3) : Pure Tryz.prog 42 [crD l, ruD r] (.tup [rdD l r, dI (erC l r)]) := by
 refine pure_of pg Tryz.func42 (by kernel_rfl) ?_
 ((conv=>whnf);repeat((first|refine ChL.l ?_|refine ChC.r ?_|fail);conv=>whnf))
 (repeat' ((first|refine kA ?_|refine kE ?_|apply kB<;>intro _|refine .inl ⟨_, check_pure l hl, ?_⟩|refine .inl ⟨_, ruvalid_pure r, ?_⟩|refine ChL.l ?_|refine ChC.r ?_|fail)<;>conv=>whnf))
 ·rename_i h h1
  have e : ckC l = 0 := eq_of_beq h
  have e1 : ruB r = false := by simpa using h1
  unfold erC; rw [if_pos e, if_neg (by simp [e1])]; rfl
 ·rename_i h h1
  have e : ckC l = 0 := eq_of_beq h
  have e1 : ruB r = true := by simpa using h1
  unfold erC; rw [if_pos e, if_pos e1, e]; rfl
 ·rename_i h
  have e : ckC l ≠ 0 := by intro e; rw [e] at h; exact absurd h (by decide)
  unfold erC; rw [if_neg e]; rfl
def truB (l : List P3) (t : List Int) : Bool := decide (t.length = l.length) && (List.range t.length).all fun i => inB (t.getD i 0) (pAt l i).2.1 (pAt l i).2.2
theorem tAt {t : List Int} {i : Nat} (h : i < t.length) : t.getD i 0 = t[i] := by rw [List.getD_eq_getElem?_getD, List.getElem?_eq_getElem h]; rfl
theorem truB_iff {l : List P3} {t : List Int} : truB l t = true ↔ t.length = l.length ∧ ∀ i, i < t.length → inB (t.getD i 0) (pAt l i).2.1 (pAt l i).2.2 = true := by unfold truB; simp [List.all_eq_true]
theorem truB_bad {l : List P3} {t : List Int} {i : Nat} (hi : i < t.length) (h : inB (t.getD i 0) (pAt l i).2.1 (pAt l i).2.2 = false) : truB l t = false := by
 rw [Bool.eq_false_iff]; intro h'; rw [(truB_iff.1 h').2 i hi] at h; cases h
theorem truB_len {l : List P3} {t : List Int} (h : t.length ≠ l.length) : truB l t = false := by
 rw [Bool.eq_false_iff]; intro h'; exact h (truB_iff.1 h').1
attribute [local irreducible] truB
theorem truth_pure (l : List P3) (hl : l.length ≤ 1000) (r : P3) (t : List Int) : Pure Tryz.prog 43 [rdD l r, isD t] (dB (truB l t)) := by
 have hm : ((List.map ptD l).length : Int) = (l.length : Int) := by rw [List.length_map]
 have hm2 : ((List.map (fun n => [dI n]) t).length : Int) = (t.length : Int) := by rw [List.length_map]
 refine pure_of pg Tryz.func43 (by kernel_rfl) ?_
 ((conv=>whnf);repeat((first|refine ChL.l ?_|refine ChC.r ?_|fail);conv=>whnf))
 (apply kB <;> intro h <;> ((conv=>whnf);repeat((first|refine ChL.l ?_|refine ChC.r ?_|fail);conv=>whnf)))
 ·have h' : t.length ≠ l.length := by rw [hm, hm2, bne_iff_ne] at h; omega
  rw [truB_len h']; rfl
 ·have h' : t.length = l.length := by have := h; rw [hm, hm2, bne_eq_false_iff_eq] at this; omega
  refine ⟨[], [1, 2, 15, 16, 17], [0], 1, fun m s => ∃ k : Nat, k + m = t.length ∧ (∀ i, i < k → inB (t.getD i 0) (pAt l i).2.1 (pAt l i).2.2 = true) ∧ s = ⟨[(1, .d (isD t)), (2, .ref 0 0), (15, .d (isD t)), (16, .d (dI (t.map fun n => [dI n]).length)), (17, .d (dI k))], [(0, .var false 135 [.d (ptsD l), .d (dI r.1), .d (dI r.2.1), .d (dI r.2.2)])], 1⟩, ?_, ?_⟩
  ·((conv=>whnf);repeat((first|refine ChL.l ?_|refine ChC.r ?_|fail);conv=>whnf))
   exact ⟨t.length, 0, by omega, fun i hi => by omega, rfl⟩
  ·rintro m _ ⟨k, hk, hall, rfl⟩
   ((conv=>whnf);repeat((first|refine ChL.l ?_|refine ChC.r ?_|fail);conv=>whnf))
   (apply kB <;> intro h2 <;> ((conv=>whnf);repeat((first|refine ChL.l ?_|refine ChC.r ?_|fail);conv=>whnf)))
   ·have hlt : k < t.length := by rw [decide_eq_true_eq, hm2] at h2; omega
    (refine ⟨k, [dI t[k]], rfl, geti t k hlt, rfl, ?_⟩; ((conv=>whnf);repeat((first|refine ChL.l ?_|refine ChC.r ?_|fail);conv=>whnf)))
    (refine ⟨k, ptD l[k], rfl, getp l k (by omega), rfl, ?_⟩; ((conv=>whnf);repeat((first|refine ChL.l ?_|refine ChC.r ?_|fail);conv=>whnf)))
    (refine .inl ⟨_, within_pure .., ?_⟩; ((conv=>whnf);repeat((first|refine ChL.l ?_|refine ChC.r ?_|fail);conv=>whnf)))
    have e : inB (t.getD k 0) (pAt l k).2.1 (pAt l k).2.2 = inB t[k] l[k].2.1 l[k].2.2 := by rw [tAt hlt, pAt_eq (by omega)]
    (apply kB <;> intro h3 <;> ((conv=>whnf);repeat((first|refine ChL.l ?_|refine ChC.r ?_|fail);conv=>whnf)))
    ·have h3' : inB t[k] l[k].2.1 l[k].2.2 = false := by simpa using h3
     rw [truB_bad hlt (e.trans h3')]; rfl
    ·have h3' : inB t[k] l[k].2.1 l[k].2.2 = true := by simpa using h3
     refine ⟨m - 1, by omega, k + 1, by omega, fun i hi => ?_, ?_⟩
     ·rcases Nat.lt_or_ge i k with h4 | h4
      ·exact hall i h4
      ·have : i = k := by omega
       subst this
       exact e.trans h3'
     ·rw [w1 k (by omega)]
   ·have hge : t.length ≤ k := by rw [decide_eq_false_iff_not, hm2] at h2; omega
    rw [truB_iff.2 ⟨h', fun i hi => hall i (by omega)⟩]; rfl
end Go.Ev.YtijidghjiaiccaaGreat.C


namespace Go.Ev.YtijidghjiaiccaaGreat.C
open Go.Proofs
structure VC (l : List P3) (r : P3) : Prop where
 len : l.length ≤ 20
 pos : l.length ≠ 0
 pt : ∀ i, i < l.length → 0 ≤ (pAt l i).1 ∧ (pAt l i).1 ≤ 1000 ∧ 0 ≤ (pAt l i).2.1 ∧ (pAt l i).2.1 ≤ (pAt l i).2.2 ∧ (pAt l i).2.2 ≤ 100000
 up : ∀ i, i + 1 < l.length → (pAt l i).1 < (pAt l (i + 1)).1
 drop : 1 ≤ r.1 ∧ r.1 ≤ 100000
 slope : 1 ≤ r.2.1 ∧ r.2.1 ≤ 1000
 off : 0 ≤ r.2.2 ∧ r.2.2 ≤ 1000
theorem inB_iff {n lo hi : Int} : inB n lo hi = true ↔ lo ≤ n ∧ n ≤ hi := by unfold inB; simp
theorem erC_iff {l : List P3} {r : P3} : erC l r = 0 ↔ VC l r := by
 constructor
 ·intro h
  unfold erC at h
  split at h
  ·rename_i hc
   split at h
   ·rename_i hr
    unfold ckC at hc
    split at hc
    ·cases hc
    ·rename_i h20
     split at hc
     ·cases hc
     ·rename_i h0
      split at hc
      ·cases hc
      ·rename_i hok
       have hok : okL l = true := by simpa using hok
       rw [okL_iff] at hok
       unfold ruB at hr
       rw [Bool.and_eq_true, Bool.and_eq_true, inB_iff, inB_iff, inB_iff] at hr
       refine ⟨by omega, h0, fun i hi => ?_, fun i hi => ?_, hr.1.1, hr.1.2, hr.2⟩
       ·have := hok i hi
        unfold goodB ptB at this
        simp only [Bool.and_eq_true, inB_iff, decide_eq_true_eq] at this
        omega
       ·have := hok (i + 1) hi
        unfold goodB at this
        simp only [Bool.and_eq_true, Bool.or_eq_true, decide_eq_true_eq, Nat.add_sub_cancel] at this
        omega
   ·cases h
  ·rename_i hc; exact absurd h hc
 ·intro h
  have hr : ruB r = true := by
   unfold ruB
   rw [Bool.and_eq_true, Bool.and_eq_true, inB_iff, inB_iff, inB_iff]
   exact ⟨⟨h.drop, h.slope⟩, h.off⟩
  have hc : ckC l = 0 := by
   refine ckC_ok (by have := h.len; omega) h.pos (okL_iff.2 fun i hi => ?_)
   have h1 := h.pt i hi
   unfold goodB ptB
   simp only [Bool.and_eq_true, Bool.or_eq_true, inB_iff, decide_eq_true_eq]
   refine ⟨by omega, ?_⟩
   rcases i with _ | i
   ·exact .inl rfl
   ·exact .inr (by simpa using h.up i hi)
  unfold erC; rw [if_pos hc, if_pos hr]
theorem mul_bd {a b : Int} {A B : Nat} (h1 : -(A : Int) ≤ a) (h2 : a ≤ A) (h3 : -(B : Int) ≤ b) (h4 : b ≤ B) : -((A * B : Nat) : Int) ≤ a * b ∧ a * b ≤ ((A * B : Nat) : Int) := by
 have ha : a.natAbs ≤ A := by omega
 have hb : b.natAbs ≤ B := by omega
 have h := Nat.mul_le_mul ha hb
 rw [← Int.natAbs_mul] at h
 omega
def lineI (l : List P3) (r : P3) (i : Nat) : Int := r.2.1 * ((pAt l i).1 - r.2.2)
theorem lineI_bd {l : List P3} {r : P3} (h : VC l r) {i : Nat} (hi : i < l.length) : -1000000 ≤ lineI l r i ∧ lineI l r i ≤ 1000000 := by
 have h1 := h.pt i hi
 have h2 := h.slope
 have h3 := h.off
 have := mul_bd (a := r.2.1) (b := (pAt l i).1 - r.2.2) (A := 1000) (B := 1000) (by omega) (by omega) (by omega) (by omega)
 unfold lineI
 omega
def tA (t : List Int) (i : Nat) : Int := t.getD i 0
theorem tA_eq {t : List Int} {i : Nat} (h : i < t.length) : tA t i = t[i] := tAt h
def TB (l : List P3) (t : List Int) : Prop := t.length = l.length ∧ ∀ i, i < t.length → 0 ≤ tA t i ∧ tA t i ≤ 100000
theorem TB.of {l : List P3} {r : P3} {t : List Int} (h : VC l r) (ht : truB l t = true) : TB l t := by
 obtain ⟨h1, h2⟩ := truB_iff.1 ht
 refine ⟨h1, fun i hi => ?_⟩
 have h3 := h2 i hi
 rw [inB_iff] at h3
 have h4 := h.pt i (by omega)
 unfold tA
 omega
theorem tru_bd {l : List P3} {r : P3} {t : List Int} (_ : VC l r) (ht : TB l t) {i : Nat} (hi : i < t.length) : 0 ≤ tA t i ∧ tA t i ≤ 100000 := ht.2 i hi
theorem floor_t {n b : Int} (hb : 0 < b) : (if n.tmod b < 0 then n.tdiv b - 1 else n.tdiv b) = n / b := by
 have h1 := Int.mul_tdiv_add_tmod n b
 have h2 := Int.mul_ediv_add_emod n b
 have h3 := Int.emod_nonneg n (by omega : b ≠ 0)
 have h4 := Int.emod_lt_of_pos n hb
 have h5 : n.tmod b < b ∧ -b < n.tmod b := by
  rcases Int.le_total 0 n with h | h
  ·have := Int.tmod_nonneg b h
   have := Int.tmod_lt_of_pos n hb
   omega
  ·have := Int.tmod_lt_of_pos (-n) hb
   have := Int.tmod_nonneg b (show 0 ≤ -n by omega)
   rw [Int.neg_tmod] at *
   omega
 generalize n.tmod b = x at *
 generalize n.tdiv b = q at *
 generalize n / b = q' at *
 generalize n % b = y at *
 have key : b * (q - q') = y - x := by rw [Int.mul_sub]; omega
 have lim : ∀ d : Int, b * d < b → d ≤ 0 := fun d h => by
  rcases Int.lt_or_le 0 d with h' | h'
  ·have : b * 1 ≤ b * d := Int.mul_le_mul_of_nonneg_left (by omega) (by omega)
   omega
  ·exact h'
 have lim2 : ∀ d : Int, -b < b * d → 0 ≤ d := fun d h => by
  rcases Int.lt_or_le d 0 with h' | h'
  ·have : b * d ≤ b * (-1) := Int.mul_le_mul_of_nonneg_left (by omega) (by omega)
   omega
  ·exact h'
 split
 ·rename_i hx
  have k1 : b * (q - q' - 1) = y - x - b := by rw [Int.mul_sub, key]; omega
  have := lim (q - q' - 1) (by omega)
  have := lim2 (q - q' - 1) (by omega)
  omega
 ·rename_i hx
  have := lim (q - q') (by omega)
  have := lim2 (q - q') (by omega)
  omega
def fstN (P : Nat → Bool) : Nat → Int
 | 0 => -1
 | k + 1 => if fstN P k = -1 ∧ P k = true then k else fstN P k
theorem fstN_spec (P : Nat → Bool) : ∀ k, (fstN P k = -1 ∧ ∀ j, j < k → P j = false) ∨ ∃ m : Nat, fstN P k = m ∧ m < k ∧ P m = true ∧ ∀ j, j < m → P j = false
 | 0 => .inl ⟨rfl, fun j h => by omega⟩
 | k + 1 => by
  rw [fstN]
  rcases fstN_spec P k with ⟨h1, h2⟩ | ⟨m, h1, h2, h3, h4⟩
  ·cases h : P k with
   | true => rw [if_pos ⟨h1, rfl⟩]; exact .inr ⟨k, rfl, by omega, h, h2⟩
   | false =>
    rw [if_neg (by simp)]
    refine .inl ⟨h1, fun j hj => ?_⟩
    rcases Nat.lt_or_ge j k with h5 | h5
    ·exact h2 j h5
    ·have : j = k := by omega
     subst this; exact h
  ·rw [if_neg (by omega)]
   exact .inr ⟨m, h1, by omega, h3, h4⟩
theorem fstN_no {P : Nat → Bool} {k : Nat} (h : fstN P k = -1) : ∀ j, j < k → P j = false := by
 rcases fstN_spec P k with ⟨_, h2⟩ | ⟨m, h1, _⟩
 ·exact h2
 ·omega
def maxN (t : List Int) : Nat → Int × Int
 | 0 => (-1, 0)
 | k + 1 => if tA t k > (maxN t k).1 then (tA t k, k) else maxN t k
def yP (t : List Int) (r : P3) (i : Nat) : Bool := decide (i + 1 < t.length) && decide (tA t i - tA t (i + 1) ≥ r.1)
def mP (l : List P3) (r : P3) (t : List Int) (i : Nat) : Bool := decide (tA t i ≤ lineI l r i)
def metI (l : List P3) (r : P3) (t : List Int) (i : Nat) : Int :=
 tA t (i - 1) + ((tA t i - tA t (i - 1)) * (tA t (i - 1) - lineI l r (i - 1))) / ((tA t (i - 1) - lineI l r (i - 1)) + (lineI l r i - tA t i))
def yvN (t : List Int) (r : P3) (k : Nat) : Int := if fstN (yP t r) k = -1 then 0 else tA t (fstN (yP t r) k).toNat
def mv (l : List P3) (r : P3) (t : List Int) (m : Int) : Int := if m = -1 then 0 else if m = 0 then tA t 0 else metI l r t m.toNat
def mvN (l : List P3) (r : P3) (t : List Int) (k : Nat) : Int := mv l r t (fstN (mP l r t) k)
def wkN (l : List P3) (t : List Int) : Nat → Int
 | 0 => 0
 | k + 1 => if k = 0 then 0 else wkN l t k + (tA t (k - 1) + tA t k) * ((pAt l k).1 - (pAt l (k - 1)).1)
def resL7 (l : List P3) (r : P3) (t : List Int) (k : Nat) : List D :=
 [dI (maxN t k).1, dI (maxN t k).2, dI (fstN (yP t r) k), dI (yvN t r k), dI (fstN (mP l r t) k), dI (mvN l r t k), dI (wkN l t k)]
theorem yvN_succ {t : List Int} {r : P3} {k : Nat} : yvN t r (k + 1) = if fstN (yP t r) k = -1 ∧ yP t r k = true then tA t k else yvN t r k := by
 unfold yvN
 rw [fstN]
 split
 ·rw [if_neg (by omega), Int.toNat_natCast]
 ·rfl
theorem mvN_succ {l : List P3} {r : P3} {t : List Int} {k : Nat} : mvN l r t (k + 1) = if fstN (mP l r t) k = -1 ∧ mP l r t k = true then (if k = 0 then tA t 0 else metI l r t k) else mvN l r t k := by
 unfold mvN mv
 rw [fstN]
 split
 ·rw [if_neg (by omega), Int.toNat_natCast]
  by_cases hk : k = 0
  ·rw [if_pos hk, if_pos (by omega)]
  ·rw [if_neg hk, if_neg (by omega)]
 ·rfl
theorem wkN_bd {l : List P3} {r : P3} {t : List Int} (h : VC l r) (ht : TB l t) : ∀ k, k ≤ t.length → 0 ≤ wkN l t k ∧ wkN l t k ≤ 200000000 * k
 | 0, _ => by simp [wkN]
 | k + 1, hk => by
  rw [wkN]
  split
  ·omega
  ·rename_i hk0
   have hl := ht.1
   have h0 := wkN_bd h ht k (by omega)
   have h1 := tru_bd h ht (i := k) (by omega)
   have h2 := tru_bd h ht (i := k - 1) (by omega)
   have h3 := h.pt k (by omega)
   have h4 := h.pt (k - 1) (by omega)
   have h5 := h.up (k - 1) (by omega)
   rw [Nat.sub_add_cancel (by omega)] at h5
   have h6 := mul_bd (a := tA t (k - 1) + tA t k) (b := (pAt l k).1 - (pAt l (k - 1)).1) (A := 200000) (B := 1000) (by omega) (by omega) (by omega) (by omega)
   have h7 : 0 ≤ (tA t (k - 1) + tA t k) * ((pAt l k).1 - (pAt l (k - 1)).1) := Int.mul_nonneg (by omega) (by omega)
   omega
end Go.Ev.YtijidghjiaiccaaGreat.C


namespace Go.Ev.YtijidghjiaiccaaGreat.C
open Go.Proofs
theorem line_w {l : List P3} {r : P3} (h : VC l r) {k : Nat} (hk : k < l.length) : IntKind.i64.wrap (r.2.1 * IntKind.i64.wrap ((l[k]).1 - r.2.2)) = lineI l r k := by
 have h1 := h.pt k hk
 have h2 := lineI_bd h hk
 have h3 := h.off
 rw [pAt_eq hk] at h1
 unfold lineI at h2 ⊢
 rw [pAt_eq hk] at h2 ⊢
 rw [wrapI (n := (l[k]).1 - r.2.2) (by omega) (by omega), wrapI (by omega) (by omega)]
attribute [local irreducible] Pure Bor Iter inB ptB ruB okL goodB lineI ckC truB
theorem line_pure {l : List P3} {r : P3} (h : VC l r) (k : Nat) (hk : k < l.length) : Pure Tryz.prog 71 [rdD l r, dI k] (dI (lineI l r k)) := by
 refine pure_of pg Tryz.func71 (by kernel_rfl) ?_
 ((conv=>whnf);repeat((first|refine ChL.l ?_|refine ChC.r ?_|fail);conv=>whnf))
 (refine ⟨k, ptD l[k], rfl, getp l k hk, rfl, ?_⟩; ((conv=>whnf);repeat((first|refine ChL.l ?_|refine ChC.r ?_|fail);conv=>whnf)))
 rw [line_w h hk]; rfl
theorem drops_pure (l : List P3) (r : P3) (a b : Int) (h1 : 0 ≤ a ∧ a ≤ 100000) (h2 : 0 ≤ b ∧ b ≤ 100000) : Pure Tryz.prog 70 [rdD l r, dI a, dI b] (dB (decide (a - b ≥ r.1))) := by
 have e : IntKind.i64.wrap (a - b) = a - b := wrapI (by omega) (by omega)
 refine pure_of pg Tryz.func70 (by kernel_rfl) ?_
 ((conv=>whnf);repeat((first|refine ChL.l ?_|refine ChC.r ?_|fail);conv=>whnf))
 rw [e]; rfl
def flo (n b : Int) : Int := n / b
theorem flo_bd {n b : Int} (hb : 0 < b) (h : -200000000000 ≤ n ∧ n ≤ 200000000000) : -200000000000 ≤ flo n b ∧ flo n b ≤ 200000000000 := by
 unfold flo
 constructor
 ·refine Int.le_ediv_of_mul_le hb ?_
  have : (200000000000 : Int) * 1 ≤ 200000000000 * b := Int.mul_le_mul_of_nonneg_left (by omega) (by omega)
  rw [Int.neg_mul]; omega
 ·refine Int.le_trans (Int.ediv_le_ediv hb h.2) ?_
  exact Int.ediv_le_self _ (by omega)
theorem meets_pure {l : List P3} {r : P3} (h : VC l r) {t : List Int} (ht : TB l t) (k : Nat) (hk : k + 1 < t.length) (hb : mP l r t k = false) (hm : mP l r t (k + 1) = true) :
  Pure Tryz.prog 72 [rdD l r, dI ((k + 1 : Nat) : Int), dI (tA t k), dI (tA t (k + 1))] (dI (metI l r t (k + 1))) := by
 have hl := ht.1
 have hlen := h.len
 have b1 := tru_bd h ht (i := k) (by omega)
 have b2 := tru_bd h ht (i := k + 1) (by omega)
 have l1 := lineI_bd h (i := k) (by omega)
 have l2 := lineI_bd h (i := k + 1) (by omega)
 have hb' : tA t k > lineI l r k := by unfold mP at hb; rw [decide_eq_false_iff_not] at hb; omega
 have hm' : tA t (k + 1) ≤ lineI l r (k + 1) := by unfold mP at hm; rwa [decide_eq_true_eq] at hm
 have c1 := line_pure h k (by omega)
 have c2 := line_pure h (k + 1) (by omega)
 have e0 : IntKind.i64.wrap (((k + 1 : Nat) : Int) - 1) = (k : Int) := by rw [wrapI (by omega) (by omega)]; omega
 have hmet : metI l r t (k + 1) = tA t k + flo ((tA t (k + 1) - tA t k) * (tA t k - lineI l r k)) ((tA t k - lineI l r k) + (lineI l r (k + 1) - tA t (k + 1))) := by unfold metI flo; simp only [Nat.add_sub_cancel]
 rw [hmet]
 generalize tA t k = a at *
 generalize tA t (k + 1) = b at *
 generalize lineI l r k = p at *
 generalize lineI l r (k + 1) = q at *
 have e1 : IntKind.i64.wrap (a - p) = a - p := wrapI (by omega) (by omega)
 have e2 : IntKind.i64.wrap (q - b) = q - b := wrapI (by omega) (by omega)
 have e3 : IntKind.i64.wrap (b - a) = b - a := wrapI (by omega) (by omega)
 have pb := mul_bd (a := b - a) (b := a - p) (A := 100000) (B := 1100000) (by omega) (by omega) (by omega) (by omega)
 obtain ⟨u, hu⟩ : ∃ u, (b - a) * (a - p) = u := ⟨_, rfl⟩
 obtain ⟨v, hv⟩ : ∃ v, (a - p) + (q - b) = v := ⟨_, rfl⟩
 rw [hu, hv]
 rw [hu] at pb
 have e4 : IntKind.i64.wrap ((b - a) * (a - p)) = u := by rw [hu]; exact wrapI (by omega) (by omega)
 have e5 : IntKind.i64.wrap ((a - p) + (q - b)) = v := by rw [hv]; exact wrapI (by omega) (by omega)
 have hpos : 0 < v := by omega
 have fb := flo_bd hpos (n := u) (by omega)
 have ff : (if u.tmod v < 0 then u.tdiv v - 1 else u.tdiv v) = flo u v := floor_t hpos (n := u)
 have td : -200000000001 ≤ u.tdiv v ∧ u.tdiv v ≤ 200000000001 := by split at ff <;> omega
 have e6 : IntKind.i64.wrap (u.tdiv v) = u.tdiv v := wrapI (by omega) (by omega)
 have e7 : IntKind.i64.wrap (u.tdiv v - 1) = u.tdiv v - 1 := wrapI (by omega) (by omega)
 have e8 : IntKind.i64.wrap (a + flo u v) = a + flo u v := wrapI (by omega) (by omega)
 rw [← e0] at c1
 refine pure_of pg Tryz.func72 (by kernel_rfl) ?_
 ((conv=>whnf);repeat((first|refine ChL.l ?_|refine ChC.r ?_|fail);conv=>whnf))
 (refine .inl ⟨_, c1, ?_⟩; ((conv=>whnf);repeat((first|refine ChL.l ?_|refine ChC.r ?_|fail);conv=>whnf)))
 (refine .inl ⟨_, c2, ?_⟩; ((conv=>whnf);repeat((first|refine ChL.l ?_|refine ChC.r ?_|fail);conv=>whnf)))
 rw [e1, e2, e3, e4, e5]
 (refine ⟨by omega, ?_⟩; ((conv=>whnf);repeat((first|refine ChL.l ?_|refine ChC.r ?_|fail);conv=>whnf)))
 (refine ⟨by omega, ?_⟩; ((conv=>whnf);repeat((first|refine ChL.l ?_|refine ChC.r ?_|fail);conv=>whnf)))
 rw [e6]
 by_cases hx : u.tmod v < 0
 ·rw [if_pos hx] at ff
  (apply kT ((by rw [decide_eq_true_eq]; exact hx)); ((conv=>whnf);repeat((first|refine ChL.l ?_|refine ChC.r ?_|fail);conv=>whnf)))
  rw [e7, ff, e8]; rfl
 ·rw [if_neg hx] at ff
  (apply kF ((by rw [decide_eq_false_iff_not]; exact hx)); ((conv=>whnf);repeat((first|refine ChL.l ?_|refine ChC.r ?_|fail);conv=>whnf)))
  rw [ff, e8]; rfl
end Go.Ev.YtijidghjiaiccaaGreat.C


namespace Go.Ev.YtijidghjiaiccaaGreat.C
open Go.Proofs
theorem getpa (l : List P3) (k : Nat) (h : k < l.length) : (l.map ptD)[k]? = some (ptD (pAt l k)) := by rw [pAt_eq h]; exact getp l k h
theorem geta (t : List Int) (k : Nat) (h : k < t.length) : (t.map fun n => [dI n])[k]? = some [dI (tA t k)] := by rw [tA_eq h]; exact geti t k h
theorem max_cases (t : List Int) (k : Nat) :
  (decide (tA t k > (maxN t k).1) = true ∧ (maxN t (k + 1)).1 = tA t k ∧ (maxN t (k + 1)).2 = k) ∨
  (decide (tA t k > (maxN t k).1) = false ∧ (maxN t (k + 1)).1 = (maxN t k).1 ∧ (maxN t (k + 1)).2 = (maxN t k).2) := by
 rw [maxN]
 by_cases h : tA t k > (maxN t k).1
 ·rw [if_pos h]; exact .inl ⟨by rw [decide_eq_true_eq]; exact h, rfl, rfl⟩
 ·rw [if_neg h]; exact .inr ⟨by rw [decide_eq_false_iff_not]; exact h, rfl, rfl⟩
theorem y_cases (t : List Int) (r : P3) (k : Nat) :
  ((fstN (yP t r) k == -1) = true ∧ k + 1 < t.length ∧ decide (tA t k - tA t (k + 1) ≥ r.1) = true ∧ fstN (yP t r) (k + 1) = k ∧ yvN t r (k + 1) = tA t k) ∨
  ((fstN (yP t r) k == -1) = true ∧ k + 1 < t.length ∧ decide (tA t k - tA t (k + 1) ≥ r.1) = false ∧ fstN (yP t r) (k + 1) = fstN (yP t r) k ∧ yvN t r (k + 1) = yvN t r k) ∨
  ((fstN (yP t r) k == -1) = true ∧ ¬ k + 1 < t.length ∧ True ∧ fstN (yP t r) (k + 1) = fstN (yP t r) k ∧ yvN t r (k + 1) = yvN t r k) ∨
  ((fstN (yP t r) k == -1) = false ∧ True ∧ True ∧ fstN (yP t r) (k + 1) = fstN (yP t r) k ∧ yvN t r (k + 1) = yvN t r k) := by
 rw [yvN_succ, fstN]
 by_cases h : fstN (yP t r) k = -1
 ·by_cases h1 : k + 1 < t.length
  ·by_cases h2 : tA t k - tA t (k + 1) ≥ r.1
   ·have hp : yP t r k = true := by unfold yP; simp [h1, h2]
    rw [if_pos ⟨h, hp⟩, if_pos ⟨h, hp⟩]
    exact .inl ⟨by rw [h]; rfl, h1, by rw [decide_eq_true_eq]; exact h2, rfl, rfl⟩
   ·have hp : yP t r k = false := by unfold yP; simp [h2]
    rw [if_neg (by simp [hp]), if_neg (by simp [hp])]
    exact .inr (.inl ⟨by rw [h]; rfl, h1, by rw [decide_eq_false_iff_not]; exact h2, rfl, rfl⟩)
  ·have hp : yP t r k = false := by unfold yP; simp [h1]
   rw [if_neg (by simp [hp]), if_neg (by simp [hp])]
   exact .inr (.inr (.inl ⟨by rw [h]; rfl, h1, trivial, rfl, rfl⟩))
 ·rw [if_neg (by simp [h]), if_neg (by simp [h])]
  exact .inr (.inr (.inr ⟨by rw [beq_eq_false_iff_ne]; exact h, trivial, trivial, rfl, rfl⟩))
theorem m_cases (l : List P3) (r : P3) (t : List Int) (k : Nat) :
  ((fstN (mP l r t) k == -1) = true ∧ decide (tA t k ≤ lineI l r k) = true ∧ fstN (mP l r t) (k + 1) = k ∧ mvN l r t (k + 1) = if k = 0 then tA t k else metI l r t k) ∨
  ((fstN (mP l r t) k == -1) = true ∧ decide (tA t k ≤ lineI l r k) = false ∧ fstN (mP l r t) (k + 1) = fstN (mP l r t) k ∧ mvN l r t (k + 1) = mvN l r t k) ∨
  ((fstN (mP l r t) k == -1) = false ∧ True ∧ fstN (mP l r t) (k + 1) = fstN (mP l r t) k ∧ mvN l r t (k + 1) = mvN l r t k) := by
 rw [mvN_succ, fstN]
 have hm : mP l r t k = decide (tA t k ≤ lineI l r k) := rfl
 by_cases h : fstN (mP l r t) k = -1
 ·by_cases h2 : tA t k ≤ lineI l r k
  ·have hp : mP l r t k = true := by rw [hm, decide_eq_true_eq]; exact h2
   rw [if_pos ⟨h, hp⟩, if_pos ⟨h, hp⟩]
   exact .inl ⟨by rw [h]; rfl, by rw [decide_eq_true_eq]; exact h2, rfl, by by_cases h0 : k = 0 <;> simp [h0]⟩
  ·have hp : mP l r t k = false := by rw [hm, decide_eq_false_iff_not]; exact h2
   rw [if_neg (by simp [hp]), if_neg (by simp [hp])]
   exact .inr (.inl ⟨by rw [h]; rfl, by rw [decide_eq_false_iff_not]; exact h2, rfl, rfl⟩)
 ·rw [if_neg (by simp [h]), if_neg (by simp [h])]
  exact .inr (.inr ⟨by rw [beq_eq_false_iff_ne]; exact h, trivial, rfl, rfl⟩)
def resD (l : List P3) (r : P3) (t : List Int) : D := .agg (resL7 l r t t.length)
attribute [local irreducible] Pure Bor Iter inB ptB ruB okL goodB lineI ckC truB maxN fstN yvN mvN wkN metI tA pAt
set_option maxHeartbeats 4000000 in
theorem result_pure {l : List P3} {r : P3} (h : VC l r) {t : List Int} (ht : TB l t) : Pure Tryz.prog 44 [rdD l r, isD t] (resD l r t) := by
 have hm2 : ((List.map (fun n => [dI n]) t).length : Int) = (t.length : Int) := by rw [List.length_map]
 have hl := ht.1
 have hlen := h.len
 refine pure_of pg Tryz.func44 (by kernel_rfl) ?_
 ((conv=>whnf);repeat((first|refine ChL.l ?_|refine ChC.r ?_|fail);conv=>whnf))
 refine ⟨[], [1, 2, 4, 5, 6, 12, 13, 14], [0, 1, 2], 3, fun m s => ∃ k : Nat, k + m = t.length ∧ s = ⟨[(1, .d (isD t)), (2, .ref 0 0), (4, .ref 1 0), (5, .ref 2 0), (6, .d (.fn (.func 70) [rdD l r] [])), (12, .d (isD t)), (13, .d (dI (t.map fun n => [dI n]).length)), (14, .d (dI k))],
  [(0, .var false 135 [.d (ptsD l), .d (dI r.1), .d (dI r.2.1), .d (dI r.2.2)]), (1, .var false 79 [.d (dI 0), .d (dI 0), .d (dI 0), .d (dI 0), .d (dI 0), .d (dI 0), .d (dI 0)]),
   (2, .var false 79 [.d (dI (maxN t k).1), .d (dI (maxN t k).2), .d (dI (fstN (yP t r) k)), .d (dI (yvN t r k)), .d (dI (fstN (mP l r t) k)), .d (dI (mvN l r t k)), .d (dI (wkN l t k))])], 3⟩, ?_, ?_⟩
 ·((conv=>whnf);repeat((first|refine ChL.l ?_|refine ChC.r ?_|fail);conv=>whnf))
  exact ⟨t.length, 0, by omega, by unfold maxN fstN yvN mvN mv wkN fstN; rfl⟩
 ·rintro m _ ⟨k, hk, rfl⟩
  by_cases hlt : k < t.length
  ·have hc : decide ((k : Int) < ((List.map (fun n => [dI n]) t).length : Int)) = true := by rw [decide_eq_true_eq, hm2]; omega
   have c1 := line_pure h k (by omega)
   have ek : IntKind.i64.wrap ((k : Int) + 1) = ((k + 1 : Nat) : Int) := w1 k (by omega)
   have b0 := tru_bd h ht hlt
   have ek1 : 0 < k → IntKind.i64.wrap ((k : Int) - 1) = ((k - 1 : Nat) : Int) := fun h0 => by rw [wrapI (by omega) (by omega)]; omega
   have cd : k + 1 < t.length → Pure Tryz.prog 70 [rdD l r, dI (tA t k), dI (tA t (k + 1))] (dB (decide (tA t k - tA t (k + 1) ≥ r.1))) := fun h1 => drops_pure l r _ _ b0 (tru_bd h ht h1)
   have hC : ∀ b : Bool, (decide (k + 1 < t.length) = b) → decide (IntKind.i64.wrap ((k : Int) + 1) < ((List.map (fun n => [dI n]) t).length : Int)) = b := fun b hb => by
    rw [← hb, hm2, decide_eq_decide, ek]; omega
   have cm : (fstN (mP l r t) k == -1) = true → decide (tA t k ≤ lineI l r k) = true → k ≠ 0 → Pure Tryz.prog 72 [rdD l r, dI (k : Int), dI (tA t (k - 1)), dI (tA t k)] (dI (metI l r t k)) := fun h1 h2 h3 => by
    have h4 := fstN_no (eq_of_beq h1) (k - 1) (by omega)
    have h5 := meets_pure h ht (k - 1) (by omega) h4 (by rw [show k - 1 + 1 = k by omega]; exact h2)
    rwa [show k - 1 + 1 = k by omega] at h5
   have eW0 : k = 0 → wkN l t (k + 1) = wkN l t k := fun h0 => by subst h0; unfold wkN; rfl
   have eW1 : 0 < k → IntKind.i64.wrap (wkN l t k + IntKind.i64.wrap (IntKind.i64.wrap (tA t (k - 1) + tA t k) * IntKind.i64.wrap ((pAt l k).1 - (pAt l (k - 1)).1))) = wkN l t (k + 1) := fun h0 => by
    have q0 := wkN_bd h ht k (by omega)
    have q1 := wkN_bd h ht (k + 1) (by omega)
    have q2 := tru_bd h ht (i := k - 1) (by omega)
    have q3 := h.pt k (by omega)
    have q4 := h.pt (k - 1) (by omega)
    have q5 : wkN l t (k + 1) = wkN l t k + (tA t (k - 1) + tA t k) * ((pAt l k).1 - (pAt l (k - 1)).1) := by rw [wkN, if_neg (by omega)]
    have q6 := mul_bd (a := tA t (k - 1) + tA t k) (b := (pAt l k).1 - (pAt l (k - 1)).1) (A := 200000) (B := 1000) (by omega) (by omega) (by omega) (by omega)
    rw [wrapI (n := tA t (k - 1) + tA t k) (by omega) (by omega), wrapI (n := (pAt l k).1 - (pAt l (k - 1)).1) (by omega) (by omega), q5]
    rw [q5] at q1
    generalize (tA t (k - 1) + tA t k) * ((pAt l k).1 - (pAt l (k - 1)).1) = x at *
    rw [wrapI (n := x) (by omega) (by omega), wrapI (by omega) (by omega)]
   have hzz : (k = 0 ∧ decide ((k : Int) > 0) = false) ∨ (0 < k ∧ decide ((k : Int) > 0) = true) := by
    rcases Nat.eq_zero_or_pos k with h0 | h0
    ·exact .inl ⟨h0, by rw [decide_eq_false_iff_not]; omega⟩
    ·exact .inr ⟨h0, by rw [decide_eq_true_eq]; omega⟩
   rcases max_cases t k with ⟨hA, eA1, eA2⟩ | ⟨hA, eA1, eA2⟩ <;> rcases m_cases l r t k with ⟨hM, hL, eM1, eM2⟩ | ⟨hM, hL, eM1, eM2⟩ | ⟨hM, hL, eM1, eM2⟩ <;>
     rcases y_cases t r k with ⟨hY, h1, hD, eY1, eY2⟩ | ⟨hY, h1, hD, eY1, eY2⟩ | ⟨hY, h1, hD, eY1, eY2⟩ | ⟨hY, h1, hD, eY1, eY2⟩ <;> rcases hzz with ⟨hz, hz'⟩ | ⟨hz, hz'⟩
   all_goals (try have hC' := hC true (decide_eq_true h1))
   all_goals (try have hC' := hC false (decide_eq_false h1))
   all_goals (try have cd' := cd h1)
   all_goals (try have cm' := cm hM hL (by omega))
   all_goals (try rw [if_pos hz] at eM2)
   all_goals (try rw [if_neg (show ¬ k = 0 by omega)] at eM2)
   all_goals (((conv=>whnf);repeat((first|refine ChL.l ?_|refine ChC.r ?_|fail);conv=>whnf)))
   all_goals (repeat' ((first|refine kA ?_|refine kE ?_|apply kB<;>intro _|refine .inl ⟨_, c1, ?_⟩|refine ChL.l ?_|refine ChC.r ?_|fail)<;>conv=>whnf))
   all_goals (refine ⟨k, [dI (tA t k)], rfl, geta t k hlt, rfl, ?_⟩; ((conv=>whnf);repeat((first|refine ChL.l ?_|refine ChC.r ?_|fail);conv=>whnf)))
   all_goals (repeat' ((first|refine kA ?_|refine kE ?_|apply kB<;>intro _|refine .inl ⟨_, c1, ?_⟩|refine .inl ⟨_, cd', ?_⟩|refine .inl ⟨_, cm', ?_⟩|refine ⟨k + 1, [dI (tA t (k + 1))], ek, geta t (k + 1) h1, rfl, ?_⟩|refine ⟨k - 1, [dI (tA t (k - 1))], ek1 hz, geta t (k - 1) (by omega), rfl, ?_⟩|refine ⟨k, ptD (pAt l k), rfl, getpa l k (by omega), rfl, ?_⟩|refine ⟨k - 1, ptD (pAt l (k - 1)), ek1 hz, getpa l (k - 1) (by omega), rfl, ?_⟩|refine ChL.l ?_|refine ChC.r ?_|fail)<;>conv=>whnf))
   all_goals (
    refine ⟨m - 1, by omega, k + 1, by omega, ?_⟩
    rw [eA1, eA2, eY1, eY2, eM1, eM2, ek]
    first | rw [eW0 hz] | rw [eW1 hz]
    done)
  ·have hc : decide ((k : Int) < ((List.map (fun n => [dI n]) t).length : Int)) = false := by rw [decide_eq_false_iff_not, hm2]; omega
   have : k = t.length := by omega
   subst this
   ((conv=>whnf);repeat((first|refine ChL.l ?_|refine ChC.r ?_|fail);conv=>whnf))
   (repeat' ((first|refine kA ?_|refine kE ?_|apply kB<;>intro _|refine ChL.l ?_|refine ChC.r ?_|fail)<;>conv=>whnf))
   rfl
end Go.Ev.YtijidghjiaiccaaGreat.C


namespace Go.Ev.YtijidghjiaiccaaGreat.C
open Go.Proofs
abbrev res0 : D := .agg [dI 0, dI 0, dI 0, dI 0, dI 0, dI 0, dI 0]
def reE (l : List P3) (r : P3) (t : List Int) : Int := if erC l r = 0 then if truB l t = true then 0 else 2 else erC l r
def reD (l : List P3) (r : P3) (t : List Int) : D := if reE l r t = 0 then resD l r t else res0
attribute [local irreducible] Pure Bor Iter inB ptB ruB okL goodB lineI ckC truB maxN fstN yvN mvN wkN metI tA pAt erC resD
theorem Read_pure (l : List P3) (hl : l.length ≤ 1000) (r : P3) (t : List Int) : Pure Tryz.prog 20 [crD l, ruD r, isD t] (.tup [reD l r t, dI (reE l r t)]) := by
 by_cases he : erC l r = 0
 ·have hb : (erC l r != 0) = false := by rw [he]; rfl
  by_cases ht : truB l t = true
  ·have e : reE l r t = 0 := by unfold reE; rw [if_pos he, if_pos ht]
   have ed : reD l r t = resD l r t := by unfold reD; rw [if_pos e]
   have c := result_pure (erC_iff.1 he) (TB.of (erC_iff.1 he) ht)
   rw [e, ed]
   have hb2 : (!truB l t) = false := by rw [ht]; rfl
   unfold resD at c ⊢
   refine pure_of pg Tryz.func20 (by kernel_rfl) ?_
   ((conv=>whnf);repeat((first|refine ChL.l ?_|refine ChC.r ?_|fail);conv=>whnf))
   (repeat' ((first|refine kA ?_|refine kE ?_|apply kB<;>intro _|refine .inl ⟨_, read_pure l hl r, ?_⟩|refine .inl ⟨_, truth_pure l hl r t, ?_⟩|refine .inl ⟨_, c, ?_⟩|refine ChL.l ?_|refine ChC.r ?_|fail)<;>conv=>whnf))
   rfl
  ·have ht : truB l t = false := by simpa using ht
   have e : reE l r t = 2 := by unfold reE; rw [if_pos he, if_neg (by simp [ht])]
   have ed : reD l r t = res0 := by unfold reD; rw [if_neg (by omega)]
   rw [e, ed]
   have hb2 : (!truB l t) = true := by rw [ht]; rfl
   refine pure_of pg Tryz.func20 (by kernel_rfl) ?_
   ((conv=>whnf);repeat((first|refine ChL.l ?_|refine ChC.r ?_|fail);conv=>whnf))
   (repeat' ((first|refine kA ?_|refine kE ?_|apply kB<;>intro _|refine .inl ⟨_, read_pure l hl r, ?_⟩|refine .inl ⟨_, truth_pure l hl r t, ?_⟩|refine ChL.l ?_|refine ChC.r ?_|fail)<;>conv=>whnf))
   rfl
 ·have hb : (erC l r != 0) = true := by rw [bne_iff_ne]; exact he
  have e : reE l r t = erC l r := by unfold reE; rw [if_neg he]
  have ed : reD l r t = res0 := by unfold reD; rw [if_neg (by omega)]
  rw [e, ed]
  refine pure_of pg Tryz.func20 (by kernel_rfl) ?_
  ((conv=>whnf);repeat((first|refine ChL.l ?_|refine ChC.r ?_|fail);conv=>whnf))
  (repeat' ((first|refine kA ?_|refine kE ?_|apply kB<;>intro _|refine .inl ⟨_, read_pure l hl r, ?_⟩|refine ChL.l ?_|refine ChC.r ?_|fail)<;>conv=>whnf))
  rfl
end Go.Ev.YtijidghjiaiccaaGreat.C


namespace Go.Ev.YtijidghjiaiccaaGreat.C
open Go.Proofs
attribute [local irreducible] Pure Bor Iter inB ptB ruB okL goodB lineI ckC truB maxN fstN yvN mvN wkN metI tA pAt erC resD
end Go.Ev.YtijidghjiaiccaaGreat.C


namespace Go.Ev.YtijidghjiaiccaaGreat.C
open Go.Proofs
def lowF (l : List P3) (i : Nat) : Int := (pAt l i).2.1
end Go.Ev.YtijidghjiaiccaaGreat.C


namespace Go.Ev.YtijidghjiaiccaaGreat.C
open Go.Proofs
attribute [local irreducible] Pure Bor Iter inB ptB ruB okL goodB lineI ckC truB maxN fstN yvN mvN wkN metI tA pAt erC
def qs : List (List D) := [[.fn (.func 74) [] []], [.fn (.func 75) [] []], [.fn (.func 76) [] []], [.fn (.func 77) [] []]]
attribute [local irreducible] qs
end Go.Ev.YtijidghjiaiccaaGreat.C


namespace Go.Ev.YtijidghjiaiccaaGreat.C
open Go.Proofs
def lstI (l : List P3) (d : Int) : Nat → Int
 | 0 => lowF l 0
 | i + 1 => max (lowF l (i + 1)) (lstI l d i - d + 1)
def y2 (l : List P3) (d : Int) (i : Nat) : Int := max (lstI l d i) (lowF l (i + 1) + d)
end Go.Ev.YtijidghjiaiccaaGreat.C


namespace Go.Ev.YtijidghjiaiccaaGreat.C
open Go.Proofs
attribute [local irreducible] Pure Bor Iter inB ptB ruB okL goodB lineI ckC truB maxN fstN yvN mvN wkN metI tA pAt erC qs lstI
end Go.Ev.YtijidghjiaiccaaGreat.C


namespace Go.Ev.YtijidghjiaiccaaGreat.C
open Go.Proofs
attribute [local irreducible] Pure Bor Iter inB ptB ruB okL goodB lineI ckC truB maxN fstN yvN mvN wkN metI tA pAt erC qs lstI lowF
end Go.Ev.YtijidghjiaiccaaGreat.C


namespace Go.Ev.YtijidghjiaiccaaGreat.C
open Go.Proofs
attribute [local irreducible] Pure Bor Iter inB ptB ruB okL goodB lineI ckC truB maxN fstN yvN mvN wkN metI tA pAt erC qs lstI lowF
end Go.Ev.YtijidghjiaiccaaGreat.C


namespace Go.Ev.YtijidghjiaiccaaGreat.C
open Go.Proofs
end Go.Ev.YtijidghjiaiccaaGreat.C


namespace Go.Ev.YtijidghjiaiccaaGreat.C
open Go.Proofs
abbrev dW (w : Int) : D := .v (.int .u16 w)
abbrev wsD (ws : List Int) : D := .seq (ws.map fun w => [dW w])
attribute [local irreducible] Pure Bor Iter inB ptB ruB okL goodB lineI ckC truB maxN fstN yvN mvN wkN metI tA pAt erC
end Go.Ev.YtijidghjiaiccaaGreat.C


namespace Go.Ev.YtijidghjiaiccaaGreat
open Go.Proofs
def tornO (z : Int) (i : Nat) : Bool := (z.fdiv (2 ^ min (i % 32) IntKind.u32.bits)).tmod 2 == 0
def tornK (b : List Int) (z : Int) : Nat → List Int
 | 0 => []
 | k + 1 => if tornO z k = true then (b.drop (40 * k)).take 40 ++ tornK b z k else tornK b z k
theorem tornK_len (b : List Int) (z : Int) : ∀ k, (tornK b z k).length ≤ 40 * k
 | 0 => Nat.zero_le _
 | k + 1 => by
  have := tornK_len b z k
  rw [tornK]
  split
  ·rw [List.length_append, List.length_take]; omega
  ·omega
attribute [local irreducible] Pure Bor Iter tornK tornO
theorem torn_pure (b : List Int) (hl : b.length ≤ 100000) (z : Int) (hz : 0 ≤ z ∧ z ≤ 4294967295) : Pure Tryz.prog 11 [bsD b, .v (.int .u32 z)] (bsD (tornK b z (b.length / 40))) := by
 have hm : ((b.map fun x => [dU x]).length : Int) = b.length := by rw [List.length_map]
 refine pure_of_n pg Tryz.func11 (by kernel_rfl) ?_
 conv => whnf
 (repeat' ((first|refine kA ?_|refine kE ?_|apply kB<;>intro _|fail)<;>conv=>whnf))
 refine ⟨[.seq 5, .frx], [0, 1, 5, 6], [], 0, fun m s => ∃ k : Nat, k + m = b.length / 40 ∧ s = ⟨[(0, .d (bsD b)), (1, .d (.v (.int .u32 z))), (5, .d (bsD (tornK b z k))), (6, .d (dI k))], [], 0⟩, ?_, ?_⟩
 ·conv => whnf
  exact ⟨b.length / 40, 0, by omega, by rw [tornK]; rfl⟩
 ·rintro m _ ⟨k, hk, rfl⟩
  have w40 : IntKind.i64.wrap (40 * (k : Int)) = 40 * (k : Int) := wrapI (by omega) (by omega)
  have w41 : IntKind.i64.wrap (IntKind.i64.wrap (40 * (k : Int)) + 40) = ((40 * k + 40 : Nat) : Int) := by rw [w40, wrapI (by omega) (by omega)]; omega
  have w1k : IntKind.i64.wrap ((k : Int) + 1) = ((k + 1 : Nat) : Int) := by rw [wrapI (by omega) (by omega)]; rfl
  by_cases hkn : k < b.length / 40
  ·have g1 : decide (IntKind.i64.wrap (IntKind.i64.wrap (40 * (k : Int)) + 40) ≤ ((b.map fun x => [dU x]).length : Int)) = true := decide_eq_true (by rw [hm, w41]; omega)
   have hk32 : k % 32 < 32 := Nat.mod_lt _ (by omega)
   have htm : ((k : Int)).tmod 32 = ((k % 32 : Nat) : Int) := rfl
   have wu : IntKind.u64.wrap (((k : Int)).tmod 32) = ((k % 32 : Nat) : Int) := by
    rw [htm]; exact (show ∀ z : Nat, z < 32 → IntKind.u64.wrap ((z : Nat) : Int) = (z : Int) by decide) _ hk32
   have hbit : ((z.fdiv (2 ^ min (IntKind.u64.wrap (((k : Int)).tmod 32)).toNat IntKind.u32.bits)).tmod 2 == 0) = tornO z k := by unfold tornO; rw [wu, Int.toNat_natCast]
   have hst : tornK b z (k + 1) = if tornO z k = true then (b.drop (40 * k)).take 40 ++ tornK b z k else tornK b z k := by rw [tornK]
   have hle := tornK_len b z k
   cases ho : tornO z k with
   | true =>
    rw [ho] at hbit
    rw [if_pos ho] at hst
    conv => whnf
    (repeat' ((first|refine kA ?_|refine kE ?_|apply kB<;>intro _|fail)<;>conv=>whnf))
    (refine ⟨by decide, ?_⟩; conv => whnf)
    (repeat' ((first|refine kA ?_|refine kE ?_|apply kB<;>intro _|fail)<;>conv=>whnf))
    (refine ⟨by rw [wu]; omega, ?_⟩; conv => whnf)
    (refine ⟨by decide, ?_⟩; conv => whnf)
    (repeat' ((first|refine kA ?_|refine kE ?_|apply kB<;>intro _|fail)<;>conv=>whnf))
    (refine ⟨40 * k, by rw [w40]; omega, 40 * k + 40, w41, by omega, by rw [List.length_map]; omega, fun el h => by obtain ⟨x, _, rfl⟩ := List.mem_map.1 h; rfl, ?_⟩; conv => whnf)
    (repeat' ((first|refine kA ?_|refine kE ?_|apply kB<;>intro _|fail)<;>conv=>whnf))
    have er : List.drop (40 * k) (List.take (40 * k + 40) (b.map byC)) = ((b.drop (40 * k)).take 40).map byC := by
     rw [List.drop_take, show 40 * k + 40 - 40 * k = 40 by omega, ← List.map_drop, ← List.map_take]
    have erl : (List.drop (40 * k) (List.take (40 * k + 40) (b.map byC))).length ≤ 40 := by rw [er, List.length_map, List.length_take]; omega
    have hrow : ∀ el ∈ List.drop (40 * k) (List.take (40 * k + 40) (b.map byC)), el.length = 1 := fun el h => by rw [er] at h; obtain ⟨x, _, rfl⟩ := List.mem_map.1 h; rfl
    (refine ⟨hrow, by show (0 + _) * 1 ≤ _; omega, ?_⟩; conv => whnf)
    (repeat' ((first|refine kA ?_|refine kE ?_|apply kB<;>intro _|fail)<;>conv=>whnf))
    (refine ⟨fun el h => by obtain ⟨x, _, rfl⟩ := List.mem_map.1 h; rfl, by show (List.length ([] ++ _) + _) * 1 ≤ _; rw [List.nil_append, List.length_map]; omega, ?_⟩; conv => whnf)
    (repeat' ((first|refine kA ?_|refine kE ?_|apply kB<;>intro _|fail)<;>conv=>whnf))
    (refine ⟨some 0, ?_⟩; conv => whnf)
    refine ⟨m - 1, by omega, k + 1, by omega, ?_⟩
    rw [w1k, hst, er, List.nil_append, ← List.map_append]
   | false =>
    rw [ho] at hbit
    rw [if_neg (by rw [ho]; simp)] at hst
    conv => whnf
    (repeat' ((first|refine kA ?_|refine kE ?_|apply kB<;>intro _|fail)<;>conv=>whnf))
    (refine ⟨by decide, ?_⟩; conv => whnf)
    (repeat' ((first|refine kA ?_|refine kE ?_|apply kB<;>intro _|fail)<;>conv=>whnf))
    (refine ⟨by rw [wu]; omega, ?_⟩; conv => whnf)
    (refine ⟨by decide, ?_⟩; conv => whnf)
    (repeat' ((first|refine kA ?_|refine kE ?_|apply kB<;>intro _|fail)<;>conv=>whnf))
    (refine ⟨none, ?_⟩; conv => whnf)
    refine ⟨m - 1, by omega, k + 1, by omega, ?_⟩
    rw [w1k, hst]
  ·have g1 : decide (IntKind.i64.wrap (IntKind.i64.wrap (40 * (k : Int)) + 40) ≤ ((b.map fun x => [dU x]).length : Int)) = false := decide_eq_false (by rw [hm, w41]; omega)
   have ek : k = b.length / 40 := by omega
   rw [← ek]
   conv => whnf
   (repeat' ((first|refine kA ?_|refine kE ?_|apply kB<;>intro _|fail)<;>conv=>whnf))
   rfl
end Go.Ev.YtijidghjiaiccaaGreat


namespace Go.Ev.YtijidghjiaiccaaGreat.K
open Go.Proofs
abbrev rgC (x : Int × Int) : List D := [dI x.1, dI x.2]
abbrev mtC (rs : List (Int × Int)) : List D := [.seq (rs.map rgC)]
abbrev mtD (rs : List (Int × Int)) : D := .agg (mtC rs)
abbrev rtD (l : List Int) : D := .agg (l.map dI)
def lowE (rs : List (Int × Int)) (l : List Int) (band : Nat) : Int := if band = 0 then (rs.getD band (0, 0)).1 else max (rs.getD band (0, 0)).1 (l.getD (band - 1) 0)
def cntE (rs : List (Int × Int)) (l : List Int) (band : Nat) : Nat := ((rs.getD band (0, 0)).2 + 1 - lowE rs l band).toNat
def enE (rs : List (Int × Int)) : Nat → Nat → List Int → List (List Int)
 | 0, _, l => [l]
 | d + 1, band, l => (List.range (cntE rs l band)).flatMap fun j => enE rs d (band + 1) (l.set band (lowE rs l band + (j : Nat)))
theorem flat_pre {β : Type} (f : Nat → List β) {j n : Nat} (h : j ≤ n) : ∃ r, (List.range n).flatMap f = (List.range j).flatMap f ++ r := by
 induction n with
 | zero => exact ⟨[], by rw [show j = 0 by omega]; rfl⟩
 | succ n ih =>
  by_cases hj : j ≤ n
  ·obtain ⟨r, hr⟩ := ih hj
   exact ⟨r ++ f n, by rw [List.range_succ, List.flatMap_append, hr, List.flatMap_singleton, List.append_assoc]⟩
  ·exact ⟨[], by rw [show j = n + 1 by omega, List.append_nil]⟩
theorem flat_succ {β : Type} (f : Nat → List β) (j : Nat) : (List.range (j + 1)).flatMap f = (List.range j).flatMap f ++ f j := by
 rw [List.range_succ, List.flatMap_append, List.flatMap_singleton]
def RsOK (rs : List (Int × Int)) : Prop := rs.length ≤ 3 ∧ ∀ x ∈ rs, 0 ≤ x.1 ∧ x.1 ≤ x.2 ∧ x.2 ≤ 1000
def L3 (l : List Int) : Prop := l.length = 3 ∧ ∀ x ∈ l, 0 ≤ x ∧ x ≤ 1000
theorem RsOK.at {rs : List (Int × Int)} (h : RsOK rs) {b : Nat} (hb : b < rs.length) : (rs.map rgC)[b]? = some (rgC (rs.getD b (0, 0))) ∧ 0 ≤ (rs.getD b (0, 0)).1 ∧ (rs.getD b (0, 0)).1 ≤ (rs.getD b (0, 0)).2 ∧ (rs.getD b (0, 0)).2 ≤ 1000 := by
 have e : rs.getD b (0, 0) = rs[b] := by rw [List.getD_eq_getElem?_getD, List.getElem?_eq_getElem hb]; rfl
 rw [e]
 exact ⟨by rw [List.getElem?_map, List.getElem?_eq_getElem hb]; rfl, h.2 _ (List.getElem_mem hb)⟩
theorem L3.set {l : List Int} (h : L3 l) {b : Nat} {v : Int} (hv : 0 ≤ v ∧ v ≤ 1000) : L3 (l.set b v) := ⟨by rw [List.length_set]; exact h.1, fun x hx => by
 rcases List.mem_or_eq_of_mem_set hx with hx | rfl
 ·exact h.2 x hx
 ·exact hv⟩
theorem L3.getD {l : List Int} (h : L3 l) (b : Nat) : 0 ≤ l.getD b 0 ∧ l.getD b 0 ≤ 1000 := by
 rw [List.getD_eq_getElem?_getD]
 cases e : l[b]? with
 | none => show (0 : Int) ≤ 0 ∧ (0 : Int) ≤ 1000; omega
 | some x => exact h.2 x (List.mem_of_getElem? e)
theorem lowE_b {rs : List (Int × Int)} (h : RsOK rs) {l : List Int} (hl : L3 l) {b : Nat} (hb : b < rs.length) : 0 ≤ lowE rs l b ∧ lowE rs l b ≤ 1000 := by
 have := h.at hb
 have := hl.getD (b - 1)
 unfold lowE
 split <;> omega
attribute [local irreducible] Pure Bor Iter SubC
abbrev mtO (rs : List (Int × Int)) : Ob := .var false 59 [.d (.seq (rs.map rgC))]
abbrev frF : A := .fn (.func 99) [] [.ref 1 0, .ref 2 0, .ref 3 0]
abbrev frO (rs : List (Int × Int)) : List Ob := [mtO rs, .var false 126 [.own 0], .var false 207 [frF]]
abbrev frP (rs : List (Int × Int)) : List (Nat × Ob) := [(1, mtO rs), (2, .var false 126 [.own 0]), (3, .var false 207 [frF])]
abbrev frA (l : List Int) (b : Nat) : List A := [.d (rtD l), .d (dI b), .ref 1 0, .ref 2 0, .ref 3 0]
set_option maxHeartbeats 4000000 in
theorem from_sub {rs : List (Int × Int)} (h : RsOK rs) (els : List (List D)) (t : Nat) : ∀ (d band : Nat) (l : List Int) (q : Nat), band + d = rs.length → L3 l → q ≤ t → (∀ j x, (enE rs d band l)[j]? = some x → els[q + j]? = some [rtD x]) →
  SubC tb Tryz.prog (Yt els t) 99 (frA l band) (frO rs) q (.d (dB (decide (q + (enE rs d band l).length ≤ t)))) (min (q + (enE rs d band l).length) (t + 1)) (frP rs)
 | 0, band, l, q, hb, hl, hq, hel => by
  have hm : ((rs.map rgC).length : Int) = rs.length := by rw [List.length_map]
  have f1 : ((band : Int) == ((rs.map rgC).length : Int)) = true := by rw [hm, show band = rs.length by omega]; exact beq_self_eq_true _
  obtain ⟨a, b, c, rfl⟩ : ∃ a b c, l = [a, b, c] := by
   match l, hl.1 with
   | [a, b, c], _ => exact ⟨a, b, c, rfl⟩
  have e := hel 0 [a, b, c] rfl
  have e1 : (enE rs 0 band [a, b, c]).length = 1 := rfl
  have e2 : min (q + 1) (t + 1) = q + 1 := by omega
  have e3 : decide (q + 1 ≤ t) = decide (q < t) := rfl
  rw [e1, e2, e3]
  refine sub_of pg Tryz.func99 (by kernel_rfl) ?_
  conv => whnf
  (repeat' ((first|refine kA ?_|refine kE ?_|apply kB<;>intro _|fail)<;>conv=>whnf))
  (refine ⟨decide (q < t), ⟨hq, e, rfl⟩, ?_⟩; conv => whnf)
  (repeat' ((first|refine kA ?_|refine kE ?_|apply kB<;>intro _|fail)<;>conv=>whnf))
  (refine ⟨[0, 1, 2, 3], ?_⟩; conv => whnf)
  exact ⟨rfl, rfl⟩
 | d + 1, band, l, q, hb, hl, hq, hel => by
  obtain ⟨hat, hr0, hr1, hr2⟩ := h.at (b := band) (by omega)
  have hlb := lowE_b h hl (b := band) (by omega)
  have hb3 : band < 3 := by have := h.1; omega
  obtain ⟨low, hlow⟩ : ∃ low, low = lowE rs l band := ⟨_, rfl⟩
  obtain ⟨cnt, hcnt⟩ : ∃ cnt, cnt = cntE rs l band := ⟨_, rfl⟩
  obtain ⟨f, hf⟩ : ∃ f : Nat → List (List Int), f = fun j => enE rs d (band + 1) (l.set band (low + (j : Nat))) := ⟨_, rfl⟩
  have hE : enE rs (d + 1) band l = (List.range cnt).flatMap f := by rw [enE, hf, hlow, hcnt]
  have hcn : cnt = ((rs.getD band (0, 0)).2 + 1 - low).toNat := by rw [hcnt, hlow]; rfl
  rw [hE] at hel ⊢
  obtain ⟨S, hS⟩ : ∃ S : Nat → Nat, S = fun j => ((List.range j).flatMap f).length := ⟨_, rfl⟩
  have hS0 : S 0 = 0 := by rw [hS]; rfl
  have hS1 : ∀ j, S (j + 1) = S j + (f j).length := fun j => by rw [hS]; dsimp only; rw [flat_succ, List.length_append]
  have hSm : ∀ j, j ≤ cnt → S j ≤ S cnt := fun j hj => by
   obtain ⟨r, hr⟩ := flat_pre f hj
   rw [hS]; dsimp only; rw [hr, List.length_append]; omega
  have hSc : ((List.range cnt).flatMap f).length = S cnt := by rw [hS]
  rw [hSc]
  obtain ⟨hi, hhi⟩ : ∃ hi, hi = (rs.getD band (0, 0)).2 := ⟨_, rfl⟩
  obtain ⟨lo, hlo⟩ : ∃ lo, lo = (rs.getD band (0, 0)).1 := ⟨_, rfl⟩
  have ih : ∀ j, j < cnt → q + S j ≤ t → SubC tb Tryz.prog (Yt els t) 99 (frA (l.set band (low + (j : Nat))) (band + 1)) (frO rs) (q + S j) (.d (dB (decide (q + S (j + 1) ≤ t)))) (min (q + S (j + 1)) (t + 1)) (frP rs) := fun j hj hqj => by
   have hj2 : low + (j : Nat) ≤ hi := by omega
   have c := from_sub h els t d (band + 1) (l.set band (low + (j : Nat))) (q + S j) (by omega) (hl.set (by omega)) hqj fun i x hx => by
    obtain ⟨r, hr⟩ := flat_pre f (show j + 1 ≤ cnt by omega)
    have hx' : (f j)[i]? = some x := by rw [hf]; exact hx
    have hlt := (List.getElem?_eq_some_iff.1 hx').1
    have := hel (S j + i) x (by
     rw [hr, flat_succ, List.append_assoc, List.getElem?_append_right (by rw [hS]; dsimp only; omega), show S j + i - ((List.range j).flatMap f).length = i by rw [hS]; dsimp only; omega, List.getElem?_append_left hlt]
     exact hx')
    rw [← Nat.add_assoc] at this
    exact this
   have e : (enE rs d (band + 1) (l.set band (low + (j : Nat)))).length = (f j).length := by rw [hf]
   rw [e, Nat.add_assoc, ← hS1] at c
   exact c
  obtain ⟨B, hB⟩ : ∃ B, B = decide (q + S cnt ≤ t) := ⟨_, rfl⟩
  obtain ⟨Q, hQ⟩ : ∃ Q, Q = min (q + S cnt) (t + 1) := ⟨_, rfl⟩
  rw [← hB, ← hQ]
  rw [← hhi] at hr1 hr2 hcn
  rw [← hlo] at hr0 hr1
  unfold lowE at hlow
  rw [← hlo] at hlow
  have hm : ((rs.map rgC).length : Int) = rs.length := by rw [List.length_map]
  have f1 : ((band : Int) == ((rs.map rgC).length : Int)) = false := by rw [hm]; exact beq_eq_false_iff_ne.2 (by omega)
  rw [show rgC (rs.getD band (0, 0)) = [dI lo, dI hi] by rw [hlo, hhi]] at hat
  clear hel hE hSc hlo hhi hf hcnt
  obtain ⟨a, b, c, rfl⟩ : ∃ a b c, l = [a, b, c] := by
   match l, hl.1 with
   | [a, b, c], _ => exact ⟨a, b, c, rfl⟩
  rcases (by omega : band = 0 ∨ band = 1 ∨ band = 2) with rfl | rfl | rfl
  ·have hlow : low = lo := hlow
   have w1 : IntKind.i64.wrap (((0 : Nat) : Int) + 1) = ((0 + 1 : Nat) : Int) := by decide
   have ih : ∀ j, j < cnt → q + S j ≤ t → SubC tb Tryz.prog (Yt els t) 99 [.d (.agg [dI (low + (j : Nat)), dI b, dI c]), .d (dI (IntKind.i64.wrap (((0 : Nat) : Int) + 1))), .ref 1 0, .ref 2 0, .ref 3 0] (frO rs) (q + S j) (.d (dB (decide (q + S (j + 1) ≤ t)))) (min (q + S (j + 1)) (t + 1)) (frP rs) := fun j hj hqj => by rw [w1]; exact ih j hj hqj
   refine sub_of pg Tryz.func99 (by kernel_rfl) ?_
   conv => whnf
   (repeat' ((first|refine kA ?_|refine kE ?_|apply kB<;>intro _|fail)<;>conv=>whnf))
   (refine ⟨0, _, rfl, hat, rfl, ?_⟩; conv => whnf)
   (repeat' ((first|refine kA ?_|refine kE ?_|apply kB<;>intro _|fail)<;>conv=>whnf))
   refine ⟨[], [1, 2, 3, 4, 5, 9], [0, 1, 2, 3, 4], 5, fun m s => ∃ (j : Nat) (v : Int), j + m = cnt ∧ q + S j ≤ t ∧ s = ⟨[(1, .d (dI (0 : Nat))), (2, .ref 1 0), (3, .ref 2 0), (4, .ref 3 0), (5, .ref 4 0), (9, .d (dI (low + (j : Nat))))], (0, .env (q + S j)) :: (frP rs ++ [(4, .var false 123 [.d (dI v), .d (dI b), .d (dI c)])]), 5⟩, ?_, ?_⟩
   ·conv => whnf
    refine ⟨cnt, 0, a, by omega, by omega, ?_⟩
    rw [hS0, hlow]
    simp only [Int.natCast_zero, Int.add_zero, Nat.add_zero]
    rfl
   ·rintro m _ ⟨j, v, hj, hqj, rfl⟩
    by_cases hjc : j < cnt
    ·have g1 : decide (low + (j : Nat) ≤ hi) = true := decide_eq_true (by omega)
     have wj : IntKind.i64.wrap (low + (j : Nat) + 1) = low + ((j + 1 : Nat) : Int) := by rw [wrapI (by omega) (by omega)]; omega
     have c := ih j hjc hqj
     by_cases hle : q + S (j + 1) ≤ t
     ·rw [decide_eq_true hle, Nat.min_eq_left (by omega)] at c
      conv => whnf
      (repeat' ((first|refine kA ?_|refine kE ?_|apply kB<;>intro _|fail)<;>conv=>whnf))
      (refine ⟨0, _, rfl, hat, rfl, ?_⟩; conv => whnf)
      (repeat' ((first|refine kA ?_|refine kE ?_|apply kB<;>intro _|fail)<;>conv=>whnf))
      (refine ⟨0, rfl, by decide, ?_⟩; conv => whnf)
      (repeat' ((first|refine kA ?_|refine kE ?_|apply kB<;>intro _|fail)<;>conv=>whnf))
      refine .inp (.inr (.inr ⟨[1, 2, 3], 4, _, _, _, frO rs, rfl, c, ?_⟩))
      conv => whnf
      (repeat' ((first|refine kA ?_|refine kE ?_|apply kB<;>intro _|fail)<;>conv=>whnf))
      refine ⟨m - 1, by omega, j + 1, low + (j : Nat), by omega, hle, ?_⟩
      rw [wj]
      rfl
     ·have hsm := hSm (j + 1) (by omega)
      rw [decide_eq_false hle, Nat.min_eq_right (by omega)] at c
      have eB : B = false := by rw [hB]; exact decide_eq_false (by omega)
      have eQ : Q = t + 1 := by rw [hQ]; omega
      rw [eB, eQ]
      conv => whnf
      (repeat' ((first|refine kA ?_|refine kE ?_|apply kB<;>intro _|fail)<;>conv=>whnf))
      (refine ⟨0, _, rfl, hat, rfl, ?_⟩; conv => whnf)
      (repeat' ((first|refine kA ?_|refine kE ?_|apply kB<;>intro _|fail)<;>conv=>whnf))
      (refine ⟨0, rfl, by decide, ?_⟩; conv => whnf)
      (repeat' ((first|refine kA ?_|refine kE ?_|apply kB<;>intro _|fail)<;>conv=>whnf))
      refine .inp (.inr (.inr ⟨[1, 2, 3], 4, _, _, _, frO rs, rfl, c, ?_⟩))
      conv => whnf
      (repeat' ((first|refine kA ?_|refine kE ?_|apply kB<;>intro _|fail)<;>conv=>whnf))
      (refine ⟨[0, 1, 2, 3], ?_⟩; conv => whnf)
      exact ⟨rfl, rfl⟩
    ·have ej : j = cnt := by omega
     subst ej
     have g1 : decide (low + (j : Nat) ≤ hi) = false := decide_eq_false (by omega)
     have eB : B = true := by rw [hB]; exact decide_eq_true hqj
     have eQ : Q = q + S j := by rw [hQ]; omega
     rw [eB, eQ]
     conv => whnf
     (repeat' ((first|refine kA ?_|refine kE ?_|apply kB<;>intro _|fail)<;>conv=>whnf))
     (refine ⟨0, _, rfl, hat, rfl, ?_⟩; conv => whnf)
     (repeat' ((first|refine kA ?_|refine kE ?_|apply kB<;>intro _|fail)<;>conv=>whnf))
     (refine ⟨[0, 1, 2, 3], ?_⟩; conv => whnf)
     exact ⟨rfl, rfl⟩
  ·have hlow : low = max lo a := hlow
   have w1 : IntKind.i64.wrap (((1 : Nat) : Int) + 1) = ((1 + 1 : Nat) : Int) := by decide
   have ih : ∀ j, j < cnt → q + S j ≤ t → SubC tb Tryz.prog (Yt els t) 99 [.d (.agg [dI a, dI (low + (j : Nat)), dI c]), .d (dI (IntKind.i64.wrap (((1 : Nat) : Int) + 1))), .ref 1 0, .ref 2 0, .ref 3 0] (frO rs) (q + S j) (.d (dB (decide (q + S (j + 1) ≤ t)))) (min (q + S (j + 1)) (t + 1)) (frP rs) := fun j hj hqj => by rw [w1]; exact ih j hj hqj
   refine sub_of pg Tryz.func99 (by kernel_rfl) ?_
   conv => whnf
   (repeat' ((first|refine kA ?_|refine kE ?_|apply kB<;>intro _|fail)<;>conv=>whnf))
   (refine ⟨1, _, rfl, hat, rfl, ?_⟩; conv => whnf)
   (repeat' ((first|refine kA ?_|refine kE ?_|apply kB<;>intro _|fail)<;>conv=>whnf))
   (refine ⟨0, by decide, by decide, ?_⟩; conv => whnf)
   (repeat' ((first|refine kA ?_|refine kE ?_|apply kB<;>intro _|fail)<;>conv=>whnf))
   refine ⟨[], [1, 2, 3, 4, 5, 9], [0, 1, 2, 3, 4], 5, fun m s => ∃ (j : Nat) (v : Int), j + m = cnt ∧ q + S j ≤ t ∧ s = ⟨[(1, .d (dI (1 : Nat))), (2, .ref 1 0), (3, .ref 2 0), (4, .ref 3 0), (5, .ref 4 0), (9, .d (dI (low + (j : Nat))))], (0, .env (q + S j)) :: (frP rs ++ [(4, .var false 123 [.d (dI a), .d (dI v), .d (dI c)])]), 5⟩, ?_, ?_⟩
   ·conv => whnf
    refine ⟨cnt, 0, b, by omega, by omega, ?_⟩
    rw [hS0, hlow]
    simp only [Int.natCast_zero, Int.add_zero, Nat.add_zero]
    rfl
   ·rintro m _ ⟨j, v, hj, hqj, rfl⟩
    by_cases hjc : j < cnt
    ·have g1 : decide (low + (j : Nat) ≤ hi) = true := decide_eq_true (by omega)
     have wj : IntKind.i64.wrap (low + (j : Nat) + 1) = low + ((j + 1 : Nat) : Int) := by rw [wrapI (by omega) (by omega)]; omega
     have c := ih j hjc hqj
     by_cases hle : q + S (j + 1) ≤ t
     ·rw [decide_eq_true hle, Nat.min_eq_left (by omega)] at c
      conv => whnf
      (repeat' ((first|refine kA ?_|refine kE ?_|apply kB<;>intro _|fail)<;>conv=>whnf))
      (refine ⟨1, _, rfl, hat, rfl, ?_⟩; conv => whnf)
      (repeat' ((first|refine kA ?_|refine kE ?_|apply kB<;>intro _|fail)<;>conv=>whnf))
      (refine ⟨1, rfl, by decide, ?_⟩; conv => whnf)
      (repeat' ((first|refine kA ?_|refine kE ?_|apply kB<;>intro _|fail)<;>conv=>whnf))
      refine .inp (.inr (.inr ⟨[1, 2, 3], 4, _, _, _, frO rs, rfl, c, ?_⟩))
      conv => whnf
      (repeat' ((first|refine kA ?_|refine kE ?_|apply kB<;>intro _|fail)<;>conv=>whnf))
      refine ⟨m - 1, by omega, j + 1, low + (j : Nat), by omega, hle, ?_⟩
      rw [wj]
      rfl
     ·have hsm := hSm (j + 1) (by omega)
      rw [decide_eq_false hle, Nat.min_eq_right (by omega)] at c
      have eB : B = false := by rw [hB]; exact decide_eq_false (by omega)
      have eQ : Q = t + 1 := by rw [hQ]; omega
      rw [eB, eQ]
      conv => whnf
      (repeat' ((first|refine kA ?_|refine kE ?_|apply kB<;>intro _|fail)<;>conv=>whnf))
      (refine ⟨1, _, rfl, hat, rfl, ?_⟩; conv => whnf)
      (repeat' ((first|refine kA ?_|refine kE ?_|apply kB<;>intro _|fail)<;>conv=>whnf))
      (refine ⟨1, rfl, by decide, ?_⟩; conv => whnf)
      (repeat' ((first|refine kA ?_|refine kE ?_|apply kB<;>intro _|fail)<;>conv=>whnf))
      refine .inp (.inr (.inr ⟨[1, 2, 3], 4, _, _, _, frO rs, rfl, c, ?_⟩))
      conv => whnf
      (repeat' ((first|refine kA ?_|refine kE ?_|apply kB<;>intro _|fail)<;>conv=>whnf))
      (refine ⟨[0, 1, 2, 3], ?_⟩; conv => whnf)
      exact ⟨rfl, rfl⟩
    ·have ej : j = cnt := by omega
     subst ej
     have g1 : decide (low + (j : Nat) ≤ hi) = false := decide_eq_false (by omega)
     have eB : B = true := by rw [hB]; exact decide_eq_true hqj
     have eQ : Q = q + S j := by rw [hQ]; omega
     rw [eB, eQ]
     conv => whnf
     (repeat' ((first|refine kA ?_|refine kE ?_|apply kB<;>intro _|fail)<;>conv=>whnf))
     (refine ⟨1, _, rfl, hat, rfl, ?_⟩; conv => whnf)
     (repeat' ((first|refine kA ?_|refine kE ?_|apply kB<;>intro _|fail)<;>conv=>whnf))
     (refine ⟨[0, 1, 2, 3], ?_⟩; conv => whnf)
     exact ⟨rfl, rfl⟩
  ·have hlow : low = max lo b := hlow
   have w1 : IntKind.i64.wrap (((2 : Nat) : Int) + 1) = ((2 + 1 : Nat) : Int) := by decide
   have ih : ∀ j, j < cnt → q + S j ≤ t → SubC tb Tryz.prog (Yt els t) 99 [.d (.agg [dI a, dI b, dI (low + (j : Nat))]), .d (dI (IntKind.i64.wrap (((2 : Nat) : Int) + 1))), .ref 1 0, .ref 2 0, .ref 3 0] (frO rs) (q + S j) (.d (dB (decide (q + S (j + 1) ≤ t)))) (min (q + S (j + 1)) (t + 1)) (frP rs) := fun j hj hqj => by rw [w1]; exact ih j hj hqj
   refine sub_of pg Tryz.func99 (by kernel_rfl) ?_
   conv => whnf
   (repeat' ((first|refine kA ?_|refine kE ?_|apply kB<;>intro _|fail)<;>conv=>whnf))
   (refine ⟨2, _, rfl, hat, rfl, ?_⟩; conv => whnf)
   (repeat' ((first|refine kA ?_|refine kE ?_|apply kB<;>intro _|fail)<;>conv=>whnf))
   (refine ⟨1, by decide, by decide, ?_⟩; conv => whnf)
   (repeat' ((first|refine kA ?_|refine kE ?_|apply kB<;>intro _|fail)<;>conv=>whnf))
   refine ⟨[], [1, 2, 3, 4, 5, 9], [0, 1, 2, 3, 4], 5, fun m s => ∃ (j : Nat) (v : Int), j + m = cnt ∧ q + S j ≤ t ∧ s = ⟨[(1, .d (dI (2 : Nat))), (2, .ref 1 0), (3, .ref 2 0), (4, .ref 3 0), (5, .ref 4 0), (9, .d (dI (low + (j : Nat))))], (0, .env (q + S j)) :: (frP rs ++ [(4, .var false 123 [.d (dI a), .d (dI b), .d (dI v)])]), 5⟩, ?_, ?_⟩
   ·conv => whnf
    refine ⟨cnt, 0, c, by omega, by omega, ?_⟩
    rw [hS0, hlow]
    simp only [Int.natCast_zero, Int.add_zero, Nat.add_zero]
    rfl
   ·rintro m _ ⟨j, v, hj, hqj, rfl⟩
    by_cases hjc : j < cnt
    ·have g1 : decide (low + (j : Nat) ≤ hi) = true := decide_eq_true (by omega)
     have wj : IntKind.i64.wrap (low + (j : Nat) + 1) = low + ((j + 1 : Nat) : Int) := by rw [wrapI (by omega) (by omega)]; omega
     have c := ih j hjc hqj
     by_cases hle : q + S (j + 1) ≤ t
     ·rw [decide_eq_true hle, Nat.min_eq_left (by omega)] at c
      conv => whnf
      (repeat' ((first|refine kA ?_|refine kE ?_|apply kB<;>intro _|fail)<;>conv=>whnf))
      (refine ⟨2, _, rfl, hat, rfl, ?_⟩; conv => whnf)
      (repeat' ((first|refine kA ?_|refine kE ?_|apply kB<;>intro _|fail)<;>conv=>whnf))
      (refine ⟨2, rfl, by decide, ?_⟩; conv => whnf)
      (repeat' ((first|refine kA ?_|refine kE ?_|apply kB<;>intro _|fail)<;>conv=>whnf))
      refine .inp (.inr (.inr ⟨[1, 2, 3], 4, _, _, _, frO rs, rfl, c, ?_⟩))
      conv => whnf
      (repeat' ((first|refine kA ?_|refine kE ?_|apply kB<;>intro _|fail)<;>conv=>whnf))
      refine ⟨m - 1, by omega, j + 1, low + (j : Nat), by omega, hle, ?_⟩
      rw [wj]
      rfl
     ·have hsm := hSm (j + 1) (by omega)
      rw [decide_eq_false hle, Nat.min_eq_right (by omega)] at c
      have eB : B = false := by rw [hB]; exact decide_eq_false (by omega)
      have eQ : Q = t + 1 := by rw [hQ]; omega
      rw [eB, eQ]
      conv => whnf
      (repeat' ((first|refine kA ?_|refine kE ?_|apply kB<;>intro _|fail)<;>conv=>whnf))
      (refine ⟨2, _, rfl, hat, rfl, ?_⟩; conv => whnf)
      (repeat' ((first|refine kA ?_|refine kE ?_|apply kB<;>intro _|fail)<;>conv=>whnf))
      (refine ⟨2, rfl, by decide, ?_⟩; conv => whnf)
      (repeat' ((first|refine kA ?_|refine kE ?_|apply kB<;>intro _|fail)<;>conv=>whnf))
      refine .inp (.inr (.inr ⟨[1, 2, 3], 4, _, _, _, frO rs, rfl, c, ?_⟩))
      conv => whnf
      (repeat' ((first|refine kA ?_|refine kE ?_|apply kB<;>intro _|fail)<;>conv=>whnf))
      (refine ⟨[0, 1, 2, 3], ?_⟩; conv => whnf)
      exact ⟨rfl, rfl⟩
    ·have ej : j = cnt := by omega
     subst ej
     have g1 : decide (low + (j : Nat) ≤ hi) = false := decide_eq_false (by omega)
     have eB : B = true := by rw [hB]; exact decide_eq_true hqj
     have eQ : Q = q + S j := by rw [hQ]; omega
     rw [eB, eQ]
     conv => whnf
     (repeat' ((first|refine kA ?_|refine kE ?_|apply kB<;>intro _|fail)<;>conv=>whnf))
     (refine ⟨2, _, rfl, hat, rfl, ?_⟩; conv => whnf)
     (repeat' ((first|refine kA ?_|refine kE ?_|apply kB<;>intro _|fail)<;>conv=>whnf))
     (refine ⟨[0, 1, 2, 3], ?_⟩; conv => whnf)
     exact ⟨rfl, rfl⟩
end Go.Ev.YtijidghjiaiccaaGreat.K


namespace Go.Ev.YtijidghjiaiccaaGreat.K
open Go.Proofs
attribute [local irreducible] Pure Bor Iter SubC
abbrev rgA (x : Int × Int) : D := .agg (rgC x)
def inB (n lo hi : Int) : Bool := decide (lo ≤ n) && decide (n ≤ hi)
theorem within_pure (n lo hi : Int) : Pure Tryz.prog 61 [dI n, dI lo, dI hi] (dB (inB n lo hi)) := by
 refine pure_of pg Tryz.func61 (by kernel_rfl) ?_
 conv => whnf
 (repeat' ((first|refine kA ?_|refine kE ?_|apply kB<;>intro _|fail)<;>conv=>whnf))
 all_goals (rename_i h; unfold inB; rw [h]; rfl)
theorem rate_pure {x : Int × Int} (h : 0 ≤ x.1 ∧ x.1 ≤ x.2 ∧ x.2 ≤ 1000 ∧ x.2 - x.1 ≤ 20) : Pure Tryz.prog 91 [rgA x] (dB true) := by
 have g1 : decide (0 ≤ x.1) = true := decide_eq_true h.1
 have g2 : decide (x.1 ≤ x.2) = true := decide_eq_true h.2.1
 have g3 : decide (x.2 ≤ 1000) = true := decide_eq_true h.2.2.1
 have g4 : decide (IntKind.i64.wrap (x.2 - x.1) ≤ 20) = true := decide_eq_true (by rw [wrapI (by omega) (by omega)]; exact h.2.2.2)
 have c : Pure Tryz.prog 94 [rgA x, dI 1000] (dB true) := by
  refine pure_of pg Tryz.func94 (by kernel_rfl) ?_
  conv => whnf
  (repeat' ((first|refine kA ?_|refine kE ?_|apply kB<;>intro _|fail)<;>conv=>whnf))
  rw [g3]
  rfl
 refine pure_of pg Tryz.func91 (by kernel_rfl) ?_
 conv => whnf
 (repeat' ((first|refine kA ?_|refine kE ?_|apply kB<;>intro _|refine .inl ⟨_, c, ?_⟩|fail)<;>conv=>whnf))
 rw [g4]
 rfl
abbrev fOR (f : Nat) : Ob := .var false 202 [.d (.fn (.func f) [] [])]
theorem all1R (f : Nat) (p : (Int × Int) → Bool) (x : (Int × Int)) (hp : Pure Tryz.prog f [rgA x] (dB (p x))) : Bor tb Tryz.prog 124 [.d (rgA x), .ref 0 0] [fOR f] 2 (.d (dB (!p x))) [(0, fOR f)] := by
 refine bor_of pg Tryz.func124 (by kernel_rfl) ?_
 conv => whnf
 (repeat' ((first|refine kA ?_|refine kE ?_|apply kB<;>intro _|refine .inl ⟨_, hp, ?_⟩|fail)<;>conv=>whnf))
 (refine ⟨[], [0], ?_⟩; conv => whnf)
 exact ⟨by cases p x <;> rfl, rfl⟩
theorem idxR (f : Nat) (p : (Int × Int) → Bool) (l : List (Int × Int)) (hl : l.length ≤ 100000) (hp : ∀ x ∈ l, Pure Tryz.prog f [rgA x] (dB (p x))) : Bor tb Tryz.prog 147 [.d (.seq (l.map rgC)), .fn (.func 124) [] [.ref 0 0]] [fOR f] 2 (.d (dI (ixI (fun x => !p x) l))) [(0, fOR f)] := by
 have hm : ((l.map rgC).length : Int) = l.length := by rw [List.length_map]
 refine bor_of pg Tryz.func147 (by kernel_rfl) ?_
 conv => whnf
 (repeat' ((first|refine kA ?_|refine kE ?_|apply kB<;>intro _|fail)<;>conv=>whnf))
 refine ⟨[], [0, 1, 7, 8], [0], 1, fun m s => ∃ k : Nat, k + m = l.length ∧ (∀ j (h : j < k) (h2 : j < l.length), (!p l[j]) = false) ∧ s = ⟨[(0, .d (.seq (l.map rgC))), (1, .fn (.func 124) [] [.ref 0 0]), (7, .d (dI ((l.map rgC).length : Nat))), (8, .d (dI k))], [(0, fOR f)], 1⟩, ?_, ?_⟩
 ·conv => whnf
  exact ⟨l.length, 0, by omega, fun j h => by omega, rfl⟩
 ·rintro m _ ⟨k, hk, hno, rfl⟩
  by_cases hkl : k < l.length
  ·have f1 : decide ((k : Int) < ((l.map rgC).length : Int)) = true := decide_eq_true (by rw [hm]; omega)
   have hg : (l.map rgC)[k]? = some (rgC l[k]) := by rw [List.getElem?_map, List.getElem?_eq_getElem hkl]; rfl
   have w1k : IntKind.i64.wrap ((k : Int) + 1) = ((k + 1 : Nat) : Int) := by rw [wrapI (by omega) (by omega)]; rfl
   have cs := all1R f p l[k] (hp _ (List.getElem_mem _))
   by_cases he : (!p l[k]) = true
   ·have e := ixI_at (q := fun x => !p x) hkl (fun j hj => hno j hj (by omega)) he
    rw [e]
    rw [he] at cs
    conv => whnf
    (repeat' ((first|refine kA ?_|refine kE ?_|apply kB<;>intro _|fail)<;>conv=>whnf))
    (refine ⟨k, _, rfl, hg, rfl, ?_⟩; conv => whnf)
    (refine .inr ⟨[0], 2, _, _, cs, ?_⟩; conv => whnf)
    (repeat' ((first|refine kA ?_|refine kE ?_|apply kB<;>intro _|fail)<;>conv=>whnf))
    (refine ⟨[], [0], ?_⟩; conv => whnf)
    exact ⟨rfl, rfl⟩
   ·have he := (Bool.not_eq_true _).mp he
    rw [he] at cs
    conv => whnf
    (repeat' ((first|refine kA ?_|refine kE ?_|apply kB<;>intro _|fail)<;>conv=>whnf))
    (refine ⟨k, _, rfl, hg, rfl, ?_⟩; conv => whnf)
    (refine .inr ⟨[0], 2, _, _, cs, ?_⟩; conv => whnf)
    (repeat' ((first|refine kA ?_|refine kE ?_|apply kB<;>intro _|fail)<;>conv=>whnf))
    refine ⟨m - 1, by omega, k + 1, by omega, fun j hj hjl => ?_, ?_⟩
    ·by_cases h : j < k
     ·exact hno j h hjl
     ·have : j = k := by omega
      subst this
      exact he
    ·rw [w1k]
  ·have f1 : decide ((k : Int) < ((l.map rgC).length : Int)) = false := decide_eq_false (by rw [hm]; omega)
   have e := ixI_none (q := fun x => !p x) (l := l) fun j hj => hno j (by omega) hj
   rw [e]
   conv => whnf
   (repeat' ((first|refine kA ?_|refine kE ?_|apply kB<;>intro _|fail)<;>conv=>whnf))
   (refine ⟨[], [0], ?_⟩; conv => whnf)
   exact ⟨rfl, rfl⟩
theorem hasR (f : Nat) (p : (Int × Int) → Bool) (l : List (Int × Int)) (hl : l.length ≤ 100000) (hp : ∀ x ∈ l, Pure Tryz.prog f [rgA x] (dB (p x))) : Bor tb Tryz.prog 123 [.d (.seq (l.map rgC)), .fn (.func 124) [] [.ref 0 0]] [fOR f] 2 (.d (dB (!l.all p))) [(0, fOR f)] := by
 have ci := idxR f p l hl hp
 rw [← ixI_all]
 refine bor_of pg Tryz.func123 (by kernel_rfl) ?_
 conv => whnf
 (repeat' ((first|refine kA ?_|refine kE ?_|apply kB<;>intro _|fail)<;>conv=>whnf))
 (refine .inr ⟨[0], 2, _, _, ci, ?_⟩; conv => whnf)
 (repeat' ((first|refine kA ?_|refine kE ?_|apply kB<;>intro _|fail)<;>conv=>whnf))
 (refine ⟨[], [0], ?_⟩; conv => whnf)
 exact ⟨rfl, rfl⟩
theorem allR (f : Nat) (p : (Int × Int) → Bool) (l : List (Int × Int)) (hl : l.length ≤ 100000) (hp : ∀ x ∈ l, Pure Tryz.prog f [rgA x] (dB (p x))) : Pure Tryz.prog 90 [.seq (l.map rgC), .fn (.func f) [] []] (dB (l.all p)) := by
 have ci := hasR f p l hl hp
 refine pure_of pg Tryz.func90 (by kernel_rfl) ?_
 conv => whnf
 (repeat' ((first|refine kA ?_|refine kE ?_|apply kB<;>intro _|fail)<;>conv=>whnf))
 (refine .inr ⟨[0], 2, _, _, ci, ?_⟩; conv => whnf)
 (repeat' ((first|refine kA ?_|refine kE ?_|apply kB<;>intro _|fail)<;>conv=>whnf))
 cases l.all p <;> rfl
abbrev elE (rs : List (Int × Int)) : List (List D) := (enE rs rs.length 0 [0, 0, 0]).map fun l => [rtD l]
theorem lists_iter {rs : List (Int × Int)} (h : RsOK rs) (t : Nat) : Iter tb Tryz.prog 98 [.own 0, .ref 1 0] [mtO rs] (elE rs) t [(1, mtO rs)] := by
 have c := from_sub h (elE rs) t rs.length 0 [0, 0, 0] 0 (by omega) ⟨rfl, fun x hx => by simp at hx; subst hx; omega⟩ (Nat.zero_le _) fun j x hx => by rw [Nat.zero_add, List.getElem?_map, hx]; rfl
 have e : min (0 + (enE rs rs.length 0 [0, 0, 0]).length) (t + 1) = min (t + 1) (elE rs).length := by rw [List.length_map, Nat.zero_add, Nat.min_comm]
 rw [e] at c
 refine iter_of pg Tryz.func98 (by kernel_rfl) ?_
 conv => whnf
 refine .inp (.inr (.inr ⟨[1, 2, 3], 4, _, _, _, frO rs, rfl, c, ?_⟩))
 conv => whnf
 (repeat' ((first|refine kA ?_|refine kE ?_|apply kB<;>intro _|fail)<;>conv=>whnf))
 (refine ⟨[0, 1], ?_⟩; conv => whnf)
theorem lists_bor (rs : List (Int × Int)) : Bor tb Tryz.prog 64 [.d (mtD rs)] [] 1 (.fn (.func 98) [] [.ref 0 0]) [(0, mtO rs)] := by
 refine bor_of pg Tryz.func64 (by kernel_rfl) ?_
 conv => whnf
 (repeat' ((first|refine kA ?_|refine kE ?_|apply kB<;>intro _|fail)<;>conv=>whnf))
 (refine ⟨[], [0], ?_⟩; conv => whnf)
 exact ⟨rfl, rfl⟩
structure MtOK (rs : List (Int × Int)) : Prop where
 n : 0 < rs.length ∧ rs.length ≤ 3
 r : ∀ x ∈ rs, 0 ≤ x.1 ∧ x.1 ≤ x.2 ∧ x.2 ≤ 1000 ∧ x.2 - x.1 ≤ 20
 some : enE rs rs.length 0 [0, 0, 0] ≠ []
theorem MtOK.rs {rs : List (Int × Int)} (h : MtOK rs) : RsOK rs := ⟨h.n.2, fun x hx => ⟨(h.r x hx).1, (h.r x hx).2.1, (h.r x hx).2.2.1⟩⟩
theorem check_pure {rs : List (Int × Int)} (h : MtOK rs) : Pure Tryz.prog 57 [mtD rs] (dI 0) := by
 have hm : ((rs.map rgC).length : Int) = rs.length := by rw [List.length_map]
 have cw := within_pure ((rs.map rgC).length : Int) 1 3
 have ew : inB ((rs.map rgC).length : Int) 1 3 = true := by
  have := h.n
  rw [hm]; unfold inB
  rw [Bool.and_eq_true, decide_eq_true_eq, decide_eq_true_eq]; omega
 rw [ew] at cw
 have ca := allR 91 (fun _ => true) rs (by have := h.n; omega) fun x hx => rate_pure (h.r x hx)
 have ea : rs.all (fun _ => true) = true := List.all_eq_true.2 fun _ _ => rfl
 rw [ea] at ca
 have cl := lists_bor rs
 have hit := lists_iter h.rs 0
 have h0 := h.some
 refine pure_of pg Tryz.func57 (by kernel_rfl) ?_
 conv => whnf
 (repeat' ((first|refine kA ?_|refine kE ?_|apply kB<;>intro _|refine .inl ⟨_, cw, ?_⟩|refine .inl ⟨_, ca, ?_⟩|fail)<;>conv=>whnf))
 (refine .inr ⟨[], 1, _, _, cl, ?_⟩; conv => whnf)
 refine ⟨[2], [1, 2], [0, 1], elE rs, 0, _, fun k ob n1 => k = 0 ∧ n1 = 4 ∧ ob = [(0, mtO rs), (1, .var false 39 [.d (dI 0)])], hit, ?_⟩
 conv => whnf
 refine ⟨⟨rfl, rfl, rfl⟩, ?_, ?_⟩
 ·rintro k ds _ _ hi hile ⟨rfl, rfl, rfl⟩
  obtain ⟨x, _, rfl⟩ := List.mem_map.1 (List.mem_of_getElem? hi)
  refine ⟨rfl, ?_⟩
  conv => whnf
  (repeat' ((first|refine kA ?_|refine kE ?_|apply kB<;>intro _|fail)<;>conv=>whnf))
  (refine ⟨[0, 1], 4, rfl, ?_⟩; conv => whnf)
  (refine ⟨rfl, ?_⟩; conv => whnf)
  rfl
 ·rintro ob n1 h1 ⟨h2, rfl, rfl⟩
  exact absurd (List.eq_nil_of_length_eq_zero (Nat.le_zero.1 h1)) (by rw [List.map_eq_nil_iff]; exact h0)
end Go.Ev.YtijidghjiaiccaaGreat.K


namespace Go.Ev.YtijidghjiaiccaaGreat
open Go.Proofs
theorem lay_drop : ∀ (cs : List Cd), (∀ c ∈ cs, 0 < c.ps.length) → ∀ k, ((cs.map layB).flatten).drop (40 * k) = ((cs.drop k).map layB).flatten
 | [], _, k => by simp
 | c :: r, h, 0 => rfl
 | c :: r, h, k + 1 => by
  rw [List.map_cons, List.flatten_cons, show 40 * (k + 1) = (layB c).length + 40 * k by rw [lay_len (h c (by simp))]; omega, List.drop_append, Nat.add_sub_cancel_left, List.drop_of_length_le (by omega), List.nil_append, lay_drop r (fun x hx => h x (by simp [hx]))]
  rfl
theorem file_one (s : Sh) : fileL [s] = ((cardsL s).map layB).flatten := by
 unfold fileL sheetL
 rw [List.map_cons, List.map_nil, List.flatten_cons, List.flatten_nil, List.append_nil]
theorem tornK_on {s : Sh} (h : ShOK s) (z : Int) : ∀ k, k ≤ (cardsL s).length → tornK (fileL [s]) z k = onB (tornO z) s k
 | 0, _ => by rw [onB_zero]; rfl
 | k + 1, hk => by
  have hpos : ∀ c ∈ cardsL s, 0 < c.ps.length := fun c hc => (h.card hc).1.many.1
  have hc := hpos _ (List.getElem_mem (show k < (cardsL s).length from hk))
  have e : ((fileL [s]).drop (40 * k)).take 40 = layB (cardsL s)[k] := by
   rw [file_one, lay_drop _ hpos, List.drop_eq_getElem_cons (show k < (cardsL s).length from hk), List.map_cons, List.flatten_cons]
   exact List.take_left' (lay_len hc)
  rw [tornK, onB_succ _ (show k < (cardsL s).length from hk), e, tornK_on h z k (by omega)]
  cases tornO z k <;> rfl
theorem torn_on {s : Sh} (h : ShOK s) (z : Int) : tornK (fileL [s]) z ((fileL [s]).length / 40) = onB (tornO z) s (cardsL s).length := by
 have e : (fileL [s]).length = 40 * (cardsL s).length := by rw [file_one, layL_len fun c hc => (h.card hc).1.many.1]
 rw [show (fileL [s]).length / 40 = (cardsL s).length by omega]
 exact tornK_on h z _ (Nat.le_refl _)
theorem torn_by {s : Sh} (h : ShOK s) (z : Int) : By (tornK (fileL [s]) z ((fileL [s]).length / 40)) ∧ (tornK (fileL [s]) z ((fileL [s]).length / 40)).length ≤ 400 ∧ (fileL [s]).length ≤ 400 := by
 have e : (fileL [s]).length = 40 * (cardsL s).length := by rw [file_one, layL_len fun c hc => (h.card hc).1.many.1]
 have := h.many
 rw [torn_on h]
 obtain ⟨h1, h2, _⟩ := on_law h (tornO z)
 exact ⟨h1, h2, by omega⟩
end Go.Ev.YtijidghjiaiccaaGreat


namespace Go.Ev.YtijidghjiaiccaaGreat.K
open Go.Proofs
attribute [local irreducible] Pure Bor Iter SubC
abbrev sgC (k : Nat) (n : Int) : List D := [dI k, dI n, dI n]
abbrev sgA (k : Nat) (n : Int) : D := .agg (sgC k n)
abbrev rnC (k : Nat) (x : Int × Int) : List D := [.seq ([x.1].map (sgC k)), dI x.2, dI x.2]
abbrev rnA (k : Nat) (x : Int × Int) : D := .agg (rnC k x)
abbrev rnsD (k : Nat) (R : List (Int × Int)) : D := .seq (R.map (rnC k))
structure RnOK (rs : List (Int × Int)) (k : Nat) (R : List (Int × Int)) : Prop where
 k : k < rs.length
 n : R.length ≤ 6
 r : ∀ x ∈ R, 0 ≤ x.1 ∧ x.1 ≤ 1000000 ∧ 0 ≤ x.2 ∧ x.2 ≤ 1000000000
theorem oneS {rs : List (Int × Int)} {k : Nat} (x : Int) (hp : Pure Tryz.prog 96 [mtD rs, sgA k x] (dB true)) : Bor tb Tryz.prog 127 [.d (sgA k x), .ref 0 0] [.var false 205 [.d (.fn (.func 96) [mtD rs] [])]] 2 (.d (dB false)) [(0, .var false 205 [.d (.fn (.func 96) [mtD rs] [])])] := by
 refine bor_of pg Tryz.func127 (by kernel_rfl) ?_
 conv => whnf
 (repeat' ((first|refine kA ?_|refine kE ?_|apply kB<;>intro _|refine .inl ⟨_, hp, ?_⟩|fail)<;>conv=>whnf))
 (refine ⟨[], [0], ?_⟩; conv => whnf)
 exact ⟨rfl, rfl⟩
theorem idxS {rs : List (Int × Int)} {k : Nat} (l : List (Int)) (hl : l.length ≤ 100000) (hp : ∀ x ∈ l, Pure Tryz.prog 96 [mtD rs, sgA k x] (dB true)) : Bor tb Tryz.prog 148 [.d (.seq (l.map (sgC k))), .fn (.func 127) [] [.ref 0 0]] [.var false 205 [.d (.fn (.func 96) [mtD rs] [])]] 2 (.d (dI (-1))) [(0, .var false 205 [.d (.fn (.func 96) [mtD rs] [])])] := by
 have hm : ((l.map (sgC k)).length : Int) = l.length := by rw [List.length_map]
 refine bor_of pg Tryz.func148 (by kernel_rfl) ?_
 conv => whnf
 (repeat' ((first|refine kA ?_|refine kE ?_|apply kB<;>intro _|fail)<;>conv=>whnf))
 refine ⟨[], [0, 1, 7, 8], [0], 1, fun m s => ∃ q : Nat, q + m = l.length ∧ s = ⟨[(0, .d (.seq (l.map (sgC k)))), (1, .fn (.func 127) [] [.ref 0 0]), (7, .d (dI ((l.map (sgC k)).length : Nat))), (8, .d (dI q))], [(0, .var false 205 [.d (.fn (.func 96) [mtD rs] [])])], 1⟩, ?_, ?_⟩
 ·conv => whnf
  exact ⟨l.length, 0, by omega, rfl⟩
 ·rintro m _ ⟨q, hk, rfl⟩
  by_cases hkl : q < l.length
  ·have f1 : decide ((q : Int) < ((l.map (sgC k)).length : Int)) = true := decide_eq_true (by rw [hm]; omega)
   have hg : (l.map (sgC k))[q]? = some ((sgC k) l[q]) := by rw [List.getElem?_map, List.getElem?_eq_getElem hkl]; rfl
   have cs := oneS (x := l[q]) (hp := hp _ (List.getElem_mem _))
   conv => whnf
   (repeat' ((first|refine kA ?_|refine kE ?_|apply kB<;>intro _|fail)<;>conv=>whnf))
   (refine ⟨q, _, rfl, hg, rfl, ?_⟩; conv => whnf)
   (refine .inr ⟨[0], 2, _, _, cs, ?_⟩; conv => whnf)
   (repeat' ((first|refine kA ?_|refine kE ?_|apply kB<;>intro _|fail)<;>conv=>whnf))
   exact ⟨m - 1, by omega, q + 1, by omega, by rw [w1 q (by omega)]⟩
  ·have f1 : decide ((q : Int) < ((l.map (sgC k)).length : Int)) = false := decide_eq_false (by rw [hm]; omega)
   conv => whnf
   (repeat' ((first|refine kA ?_|refine kE ?_|apply kB<;>intro _|fail)<;>conv=>whnf))
   (refine ⟨[], [0], ?_⟩; conv => whnf)
   exact ⟨rfl, rfl⟩
theorem allS {rs : List (Int × Int)} {k : Nat} (l : List (Int)) (hl : l.length ≤ 100000) (hp : ∀ x ∈ l, Pure Tryz.prog 96 [mtD rs, sgA k x] (dB true)) : Pure Tryz.prog 95 [.seq (l.map (sgC k)), .fn (.func 96) [mtD rs] []] (dB true) := by
 have ci := idxS (l := l) (hl := hl) (hp := hp)
 have ch : Bor tb Tryz.prog 126 [.d (.seq (l.map (sgC k))), .fn (.func 127) [] [.ref 0 0]] [.var false 205 [.d (.fn (.func 96) [mtD rs] [])]] 2 (.d (dB false)) [(0, .var false 205 [.d (.fn (.func 96) [mtD rs] [])])] := by
  refine bor_of pg Tryz.func126 (by kernel_rfl) ?_
  conv => whnf
  (repeat' ((first|refine kA ?_|refine kE ?_|apply kB<;>intro _|fail)<;>conv=>whnf))
  (refine .inr ⟨[0], 2, _, _, ci, ?_⟩; conv => whnf)
  (repeat' ((first|refine kA ?_|refine kE ?_|apply kB<;>intro _|fail)<;>conv=>whnf))
  (refine ⟨[], [0], ?_⟩; conv => whnf)
  exact ⟨rfl, rfl⟩
 refine pure_of pg Tryz.func95 (by kernel_rfl) ?_
 conv => whnf
 (repeat' ((first|refine kA ?_|refine kE ?_|apply kB<;>intro _|fail)<;>conv=>whnf))
 (refine .inr ⟨[0], 2, _, _, ch, ?_⟩; conv => whnf)
 (repeat' ((first|refine kA ?_|refine kE ?_|apply kB<;>intro _|fail)<;>conv=>whnf))
 rfl
theorem oneRN {k : Nat} (x : Int × Int) (hp : Pure Tryz.prog 59 [rnA k x] (dB true)) : Bor tb Tryz.prog 93 [.d (rnA k x), .ref 0 0] [.var false 169 [.d (.fn (.func 59) [] [])]] 2 (.d (dB false)) [(0, .var false 169 [.d (.fn (.func 59) [] [])])] := by
 refine bor_of pg Tryz.func93 (by kernel_rfl) ?_
 conv => whnf
 (repeat' ((first|refine kA ?_|refine kE ?_|apply kB<;>intro _|refine .inl ⟨_, hp, ?_⟩|fail)<;>conv=>whnf))
 (refine ⟨[], [0], ?_⟩; conv => whnf)
 exact ⟨rfl, rfl⟩
theorem oneRM {rs : List (Int × Int)} {k : Nat} (x : Int × Int) (hp : Pure Tryz.prog 60 [mtD rs, rnA k x] (dB true)) : Bor tb Tryz.prog 93 [.d (rnA k x), .ref 0 0] [.var false 169 [.d (.fn (.func 60) [mtD rs] [])]] 2 (.d (dB false)) [(0, .var false 169 [.d (.fn (.func 60) [mtD rs] [])])] := by
 refine bor_of pg Tryz.func93 (by kernel_rfl) ?_
 conv => whnf
 (repeat' ((first|refine kA ?_|refine kE ?_|apply kB<;>intro _|refine .inl ⟨_, hp, ?_⟩|fail)<;>conv=>whnf))
 (refine ⟨[], [0], ?_⟩; conv => whnf)
 exact ⟨rfl, rfl⟩
theorem idxRN {k f : Nat} {cap : List D} (l : List (Int × Int)) (hl : l.length ≤ 100000) (hp : ∀ x ∈ l, Bor tb Tryz.prog 93 [.d (rnA k x), .ref 0 0] [.var false 169 [.d (.fn (.func f) cap [])]] 2 (.d (dB false)) [(0, .var false 169 [.d (.fn (.func f) cap [])])]) : Bor tb Tryz.prog 125 [.d (.seq (l.map (rnC k))), .fn (.func 93) [] [.ref 0 0]] [.var false 169 [.d (.fn (.func f) cap [])]] 2 (.d (dI (-1))) [(0, .var false 169 [.d (.fn (.func f) cap [])])] := by
 have hm : ((l.map (rnC k)).length : Int) = l.length := by rw [List.length_map]
 refine bor_of pg Tryz.func125 (by kernel_rfl) ?_
 conv => whnf
 (repeat' ((first|refine kA ?_|refine kE ?_|apply kB<;>intro _|fail)<;>conv=>whnf))
 refine ⟨[], [0, 1, 7, 8], [0], 1, fun m s => ∃ q : Nat, q + m = l.length ∧ s = ⟨[(0, .d (.seq (l.map (rnC k)))), (1, .fn (.func 93) [] [.ref 0 0]), (7, .d (dI ((l.map (rnC k)).length : Nat))), (8, .d (dI q))], [(0, .var false 169 [.d (.fn (.func f) cap [])])], 1⟩, ?_, ?_⟩
 ·conv => whnf
  exact ⟨l.length, 0, by omega, rfl⟩
 ·rintro m _ ⟨q, hk, rfl⟩
  by_cases hkl : q < l.length
  ·have f1 : decide ((q : Int) < ((l.map (rnC k)).length : Int)) = true := decide_eq_true (by rw [hm]; omega)
   have hg : (l.map (rnC k))[q]? = some ((rnC k) l[q]) := by rw [List.getElem?_map, List.getElem?_eq_getElem hkl]; rfl
   have cs := hp _ (List.getElem_mem hkl)
   conv => whnf
   (repeat' ((first|refine kA ?_|refine kE ?_|apply kB<;>intro _|fail)<;>conv=>whnf))
   (refine ⟨q, _, rfl, hg, rfl, ?_⟩; conv => whnf)
   (refine .inr ⟨[0], 2, _, _, cs, ?_⟩; conv => whnf)
   (repeat' ((first|refine kA ?_|refine kE ?_|apply kB<;>intro _|fail)<;>conv=>whnf))
   exact ⟨m - 1, by omega, q + 1, by omega, by rw [w1 q (by omega)]⟩
  ·have f1 : decide ((q : Int) < ((l.map (rnC k)).length : Int)) = false := decide_eq_false (by rw [hm]; omega)
   conv => whnf
   (repeat' ((first|refine kA ?_|refine kE ?_|apply kB<;>intro _|fail)<;>conv=>whnf))
   (refine ⟨[], [0], ?_⟩; conv => whnf)
   exact ⟨rfl, rfl⟩
theorem allRN {k f : Nat} {cap : List D} (l : List (Int × Int)) (hl : l.length ≤ 100000) (hp : ∀ x ∈ l, Bor tb Tryz.prog 93 [.d (rnA k x), .ref 0 0] [.var false 169 [.d (.fn (.func f) cap [])]] 2 (.d (dB false)) [(0, .var false 169 [.d (.fn (.func f) cap [])])]) : Pure Tryz.prog 58 [.seq (l.map (rnC k)), .fn (.func f) cap []] (dB true) := by
 have ci := idxRN (l := l) (hl := hl) (hp := hp)
 have ch : Bor tb Tryz.prog 92 [.d (.seq (l.map (rnC k))), .fn (.func 93) [] [.ref 0 0]] [.var false 169 [.d (.fn (.func f) cap [])]] 2 (.d (dB false)) [(0, .var false 169 [.d (.fn (.func f) cap [])])] := by
  refine bor_of pg Tryz.func92 (by kernel_rfl) ?_
  conv => whnf
  (repeat' ((first|refine kA ?_|refine kE ?_|apply kB<;>intro _|fail)<;>conv=>whnf))
  (refine .inr ⟨[0], 2, _, _, ci, ?_⟩; conv => whnf)
  (repeat' ((first|refine kA ?_|refine kE ?_|apply kB<;>intro _|fail)<;>conv=>whnf))
  (refine ⟨[], [0], ?_⟩; conv => whnf)
  exact ⟨rfl, rfl⟩
 refine pure_of pg Tryz.func58 (by kernel_rfl) ?_
 conv => whnf
 (repeat' ((first|refine kA ?_|refine kE ?_|apply kB<;>intro _|fail)<;>conv=>whnf))
 (refine .inr ⟨[0], 2, _, _, ch, ?_⟩; conv => whnf)
 (repeat' ((first|refine kA ?_|refine kE ?_|apply kB<;>intro _|fail)<;>conv=>whnf))
 rfl
theorem upto_pure {a b m : Int} (h : 0 ≤ a ∧ a ≤ b ∧ b ≤ m) : Pure Tryz.prog 94 [.agg [dI a, dI b], dI m] (dB true) := by
 have g1 : decide (0 ≤ a) = true := decide_eq_true h.1
 have g2 : decide (a ≤ b) = true := decide_eq_true h.2.1
 have g3 : decide (b ≤ m) = true := decide_eq_true h.2.2
 refine pure_of pg Tryz.func94 (by kernel_rfl) ?_
 conv => whnf
 (repeat' ((first|refine kA ?_|refine kE ?_|apply kB<;>intro _|fail)<;>conv=>whnf))
 rw [g3]
 rfl
theorem seg_pure {rs : List (Int × Int)} {k : Nat} (hk : k < rs.length) (h3 : rs.length ≤ 3) {n : Int} (h : 0 ≤ n ∧ n ≤ 1000000) : Pure Tryz.prog 96 [mtD rs, sgA k n] (dB true) := by
 have cu := upto_pure (a := n) (b := n) (m := 1000000) ⟨h.1, Int.le_refl _, h.2⟩
 have hm : ((rs.map rgC).length : Int) = rs.length := by rw [List.length_map]
 have cw := within_pure (k : Int) 0 (IntKind.i64.wrap (((rs.map rgC).length : Int) - 1))
 have ew : inB (k : Int) 0 (IntKind.i64.wrap (((rs.map rgC).length : Int) - 1)) = true := by
  rw [hm, wrapI (by omega) (by omega)]; unfold inB
  rw [Bool.and_eq_true, decide_eq_true_eq, decide_eq_true_eq]; omega
 rw [ew] at cw
 refine pure_of pg Tryz.func96 (by kernel_rfl) ?_
 conv => whnf
 (repeat' ((first|refine kA ?_|refine kE ?_|apply kB<;>intro _|refine .inl ⟨_, cw, ?_⟩|refine .inl ⟨_, cu, ?_⟩|fail)<;>conv=>whnf))
 rfl
theorem run_pure {rs : List (Int × Int)} {k : Nat} (hk : k < rs.length) (h3 : rs.length ≤ 3) {x : Int × Int} (h : 0 ≤ x.1 ∧ x.1 ≤ 1000000 ∧ 0 ≤ x.2 ∧ x.2 ≤ 1000000000) : Pure Tryz.prog 60 [mtD rs, rnA k x] (dB true) := by
 have cu := upto_pure (a := x.2) (b := x.2) (m := 10000000000) ⟨h.2.2.1, Int.le_refl _, by omega⟩
 have ca := allS (rs := rs) (k := k) [x.1] (by simp) fun y hy => by rw [List.mem_singleton.1 hy]; exact seg_pure hk h3 ⟨h.1, h.2.1⟩
 refine pure_of pg Tryz.func60 (by kernel_rfl) ?_
 conv => whnf
 (repeat' ((first|refine kA ?_|refine kE ?_|apply kB<;>intro _|refine .inl ⟨_, cu, ?_⟩|refine .inl ⟨_, ca, ?_⟩|fail)<;>conv=>whnf))
 rfl
theorem few_pure (k : Nat) (x : Int × Int) : Pure Tryz.prog 59 [rnA k x] (dB true) := by
 refine pure_of pg Tryz.func59 (by kernel_rfl) ?_
 conv => whnf
 (repeat' ((first|refine kA ?_|refine kE ?_|apply kB<;>intro _|fail)<;>conv=>whnf))
 rfl
abbrev roomR (rs : List (Int × Int)) (k : Nat) (R : List (Int × Int)) (m : Nat) : Ob := .var false 172 [.d (.seq (rs.map rgC)), .d (rnsD k R), .own m]
theorem enterR {rs : List (Int × Int)} (h : MtOK rs) {k : Nat} {R : List (Int × Int)} (hR : RnOK rs k R) : Bor tb Tryz.prog 33 [.d (mtD rs), .d (rnsD k R)] [] 3 (.tup [.ref 2 0, .d (dI 0)]) [(1, .map 123 4 []), (2, roomR rs k R 1)] := by
 have c1 := check_pure h
 have c2 := allRN (k := k) (f := 59) (cap := []) R (by have := hR.n; omega) fun x _ => oneRN x (few_pure k x)
 have c3 := allRN (k := k) (f := 60) (cap := [mtD rs]) R (by have := hR.n; omega) fun x hx => oneRM x (run_pure hR.k h.n.2 (hR.r x hx))
 have hm : ((R.map (rnC k)).length : Int) = R.length := by rw [List.length_map]
 have g1 : decide (((R.map (rnC k)).length : Int) > 6) = false := decide_eq_false (by have := hR.n; rw [hm]; omega)
 refine bor_of pg Tryz.func33 (by kernel_rfl) ?_
 conv => whnf
 (repeat' ((first|refine kA ?_|refine kE ?_|apply kB<;>intro _|refine .inl ⟨_, c1, ?_⟩|refine .inl ⟨_, c2, ?_⟩|refine .inl ⟨_, c3, ?_⟩|fail)<;>conv=>whnf))
 (refine ⟨[], [1, 2], ?_⟩; conv => whnf)
 exact ⟨rfl, rfl⟩
end Go.Ev.YtijidghjiaiccaaGreat.K


namespace Go.Ev.YtijidghjiaiccaaGreat.K
open Go.Proofs
attribute [local irreducible] Pure Bor Iter SubC
theorem sum_one {n : Int} (h : 0 ≤ n ∧ n ≤ 1000000000) : Pure Tryz.prog 149 [.seq [[dI n]]] (dI n) := by
 have w0 : IntKind.i64.wrap (0 + n) = n := by rw [Int.zero_add]; exact wrapI (by omega) (by omega)
 refine pure_of pg Tryz.func149 (by kernel_rfl) ?_
 conv => whnf
 (repeat' ((first|refine kA ?_|refine kE ?_|apply kB<;>intro _|fail)<;>conv=>whnf))
 refine ⟨[], [2, 5, 6, 7], [], 0, fun m s => (m = 1 ∧ s = ⟨[(2, .d (dI 0)), (5, .d (.seq [[dI n]])), (6, .d (dI 1)), (7, .d (dI 0))], [], 0⟩) ∨ (m = 0 ∧ s = ⟨[(2, .d (dI n)), (5, .d (.seq [[dI n]])), (6, .d (dI 1)), (7, .d (dI 1))], [], 0⟩), ?_, ?_⟩
 ·conv => whnf
  exact ⟨1, .inl ⟨rfl, rfl⟩⟩
 ·rintro m _ (⟨rfl, rfl⟩ | ⟨rfl, rfl⟩)
  ·conv => whnf
   (repeat' ((first|refine kA ?_|refine kE ?_|apply kB<;>intro _|fail)<;>conv=>whnf))
   (refine ⟨0, _, rfl, rfl, rfl, ?_⟩; conv => whnf)
   (repeat' ((first|refine kA ?_|refine kE ?_|apply kB<;>intro _|fail)<;>conv=>whnf))
   exact ⟨0, by decide, .inr ⟨rfl, by rw [w0]; rfl⟩⟩
  ·conv => whnf
   (repeat' ((first|refine kA ?_|refine kE ?_|apply kB<;>intro _|fail)<;>conv=>whnf))
   rfl
theorem end_pure (f : Nat) (hf : f = 129 ∨ f = 130) (n : Int) : Pure Tryz.prog f [.agg [dI n, dI n]] (dI n) := by
 rcases hf with rfl | rfl
 ·refine pure_of pg Tryz.func129 (by kernel_rfl) ?_
  conv => whnf
  (repeat' ((first|refine kA ?_|refine kE ?_|apply kB<;>intro _|fail)<;>conv=>whnf))
  rfl
 ·refine pure_of pg Tryz.func130 (by kernel_rfl) ?_
  conv => whnf
  (repeat' ((first|refine kA ?_|refine kE ?_|apply kB<;>intro _|fail)<;>conv=>whnf))
  rfl
theorem at_pure (f : Nat) (hf : f = 129 ∨ f = 130) {k : Nat} (hk : k < 3) {r : List Int} (hr : L3 r) {n : Int} (h : 0 ≤ n ∧ n ≤ 1000000) : Pure Tryz.prog 128 [.seq [sgC k n], rtD r, .agg [.fn (.func f) [] []]] (dI (r.getD k 0 * n)) := by
 have ce := end_pure f hf n
 have hb := hr.getD k
 have hv : 0 ≤ r.getD k 0 * n ∧ r.getD k 0 * n ≤ 1000000000 := ⟨Int.mul_nonneg hb.1 h.1, Int.le_trans (Int.mul_le_mul hb.2 h.2 h.1 (by omega)) (by omega)⟩
 have cs := sum_one hv
 have wv : IntKind.i64.wrap (r.getD k 0 * n) = r.getD k 0 * n := wrapI (by omega) (by omega)
 obtain ⟨v, hve⟩ : ∃ v, v = r.getD k 0 * n := ⟨_, rfl⟩
 rw [← hve] at cs wv ⊢
 obtain ⟨a, b, c, rfl⟩ : ∃ a b c, r = [a, b, c] := by
  match r, hr.1 with
  | [a, b, c], _ => exact ⟨a, b, c, rfl⟩
 refine pure_of pg Tryz.func128 (by kernel_rfl) ?_
 conv => whnf
 (repeat' ((first|refine kA ?_|refine kE ?_|apply kB<;>intro _|fail)<;>conv=>whnf))
 refine ⟨[.own 7 3, .rex], [4, 5, 6, 7, 10, 11, 12], [0, 1, 2], 3, fun m s => (m = 1 ∧ s = ⟨[(4, .ref 0 0), (5, .ref 1 0), (6, .d (dI 0)), (7, .own 2), (10, .d (.seq [sgC k n])), (11, .d (dI 1)), (12, .d (dI 0))], [(0, .var false 123 [.d (dI a), .d (dI b), .d (dI c)]), (1, .var false 238 [.d (.fn (.func f) [] [])]), (2, .arr 3 [])], 3⟩) ∨ (m = 0 ∧ s = ⟨[(4, .ref 0 0), (5, .ref 1 0), (6, .d (dI 0)), (7, .own 2), (10, .d (.seq [sgC k n])), (11, .d (dI 1)), (12, .d (dI 1))], [(0, .var false 123 [.d (dI a), .d (dI b), .d (dI c)]), (1, .var false 238 [.d (.fn (.func f) [] [])]), (2, .arr 3 [[dI v]])], 3⟩), ?_, ?_⟩
 ·conv => whnf
  exact ⟨1, .inl ⟨rfl, rfl⟩⟩
 ·rintro m _ (⟨rfl, rfl⟩ | ⟨rfl, rfl⟩)
  ·rcases (by omega : k = 0 ∨ k = 1 ∨ k = 2) with rfl | rfl | rfl
   ·have wa : IntKind.i64.wrap (a * n) = v := (congrArg _ hve.symm).trans wv
    conv => whnf
    (repeat' ((first|refine kA ?_|refine kE ?_|apply kB<;>intro _|fail)<;>conv=>whnf))
    (refine ⟨0, _, rfl, rfl, rfl, ?_⟩; conv => whnf)
    (repeat' ((first|refine kA ?_|refine kE ?_|apply kB<;>intro _|fail)<;>conv=>whnf))
    (refine ⟨0, rfl, by decide, ?_⟩; conv => whnf)
    (repeat' ((first|refine kA ?_|refine kE ?_|apply kB<;>intro _|fail)<;>conv=>whnf))
    (refine .inl ⟨_, ce, ?_⟩; conv => whnf)
    (repeat' ((first|refine kA ?_|refine kE ?_|apply kB<;>intro _|fail)<;>conv=>whnf))
    (refine .l ?_; conv => whnf)
    (refine ⟨fun el h => by rw [List.mem_singleton.1 h]; rfl, by show (0 + 1) * 8 ≤ _; omega, ?_⟩; conv => whnf)
    (repeat' ((first|refine kA ?_|refine kE ?_|apply kB<;>intro _|fail)<;>conv=>whnf))
    (refine ⟨[0, 1, 100], ?_⟩; conv => whnf)
    exact ⟨0, by decide, .inr ⟨rfl, by rw [wa]; rfl⟩⟩
   ·have wa : IntKind.i64.wrap (b * n) = v := (congrArg _ hve.symm).trans wv
    conv => whnf
    (repeat' ((first|refine kA ?_|refine kE ?_|apply kB<;>intro _|fail)<;>conv=>whnf))
    (refine ⟨0, _, rfl, rfl, rfl, ?_⟩; conv => whnf)
    (repeat' ((first|refine kA ?_|refine kE ?_|apply kB<;>intro _|fail)<;>conv=>whnf))
    (refine ⟨1, rfl, by decide, ?_⟩; conv => whnf)
    (repeat' ((first|refine kA ?_|refine kE ?_|apply kB<;>intro _|fail)<;>conv=>whnf))
    (refine .inl ⟨_, ce, ?_⟩; conv => whnf)
    (repeat' ((first|refine kA ?_|refine kE ?_|apply kB<;>intro _|fail)<;>conv=>whnf))
    (refine .l ?_; conv => whnf)
    (refine ⟨fun el h => by rw [List.mem_singleton.1 h]; rfl, by show (0 + 1) * 8 ≤ _; omega, ?_⟩; conv => whnf)
    (repeat' ((first|refine kA ?_|refine kE ?_|apply kB<;>intro _|fail)<;>conv=>whnf))
    (refine ⟨[0, 1, 100], ?_⟩; conv => whnf)
    exact ⟨0, by decide, .inr ⟨rfl, by rw [wa]; rfl⟩⟩
   ·have wa : IntKind.i64.wrap (c * n) = v := (congrArg _ hve.symm).trans wv
    conv => whnf
    (repeat' ((first|refine kA ?_|refine kE ?_|apply kB<;>intro _|fail)<;>conv=>whnf))
    (refine ⟨0, _, rfl, rfl, rfl, ?_⟩; conv => whnf)
    (repeat' ((first|refine kA ?_|refine kE ?_|apply kB<;>intro _|fail)<;>conv=>whnf))
    (refine ⟨2, rfl, by decide, ?_⟩; conv => whnf)
    (repeat' ((first|refine kA ?_|refine kE ?_|apply kB<;>intro _|fail)<;>conv=>whnf))
    (refine .inl ⟨_, ce, ?_⟩; conv => whnf)
    (repeat' ((first|refine kA ?_|refine kE ?_|apply kB<;>intro _|fail)<;>conv=>whnf))
    (refine .l ?_; conv => whnf)
    (refine ⟨fun el h => by rw [List.mem_singleton.1 h]; rfl, by show (0 + 1) * 8 ≤ _; omega, ?_⟩; conv => whnf)
    (repeat' ((first|refine kA ?_|refine kE ?_|apply kB<;>intro _|fail)<;>conv=>whnf))
    (refine ⟨[0, 1, 100], ?_⟩; conv => whnf)
    exact ⟨0, by decide, .inr ⟨rfl, by rw [wa]; rfl⟩⟩
  ·conv => whnf
   (repeat' ((first|refine kA ?_|refine kE ?_|apply kB<;>intro _|fail)<;>conv=>whnf))
   (refine .inl ⟨_, cs, ?_⟩; conv => whnf)
   (refine .r ?_; conv => whnf)
   rfl
def okE (k : Nat) (r : List Int) (x : Int × Int) : Bool := decide (r.getD k 0 * x.1 ≤ x.2) && decide (r.getD k 0 * x.1 ≥ x.2)
theorem okE_iff {k : Nat} {r : List Int} {x : Int × Int} : okE k r x = true ↔ r.getD k 0 * x.1 = x.2 := by
 unfold okE
 rw [Bool.and_eq_true, decide_eq_true_eq, decide_eq_true_eq]
 omega
theorem allows_pure {k : Nat} (hk : k < 3) {r : List Int} (hr : L3 r) {x : Int × Int} (h : 0 ≤ x.1 ∧ x.1 ≤ 1000000) : Pure Tryz.prog 62 [rnA k x, rtD r] (dB (okE k r x)) := by
 have c1 := at_pure 129 (.inl rfl) hk hr h
 have c2 := at_pure 130 (.inr rfl) hk hr h
 obtain ⟨a, b, c, rfl⟩ : ∃ a b c, r = [a, b, c] := by
  match r, hr.1 with
  | [a, b, c], _ => exact ⟨a, b, c, rfl⟩
 unfold okE
 obtain ⟨v, hv⟩ : ∃ v, v = [a, b, c].getD k 0 * x.1 := ⟨_, rfl⟩
 rw [← hv] at c1 c2 ⊢
 have cs : Pure Tryz.prog 97 [.seq [sgC k x.1], rtD [a, b, c]] (.agg [dI v, dI v]) := by
  refine pure_of pg Tryz.func97 (by kernel_rfl) ?_
  conv => whnf
  (repeat' ((first|refine kA ?_|refine kE ?_|apply kB<;>intro _|refine .inl ⟨_, c1, ?_⟩|refine .inl ⟨_, c2, ?_⟩|fail)<;>conv=>whnf))
  rfl
 refine pure_of pg Tryz.func62 (by kernel_rfl) ?_
 conv => whnf
 (repeat' ((first|refine kA ?_|refine kE ?_|apply kB<;>intro _|refine .inl ⟨_, cs, ?_⟩|fail)<;>conv=>whnf))
 all_goals (rename_i h; rw [h]; rfl)
end Go.Ev.YtijidghjiaiccaaGreat.K


namespace Go.Ev.YtijidghjiaiccaaGreat.K
open Go.Proofs
attribute [local irreducible] Pure Bor Iter SubC
def okA (k : Nat) (R : List (Int × Int)) (r : List Int) : Bool := R.all (okE k r)
def knB (ok : List Int → Bool) (ls : List (List Int)) : List (D × D) := ls.map fun l => (rtD l, dB (ok l))
theorem key3 (l l' : List Int) (h : l.length = 3) (h' : l'.length = 3) : keyEq (rtD l) (rtD l') = decide (l = l') := by
 match l, h, l', h' with
 | [a, b, c], _, [x, y, z], _ =>
  show (a == x && (b == y && (c == z && true))) = _
  rw [Bool.eq_iff_iff]
  simp
def L3s (ls : List (List Int)) : Prop := ∀ l ∈ ls, l.length = 3
theorem knB_get (ok : List Int → Bool) : ∀ (ls : List (List Int)) (l : List Int), L3s ls → l.length = 3 → mapGet (knB ok ls) (rtD l) = if l ∈ ls then some (dB (ok l)) else none
 | [], l, _, _ => rfl
 | x :: r, l, hs, h => by
  have ih := knB_get ok r l (fun y hy => hs y (List.mem_cons_of_mem _ hy)) h
  show (bif keyEq (rtD l) (rtD x) then some (dB (ok x)) else mapGet (knB ok r) (rtD l)) = _
  rw [key3 l x h (hs x (by simp)), ih]
  by_cases e : l = x
  ·rw [decide_eq_true e, cond_true, if_pos (by simp [e]), e]
  ·rw [decide_eq_false e, cond_false]
   have : (l ∈ x :: r) ↔ (l ∈ r) := by rw [List.mem_cons]; exact ⟨fun h => h.resolve_left e, .inr⟩
   simp only [this]
theorem knB_set (ok : List Int → Bool) : ∀ (ls : List (List Int)) (l : List Int), L3s ls → l.length = 3 → l ∉ ls → mapSet (knB ok ls) (rtD l) (dB (ok l)) = knB ok (ls ++ [l])
 | [], l, _, _, _ => rfl
 | x :: r, l, hs, h, hn => by
  have ih := knB_set ok r l (fun y hy => hs y (List.mem_cons_of_mem _ hy)) h (fun hh => hn (List.mem_cons_of_mem _ hh))
  show (bif keyEq (rtD l) (rtD x) then _ else (rtD x, dB (ok x)) :: mapSet (knB ok r) (rtD l) (dB (ok l))) = _
  rw [key3 l x h (hs x (by simp)), decide_eq_false (fun e => hn (by simp [e])), cond_false, ih]
  rfl
def addK (ls : List (List Int)) (l : List Int) : List (List Int) := if l ∈ ls then ls else ls ++ [l]
theorem addK_3 {ls : List (List Int)} {l : List Int} (h : L3s ls) (hl : l.length = 3) : L3s (addK ls l) := fun x hx => by
 unfold addK at hx
 split at hx
 ·exact h x hx
 ·rcases List.mem_append.1 hx with hx | hx
  ·exact h x hx
  ·rw [List.mem_singleton.1 hx]; exact hl
attribute [local irreducible] knB okE
theorem allowedR {rs : List (Int × Int)} {k : Nat} {R : List (Int × Int)} (h3 : rs.length ≤ 3) (hR : RnOK rs k R) (ls : List (List Int)) (l : List Int) (hs : L3s ls) (hl : L3 l) :
  Bor tb Tryz.prog 35 [.ref 1 0, .d (rtD l)] [.map 123 4 (knB (okA k R) ls), roomR rs k R 0] 2 (.d (dB (okA k R l))) [(0, .map 123 4 (knB (okA k R) (addK ls l))), (1, roomR rs k R 0)] := by
 have hg := knB_get (okA k R) ls l hs hl.1
 have hk : k < 3 := by have := hR.k; omega
 have hal : ∀ x ∈ R, Pure Tryz.prog 62 [rnA k x, rtD l] (dB (okE k l x)) := fun x hx => allows_pure hk hl ⟨(hR.r x hx).1, (hR.r x hx).2.1⟩
 unfold addK
 by_cases hm : l ∈ ls
 ·rw [if_pos hm] at hg ⊢
  obtain ⟨a, b, c, rfl⟩ : ∃ a b c, l = [a, b, c] := by
   match l, hl.1 with
   | [a, b, c], _ => exact ⟨a, b, c, rfl⟩
  obtain ⟨B, hB⟩ : ∃ B, B = okA k R [a, b, c] := ⟨_, rfl⟩
  rw [← hB] at hg ⊢
  refine bor_of pg Tryz.func35 (by kernel_rfl) ?_
  conv => whnf
  (repeat' ((first|refine kA ?_|refine kE ?_|apply kB<;>intro _|fail)<;>conv=>whnf))
  (refine ⟨_, hg, ?_⟩; conv => whnf)
  (repeat' ((first|refine kA ?_|refine kE ?_|apply kB<;>intro _|fail)<;>conv=>whnf))
  (refine ⟨[], [0, 1], ?_⟩; conv => whnf)
  exact ⟨rfl, rfl⟩
 ·rw [if_neg hm] at hg ⊢
  have hset := knB_set (okA k R) ls l hs hl.1 hm
  obtain ⟨a, b, c, rfl⟩ : ∃ a b c, l = [a, b, c] := by
   match l, hl.1 with
   | [a, b, c], _ => exact ⟨a, b, c, rfl⟩
  have hm : ((R.map (rnC k)).length : Int) = R.length := by rw [List.length_map]
  have hR6 := hR.n
  obtain ⟨B, hB⟩ : ∃ B, B = okA k R [a, b, c] := ⟨_, rfl⟩
  rw [← hB] at hset ⊢
  refine bor_of pg Tryz.func35 (by kernel_rfl) ?_
  conv => whnf
  (repeat' ((first|refine kA ?_|refine kE ?_|apply kB<;>intro _|fail)<;>conv=>whnf))
  (refine ⟨_, hg, ?_⟩; conv => whnf)
  (repeat' ((first|refine kA ?_|refine kE ?_|apply kB<;>intro _|fail)<;>conv=>whnf))
  refine ⟨[], [0, 3, 5, 24, 25, 26], [0, 1, 2], 3, fun m s => ∃ j : Nat, j + m = R.length ∧ (∀ i (h1 : i < R.length), i < j → okE k [a, b, c] R[i] = true) ∧ s = ⟨[(0, .ref 1 0), (3, .ref 2 0), (5, .d (dB true)), (24, .d (rnsD k R)), (25, .d (dI (R.map (rnC k)).length)), (26, .d (dI j))], [(0, .map 123 4 (knB (okA k R) ls)), (1, roomR rs k R 0), (2, .var false 123 [.d (dI a), .d (dI b), .d (dI c)])], 3⟩, ?_, ?_⟩
  ·conv => whnf
   exact ⟨R.length, 0, by omega, fun i _ h => by omega, rfl⟩
  ·rintro m _ ⟨j, hj, hok, rfl⟩
   by_cases hjl : j < R.length
   ·have g1 : decide ((j : Int) < ((R.map (rnC k)).length : Int)) = true := decide_eq_true (by rw [hm]; omega)
    have hgr : (R.map (rnC k))[j]? = some (rnC k R[j]) := by rw [List.getElem?_map, List.getElem?_eq_getElem hjl]; rfl
    have ca := hal _ (List.getElem_mem hjl)
    by_cases ho : okE k [a, b, c] R[j] = true
    ·have go : (!okE k [a, b, c] R[j]) = false := by rw [ho]; rfl
     conv => whnf
     (repeat' ((first|refine kA ?_|refine kE ?_|apply kB<;>intro _|fail)<;>conv=>whnf))
     (refine ⟨j, _, rfl, hgr, rfl, ?_⟩; conv => whnf)
     (repeat' ((first|refine kA ?_|refine kE ?_|apply kB<;>intro _|fail)<;>conv=>whnf))
     (refine .inl ⟨_, ca, ?_⟩; conv => whnf)
     (repeat' ((first|refine kA ?_|refine kE ?_|apply kB<;>intro _|fail)<;>conv=>whnf))
     exact ⟨m - 1, by omega, j + 1, by omega, fun i h1 h2 => by
      by_cases h : i < j
      ·exact hok i h1 h
      ·obtain rfl : i = j := by omega
       exact ho, by rw [w1 j (by omega)]⟩
    ·have ho := (Bool.not_eq_true _).mp ho
     have go : (!okE k [a, b, c] R[j]) = true := by rw [ho]; rfl
     have eB : B = false := by
      rw [hB]; unfold okA
      rw [List.all_eq_false]
      exact ⟨_, List.getElem_mem hjl, by rw [ho]; simp⟩
     rw [eB] at hset ⊢
     conv => whnf
     (repeat' ((first|refine kA ?_|refine kE ?_|apply kB<;>intro _|fail)<;>conv=>whnf))
     (refine ⟨j, _, rfl, hgr, rfl, ?_⟩; conv => whnf)
     (repeat' ((first|refine kA ?_|refine kE ?_|apply kB<;>intro _|fail)<;>conv=>whnf))
     (refine .inl ⟨_, ca, ?_⟩; conv => whnf)
     (repeat' ((first|refine kA ?_|refine kE ?_|apply kB<;>intro _|fail)<;>conv=>whnf))
     (refine ⟨_, hset, ?_⟩; conv => whnf)
     (repeat' ((first|refine kA ?_|refine kE ?_|apply kB<;>intro _|fail)<;>conv=>whnf))
     (refine ⟨[], [0, 1], ?_⟩; conv => whnf)
     exact ⟨rfl, rfl⟩
   ·have g1 : decide ((j : Int) < ((R.map (rnC k)).length : Int)) = false := decide_eq_false (by rw [hm]; omega)
    have eB : B = true := by
     rw [hB]; unfold okA
     rw [List.all_eq_true]
     intro x hx
     obtain ⟨i, hi, rfl⟩ := List.getElem_of_mem hx
     exact hok i hi (by omega)
    rw [eB] at hset ⊢
    conv => whnf
    (repeat' ((first|refine kA ?_|refine kE ?_|apply kB<;>intro _|fail)<;>conv=>whnf))
    (refine ⟨_, hset, ?_⟩; conv => whnf)
    (repeat' ((first|refine kA ?_|refine kE ?_|apply kB<;>intro _|fail)<;>conv=>whnf))
    (refine ⟨[], [0, 1], ?_⟩; conv => whnf)
    exact ⟨rfl, rfl⟩
end Go.Ev.YtijidghjiaiccaaGreat.K


namespace Go.Ev.YtijidghjiaiccaaGreat.K
open Go.Proofs
def fixN {α : Type} (ok : α → Bool) : List α → Nat → Nat
 | [], _ => 0
 | x :: E, t => bif ok x then (bif t == 0 then 0 else fixN ok E (t - 1) + 1) else fixN ok E t + 1
theorem fixN_f {α : Type} {ok : α → Bool} {x : α} {E : List α} {t : Nat} (h : ok x = false) : fixN ok (x :: E) t = fixN ok E t + 1 := by rw [fixN, h]; rfl
theorem fixN_0 {α : Type} {ok : α → Bool} {x : α} {E : List α} (h : ok x = true) : fixN ok (x :: E) 0 = 0 := by rw [fixN, h]; rfl
theorem fixN_s {α : Type} {ok : α → Bool} {x : α} {E : List α} {t : Nat} (h : ok x = true) : fixN ok (x :: E) (t + 1) = fixN ok E t + 1 := by rw [fixN, h]; rfl
theorem fixN_le {α : Type} (ok : α → Bool) : ∀ (E : List α) (t : Nat), fixN ok E t ≤ E.length
 | [], t => Nat.le_refl _
 | x :: E, t => by
  cases hx : ok x with
  | true =>
   cases t with
   | zero => rw [fixN_0 hx]; exact Nat.zero_le _
   | succ t => rw [fixN_s hx]; exact Nat.succ_le_succ (fixN_le ok E t)
  | false => rw [fixN_f hx]; exact Nat.succ_le_succ (fixN_le ok E t)
theorem fixN_at {α : Type} (ok : α → Bool) : ∀ (E : List α) (t k : Nat), k ≤ fixN ok E t → (h : k < E.length) →
  ((E.take k).filter ok).length ≤ t ∧ (k < fixN ok E t → ok E[k] = true → ((E.take k).filter ok).length < t) ∧ (k = fixN ok E t → ok E[k] = true ∧ ((E.take k).filter ok).length = t)
 | [], t, k, _, h => absurd h (Nat.not_lt_zero _)
 | x :: E, t, 0, h0, h => by
  show 0 ≤ t ∧ (_ → ok x = true → 0 < t) ∧ (_ → ok x = true ∧ 0 = t)
  cases hx : ok x with
  | true =>
   cases t with
   | zero => rw [fixN_0 hx]; exact ⟨Nat.le_refl _, fun h => absurd h (Nat.lt_irrefl _), fun _ => ⟨rfl, rfl⟩⟩
   | succ t => rw [fixN_s hx]; exact ⟨Nat.zero_le _, fun _ _ => Nat.succ_pos _, fun h => absurd h (by omega)⟩
  | false => rw [fixN_f hx]; exact ⟨Nat.zero_le _, fun _ h => (nomatch h), fun h => absurd h (by omega)⟩
 | x :: E, t, k + 1, hk, h => by
  have hl : k < E.length := by rw [List.length_cons] at h; omega
  rw [List.take_succ_cons, List.filter_cons, List.getElem_cons_succ]
  cases hx : ok x with
  | true =>
   cases t with
   | zero => rw [fixN_0 hx] at hk; exact absurd hk (by omega)
   | succ t =>
    rw [fixN_s hx] at hk ⊢
    obtain ⟨h1, h2, h3⟩ := fixN_at ok E t k (by omega) hl
    rw [if_pos rfl, List.length_cons]
    exact ⟨by omega, fun a b => by have := h2 (by omega) b; omega, fun a => by have := h3 (by omega); exact ⟨this.1, by omega⟩⟩
  | false =>
   rw [fixN_f hx] at hk ⊢
   obtain ⟨h1, h2, h3⟩ := fixN_at ok E t k (by omega) hl
   rw [if_neg (by simp)]
   exact ⟨h1, fun a b => h2 (by omega) b, fun a => h3 (by omega)⟩
theorem fixN_end {α : Type} (ok : α → Bool) : ∀ (E : List α) (t : Nat), E.length ≤ fixN ok E t → (E.filter ok).length ≤ t
 | [], t, _ => Nat.zero_le _
 | x :: E, t, h => by
  rw [List.filter_cons]
  rw [List.length_cons] at h
  cases hx : ok x with
  | true =>
   cases t with
   | zero => rw [fixN_0 hx] at h; exact absurd h (by omega)
   | succ t => rw [fixN_s hx] at h; rw [if_pos rfl, List.length_cons]; have := fixN_end ok E t (by omega); omega
  | false => rw [fixN_f hx] at h; rw [if_neg (by simp)]; exact fixN_end ok E t (by omega)
theorem filt_succ {α : Type} (ok : α → Bool) {E : List α} {k : Nat} (h : k < E.length) : (E.take (k + 1)).filter ok = (E.take k).filter ok ++ (if ok E[k] = true then [E[k]] else []) := by
 rw [List.take_add_one, List.getElem?_eq_getElem h, List.filter_append, Option.toList_some, List.filter_cons]
 rfl
theorem filt_at {α : Type} (ok : α → Bool) {E : List α} {k : Nat} (h : k < E.length) (ho : ok E[k] = true) : (E.filter ok)[((E.take k).filter ok).length]? = some E[k] := by
 have e : E.filter ok = (E.take (k + 1)).filter ok ++ (E.drop (k + 1)).filter ok := by rw [← List.filter_append, List.take_append_drop]
 rw [e, filt_succ ok h, if_pos ho, List.getElem?_append_left (by simp), List.getElem?_append_right (Nat.le_refl _)]
 simp
theorem filt_le {α : Type} (ok : α → Bool) (E : List α) (k : Nat) : ((E.take k).filter ok).length ≤ (E.filter ok).length := by
 have e : E.filter ok = (E.take k).filter ok ++ (E.drop k).filter ok := by rw [← List.filter_append, List.take_append_drop]
 rw [e, List.length_append]; omega
attribute [local irreducible] Pure Bor Iter SubC knB okA
abbrev ptO (m : Nat) : Ob := .var false 119 [.ref m 0]
theorem everyR (rs : List (Int × Int)) (k : Nat) (R : List (Int × Int)) (M : List (D × D)) : Bor tb Tryz.prog 38 [.ref 1 0] [.map 123 4 M, roomR rs k R 0] 3 (.fn (.func 63) [] [.ref 2 0]) [(0, .map 123 4 M), (1, roomR rs k R 0), (2, ptO 1)] := by
 refine bor_of pg Tryz.func38 (by kernel_rfl) ?_
 conv => whnf
 (repeat' ((first|refine kA ?_|refine kE ?_|apply kB<;>intro _|fail)<;>conv=>whnf))
 (refine ⟨[], [0, 1, 2], ?_⟩; conv => whnf)
 exact ⟨rfl, rfl⟩
def knK (ls : List (List Int)) (E : List (List Int)) (k : Nat) : List (List Int) := (E.take k).foldl addK ls
theorem knK_succ (ls : List (List Int)) {E : List (List Int)} {k : Nat} (h : k < E.length) : knK ls E (k + 1) = addK (knK ls E k) E[k] := by
 unfold knK
 rw [List.take_add_one, List.getElem?_eq_getElem h, List.foldl_append]
 rfl
theorem knK_3 {ls : List (List Int)} {E : List (List Int)} (h : L3s ls) (hE : L3s E) : ∀ k, k ≤ E.length → L3s (knK ls E k)
 | 0, _ => by unfold knK; exact h
 | k + 1, hk => by rw [knK_succ ls (by omega)]; exact addK_3 (knK_3 h hE k (by omega)) (hE _ (List.getElem_mem _))
theorem enE_L3 {rs : List (Int × Int)} (h : RsOK rs) : ∀ (d band : Nat) (l : List Int), band + d = rs.length → L3 l → ∀ x ∈ enE rs d band l, L3 x
 | 0, band, l, _, hl, x, hx => by rw [enE, List.mem_singleton] at hx; rw [hx]; exact hl
 | d + 1, band, l, hb, hl, x, hx => by
  rw [enE, List.mem_flatMap] at hx
  obtain ⟨j, hj, hx⟩ := hx
  rw [List.mem_range] at hj
  unfold cntE at hj
  have h1 := lowE_b h hl (b := band) (by omega)
  have h2 := (h.at (b := band) (by omega)).2
  exact enE_L3 h d (band + 1) _ (by omega) (hl.set (by omega)) x hx
abbrev allE (rs : List (Int × Int)) : List (List Int) := enE rs rs.length 0 [0, 0, 0]
abbrev filE (rs : List (Int × Int)) (k : Nat) (R : List (Int × Int)) : List (List Int) := (allE rs).filter (okA k R)
theorem allE_L3 {rs : List (Int × Int)} (h : RsOK rs) : ∀ x ∈ allE rs, L3 x := enE_L3 h _ _ _ (by omega) ⟨rfl, fun x hx => by simp at hx; subst hx; omega⟩
attribute [local irreducible] knK
abbrev evR (rs : List (Int × Int)) (k : Nat) (R : List (Int × Int)) (ls : List (List Int)) : List (Nat × Ob) := [(1, .map 123 4 (knB (okA k R) ls)), (2, roomR rs k R 1), (3, ptO 2)]
theorem everyI {rs : List (Int × Int)} (h : MtOK rs) {k : Nat} {R : List (Int × Int)} (hR : RnOK rs k R) {ls : List (List Int)} (hls : L3s ls) (t : Nat) :
  ∃ q, q ≤ (allE rs).length ∧ Iter tb Tryz.prog 63 [.own 0, .ref 3 0] [.map 123 4 (knB (okA k R) ls), roomR rs k R 1, ptO 2] ((filE rs k R).map fun l => [rtD l]) t (evR rs k R (knK ls (allE rs) q)) := by
 have hE3 := allE_L3 h.rs
 have cl := lists_bor rs
 have hit := lists_iter h.rs (fixN (okA k R) (allE rs) t)
 obtain ⟨E, hEe⟩ : ∃ E, E = allE rs := ⟨_, rfl⟩
 have hel : elE rs = E.map fun l => [rtD l] := by rw [hEe]
 have hEl : (E.map fun l => [rtD l]).length = E.length := List.length_map ..
 rw [hel] at hit
 rw [← hEe] at hE3 hit
 unfold filE
 rw [← hEe]
 have hk0 : knK ls E 0 = ls := by unfold knK; rfl
 have hkn3 : ∀ j, j ≤ E.length → L3s (knK ls E j) := knK_3 hls fun x hx => (hE3 x hx).1
 obtain ⟨ok, hok⟩ : ∃ ok, ok = okA k R := ⟨_, rfl⟩
 have hall : ∀ (ls' : List (List Int)) (l : List Int), L3s ls' → L3 l → Bor tb Tryz.prog 35 [.ref 1 0, .d (rtD l)] [.map 123 4 (knB ok ls'), roomR rs k R 0] 2 (.d (dB (ok l))) [(0, .map 123 4 (knB ok (addK ls' l))), (1, roomR rs k R 0)] := fun ls' l h1 h2 => by rw [hok]; exact allowedR h.n.2 hR ls' l h1 h2
 unfold evR
 rw [← hok] at hit ⊢
 obtain ⟨t', ht'⟩ : ∃ t', t' = fixN ok E t := ⟨_, rfl⟩
 have hfa := fixN_at ok E t
 have hfe := fixN_end ok E t
 have hfl := fixN_le ok E t
 rw [← ht'] at hit hfa hfe hfl
 clear hEe hel ht' hok
 have hmF : ((E.filter ok).map fun l => [rtD l]).length = (E.filter ok).length := List.length_map ..
 refine ⟨min (t' + 1) E.length, by omega, ?_⟩
 refine iter_of pg Tryz.func63 (by kernel_rfl) ?_
 conv => whnf
 (repeat' ((first|refine kA ?_|refine kE ?_|apply kB<;>intro _|fail)<;>conv=>whnf))
 (refine .inr ⟨[], 1, _, _, cl, ?_⟩; conv => whnf)
 refine ⟨[5], [1, 2], [0, 1, 2, 3, 4], _, t', _, fun j ob n1 => j ≤ E.length ∧ n1 = 7 ∧ ob = (0, .env ((E.take j).filter ok).length) :: ([(1, .map 123 4 (knB ok (knK ls E j))), (2, roomR rs k R 1), (3, ptO 2)] ++ [(4, .var false 126 [.own 0])]), hit, ?_⟩
 conv => whnf
 refine ⟨⟨Nat.zero_le _, rfl, by rw [hk0]; rfl⟩, ?_, ?_⟩
 ·rintro j ds _ _ hi hjt ⟨hj, rfl, rfl⟩
  have hjl : j < E.length := by rw [← hEl]; exact (List.getElem?_eq_some_iff.1 hi).1
  rw [List.getElem?_map, List.getElem?_eq_getElem hjl] at hi
  have hds : ds = [rtD E[j]] := by simpa using hi.symm
  subst hds
  have h3 := hE3 _ (List.getElem_mem hjl)
  have ca := hall (knK ls E j) E[j] (hkn3 j hj) h3
  rw [← knK_succ ls hjl] at ca
  obtain ⟨f1, f2, f3⟩ := hfa j hjt hjl
  have fs := filt_succ ok hjl
  have fa := filt_at ok hjl
  obtain ⟨q, hq⟩ : ∃ q, q = ((E.take j).filter ok).length := ⟨_, rfl⟩
  rw [← hq] at f1 f2 f3 fa ⊢
  obtain ⟨o, ho⟩ : ∃ o, o = ok E[j] := ⟨_, rfl⟩
  rw [← ho] at f2 f3 fs fa ca
  have fa2 : o = true → ((E.filter ok).map fun l => [rtD l])[q]? = some [rtD E[j]] := fun hh => by rw [List.getElem?_map, fa hh]; rfl
  obtain ⟨q', hq'⟩ : ∃ q', q' = ((E.take (j + 1)).filter ok).length := ⟨_, rfl⟩
  have hqq : q' = q + (if o = true then 1 else 0) := by
   rw [hq', fs, List.length_append, ← hq]
   split <;> rfl
  have hqF : q' ≤ (E.filter ok).length := hq' ▸ filt_le ok E (j + 1)
  obtain ⟨a, b, c, habc⟩ : ∃ a b c, E[j] = [a, b, c] := by
   match hh : E[j], h3.1 with
   | [a, b, c], _ => exact ⟨a, b, c, rfl⟩
  rw [habc] at ca fa2
  rw [habc]
  clear hmF
  refine ⟨rfl, ?_⟩
  by_cases hlt : j < t'
  ·by_cases hoo : o = true
   ·have fq := f2 hlt hoo
    have g1 : (!decide (q < t)) = false := by rw [decide_eq_true fq]; rfl
    rw [if_pos hoo] at hqq
    conv => whnf
    (repeat' ((first|refine kA ?_|refine kE ?_|apply kB<;>intro _|fail)<;>conv=>whnf))
    (refine .inr ⟨[1, 2], 2, _, _, ca, ?_⟩; conv => whnf)
    (repeat' ((first|refine kA ?_|refine kE ?_|apply kB<;>intro _|fail)<;>conv=>whnf))
    (refine ⟨decide (q < t), ⟨f1, fa2 hoo, rfl⟩, ?_⟩; conv => whnf)
    (repeat' ((first|refine kA ?_|refine kE ?_|apply kB<;>intro _|fail)<;>conv=>whnf))
    (refine ⟨[0, 1, 2, 3, 4], 7, rfl, ?_⟩; conv => whnf)
    exact ⟨hlt, hjl, rfl, by rw [← hq', hqq]; rfl⟩
   ·have hoo := (Bool.not_eq_true _).mp hoo
    rw [if_neg (by rw [hoo]; simp)] at hqq
    conv => whnf
    (repeat' ((first|refine kA ?_|refine kE ?_|apply kB<;>intro _|fail)<;>conv=>whnf))
    (refine .inr ⟨[1, 2], 2, _, _, ca, ?_⟩; conv => whnf)
    (repeat' ((first|refine kA ?_|refine kE ?_|apply kB<;>intro _|fail)<;>conv=>whnf))
    (refine ⟨[0, 1, 2, 3, 4], 7, rfl, ?_⟩; conv => whnf)
    exact ⟨hlt, hjl, rfl, by rw [← hq', hqq]; rfl⟩
  ·have ejt : j = t' := by omega
   obtain ⟨hoo, hqt⟩ := f3 ejt
   have g1 : (!decide (q < t)) = true := by rw [decide_eq_false (by omega)]; rfl
   have em : min (t' + 1) E.length = j + 1 := by omega
   rw [if_pos hoo] at hqq
   conv => whnf
   (repeat' ((first|refine kA ?_|refine kE ?_|apply kB<;>intro _|fail)<;>conv=>whnf))
   (refine .inr ⟨[1, 2], 2, _, _, ca, ?_⟩; conv => whnf)
   (repeat' ((first|refine kA ?_|refine kE ?_|apply kB<;>intro _|fail)<;>conv=>whnf))
   (refine ⟨decide (q < t), ⟨f1, fa2 hoo, rfl⟩, ?_⟩; conv => whnf)
   (repeat' ((first|refine kA ?_|refine kE ?_|apply kB<;>intro _|fail)<;>conv=>whnf))
   (refine ⟨[0, 1, 2, 3, 4], 7, rfl, ?_⟩; conv => whnf)
   (refine ⟨ejt, ?_⟩; conv => whnf)
   (refine ⟨[0, 1, 2, 3], ?_⟩; conv => whnf)
   have e2 : min (t + 1) ((E.filter ok).map fun l => [rtD l]).length = q + 1 := by rw [List.length_map]; omega
   rw [em, e2]
   rfl
 ·rintro ob n1 hle ⟨_, rfl, rfl⟩
  rw [hEl] at hle ⊢
  have em : min (t' + 1) E.length = E.length := by omega
  have eF := hfe hle
  rw [em, List.take_length]
  conv => whnf
  (repeat' ((first|refine kA ?_|refine kE ?_|apply kB<;>intro _|fail)<;>conv=>whnf))
  (refine ⟨[0, 1, 2, 3], ?_⟩; conv => whnf)
  have e2 : min (t + 1) ((E.filter ok).map fun l => [rtD l]).length = (E.filter ok).length := by rw [List.length_map]; omega
  rw [e2]
end Go.Ev.YtijidghjiaiccaaGreat.K


namespace Go.Ev.YtijidghjiaiccaaGreat.K
open Go.Proofs
attribute [local irreducible] Pure Bor Iter SubC knB okA knK
theorem possibleR {rs : List (Int × Int)} (h : MtOK rs) {k : Nat} {R : List (Int × Int)} (hR : RnOK rs k R) (h0 : 0 < (filE rs k R).length) :
  ∃ q, q ≤ (allE rs).length ∧ Bor tb Tryz.prog 37 [.d (mtD rs), .d (rnsD k R)] [] 8 (.tup [.ref 5 0, .d (dI 0)]) [(4, .map 123 4 (knB (okA k R) (knK [] (allE rs) q))), (5, roomR rs k R 4)] := by
 have ce := enterR h hR
 have cv := everyR rs k R []
 obtain ⟨q, hq, hit⟩ := everyI h hR (ls := []) (fun _ hx => nomatch hx) 0
 refine ⟨q, hq, ?_⟩
 have hkn : knB (okA k R) [] = [] := by unfold knB; rfl
 rw [hkn] at hit
 obtain ⟨F, hF⟩ : ∃ F, F = filE rs k R := ⟨_, rfl⟩
 rw [← hF] at hit h0
 refine bor_of pg Tryz.func37 (by kernel_rfl) ?_
 conv => whnf
 (repeat' ((first|refine kA ?_|refine kE ?_|apply kB<;>intro _|fail)<;>conv=>whnf))
 (refine .inr ⟨[], 3, _, _, ce, ?_⟩; conv => whnf)
 (repeat' ((first|refine kA ?_|refine kE ?_|apply kB<;>intro _|fail)<;>conv=>whnf))
 (refine .inr ⟨[4, 5], 3, _, _, cv, ?_⟩; conv => whnf)
 refine ⟨[4, 5, 7], [2, 4, 5, 6], [0, 1, 2, 6, 5], _, 0, _, fun k ob n1 => k = 0 ∧ n1 = 9 ∧ ob = [(0, mtO rs), (1, .var false 119 [.d (.v (.pointer none))]), (2, .var false 39 [.d (dI 0)]), (6, ptO 5), (5, .dead)], hit, ?_⟩
 conv => whnf
 refine ⟨⟨rfl, rfl, rfl⟩, ?_, ?_⟩
 ·rintro k ds _ _ hi hile ⟨rfl, rfl, rfl⟩
  obtain ⟨x, _, rfl⟩ := List.mem_map.1 (List.mem_of_getElem? hi)
  refine ⟨rfl, ?_⟩
  conv => whnf
  (repeat' ((first|refine kA ?_|refine kE ?_|apply kB<;>intro _|fail)<;>conv=>whnf))
  (refine ⟨[0, 1, 2, 6, 5], 9, rfl, ?_⟩; conv => whnf)
  (refine ⟨rfl, ?_⟩; conv => whnf)
  (refine ⟨[], [4, 5], ?_⟩; conv => whnf)
  exact ⟨rfl, rfl⟩
 ·rintro ob n1 h1 ⟨h2, rfl, rfl⟩
  rw [List.length_map] at h1
  exact absurd h0 (by omega)
theorem with_pure (x : Int × Int) (n : Int) (b : Bool) : Pure Tryz.prog 39 [rgA x, dI n, dB b] (rgA (if b = true then (n, n) else (min x.1 n, max x.2 n))) := by
 cases b with
 | true =>
  refine pure_of pg Tryz.func39 (by kernel_rfl) ?_
  conv => whnf
  (repeat' ((first|refine kA ?_|refine kE ?_|apply kB<;>intro _|fail)<;>conv=>whnf))
  rfl
 | false =>
  refine pure_of pg Tryz.func39 (by kernel_rfl) ?_
  conv => whnf
  (repeat' ((first|refine kA ?_|refine kE ?_|apply kB<;>intro _|fail)<;>conv=>whnf))
  rfl
def wdE (F : List (List Int)) (b : Nat) : Nat → Int × Int
 | 0 => (0, 0)
 | j + 1 => if ((j : Int) == 0) = true then ((F.getD j []).getD b 0, (F.getD j []).getD b 0) else (min (wdE F b j).1 ((F.getD j []).getD b 0), max (wdE F b j).2 ((F.getD j []).getD b 0))
def mixE (F : List (List Int)) (j i n : Nat) : List (Int × Int) := (List.range n).map fun b => if b < i then wdE F b (j + 1) else wdE F b j
theorem mixE_0 {F : List (List Int)} {j n : Nat} : mixE F j 0 n = (List.range n).map fun b => wdE F b j := by
 unfold mixE; rfl
theorem mixE_n {F : List (List Int)} {j n : Nat} : mixE F j n n = (List.range n).map fun b => wdE F b (j + 1) := by
 unfold mixE
 exact List.map_congr_left fun b hb => by rw [if_pos (List.mem_range.1 hb)]
theorem mixE_len {F : List (List Int)} {j i n : Nat} : (mixE F j i n).length = n := by unfold mixE; rw [List.length_map, List.length_range]
theorem mixE_get {F : List (List Int)} {j i n : Nat} (b : Nat) : (mixE F j i n)[b]? = if b < n then some (if b < i then wdE F b (j + 1) else wdE F b j) else none := by
 unfold mixE
 rw [List.getElem?_map]
 by_cases h : b < n
 ·rw [List.getElem?_range h, if_pos h]; rfl
 ·rw [List.getElem?_eq_none (by rw [List.length_range]; omega), if_neg h]; rfl
theorem mixE_at {F : List (List Int)} {j i n : Nat} (h : i < n) : (mixE F j i n)[i]? = some (wdE F i j) := by
 rw [mixE_get, if_pos h, if_neg (Nat.lt_irrefl _)]
theorem mixE_set {F : List (List Int)} {j i n : Nat} (h : i < n) : (mixE F j i n).set i (wdE F i (j + 1)) = mixE F j (i + 1) n := by
 refine List.ext_getElem? fun b => ?_
 rw [List.getElem?_set, mixE_len, mixE_get, mixE_get]
 by_cases hb : i = b
 ·subst hb; rw [if_pos rfl, if_pos h, if_pos h, if_pos (Nat.lt_succ_self _)]
 ·rw [if_neg hb]
  by_cases hn : b < n
  ·rw [if_pos hn, if_pos hn]
   by_cases hc : b < i
   ·rw [if_pos hc, if_pos (by omega)]
   ·rw [if_neg hc, if_neg (by omega)]
  ·rw [if_neg hn, if_neg hn]
theorem flat_len {β : Type} {f : Nat → List β} {M : Nat} : ∀ {n : Nat}, (∀ j < n, (f j).length ≤ M) → ((List.range n).flatMap f).length ≤ n * M
 | 0, _ => Nat.zero_le _
 | n + 1, h => by
  have ih := flat_len (n := n) fun j hj => h j (by omega)
  have := h n (by omega)
  rw [flat_succ, List.length_append, Nat.succ_mul]
  omega
theorem enE_len {rs : List (Int × Int)} (h : ∀ x ∈ rs, x.2 - x.1 ≤ 20) : ∀ (d band : Nat) (l : List Int), band + d = rs.length → (enE rs d band l).length ≤ 21 ^ d
 | 0, band, l, _ => Nat.le_refl _
 | d + 1, band, l, hb => by
  rw [enE]
  have hc : cntE rs l band ≤ 21 := by
   have hlt : band < rs.length := by omega
   have e : rs.getD band (0, 0) = rs[band] := by rw [List.getD_eq_getElem?_getD, List.getElem?_eq_getElem hlt]; rfl
   have := h _ (List.getElem_mem hlt)
   unfold cntE lowE
   rw [e]
   split <;> omega
  have := flat_len (f := fun j => enE rs d (band + 1) (l.set band (lowE rs l band + (j : Nat)))) (n := cntE rs l band) fun j _ => enE_len h d (band + 1) _ (by omega)
  have h2 := Nat.mul_le_mul_right (21 ^ d) hc
  rw [Nat.pow_succ, Nat.mul_comm]
  exact Nat.le_trans this h2
theorem filE_len {rs : List (Int × Int)} (h : MtOK rs) (k : Nat) (R : List (Int × Int)) : (filE rs k R).length ≤ 9261 := by
 have h1 := enE_len (fun x hx => (h.r x hx).2.2.2) rs.length 0 [0, 0, 0] (by omega)
 have h2 : (filE rs k R).length ≤ (allE rs).length := List.length_filter_le _ _
 have h3 : 21 ^ rs.length ≤ 21 ^ 3 := Nat.pow_le_pow_right (by omega) h.n.2
 exact Nat.le_trans h2 (Nat.le_trans h1 (Nat.le_trans h3 (by decide)))
theorem wdE_0 {F : List (List Int)} {b : Nat} : wdE F b 0 = (0, 0) := by rw [wdE]
theorem wdE_s {F : List (List Int)} {b j : Nat} : wdE F b (j + 1) = if ((j : Int) == 0) = true then ((F.getD j []).getD b 0, (F.getD j []).getD b 0) else (min (wdE F b j).1 ((F.getD j []).getD b 0), max (wdE F b j).2 ((F.getD j []).getD b 0)) := by rw [wdE]
theorem mixE_00 {F : List (List Int)} {n : Nat} : (mixE F 0 0 n).map rgC = List.replicate n [dI 0, dI 0] := by
 rw [mixE_0]
 refine List.ext_getElem (by simp) fun b h1 h2 => ?_
 simp only [List.getElem_map, List.getElem_replicate]
 rw [wdE_0]
theorem mixE_next {F : List (List Int)} {j n : Nat} : mixE F j n n = mixE F (j + 1) 0 n := by rw [mixE_n, mixE_0]
attribute [local irreducible] wdE mixE
theorem ratesR {rs : List (Int × Int)} (h : MtOK rs) {k : Nat} {R : List (Int × Int)} (hR : RnOK rs k R) (h0 : 0 < (filE rs k R).length) :
  Pure Tryz.prog 14 [mtD rs, rnsD k R] (.tup [.seq (((List.range rs.length).map fun b => wdE (filE rs k R) b (filE rs k R).length).map rgC), dI (filE rs k R).length, dI 0]) := by
 obtain ⟨q, hq, cp⟩ := possibleR h hR h0
 have hkn : L3s (knK [] (allE rs) q) := knK_3 (ls := []) (fun _ hx => nomatch hx) (fun x hx => (allE_L3 h.rs x hx).1) q hq
 obtain ⟨q2, hq2, hit⟩ := everyI h hR hkn (filE rs k R).length
 have cv := everyR rs k R (knB (okA k R) (knK [] (allE rs) q))
 have hF9 := filE_len h k R
 have hF3 : ∀ x ∈ filE rs k R, L3 x := fun x hx => allE_L3 h.rs x (List.mem_filter.1 hx).1
 obtain ⟨F, hF⟩ : ∃ F, F = filE rs k R := ⟨_, rfl⟩
 rw [← hF] at hit h0 hF3 hF9 ⊢
 have hm : ((rs.map rgC).length : Int) = rs.length := by rw [List.length_map]
 have hn := h.n
 refine pure_of_v pg Tryz.func14 (by kernel_rfl) ?_
 conv => whnf
 (repeat' ((first|refine kA ?_|refine kE ?_|apply kB<;>intro _|fail)<;>conv=>whnf))
 (refine .inr ⟨[], 8, _, _, cp, ?_⟩; conv => whnf)
 (repeat' ((first|refine kA ?_|refine kE ?_|apply kB<;>intro _|fail)<;>conv=>whnf))
 (refine ⟨rs.length, hm, hm, by show rs.length * 16 ≤ _; omega, by omega, _, (mixE_00 (F := F)).symm, ?_⟩; conv => whnf)
 (repeat' ((first|refine kA ?_|refine kE ?_|apply kB<;>intro _|fail)<;>conv=>whnf))
 (refine .inr ⟨[7, 8], 3, _, _, cv, ?_⟩; conv => whnf)
 (repeat' ((first|refine kA ?_|refine kE ?_|apply kB<;>intro _|fail)<;>conv=>whnf))
 refine ⟨[7, 8, 12], [4, 5, 6], [1, 2, 11], _, F.length, _, fun j ob n1 => j ≤ F.length ∧ n1 = 14 ∧ ob = [(1, .var false 57 [.own 11]), (2, .var false 3 [.d (dI (j : Nat))]), (11, .arr 49 ((mixE F j 0 rs.length).map rgC))], hit, ?_⟩
 conv => whnf
 refine ⟨⟨Nat.zero_le _, rfl, rfl⟩, ?_, ?_⟩
 ·rintro j ds _ _ hi hile ⟨hj, rfl, rfl⟩
  have hjl : j < F.length := by have := (List.getElem?_eq_some_iff.1 hi).1; rwa [List.length_map] at this
  rw [List.getElem?_map, List.getElem?_eq_getElem hjl] at hi
  have hds : ds = [rtD F[j]] := by simpa using hi.symm
  subst hds
  have hg : F.getD j [] = F[j] := by rw [List.getD_eq_getElem?_getD, List.getElem?_eq_getElem hjl]; rfl
  obtain ⟨a, b, c, habc⟩ : ∃ a b c, F[j] = [a, b, c] := by
   match hh : F[j], (hF3 _ (List.getElem_mem hjl)).1 with
   | [a, b, c], _ => exact ⟨a, b, c, rfl⟩
  rw [habc] at hg ⊢
  have hml : ∀ i, (((mixE F j i rs.length).map rgC).length : Int) = rs.length := fun i => by rw [List.length_map, mixE_len]
  refine ⟨rfl, ?_⟩
  conv => whnf
  (repeat' ((first|refine kA ?_|refine kE ?_|apply kB<;>intro _|fail)<;>conv=>whnf))
  refine ⟨[], [4, 5, 6, 8, 27, 28], [1, 2, 11, 14], 15, fun m s => ∃ i : Nat, i + m = rs.length ∧ s = ⟨[(4, .ref 1 0), (5, .ref 2 0), (6, .d (dI 0)), (8, .ref 14 0), (27, .d (dI rs.length)), (28, .d (dI i))], [(1, .var false 57 [.own 11]), (2, .var false 3 [.d (dI j)]), (11, .arr 49 ((mixE F j i rs.length).map rgC)), (14, .var false 123 [.d (dI a), .d (dI b), .d (dI c)])], 15⟩, ?_, ?_⟩
  ·conv => whnf
   exact ⟨rs.length, 0, by omega, by rw [hml]; rfl⟩
  ·rintro m _ ⟨i, hi2, rfl⟩
   by_cases hil : i < rs.length
   ·have g1 : decide ((i : Int) < (rs.length : Int)) = true := decide_eq_true (by omega)
    have hx := mixE_at (F := F) (j := j) hil
    have hset := mixE_set (F := F) (j := j) hil
    have hw := wdE_s (F := F) (b := i) (j := j)
    rw [hg] at hw
    have hx2 : ((mixE F j i rs.length).map rgC)[i]? = some (rgC (wdE F i j)) := by rw [List.getElem?_map, hx]; rfl
    have cw := with_pure (wdE F i j) ([a, b, c].getD i 0) ((j : Int) == 0)
    rw [← hw] at cw
    have hset2 : ((mixE F j i rs.length).map rgC).set i (rgC (wdE F i (j + 1))) = (mixE F j (i + 1) rs.length).map rgC := by rw [← hset, List.map_set]
    rcases (by omega : i = 0 ∨ i = 1 ∨ i = 2) with rfl | rfl | rfl
    ·conv => whnf
     (repeat' ((first|refine kA ?_|refine kE ?_|apply kB<;>intro _|fail)<;>conv=>whnf))
     (refine ⟨0, rfl, by rw [List.length_map, mixE_len]; exact hil, ?_⟩; conv => whnf)
     (repeat' ((first|refine kA ?_|refine kE ?_|apply kB<;>intro _|fail)<;>conv=>whnf))
     (refine ⟨_, hx2, ?_⟩; conv => whnf)
     (refine ⟨rfl, ?_⟩; conv => whnf)
     (repeat' ((first|refine kA ?_|refine kE ?_|apply kB<;>intro _|fail)<;>conv=>whnf))
     (refine ⟨0, rfl, by decide, ?_⟩; conv => whnf)
     (repeat' ((first|refine kA ?_|refine kE ?_|apply kB<;>intro _|fail)<;>conv=>whnf))
     (refine .inl ⟨_, cw, ?_⟩; conv => whnf)
     (repeat' ((first|refine kA ?_|refine kE ?_|apply kB<;>intro _|fail)<;>conv=>whnf))
     (refine ⟨0, rfl, by rw [List.length_map, mixE_len]; exact hil, ?_⟩; conv => whnf)
     (repeat' ((first|refine kA ?_|refine kE ?_|apply kB<;>intro _|fail)<;>conv=>whnf))
     (refine ⟨_, hx2, rfl, Nat.le_refl 2, _, hset2, ?_⟩; conv => whnf)
     (repeat' ((first|refine kA ?_|refine kE ?_|apply kB<;>intro _|fail)<;>conv=>whnf))
     exact ⟨m - 1, by omega, 0 + 1, by omega, rfl⟩
    ·conv => whnf
     (repeat' ((first|refine kA ?_|refine kE ?_|apply kB<;>intro _|fail)<;>conv=>whnf))
     (refine ⟨1, rfl, by rw [List.length_map, mixE_len]; exact hil, ?_⟩; conv => whnf)
     (repeat' ((first|refine kA ?_|refine kE ?_|apply kB<;>intro _|fail)<;>conv=>whnf))
     (refine ⟨_, hx2, ?_⟩; conv => whnf)
     (refine ⟨rfl, ?_⟩; conv => whnf)
     (repeat' ((first|refine kA ?_|refine kE ?_|apply kB<;>intro _|fail)<;>conv=>whnf))
     (refine ⟨1, rfl, by decide, ?_⟩; conv => whnf)
     (repeat' ((first|refine kA ?_|refine kE ?_|apply kB<;>intro _|fail)<;>conv=>whnf))
     (refine .inl ⟨_, cw, ?_⟩; conv => whnf)
     (repeat' ((first|refine kA ?_|refine kE ?_|apply kB<;>intro _|fail)<;>conv=>whnf))
     (refine ⟨1, rfl, by rw [List.length_map, mixE_len]; exact hil, ?_⟩; conv => whnf)
     (repeat' ((first|refine kA ?_|refine kE ?_|apply kB<;>intro _|fail)<;>conv=>whnf))
     (refine ⟨_, hx2, rfl, Nat.le_refl 2, _, hset2, ?_⟩; conv => whnf)
     (repeat' ((first|refine kA ?_|refine kE ?_|apply kB<;>intro _|fail)<;>conv=>whnf))
     exact ⟨m - 1, by omega, 1 + 1, by omega, rfl⟩
    ·conv => whnf
     (repeat' ((first|refine kA ?_|refine kE ?_|apply kB<;>intro _|fail)<;>conv=>whnf))
     (refine ⟨2, rfl, by rw [List.length_map, mixE_len]; exact hil, ?_⟩; conv => whnf)
     (repeat' ((first|refine kA ?_|refine kE ?_|apply kB<;>intro _|fail)<;>conv=>whnf))
     (refine ⟨_, hx2, ?_⟩; conv => whnf)
     (refine ⟨rfl, ?_⟩; conv => whnf)
     (repeat' ((first|refine kA ?_|refine kE ?_|apply kB<;>intro _|fail)<;>conv=>whnf))
     (refine ⟨2, rfl, by decide, ?_⟩; conv => whnf)
     (repeat' ((first|refine kA ?_|refine kE ?_|apply kB<;>intro _|fail)<;>conv=>whnf))
     (refine .inl ⟨_, cw, ?_⟩; conv => whnf)
     (repeat' ((first|refine kA ?_|refine kE ?_|apply kB<;>intro _|fail)<;>conv=>whnf))
     (refine ⟨2, rfl, by rw [List.length_map, mixE_len]; exact hil, ?_⟩; conv => whnf)
     (repeat' ((first|refine kA ?_|refine kE ?_|apply kB<;>intro _|fail)<;>conv=>whnf))
     (refine ⟨_, hx2, rfl, Nat.le_refl 2, _, hset2, ?_⟩; conv => whnf)
     (repeat' ((first|refine kA ?_|refine kE ?_|apply kB<;>intro _|fail)<;>conv=>whnf))
     exact ⟨m - 1, by omega, 2 + 1, by omega, rfl⟩
   ·have g1 : decide ((i : Int) < (rs.length : Int)) = false := decide_eq_false (by omega)
    have ei : i = rs.length := by omega
    subst ei
    conv => whnf
    (repeat' ((first|refine kA ?_|refine kE ?_|apply kB<;>intro _|fail)<;>conv=>whnf))
    (refine ⟨[1, 2, 11], 14, rfl, ?_⟩; conv => whnf)
    exact ⟨hjl, hjl, rfl, by rw [w1 j (by omega), ← mixE_next]⟩
 ·rintro ob n1 h1 ⟨h2, rfl, rfl⟩
  conv => whnf
  (repeat' ((first|refine kA ?_|refine kE ?_|apply kB<;>intro _|fail)<;>conv=>whnf))
  (refine ⟨[.frz 11], ?_⟩; conv => whnf)
  rw [List.length_map, mixE_0]
  rfl
end Go.Ev.YtijidghjiaiccaaGreat.K


namespace Go.Ev.YtijidghjiaiccaaGreat.K
open Go.Proofs
attribute [local irreducible] Pure Bor Iter SubC knB okA knK
structure TOK (rs : List (Int × Int)) (T : List Int) : Prop where
 len : T.length = rs.length
 r : ∀ b, b < rs.length → (rs.getD b (0, 0)).1 ≤ T.getD b 0 ∧ T.getD b 0 ≤ (rs.getD b (0, 0)).2 ∧ (0 < b → T.getD (b - 1) 0 ≤ T.getD b 0)
def cJ (T : List Int) (j i : Nat) : Int := if i < j then T.getD i 0 else 0
def pad3 (T : List Int) : List Int := [cJ T T.length 0, cJ T T.length 1, cJ T T.length 2]
theorem ownT_pure {rs : List (Int × Int)} (h3 : rs.length ≤ 3) {T : List Int} (hT : TOK rs T) : Pure Tryz.prog 34 [mtD rs, .seq (T.map fun n => [dI n])] (.tup [rtD (pad3 T), dB true]) := by
 have hm : ((rs.map rgC).length : Int) = rs.length := by rw [List.length_map]
 have hn : ((T.map fun n => [dI n]).length : Int) = T.length := by rw [List.length_map]
 have hl := hT.len
 have g0 : (((T.map fun n => [dI n]).length : Int) != ((rs.map rgC).length : Int)) = false := by rw [hm, hn, hl]; simp
 have hgt : ∀ b, b < T.length → (T.map fun n => [dI n])[b]? = some [dI (T.getD b 0)] := fun b hb => by
  rw [List.getElem?_map, List.getD_eq_getElem?_getD, List.getElem?_eq_getElem hb]; rfl
 have hgr : ∀ b, b < rs.length → (rs.map rgC)[b]? = some (rgC (rs.getD b (0, 0))) := fun b hb => by
  rw [List.getElem?_map, List.getD_eq_getElem?_getD, List.getElem?_eq_getElem hb]; rfl
 have cw : ∀ b, b < rs.length → Pure Tryz.prog 61 [dI (T.getD b 0), dI (rs.getD b (0, 0)).1, dI (rs.getD b (0, 0)).2] (dB true) := fun b hb => by
  have c := within_pure (T.getD b 0) (rs.getD b (0, 0)).1 (rs.getD b (0, 0)).2
  have e : inB (T.getD b 0) (rs.getD b (0, 0)).1 (rs.getD b (0, 0)).2 = true := by
   have := hT.r b hb
   unfold inB; rw [Bool.and_eq_true, decide_eq_true_eq, decide_eq_true_eq]; exact ⟨this.1, this.2.1⟩
  rw [e] at c; exact c
 refine pure_of pg Tryz.func34 (by kernel_rfl) ?_
 conv => whnf
 (repeat' ((first|refine kA ?_|refine kE ?_|apply kB<;>intro _|fail)<;>conv=>whnf))
 refine ⟨[], [1, 2, 4, 5, 15, 16, 17], [0, 1], 2, fun m s => ∃ j : Nat, j + m = T.length ∧ s = ⟨[(1, .d (.seq (T.map fun n => [dI n]))), (2, .ref 0 0), (4, .ref 1 0), (5, .d (dB false)), (15, .d (.seq (T.map fun n => [dI n]))), (16, .d (dI (T.map fun n => [dI n]).length)), (17, .d (dI j))], [(0, mtO rs), (1, .var false 123 [.d (dI (cJ T j 0)), .d (dI (cJ T j 1)), .d (dI (cJ T j 2))])], 2⟩, ?_, ?_⟩
 ·conv => whnf
  exact ⟨T.length, 0, by omega, rfl⟩
 ·rintro m _ ⟨j, hj, rfl⟩
  by_cases hjl : j < T.length
  ·have g1 : decide ((j : Int) < ((T.map fun n => [dI n]).length : Int)) = true := decide_eq_true (by rw [hn]; omega)
   have hg := hgt j hjl
   have hr := hgr j (by omega)
   have c := cw j (by omega)
   have hlt := (hT.r j (by omega)).2.2
   rcases (by omega : j = 0 ∨ j = 1 ∨ j = 2) with rfl | rfl | rfl
   ·conv => whnf
    (repeat' ((first|refine kA ?_|refine kE ?_|apply kB<;>intro _|fail)<;>conv=>whnf))
    (refine ⟨0, _, rfl, hg, rfl, ?_⟩; conv => whnf)
    (repeat' ((first|refine kA ?_|refine kE ?_|apply kB<;>intro _|fail)<;>conv=>whnf))
    (refine ⟨0, _, rfl, hr, rfl, ?_⟩; conv => whnf)
    (refine ⟨0, _, rfl, hr, rfl, ?_⟩; conv => whnf)
    (repeat' ((first|refine kA ?_|refine kE ?_|apply kB<;>intro _|refine .inl ⟨_, c, ?_⟩|fail)<;>conv=>whnf))
    (refine ⟨0, rfl, by decide, ?_⟩; conv => whnf)
    (repeat' ((first|refine kA ?_|refine kE ?_|apply kB<;>intro _|fail)<;>conv=>whnf))
    exact ⟨m - 1, by omega, 0 + 1, by omega, rfl⟩
   ·have hg0 := hgt 0 (by omega)
    have g2 : decide (T.getD 1 0 < T.getD 0 0) = false := decide_eq_false (by have := hlt (by decide); show ¬ _ < _; exact Int.not_lt.2 this)
    conv => whnf
    (repeat' ((first|refine kA ?_|refine kE ?_|apply kB<;>intro _|fail)<;>conv=>whnf))
    (refine ⟨1, _, rfl, hg, rfl, ?_⟩; conv => whnf)
    (repeat' ((first|refine kA ?_|refine kE ?_|apply kB<;>intro _|fail)<;>conv=>whnf))
    (refine ⟨1, _, rfl, hr, rfl, ?_⟩; conv => whnf)
    (refine ⟨1, _, rfl, hr, rfl, ?_⟩; conv => whnf)
    (repeat' ((first|refine kA ?_|refine kE ?_|apply kB<;>intro _|refine .inl ⟨_, c, ?_⟩|fail)<;>conv=>whnf))
    (refine ⟨0, _, rfl, hg0, rfl, ?_⟩; conv => whnf)
    (repeat' ((first|refine kA ?_|refine kE ?_|apply kB<;>intro _|fail)<;>conv=>whnf))
    (refine ⟨1, rfl, by decide, ?_⟩; conv => whnf)
    (repeat' ((first|refine kA ?_|refine kE ?_|apply kB<;>intro _|fail)<;>conv=>whnf))
    exact ⟨m - 1, by omega, 1 + 1, by omega, rfl⟩
   ·have hg0 := hgt 1 (by omega)
    have g2 : decide (T.getD 2 0 < T.getD 1 0) = false := decide_eq_false (by have := hlt (by decide); show ¬ _ < _; exact Int.not_lt.2 this)
    conv => whnf
    (repeat' ((first|refine kA ?_|refine kE ?_|apply kB<;>intro _|fail)<;>conv=>whnf))
    (refine ⟨2, _, rfl, hg, rfl, ?_⟩; conv => whnf)
    (repeat' ((first|refine kA ?_|refine kE ?_|apply kB<;>intro _|fail)<;>conv=>whnf))
    (refine ⟨2, _, rfl, hr, rfl, ?_⟩; conv => whnf)
    (refine ⟨2, _, rfl, hr, rfl, ?_⟩; conv => whnf)
    (repeat' ((first|refine kA ?_|refine kE ?_|apply kB<;>intro _|refine .inl ⟨_, c, ?_⟩|fail)<;>conv=>whnf))
    (refine ⟨1, _, rfl, hg0, rfl, ?_⟩; conv => whnf)
    (repeat' ((first|refine kA ?_|refine kE ?_|apply kB<;>intro _|fail)<;>conv=>whnf))
    (refine ⟨2, rfl, by decide, ?_⟩; conv => whnf)
    (repeat' ((first|refine kA ?_|refine kE ?_|apply kB<;>intro _|fail)<;>conv=>whnf))
    exact ⟨m - 1, by omega, 2 + 1, by omega, rfl⟩
  ·have g1 : decide ((j : Int) < ((T.map fun n => [dI n]).length : Int)) = false := decide_eq_false (by rw [hn]; omega)
   have ej : j = T.length := by omega
   subst ej
   conv => whnf
   (repeat' ((first|refine kA ?_|refine kE ?_|apply kB<;>intro _|fail)<;>conv=>whnf))
   rfl
theorem to_pure (x : Int × Int) : Pure Tryz.prog 36 [rgA x] (rgA x) := by
 refine pure_of pg Tryz.func36 (by kernel_rfl) ?_
 conv => whnf
 (repeat' ((first|refine kA ?_|refine kE ?_|apply kB<;>intro _|fail)<;>conv=>whnf))
 rfl
theorem material_pure (l : List (Int × Int)) (hl : l.length ≤ 1000) : Pure Tryz.prog 13 [mtD l] (mtD l) := by
 have hm : ((l.map rgC).length : Int) = (l.length : Int) := by rw [List.length_map]
 refine pure_of_n pg Tryz.func13 (by kernel_rfl) ?_
 conv => whnf
 refine ⟨[.cown 2 0 49, .rex], [1, 2, 3, 4], [0, 1, 2, 3], 4, fun m s => ∃ k : Nat, k + m = l.length ∧
  s = ⟨[(1, .ref 0 0), (2, .ref 1 0), (3, .ref 2 0), (4, .d (dI k))], [(0, .var false 24 [.d (.seq (l.map rgC))]), (1, .var false 59 [.d (.v (.slice none 0 0))]), (2, .var false 59 [.own 3]), (3, .arr 49 ((l.take k).map rgC))], 4⟩, ?_, ?_⟩
 ·conv => whnf
  exact ⟨l.length, 0, by simp, rfl⟩
 ·rintro m _ ⟨k, hk, rfl⟩
  by_cases hlt : k < l.length
  ·have g1 : decide ((k : Int) < ((l.map rgC).length : Int)) = true := decide_eq_true (by rw [hm]; omega)
   have hg : (l.map rgC)[k]? = some (rgC l[k]) := by rw [List.getElem?_map, List.getElem?_eq_getElem hlt]; rfl
   have ct := to_pure l[k]
   have htk : (l.take k).length ≤ k := List.length_take_le _ _
   conv => whnf
   (repeat' ((first|refine kA ?_|refine kE ?_|apply kB<;>intro _|fail)<;>conv=>whnf))
   (refine ⟨k, _, rfl, hg, rfl, ?_⟩; conv => whnf)
   (repeat' ((first|refine kA ?_|refine kE ?_|apply kB<;>intro _|refine .inl ⟨_, ct, ?_⟩|fail)<;>conv=>whnf))
   (refine .l ?_; conv => whnf)
   (refine ⟨fun el h => by rw [List.mem_singleton.1 h]; rfl, by show (((l.take k).map rgC).length + 1) * 16 ≤ _; rw [List.length_map]; omega, ?_⟩; conv => whnf)
   (repeat' ((first|refine kA ?_|refine kE ?_|apply kB<;>intro _|fail)<;>conv=>whnf))
   (refine ⟨[0, 1, 2, 76], ?_⟩; conv => whnf)
   refine ⟨m - 1, by omega, k + 1, by omega, ?_⟩
   rw [w1 k (by omega), List.take_succ_eq_append_getElem hlt, List.map_append]
   rfl
  ·have g1 : decide ((k : Int) < ((l.map rgC).length : Int)) = false := decide_eq_false (by rw [hm]; omega)
   have e : l.take k = l := List.take_of_length_le (by omega)
   rw [e]
   conv => whnf
   (repeat' ((first|refine kA ?_|refine kE ?_|apply kB<;>intro _|fail)<;>conv=>whnf))
   rfl
theorem pad3_len {T : List Int} : (pad3 T).length = 3 := rfl
theorem pad3_L3 {rs : List (Int × Int)} (h : MtOK rs) {T : List Int} (hT : TOK rs T) : L3 (pad3 T) := by
 have hb : ∀ b j, 0 ≤ cJ T j b ∧ cJ T j b ≤ 1000 := fun b j => by
  unfold cJ
  split
  ·by_cases hl : b < rs.length
   ·have h1 := hT.r b hl
    have h2 := (h.rs.at hl).2
    omega
   ·rw [List.getD_eq_getElem?_getD, List.getElem?_eq_none (by rw [hT.len]; omega)]
    exact ⟨by decide, by decide⟩
  ·exact ⟨by decide, by decide⟩
 refine ⟨rfl, fun x hx => ?_⟩
 unfold pad3 at hx
 rcases List.mem_cons.1 hx with rfl | hx
 ·exact hb 0 _
 ·rcases List.mem_cons.1 hx with rfl | hx
  ·exact hb 1 _
  ·rw [List.mem_singleton.1 hx]; exact hb 2 _
attribute [local irreducible] pad3
theorem allowsT {rs : List (Int × Int)} (h : MtOK rs) {k : Nat} {R : List (Int × Int)} (hR : RnOK rs k R) {T : List Int} (hT : TOK rs T) : Pure Tryz.prog 12 [mtD rs, rnsD k R, .seq (T.map fun n => [dI n])] (.tup [dB (okA k R (pad3 T)), dI 0]) := by
 have ce := enterR h hR
 have co := ownT_pure h.n.2 hT
 have ca := allowedR h.n.2 hR [] (pad3 T) (fun _ hx => nomatch hx) (pad3_L3 h hT)
 have hkn : knB (okA k R) [] = [] := by unfold knB; rfl
 rw [hkn] at ca
 obtain ⟨a, b, c, habc⟩ : ∃ a b c, pad3 T = [a, b, c] := by
  match hh : pad3 T, (pad3_L3 h hT).1 with
  | [a, b, c], _ => exact ⟨a, b, c, rfl⟩
 obtain ⟨B, hB⟩ : ∃ B, B = okA k R (pad3 T) := ⟨_, rfl⟩
 rw [← hB] at ca ⊢
 rw [habc] at ca co
 refine pure_of pg Tryz.func12 (by kernel_rfl) ?_
 conv => whnf
 (repeat' ((first|refine kA ?_|refine kE ?_|apply kB<;>intro _|fail)<;>conv=>whnf))
 (refine .inr ⟨[], 3, _, _, ce, ?_⟩; conv => whnf)
 (repeat' ((first|refine kA ?_|refine kE ?_|apply kB<;>intro _|refine .inl ⟨_, co, ?_⟩|fail)<;>conv=>whnf))
 (refine .inr ⟨[2, 3], 2, _, _, ca, ?_⟩; conv => whnf)
 (repeat' ((first|refine kA ?_|refine kE ?_|apply kB<;>intro _|fail)<;>conv=>whnf))
 rfl
end Go.Ev.YtijidghjiaiccaaGreat.K


namespace Go.Ev.YtijidghjiaiccaaGreat
open Go.Proofs
theorem one_ok : K.MtOK [(2, 3)] := ⟨by decide, by decide, by decide⟩
theorem rates_one : Pure Tryz.prog 14 [K.mtD [(2, 3)], .seq []] (.tup [.seq [K.rgC (2, 3)], dI 2, dI 0]) := by
 have e : K.filE [(2, 3)] 0 [] = [[2, 0, 0], [3, 0, 0]] := by decide
 have c := K.ratesR one_ok (k := 0) (R := []) ⟨by decide, by decide, fun _ hx => nomatch hx⟩ (by rw [e]; decide)
 rw [e] at c
 have e2 : (List.range [((2 : Int), (3 : Int))].length).map (fun b => K.wdE [[2, 0, 0], [3, 0, 0]] b [[(2 : Int), 0, 0], [3, 0, 0]].length) = [(2, 3)] := by decide
 rw [e2] at c
 exact c
theorem chart_cards : cardsL ⟨3, [⟨5, 8⟩]⟩ = [⟨3, 0, 1, [⟨5, 8⟩]⟩] := by decide +kernel
theorem chart_check : checkI [⟨3, [⟨5, 8⟩]⟩] = 0 := by decide +kernel
theorem chart_len : (layB ⟨3, 0, 1, [⟨5, 8⟩]⟩).length = 40 := by decide +kernel
theorem chart_at : (layB ⟨3, 0, 1, [⟨5, 8⟩]⟩)[9]? = some 8 := by decide +kernel
theorem chart_e : C.reE [(5, 7, 9)] (1, 1, 9) [8] = 0 := by decide +kernel
theorem chart_x : ∃ a b c d e f : Int, C.resD [(5, 7, 9)] (1, 1, 9) [8] = .agg [dI 8, dI a, dI b, dI c, dI d, dI e, dI f] := by
 have h : (C.maxN [8] [(8 : Int)].length).1 = 8 := by decide +kernel
 unfold C.resD C.resL7
 rw [h]
 exact ⟨_, _, _, _, _, _, rfl⟩
attribute [local irreducible] Pure Bor Iter layB layF C.reE C.resD
theorem charts_pure : Pure Tryz.prog 7 [] (dB true) := by
 have c1 := C.Read_pure [(5, 7, 9)] (by decide) (1, 1, 9) [8]
 have ed : C.reD [(5, 7, 9)] (1, 1, 9) [8] = C.resD [(5, 7, 9)] (1, 1, 9) [8] := by unfold C.reD; rw [if_pos chart_e]
 obtain ⟨x2, x3, x4, x5, x6, x7, hx⟩ := chart_x
 rw [ed, hx, chart_e] at c1
 have c2 := Cards_ok ⟨3, [⟨5, 8⟩]⟩ chart_check
 rw [chart_cards] at c2
 have c3 := rates_one
 obtain ⟨b, hb⟩ : ∃ b, b = layB ⟨3, 0, 1, [⟨5, 8⟩]⟩ := ⟨_, rfl⟩
 have hl := chart_len
 have ha := chart_at
 have cb : [(⟨3, 0, 1, [⟨5, 8⟩]⟩ : Cd)].map bytesRow = [[bsD b]] := by rw [hb]; rfl
 rw [cb] at c2
 rw [← hb] at hl ha
 have g1 : ((([[bsD b]] : List (List D)).length : Int) == 1) = true := rfl
 have g2 : (((b.map fun x => [dU x]).length : Int) == 40) = true := by rw [List.length_map, hl]; rfl
 have h9 : (b.map fun x => [dU x])[9]? = some [dU 8] := by rw [List.getElem?_map, ha]; rfl
 refine pure_of pg Tryz.func7 (by kernel_rfl) ?_
 ((conv=>whnf);repeat((first|refine ChL.l ?_|refine ChC.r ?_|fail);conv=>whnf))
 (repeat' ((first|refine kA ?_|refine kE ?_|apply kB<;>intro _|refine .inl ⟨_, c1, ?_⟩|refine .inl ⟨_, c2, ?_⟩|refine .inl ⟨_, c3, ?_⟩|refine ChL.l ?_|refine ChC.r ?_|fail)<;>conv=>whnf))
 (refine ⟨0, _, rfl, rfl, rfl, ?_⟩; ((conv=>whnf);repeat((first|refine ChL.l ?_|refine ChC.r ?_|fail);conv=>whnf)))
 (repeat' ((first|refine kA ?_|refine kE ?_|apply kB<;>intro _|refine ChL.l ?_|refine ChC.r ?_|fail)<;>conv=>whnf))
 (refine ⟨0, _, rfl, rfl, rfl, ?_⟩; ((conv=>whnf);repeat((first|refine ChL.l ?_|refine ChC.r ?_|fail);conv=>whnf)))
 (repeat' ((first|refine kA ?_|refine kE ?_|apply kB<;>intro _|refine ChL.l ?_|refine ChC.r ?_|fail)<;>conv=>whnf))
 (refine ⟨9, _, rfl, h9, rfl, ?_⟩; ((conv=>whnf);repeat((first|refine ChL.l ?_|refine ChC.r ?_|fail);conv=>whnf)))
 (repeat' ((first|refine kA ?_|refine kE ?_|apply kB<;>intro _|refine ChL.l ?_|refine ChC.r ?_|fail)<;>conv=>whnf))
 rfl
end Go.Ev.YtijidghjiaiccaaGreat


namespace Go.Ev.YtijidghjiaiccaaGreat.K
open Go.Proofs
attribute [local irreducible] Pure Bor Iter SubC
theorem in_pure (n lo hi : Int) : Pure Tryz.prog 24 [dI n, dI lo, dI hi] (dB (inB n lo hi)) := by
 refine pure_of pg Tryz.func24 (by kernel_rfl) ?_
 conv => whnf
 (repeat' ((first|refine kA ?_|refine kE ?_|apply kB<;>intro _|fail)<;>conv=>whnf))
 all_goals (rename_i h; unfold inB; have h : decide (lo ≤ n) = _ := h; rw [h]; rfl)
theorem thin_pure (rs : List (Int × Int)) : Pure Tryz.prog 5 [mtD rs, .seq [], .seq []] (dB (decide (((rs.map rgC).length : Int) ≤ 6))) := by
 refine pure_of pg Tryz.func5 (by kernel_rfl) ?_
 conv => whnf
 (repeat' ((first|refine kA ?_|refine kE ?_|apply kB<;>intro _|fail)<;>conv=>whnf))
 refine ⟨[], [1, 2, 3, 6, 7], [0], 1, fun m s => m = 0 ∧ s = ⟨[(1, .d (.seq [])), (2, .d (.seq [])), (3, .ref 0 0), (6, .d (dB false)), (7, .d (dI 0))], [(0, .var false 24 [.d (.seq (rs.map rgC))])], 1⟩, ?_, ?_⟩
 ·conv => whnf
  exact ⟨0, rfl, rfl⟩
 ·rintro m _ ⟨rfl, rfl⟩
  conv => whnf
  (repeat' ((first|refine kA ?_|refine kE ?_|apply kB<;>intro _|fail)<;>conv=>whnf))
  all_goals (rename_i h; rw [h]; rfl)
def okX (x : Int × Int) : Bool := inB x.1 0 x.2 && (decide (x.2 ≤ 1000) && decide (x.2 - x.1 ≤ 20))
def mfB : Int → List (Int × Int) → Bool
 | _, [] => true
 | m, x :: r => okX x && (decide (max m x.1 ≤ x.2) && mfB (max m x.1) r)
def mfI (rs : List (Int × Int)) : Int := if (inB rs.length 1 3 && mfB 0 rs) = true then 0 else 1
theorem fault_pure (rs : List (Int × Int)) : Pure Tryz.prog 6 [mtD rs] (dI (mfI rs)) := by
 have hm : ((rs.map rgC).length : Int) = rs.length := by rw [List.length_map]
 have c0 := in_pure ((rs.map rgC).length : Int) 1 3
 by_cases hn : inB ((rs.map rgC).length : Int) 1 3 = true
 ·have hl : rs.length ≤ 3 := by
   rw [hm] at hn; unfold inB at hn
   rw [Bool.and_eq_true, decide_eq_true_eq, decide_eq_true_eq] at hn; omega
  have he : mfI rs = if mfB 0 rs = true then 0 else 1 := by unfold mfI; rw [← hm, hn, Bool.true_and]
  rw [he]
  have g0 : (!inB ((rs.map rgC).length : Int) 1 3) = false := by rw [hn]; rfl
  obtain ⟨B, hB⟩ : ∃ B, B = mfB 0 rs := ⟨_, rfl⟩
  rw [← hB]
  refine pure_of pg Tryz.func6 (by kernel_rfl) ?_
  conv => whnf
  (repeat' ((first|refine kA ?_|refine kE ?_|apply kB<;>intro _|refine .inl ⟨_, c0, ?_⟩|fail)<;>conv=>whnf))
  refine ⟨[], [1, 2, 3, 4], [0], 1, fun m s => ∃ (j : Nat) (v : Int), j + m = rs.length ∧ mfB v (rs.drop j) = B ∧ s = ⟨[(1, .ref 0 0), (2, .d (dI 0)), (3, .d (dI v)), (4, .d (dI j))], [(0, .var false 24 [.d (.seq (rs.map rgC))])], 1⟩, ?_, ?_⟩
  ·conv => whnf
   exact ⟨rs.length, 0, 0, by omega, hB.symm, rfl⟩
  ·rintro m _ ⟨j, v, hj, hmf, rfl⟩
   by_cases hjl : j < rs.length
   ·have g1 : decide ((j : Int) < ((rs.map rgC).length : Int)) = true := decide_eq_true (by rw [hm]; omega)
    have hg : (rs.map rgC)[j]? = some (rgC rs[j]) := by rw [List.getElem?_map, List.getElem?_eq_getElem hjl]; rfl
    rw [List.drop_eq_getElem_cons hjl, mfB] at hmf
    obtain ⟨lo, hi, hx⟩ : ∃ lo hi, rs[j] = (lo, hi) := ⟨_, _, rfl⟩
    rw [hx] at hg hmf
    have hg : (rs.map rgC)[j]? = some [dI lo, dI hi] := hg
    have c1 := in_pure lo 0 hi
    by_cases h1 : inB lo 0 hi = true
    ·have g2 : (!inB lo 0 hi) = false := by rw [h1]; rfl
     have h1' := h1
     unfold inB at h1'
     rw [Bool.and_eq_true, decide_eq_true_eq, decide_eq_true_eq] at h1'
     by_cases h2 : hi ≤ 1000
     ·have g3 : decide (hi > 1000) = false := decide_eq_false (by omega)
      have w2 : IntKind.i64.wrap (hi - lo) = hi - lo := wrapI (by omega) (by omega)
      by_cases h3 : hi - lo ≤ 20
      ·have g4 : decide (IntKind.i64.wrap (hi - lo) > 20) = false := decide_eq_false (by rw [w2]; omega)
       have ok : okX (lo, hi) = true := by unfold okX; rw [h1, decide_eq_true h2, decide_eq_true h3]; rfl
       rw [ok, Bool.true_and] at hmf
       by_cases h4 : max v lo ≤ hi
       ·have g5 : decide (max v lo > hi) = false := decide_eq_false (by omega)
        have h4' : max v (lo, hi).1 ≤ (lo, hi).2 := h4
        rw [decide_eq_true h4', Bool.true_and] at hmf
        conv => whnf
        (repeat' ((first|refine kA ?_|refine kE ?_|apply kB<;>intro _|fail)<;>conv=>whnf))
        (refine ⟨j, _, rfl, hg, rfl, ?_⟩; conv => whnf)
        (repeat' ((first|refine kA ?_|refine kE ?_|apply kB<;>intro _|refine .inl ⟨_, c1, ?_⟩|fail)<;>conv=>whnf))
        exact ⟨m - 1, by omega, j + 1, max v lo, by omega, hmf, by rw [w1 j (by omega)]⟩
       ·have g5 : decide (max v lo > hi) = true := decide_eq_true (by omega)
        have h4' : ¬ max v (lo, hi).1 ≤ (lo, hi).2 := h4
        rw [decide_eq_false h4', Bool.false_and] at hmf
        subst hmf
        conv => whnf
        (repeat' ((first|refine kA ?_|refine kE ?_|apply kB<;>intro _|fail)<;>conv=>whnf))
        (refine ⟨j, _, rfl, hg, rfl, ?_⟩; conv => whnf)
        (repeat' ((first|refine kA ?_|refine kE ?_|apply kB<;>intro _|refine .inl ⟨_, c1, ?_⟩|fail)<;>conv=>whnf))
        rfl
      ·have g4 : decide (IntKind.i64.wrap (hi - lo) > 20) = true := decide_eq_true (by rw [w2]; omega)
       have ok : okX (lo, hi) = false := by unfold okX; rw [decide_eq_false h3, Bool.and_false, Bool.and_false]
       rw [ok, Bool.false_and] at hmf
       subst hmf
       conv => whnf
       (repeat' ((first|refine kA ?_|refine kE ?_|apply kB<;>intro _|fail)<;>conv=>whnf))
       (refine ⟨j, _, rfl, hg, rfl, ?_⟩; conv => whnf)
       (repeat' ((first|refine kA ?_|refine kE ?_|apply kB<;>intro _|refine .inl ⟨_, c1, ?_⟩|fail)<;>conv=>whnf))
       rfl
     ·have g3 : decide (hi > 1000) = true := decide_eq_true (by omega)
      have ok : okX (lo, hi) = false := by unfold okX; rw [decide_eq_false h2, Bool.false_and, Bool.and_false]
      rw [ok, Bool.false_and] at hmf
      subst hmf
      conv => whnf
      (repeat' ((first|refine kA ?_|refine kE ?_|apply kB<;>intro _|fail)<;>conv=>whnf))
      (refine ⟨j, _, rfl, hg, rfl, ?_⟩; conv => whnf)
      (repeat' ((first|refine kA ?_|refine kE ?_|apply kB<;>intro _|refine .inl ⟨_, c1, ?_⟩|fail)<;>conv=>whnf))
      rfl
    ·have h1 := (Bool.not_eq_true _).mp h1
     have g2 : (!inB lo 0 hi) = true := by rw [h1]; rfl
     have ok : okX (lo, hi) = false := by unfold okX; rw [h1]; rfl
     rw [ok, Bool.false_and] at hmf
     subst hmf
     conv => whnf
     (repeat' ((first|refine kA ?_|refine kE ?_|apply kB<;>intro _|fail)<;>conv=>whnf))
     (refine ⟨j, _, rfl, hg, rfl, ?_⟩; conv => whnf)
     (repeat' ((first|refine kA ?_|refine kE ?_|apply kB<;>intro _|refine .inl ⟨_, c1, ?_⟩|fail)<;>conv=>whnf))
     rfl
   ·have g1 : decide ((j : Int) < ((rs.map rgC).length : Int)) = false := decide_eq_false (by rw [hm]; omega)
    rw [List.drop_of_length_le (by omega), mfB] at hmf
    subst hmf
    conv => whnf
    (repeat' ((first|refine kA ?_|refine kE ?_|apply kB<;>intro _|fail)<;>conv=>whnf))
    rfl
 ·have hn := (Bool.not_eq_true _).mp hn
  have he : mfI rs = 1 := by unfold mfI; rw [← hm, hn]; rfl
  have g0 : (!inB ((rs.map rgC).length : Int) 1 3) = true := by rw [hn]; rfl
  rw [he]
  refine pure_of pg Tryz.func6 (by kernel_rfl) ?_
  conv => whnf
  (repeat' ((first|refine kA ?_|refine kE ?_|apply kB<;>intro _|refine .inl ⟨_, c0, ?_⟩|fail)<;>conv=>whnf))
  rfl
def woE (ws : List Int) (b : Nat) : Int := if ws.length = 0 then 0 else ws.getD (b % ws.length) 0
theorem woE_b {ws : List Int} (hw : ∀ x ∈ ws, 0 ≤ x ∧ x ≤ 65535) (b : Nat) : 0 ≤ woE ws b ∧ woE ws b ≤ 65535 := by
 unfold woE
 split
 ·omega
 ·rw [List.getD_eq_getElem?_getD, List.getElem?_eq_getElem (Nat.mod_lt _ (by omega))]
  exact hw _ (List.getElem_mem _)
theorem word_pure {ws : List Int} (hl : ws.length ≤ 9223372036854775807) (hw : ∀ x ∈ ws, 0 ≤ x ∧ x ≤ 65535) (b : Nat) : Pure Tryz.prog 26 [C.wsD ws, dI b] (dI (woE ws b)) := by
 have hm : ((ws.map fun w => [C.dW w]).length : Int) = ws.length := by rw [List.length_map]
 by_cases h0 : ws.length = 0
 ·have e : woE ws b = 0 := by unfold woE; rw [if_pos h0]
  obtain rfl := List.eq_nil_of_length_eq_zero h0
  rw [e]
  refine pure_of pg Tryz.func26 (by kernel_rfl) ?_
  conv => whnf
  (repeat' ((first|refine kA ?_|refine kE ?_|apply kB<;>intro _|fail)<;>conv=>whnf))
  rfl
 ·have e : woE ws b = ws.getD (b % ws.length) 0 := by unfold woE; rw [if_neg h0]
  have hb := woE_b hw b
  rw [e] at hb ⊢
  obtain ⟨v, hv⟩ : ∃ v, v = ws.getD (b % ws.length) 0 := ⟨_, rfl⟩
  rw [← hv] at hb ⊢
  have hg : (ws.map fun w => [C.dW w])[b % ws.length]? = some [C.dW v] := by
   rw [List.getElem?_map, hv, List.getD_eq_getElem?_getD, List.getElem?_eq_getElem (Nat.mod_lt _ (by omega))]; rfl
  have g0 : (((ws.map fun w => [C.dW w]).length : Int) == 0) = false := by rw [hm, beq_eq_false_iff_ne]; omega
  have er : ((b : Int)).tmod ((ws.map fun w => [C.dW w]).length : Int) = ((b % ws.length : Nat) : Int) := by rw [hm]; rfl
  have wv : IntKind.i64.wrap v = v := wrapI (by omega) (by omega)
  refine pure_of pg Tryz.func26 (by kernel_rfl) ?_
  conv => whnf
  (repeat' ((first|refine kA ?_|refine kE ?_|apply kB<;>intro _|fail)<;>conv=>whnf))
  (refine ⟨by rw [List.length_map]; omega, ?_⟩; conv => whnf)
  (repeat' ((first|refine kA ?_|refine kE ?_|apply kB<;>intro _|fail)<;>conv=>whnf))
  (refine ⟨b % ws.length, _, er, hg, rfl, ?_⟩; conv => whnf)
  (repeat' ((first|refine kA ?_|refine kE ?_|apply kB<;>intro _|fail)<;>conv=>whnf))
  rw [wv]
  rfl
end Go.Ev.YtijidghjiaiccaaGreat.K


namespace Go.Ev.YtijidghjiaiccaaGreat.K
open Go.Proofs
abbrev rAt (rs : List (Int × Int)) (b : Nat) : Int × Int := rs.getD b (0, 0)
def stE (rs : List (Int × Int)) (ws : List Int) (b : Nat) : Int := (rAt rs b).1 + (woE ws b).tmod ((rAt rs b).2 - (rAt rs b).1 + 1)
def fwE (rs : List (Int × Int)) (ws : List Int) : Nat → Int
 | 0 => stE rs ws 0
 | b + 1 => max (stE rs ws (b + 1)) (fwE rs ws b)
def gE (rs : List (Int × Int)) (ws : List Int) (n : Nat) : Nat → Int
 | 0 => min (fwE rs ws (n - 1)) (rAt rs (n - 1)).2
 | i + 1 => min (min (fwE rs ws (n - 1 - (i + 1))) (rAt rs (n - 1 - (i + 1))).2) (gE rs ws n i)
def trS (rs : List (Int × Int)) (ws : List Int) (n i : Nat) : List Int := (List.range n).map fun b => if n ≤ b + i then gE rs ws n (n - 1 - b) else fwE rs ws b
def trT (rs : List (Int × Int)) (ws : List Int) : List Int := trS rs ws rs.length rs.length
theorem trS_len {rs : List (Int × Int)} {ws : List Int} {n i : Nat} : (trS rs ws n i).length = n := by unfold trS; rw [List.length_map, List.length_range]
theorem trS_get {rs : List (Int × Int)} {ws : List Int} {n i b : Nat} (h : b < n) : (trS rs ws n i)[b]? = some (if n ≤ b + i then gE rs ws n (n - 1 - b) else fwE rs ws b) := by
 unfold trS; rw [List.getElem?_map, List.getElem?_range h]; rfl
theorem trS_set {rs : List (Int × Int)} {ws : List Int} {n i : Nat} (h : i < n) : (trS rs ws n i).set (n - 1 - i) (gE rs ws n i) = trS rs ws n (i + 1) := by
 refine List.ext_getElem? fun b => ?_
 by_cases hb : b < n
 ·rw [List.getElem?_set, trS_len, trS_get hb, trS_get hb]
  by_cases he : n - 1 - i = b
  ·rw [if_pos he, if_pos (by omega), if_pos (by omega)]
   congr 2; omega
  ·rw [if_neg he]
   by_cases h1 : n ≤ b + i
   ·rw [if_pos h1, if_pos (by omega)]
   ·rw [if_neg h1, if_neg (by omega)]
 ·rw [List.getElem?_eq_none (by rw [List.length_set, trS_len]; omega), List.getElem?_eq_none (by rw [trS_len]; omega)]
def mxE : Int → List (Int × Int) → Nat → Int
 | m, [], _ => m
 | m, x :: _, 0 => max m x.1
 | m, x :: r, b + 1 => mxE (max m x.1) r b
theorem mxE_succ : ∀ (rs : List (Int × Int)) (m : Int) (b : Nat), b + 1 < rs.length → mxE m rs (b + 1) = max (mxE m rs b) (rAt rs (b + 1)).1
 | [], _, _, h => absurd h (Nat.not_lt_zero _)
 | [x], m, b, h => absurd h (by simp)
 | x :: y :: r, m, 0, _ => rfl
 | x :: y :: r, m, b + 1, h => by
  rw [mxE, mxE_succ (y :: r) _ b (by simpa using h)]
  rfl
theorem mfB_at : ∀ (rs : List (Int × Int)) (m : Int), mfB m rs = true → ∀ b, b < rs.length → (0 ≤ (rAt rs b).1 ∧ (rAt rs b).1 ≤ (rAt rs b).2 ∧ (rAt rs b).2 ≤ 1000 ∧ (rAt rs b).2 - (rAt rs b).1 ≤ 20) ∧ mxE m rs b ≤ (rAt rs b).2 ∧ (rAt rs b).1 ≤ mxE m rs b
 | [], _, _, _, hb => absurd hb (Nat.not_lt_zero _)
 | x :: r, m, h, b, hb => by
  rw [mfB, Bool.and_eq_true, Bool.and_eq_true, decide_eq_true_eq] at h
  obtain ⟨h1, h2, h3⟩ := h
  cases b with
  | zero =>
   unfold okX inB at h1
   rw [Bool.and_eq_true, Bool.and_eq_true, Bool.and_eq_true, decide_eq_true_eq, decide_eq_true_eq, decide_eq_true_eq, decide_eq_true_eq] at h1
   show (0 ≤ x.1 ∧ x.1 ≤ x.2 ∧ x.2 ≤ 1000 ∧ x.2 - x.1 ≤ 20) ∧ max m x.1 ≤ x.2 ∧ x.1 ≤ max m x.1
   omega
  | succ b => exact mfB_at r _ h3 b (by simpa using hb)
def MV (rs : List (Int × Int)) : Prop := mfI rs = 0
theorem MV.n {rs : List (Int × Int)} (h : MV rs) : (0 < rs.length ∧ rs.length ≤ 3) ∧ mfB 0 rs = true := by
 unfold MV mfI at h
 split at h
 ·rename_i hh
  unfold inB at hh
  rw [Bool.and_eq_true, Bool.and_eq_true, decide_eq_true_eq, decide_eq_true_eq] at hh
  exact ⟨by omega, hh.2⟩
 ·cases h
theorem fwE_mx {rs : List (Int × Int)} (h : mfB 0 rs = true) {ws : List Int} (hw : ∀ x ∈ ws, 0 ≤ x ∧ x ≤ 65535) : ∀ b, b < rs.length → mxE 0 rs b ≤ fwE rs ws b
 | 0, hb => by
  have h1 := mfB_at rs 0 h 0 hb
  have h2 := woE_b hw 0
  have h3 := Int.tmod_nonneg ((rAt rs 0).2 - (rAt rs 0).1 + 1) h2.1
  have e : mxE 0 rs 0 = max 0 (rAt rs 0).1 := by
   match rs, hb with
   | x :: _, _ => rfl
  rw [fwE, stE, e]
  omega
 | b + 1, hb => by
  have ih := fwE_mx h hw b (by omega)
  have h1 := mfB_at rs 0 h (b + 1) hb
  have h2 := woE_b hw (b + 1)
  have h3 := Int.tmod_nonneg ((rAt rs (b + 1)).2 - (rAt rs (b + 1)).1 + 1) h2.1
  rw [mxE_succ rs 0 b hb, fwE, stE]
  omega
theorem gE_mx {rs : List (Int × Int)} (h : mfB 0 rs = true) {ws : List Int} (hw : ∀ x ∈ ws, 0 ≤ x ∧ x ≤ 65535) : ∀ i, i < rs.length → mxE 0 rs (rs.length - 1 - i) ≤ gE rs ws rs.length i
 | 0, hb => by
  have h1 := mfB_at rs 0 h (rs.length - 1) (by omega)
  have h2 := fwE_mx h hw (rs.length - 1) (by omega)
  rw [gE, Nat.sub_zero]; omega
 | i + 1, hb => by
  have ih := gE_mx h hw i (by omega)
  have h1 := mfB_at rs 0 h (rs.length - 1 - (i + 1)) (by omega)
  have h2 := fwE_mx h hw (rs.length - 1 - (i + 1)) (by omega)
  have h3 := mxE_succ rs 0 (rs.length - 1 - (i + 1)) (by omega)
  rw [show rs.length - 1 - (i + 1) + 1 = rs.length - 1 - i by omega] at h3
  rw [gE]; omega
theorem gE_hi {rs : List (Int × Int)} {ws : List Int} {n : Nat} : ∀ i, gE rs ws n i ≤ (rAt rs (n - 1 - i)).2
 | 0 => by rw [gE, Nat.sub_zero]; omega
 | i + 1 => by rw [gE]; omega
theorem trT_tok {rs : List (Int × Int)} (h : MV rs) {ws : List Int} (hw : ∀ x ∈ ws, 0 ≤ x ∧ x ≤ 65535) : TOK rs (trT rs ws) := by
 have e : ∀ b, b < rs.length → (trT rs ws).getD b 0 = gE rs ws rs.length (rs.length - 1 - b) := fun b hb => by
  unfold trT
  rw [List.getD_eq_getElem?_getD, trS_get hb, if_pos (by omega)]; rfl
 refine ⟨trS_len, fun b hb => ?_⟩
 have hm := h.n.2
 have h1 := gE_mx hm hw (rs.length - 1 - b) (by omega)
 have h2 := gE_hi (rs := rs) (ws := ws) (n := rs.length) (rs.length - 1 - b)
 have h3 := mfB_at rs 0 hm b hb
 have eb : rs.length - 1 - (rs.length - 1 - b) = b := by omega
 rw [eb] at h1 h2
 rw [e b hb]
 refine ⟨by have := h3.2.2; show (rAt rs b).1 ≤ _; omega, h2, fun h0 => ?_⟩
 rw [e (b - 1) (by omega), show rs.length - 1 - (b - 1) = (rs.length - 1 - b) + 1 by omega, gE]
 omega
theorem enE_mem {rs : List (Int × Int)} {x : List Int} (hx3 : x.length = 3) (hx : ∀ b, b < rs.length → (rAt rs b).1 ≤ x.getD b 0 ∧ x.getD b 0 ≤ (rAt rs b).2 ∧ (0 < b → x.getD (b - 1) 0 ≤ x.getD b 0)) :
  ∀ (d band : Nat) (l : List Int), band + d = rs.length → rs.length ≤ 3 → l.length = 3 → (∀ i, i < band ∨ rs.length ≤ i → l.getD i 0 = x.getD i 0) → x ∈ enE rs d band l
 | 0, band, l, hb, h3, hl, ha => by
  have e : x = l := by
   refine List.ext_getElem? fun i => ?_
   by_cases hi : i < 3
   ·have := ha i (by omega)
    rw [List.getD_eq_getElem?_getD, List.getD_eq_getElem?_getD, List.getElem?_eq_getElem (by omega), List.getElem?_eq_getElem (by omega)] at this
    rw [List.getElem?_eq_getElem (by omega), List.getElem?_eq_getElem (by omega)]
    exact congrArg some this.symm
   ·rw [List.getElem?_eq_none (by omega), List.getElem?_eq_none (by omega)]
  rw [enE, List.mem_singleton]; exact e
 | d + 1, band, l, hb, h3, hl, ha => by
  obtain ⟨h1, h2, h4⟩ := hx band (by omega)
  have hlow : lowE rs l band ≤ x.getD band 0 := by
   unfold lowE
   split
   ·exact h1
   ·have := ha (band - 1) (by omega)
    rw [this]
    have := h4 (by omega)
    show max (rAt rs band).1 _ ≤ _
    omega
  rw [enE, List.mem_flatMap]
  refine ⟨(x.getD band 0 - lowE rs l band).toNat, ?_, ?_⟩
  ·rw [List.mem_range]
   unfold cntE
   show _ < ((rAt rs band).2 + 1 - _).toNat
   omega
  ·rw [show lowE rs l band + (((x.getD band 0 - lowE rs l band).toNat : Nat) : Int) = x.getD band 0 by omega]
   refine enE_mem hx3 hx d (band + 1) _ (by omega) h3 (by rw [List.length_set]; exact hl) fun i hi => ?_
   rw [List.getD_eq_getElem?_getD, List.getElem?_set]
   by_cases he : band = i
   ·subst he
    rw [if_pos rfl, if_pos (by omega)]; rfl
   ·rw [if_neg he, ← List.getD_eq_getElem?_getD]
    exact ha i (by omega)
theorem pad3_get {T : List Int} {b : Nat} (h : b < 3) (hl : T.length ≤ 3) : (pad3 T).getD b 0 = T.getD b 0 := by
 have e : ∀ i, cJ T T.length i = T.getD i 0 := fun i => by
  unfold cJ
  split
  ·rfl
  ·rw [List.getD_eq_getElem?_getD, List.getElem?_eq_none (by omega)]; rfl
 unfold pad3
 rw [e, e, e]
 rcases (by omega : b = 0 ∨ b = 1 ∨ b = 2) with rfl | rfl | rfl <;> rfl
theorem tok_mem {rs : List (Int × Int)} (h3 : rs.length ≤ 3) {T : List Int} (hT : TOK rs T) : pad3 T ∈ allE rs := by
 have hl := hT.len
 refine enE_mem pad3_len (fun b hb => ?_) _ 0 _ (by omega) h3 rfl fun i hi => ?_
 ·rw [pad3_get (by omega) (by omega), pad3_get (by omega) (by omega)]; exact hT.r b hb
 ·by_cases h : i < 3
  ·rw [pad3_get h (by omega)]
   rcases hi with hi | hi
   ·omega
   ·rw [List.getD_eq_getElem?_getD (l := T), List.getElem?_eq_none (by omega)]
    rcases (by omega : i = 0 ∨ i = 1 ∨ i = 2) with rfl | rfl | rfl <;> rfl
  ·rw [List.getD_eq_getElem?_getD, List.getD_eq_getElem?_getD, List.getElem?_eq_none (by simp; omega), List.getElem?_eq_none (by rw [pad3_len]; omega)]
theorem MV.ok {rs : List (Int × Int)} (h : MV rs) : MtOK rs := by
 obtain ⟨h1, h2⟩ := h.n
 refine ⟨h1, fun x hx => ?_, ?_⟩
 ·obtain ⟨b, hb, rfl⟩ := List.getElem_of_mem hx
  have := (mfB_at rs 0 h2 b hb).1
  have e : rAt rs b = rs[b] := by unfold rAt; rw [List.getD_eq_getElem?_getD, List.getElem?_eq_getElem hb]; rfl
  rw [e] at this; exact this
 ·have := tok_mem h1.2 (trT_tok h (ws := []) fun _ hx => nomatch hx)
  exact fun he => by
   have he : allE rs = [] := he
   rw [he] at this; cases this
end Go.Ev.YtijidghjiaiccaaGreat.K


namespace Go.Ev.YtijidghjiaiccaaGreat.K
open Go.Proofs
def fwS (rs : List (Int × Int)) (ws : List Int) (j : Nat) : List Int := (List.range j).map (fwE rs ws)
theorem fwS_len {rs : List (Int × Int)} {ws : List Int} {j : Nat} : (fwS rs ws j).length = j := by unfold fwS; rw [List.length_map, List.length_range]
theorem fwS_0 {rs : List (Int × Int)} {ws : List Int} : fwS rs ws 0 = [] := rfl
theorem fwS_s {rs : List (Int × Int)} {ws : List Int} {j : Nat} : fwS rs ws (j + 1) = fwS rs ws j ++ [fwE rs ws j] := by unfold fwS; rw [List.range_succ, List.map_append]; rfl
theorem fwS_at {rs : List (Int × Int)} {ws : List Int} {j i : Nat} (h : i < j) : (fwS rs ws j)[i]? = some (fwE rs ws i) := by unfold fwS; rw [List.getElem?_map, List.getElem?_range h]; rfl
theorem fwS_tr {rs : List (Int × Int)} {ws : List Int} {n : Nat} : fwS rs ws n = trS rs ws n 0 := by
 unfold fwS trS
 exact List.map_congr_left fun b hb => by rw [if_neg (by have := List.mem_range.1 hb; omega)]
theorem fwE_b {rs : List (Int × Int)} (h : mfB 0 rs = true) {ws : List Int} (hw : ∀ x ∈ ws, 0 ≤ x ∧ x ≤ 65535) (b : Nat) (hb : b < rs.length) : 0 ≤ (woE ws b).tmod ((rAt rs b).2 - (rAt rs b).1 + 1) ∧ (woE ws b).tmod ((rAt rs b).2 - (rAt rs b).1 + 1) ≤ 20 := by
 have h1 := mfB_at rs 0 h b hb
 have h2 := woE_b hw b
 have h3 := Int.tmod_nonneg ((rAt rs b).2 - (rAt rs b).1 + 1) h2.1
 have h4 := Int.tmod_lt_of_pos (woE ws b) (b := (rAt rs b).2 - (rAt rs b).1 + 1) (by omega)
 omega
attribute [local irreducible] Pure Bor Iter SubC fwE gE trS fwS woE
theorem truly_pure {rs : List (Int × Int)} (h : MV rs) {ws : List Int} (hl : ws.length ≤ 9223372036854775807) (hw : ∀ x ∈ ws, 0 ≤ x ∧ x ≤ 65535) : Pure Tryz.prog 8 [mtD rs, C.wsD ws] (.seq ((trT rs ws).map fun n => [dI n])) := by
 have hm : ((rs.map rgC).length : Int) = rs.length := by rw [List.length_map]
 have hn := h.n
 have hgr : ∀ b, b < rs.length → (rs.map rgC)[b]? = some [dI (rAt rs b).1, dI (rAt rs b).2] := fun b hb => by
  unfold rAt
  rw [List.getElem?_map, List.getD_eq_getElem?_getD, List.getElem?_eq_getElem hb]; rfl
 refine pure_of_n pg Tryz.func8 (by kernel_rfl) ?_
 conv => whnf
 (repeat' ((first|refine kA ?_|refine kE ?_|apply kB<;>intro _|fail)<;>conv=>whnf))
 refine ⟨[.own 5 3, .rex], [1, 2, 4, 5, 6], [0, 1], 2, fun m s => ∃ j : Nat, j + m = rs.length ∧ s = ⟨[(1, .d (C.wsD ws)), (2, .ref 0 0), (4, .d (.v (.slice none 0 0))), (5, .own 1), (6, .d (dI j))], [(0, .var false 24 [.d (.seq (rs.map rgC))]), (1, .arr 3 ((fwS rs ws j).map fun n => [dI n]))], 2⟩, ?_, ?_⟩
 ·conv => whnf
  exact ⟨rs.length, 0, by omega, by rw [fwS_0]; rfl⟩
 ·rintro m _ ⟨j, hj, rfl⟩
  by_cases hjl : j < rs.length
  ·have g1 : decide ((j : Int) < ((rs.map rgC).length : Int)) = true := decide_eq_true (by rw [hm]; omega)
   have hg := hgr j hjl
   have cw := word_pure hl hw j
   have hb := fwE_b hn.2 hw j hjl
   have hb2 := mfB_at rs 0 hn.2 j hjl
   have hb3 := woE_b hw j
   obtain ⟨lo, hlo⟩ : ∃ lo, lo = (rAt rs j).1 := ⟨_, rfl⟩
   obtain ⟨hi, hhi⟩ : ∃ hi, hi = (rAt rs j).2 := ⟨_, rfl⟩
   have hse : stE rs ws j = lo + (woE ws j).tmod (hi - lo + 1) := by rw [hlo, hhi]; rfl
   rw [← hlo, ← hhi] at hg hb hb2
   have wa : IntKind.i64.wrap (IntKind.i64.wrap (hi - lo) + 1) = hi - lo + 1 := by rw [wrapI (n := hi - lo) (by omega) (by omega), wrapI (by omega) (by omega)]
   have hs : IntKind.i64.wrap (lo + (woE ws j).tmod (IntKind.i64.wrap (IntKind.i64.wrap (hi - lo) + 1))) = stE rs ws j := by rw [wa, wrapI (by omega) (by omega), hse]
   conv => whnf
   (repeat' ((first|refine kA ?_|refine kE ?_|apply kB<;>intro _|fail)<;>conv=>whnf))
   (refine ⟨j, _, rfl, hg, rfl, ?_⟩; conv => whnf)
   (repeat' ((first|refine kA ?_|refine kE ?_|apply kB<;>intro _|refine .inl ⟨_, cw, ?_⟩|fail)<;>conv=>whnf))
   (refine ⟨by rw [wa]; omega, ?_⟩; conv => whnf)
   by_cases hj0 : j = 0
   ·have f1 : decide ((j : Int) > 0) = false := decide_eq_false (by omega)
    have hfw : fwE rs ws j = stE rs ws j := by subst hj0; rw [fwE]
    (repeat' ((first|refine kA ?_|refine kE ?_|apply kB<;>intro _|fail)<;>conv=>whnf))
    (refine .l ?_; conv => whnf)
    (refine ⟨fun el h => by rw [List.mem_singleton.1 h]; rfl, by show (((fwS rs ws j).map fun n => [dI n]).length + 1) * 8 ≤ _; rw [List.length_map, fwS_len]; omega, ?_⟩; conv => whnf)
    (repeat' ((first|refine kA ?_|refine kE ?_|apply kB<;>intro _|fail)<;>conv=>whnf))
    (refine ⟨[0, 1], ?_⟩; conv => whnf)
    exact ⟨m - 1, by omega, j + 1, by omega, by rw [w1 j (by omega), fwS_s, List.map_append, hfw, ← hs]; rfl⟩
   ·have f1 : decide ((j : Int) > 0) = true := decide_eq_true (by omega)
    have hfw : fwE rs ws j = max (stE rs ws j) (fwE rs ws (j - 1)) := by
     obtain ⟨i, rfl⟩ : ∃ i, j = i + 1 := ⟨j - 1, by omega⟩
     rw [fwE, Nat.add_sub_cancel]
    have wj : IntKind.i64.wrap ((j : Int) - 1) = ((j - 1 : Nat) : Int) := by rw [wrapI (by omega) (by omega)]; omega
    have hp : ((fwS rs ws j).map fun n => [dI n])[j - 1]? = some [dI (fwE rs ws (j - 1))] := by rw [List.getElem?_map, fwS_at (by omega)]; rfl
    (repeat' ((first|refine kA ?_|refine kE ?_|apply kB<;>intro _|fail)<;>conv=>whnf))
    (refine ⟨j - 1, wj, by rw [List.length_map, fwS_len]; omega, ?_⟩; conv => whnf)
    (repeat' ((first|refine kA ?_|refine kE ?_|apply kB<;>intro _|fail)<;>conv=>whnf))
    (refine ⟨_, hp, ?_⟩; conv => whnf)
    (refine ⟨_, rfl, ?_⟩; conv => whnf)
    (repeat' ((first|refine kA ?_|refine kE ?_|apply kB<;>intro _|fail)<;>conv=>whnf))
    (refine .l ?_; conv => whnf)
    (refine ⟨fun el h => by rw [List.mem_singleton.1 h]; rfl, by show (((fwS rs ws j).map fun n => [dI n]).length + 1) * 8 ≤ _; rw [List.length_map, fwS_len]; omega, ?_⟩; conv => whnf)
    (repeat' ((first|refine kA ?_|refine kE ?_|apply kB<;>intro _|fail)<;>conv=>whnf))
    (refine ⟨[0, 1], ?_⟩; conv => whnf)
    exact ⟨m - 1, by omega, j + 1, by omega, by rw [w1 j (by omega), fwS_s, List.map_append, hfw, ← hs]; rfl⟩
  ·have g1 : decide ((j : Int) < ((rs.map rgC).length : Int)) = false := decide_eq_false (by rw [hm]; omega)
   have ej : j = rs.length := by omega
   subst ej
   conv => whnf
   (repeat' ((first|refine kA ?_|refine kE ?_|apply kB<;>intro _|fail)<;>conv=>whnf))
   refine ⟨[], [2, 4, 5, 9], [0, 1], 2, fun m s => ∃ (i : Nat) (v : Int), i + m = rs.length ∧ v = (rs.length : Int) - 1 - i ∧ s = ⟨[(2, .ref 0 0), (4, .d (.v (.slice none 0 0))), (5, .own 1), (9, .d (dI v))], [(0, .var false 24 [.d (.seq (rs.map rgC))]), (1, .arr 3 ((trS rs ws rs.length i).map fun n => [dI n]))], 2⟩, ?_, ?_⟩
   ·conv => whnf
    refine ⟨rs.length, 0, (rs.length : Int) - 1, by omega, by omega, ?_⟩
    rw [List.length_map, fwS_len, fwS_tr, wrapI (by omega) (by omega)]
   ·clear g1 hj hjl m
    rintro m _ ⟨i, v, hi, hv, rfl⟩
    by_cases hil : i < rs.length
    ·have g1 : decide (v ≥ 0) = true := decide_eq_true (by omega)
     obtain ⟨b, hbv⟩ : ∃ b : Nat, b = rs.length - 1 - i := ⟨_, rfl⟩
     have hvb : v = (b : Int) := by omega
     have hg := hgr b (by omega)
     subst hvb
     obtain ⟨u, hu⟩ : ∃ u, u = min (fwE rs ws b) (rAt rs b).2 := ⟨_, rfl⟩
     obtain ⟨L1, hL1⟩ : ∃ L1, L1 = (trS rs ws rs.length i).set b u := ⟨_, rfl⟩
     have hL1l : L1.length = rs.length := by rw [hL1, List.length_set, trS_len]
     have hset : ((trS rs ws rs.length i).map fun n => [dI n]).set b [dI (min (fwE rs ws b) (rAt rs b).2)] = L1.map fun n => [dI n] := by rw [hL1, List.map_set, hu]
     have hb1 : (L1.map fun n => [dI n])[b]? = some [dI u] := by rw [List.getElem?_map, hL1, List.getElem?_set, if_pos rfl, if_pos (by rw [trS_len]; omega)]; rfl
     have wb : IntKind.i64.wrap ((b : Int) + 1) = ((b + 1 : Nat) : Int) := w1 b (by omega)
     have hnx : IntKind.i64.wrap ((b : Int) - 1) = (rs.length : Int) - 1 - ((i + 1 : Nat) : Int) := by rw [wrapI (by omega) (by omega)]; omega
     have hml : ((L1.map fun n => [dI n]).length : Int) = rs.length := by rw [List.length_map, hL1l]
     have hend := trS_set (rs := rs) (ws := ws) hil
     rw [← hbv] at hend
     have hS : ((trS rs ws rs.length i).map fun n => [dI n])[b]? = some [dI (fwE rs ws b)] := by rw [List.getElem?_map, trS_get (by omega), if_neg (by omega)]; rfl
     conv => whnf
     (repeat' ((first|refine kA ?_|refine kE ?_|apply kB<;>intro _|fail)<;>conv=>whnf))
     (refine ⟨b, rfl, by rw [List.length_map, trS_len]; omega, ?_⟩; conv => whnf)
     (repeat' ((first|refine kA ?_|refine kE ?_|apply kB<;>intro _|fail)<;>conv=>whnf))
     (refine ⟨_, hS, ?_⟩; conv => whnf)
     (refine ⟨_, rfl, ?_⟩; conv => whnf)
     (repeat' ((first|refine kA ?_|refine kE ?_|apply kB<;>intro _|fail)<;>conv=>whnf))
     (refine ⟨b, _, rfl, hg, rfl, ?_⟩; conv => whnf)
     (repeat' ((first|refine kA ?_|refine kE ?_|apply kB<;>intro _|fail)<;>conv=>whnf))
     (refine ⟨b, rfl, by rw [List.length_map, trS_len]; omega, ?_⟩; conv => whnf)
     (repeat' ((first|refine kA ?_|refine kE ?_|apply kB<;>intro _|fail)<;>conv=>whnf))
     (refine ⟨_, hS, rfl, Nat.le_refl 1, _, hset, ?_⟩; conv => whnf)
     by_cases hi0 : i = 0
     ·have f1 : decide (IntKind.i64.wrap ((b : Int) + 1) < ((L1.map fun n => [dI n]).length : Int)) = false := decide_eq_false (by rw [wb, hml]; omega)
      have hg0 : gE rs ws rs.length i = u := by subst hi0; rw [gE, hu, hbv, Nat.sub_zero]
      rw [hg0, ← hL1] at hend
      (repeat' ((first|refine kA ?_|refine kE ?_|apply kB<;>intro _|fail)<;>conv=>whnf))
      exact ⟨m - 1, by omega, i + 1, _, by omega, hnx, by rw [hend]⟩
     ·have f1 : decide (IntKind.i64.wrap ((b : Int) + 1) < ((L1.map fun n => [dI n]).length : Int)) = true := decide_eq_true (by rw [wb, hml]; omega)
      obtain ⟨w, hw2⟩ : ∃ w, w = gE rs ws rs.length (i - 1) := ⟨_, rfl⟩
      have hg0 : gE rs ws rs.length i = min u w := by
       obtain ⟨i', rfl⟩ : ∃ i', i = i' + 1 := ⟨i - 1, by omega⟩
       rw [gE, hu, hbv, hw2, Nat.add_sub_cancel]
      have hb2 : (L1.map fun n => [dI n])[b + 1]? = some [dI w] := by
       rw [List.getElem?_map, hL1, List.getElem?_set, if_neg (by omega), trS_get (by omega), if_pos (by omega), hw2, show rs.length - 1 - (b + 1) = i - 1 by omega]; rfl
      have hset2 : (L1.map fun n => [dI n]).set b [dI (min u w)] = (trS rs ws rs.length (i + 1)).map fun n => [dI n] := by rw [← hend, hg0, hL1, List.map_set, List.map_set, List.set_set]
      (repeat' ((first|refine kA ?_|refine kE ?_|apply kB<;>intro _|fail)<;>conv=>whnf))
      (refine ⟨b, rfl, by rw [List.length_map, hL1l]; omega, ?_⟩; conv => whnf)
      (repeat' ((first|refine kA ?_|refine kE ?_|apply kB<;>intro _|fail)<;>conv=>whnf))
      (refine ⟨_, hb1, ?_⟩; conv => whnf)
      (refine ⟨_, rfl, ?_⟩; conv => whnf)
      (repeat' ((first|refine kA ?_|refine kE ?_|apply kB<;>intro _|fail)<;>conv=>whnf))
      (refine ⟨b + 1, wb, by rw [List.length_map, hL1l]; omega, ?_⟩; conv => whnf)
      (repeat' ((first|refine kA ?_|refine kE ?_|apply kB<;>intro _|fail)<;>conv=>whnf))
      (refine ⟨_, hb2, ?_⟩; conv => whnf)
      (refine ⟨_, rfl, ?_⟩; conv => whnf)
      (repeat' ((first|refine kA ?_|refine kE ?_|apply kB<;>intro _|fail)<;>conv=>whnf))
      (refine ⟨b, rfl, by rw [List.length_map, hL1l]; omega, ?_⟩; conv => whnf)
      (repeat' ((first|refine kA ?_|refine kE ?_|apply kB<;>intro _|fail)<;>conv=>whnf))
      (refine ⟨_, hb1, rfl, Nat.le_refl 1, _, hset2, ?_⟩; conv => whnf)
      (repeat' ((first|refine kA ?_|refine kE ?_|apply kB<;>intro _|fail)<;>conv=>whnf))
      exact ⟨m - 1, by omega, i + 1, _, by omega, hnx, rfl⟩
    ·have g1 : decide (v ≥ 0) = false := decide_eq_false (by omega)
     have ei : i = rs.length := by omega
     subst ei
     conv => whnf
     (repeat' ((first|refine kA ?_|refine kE ?_|apply kB<;>intro _|fail)<;>conv=>whnf))
     unfold trT
     rfl
end Go.Ev.YtijidghjiaiccaaGreat.K


namespace Go.Ev.YtijidghjiaiccaaGreat
open Go.Proofs
open K (woE okA okE filE allE wdE TOK pad3 rAt MV MtOK RnOK)
def lwE (ws : List Int) (i : Nat) : Int := if ws.length = 0 then 1 else ws.getD (i % ws.length) 0
theorem lwE_b {ws : List Int} (hw : ∀ x ∈ ws, 0 ≤ x ∧ x ≤ 65535) (b : Nat) : 0 ≤ lwE ws b ∧ lwE ws b ≤ 65535 := by
 unfold lwE
 split
 ·omega
 ·rw [List.getD_eq_getElem?_getD, List.getElem?_eq_getElem (Nat.mod_lt _ (by omega))]
  exact hw _ (List.getElem_mem _)
def houE (ws : List Int) : Nat → Int
 | 0 => 0
 | i + 1 => houE ws i + (1 + (lwE ws i).tmod 10)
theorem hou_step {ws : List Int} (hw : ∀ x ∈ ws, 0 ≤ x ∧ x ≤ 65535) (i : Nat) : 0 ≤ (lwE ws i).tmod 10 ∧ (lwE ws i).tmod 10 ≤ 9 := by
 have h := lwE_b hw i
 have h3 := Int.tmod_nonneg 10 h.1
 have h4 := Int.tmod_lt_of_pos (lwE ws i) (b := 10) (by omega)
 omega
theorem hou_b {ws : List Int} (hw : ∀ x ∈ ws, 0 ≤ x ∧ x ≤ 65535) : ∀ i, 0 ≤ houE ws i ∧ houE ws i ≤ 10 * i
 | 0 => by rw [houE]; omega
 | i + 1 => by have := hou_b hw i; have := hou_step hw i; rw [houE]; omega
theorem hou_lt {ws : List Int} (hw : ∀ x ∈ ws, 0 ≤ x ∧ x ≤ 65535) (i : Nat) : ∀ d, houE ws i < houE ws (i + d + 1)
 | 0 => by have := hou_step hw i; rw [Nat.add_zero, houE]; omega
 | d + 1 => by have := hou_lt hw i d; have := hou_step hw (i + d + 1); rw [show i + (d + 1) + 1 = (i + d + 1) + 1 by omega, houE]; omega
def lgP (t : Int) (ws : List Int) (n : Nat) : List Pt := (List.range n).map fun i => ⟨houE ws i, t * houE ws i⟩
def lgS (t : Int) (ws : List Int) (n : Nat) : Sh := ⟨77, lgP t ws n⟩
theorem lgP_len {t : Int} {ws : List Int} {n : Nat} : (lgP t ws n).length = n := by unfold lgP; rw [List.length_map, List.length_range]
theorem lgP_0 {t : Int} {ws : List Int} : lgP t ws 0 = [] := rfl
theorem lgP_s {t : Int} {ws : List Int} {n : Nat} : lgP t ws (n + 1) = lgP t ws n ++ [⟨houE ws n, t * houE ws n⟩] := by unfold lgP; rw [List.range_succ, List.map_append]; rfl
theorem lgP_at {t : Int} {ws : List Int} {n i : Nat} (h : i < n) (h' : i < (lgP t ws n).length) : (lgP t ws n)[i] = ⟨houE ws i, t * houE ws i⟩ := by simp only [lgP, List.getElem_map, List.getElem_range]
theorem mul_b {t x B : Int} (ht : 0 ≤ t ∧ t ≤ 1000) (hx : 0 ≤ x ∧ x ≤ B) (hB : 0 ≤ B) : 0 ≤ t * x ∧ t * x ≤ 1000 * B :=
 ⟨Int.mul_nonneg ht.1 hx.1, Int.mul_le_mul ht.2 hx.2 hx.1 (by omega)⟩
theorem lgS_ok {t : Int} (ht : 0 ≤ t ∧ t ≤ 1000) {ws : List Int} (hw : ∀ x ∈ ws, 0 ≤ x ∧ x ≤ 65535) {n : Nat} (h0 : 0 < n) (hn : n ≤ 90) : ShOK (lgS t ws n) := by
 have hb := hou_b hw
 refine ⟨runB_ok.2 ⟨by show 0 < (lgP t ws n).length; rw [lgP_len]; exact h0, fun p hp => ?_, fun i hi => ?_⟩, by show (lgP t ws n).length ≤ 100; rw [lgP_len]; omega, by show (0 : Int) ≤ 77; decide, by show (77 : Int) ≤ 9999; decide⟩
 ·unfold lgS lgP at hp
  obtain ⟨i, hi, rfl⟩ := List.mem_map.1 hp
  rw [List.mem_range] at hi
  have h1 := hb i
  have h2 := mul_b (x := houE ws i) (B := 890) ht ⟨h1.1, by omega⟩ (by omega)
  exact ptB_ok.2 ⟨h1.1, by show houE ws i ≤ _; omega, h2.1, by show t * houE ws i ≤ _; omega⟩
 ·have hi' : i + 1 < (lgP t ws n).length := hi
  rw [lgP_len] at hi'
  have e1 : (lgS t ws n).ps[i] = ⟨houE ws i, t * houE ws i⟩ := lgP_at (by omega) _
  have e2 : (lgS t ws n).ps[i + 1] = ⟨houE ws (i + 1), t * houE ws (i + 1)⟩ := lgP_at (by omega) _
  rw [e1, e2]
  have hs := hou_step hw i
  have h2 := mul_b (x := 1 + (lwE ws i).tmod 10) (B := 10) ht ⟨by omega, by omega⟩ (by omega)
  have e3 : houE ws (i + 1) = houE ws i + (1 + (lwE ws i).tmod 10) := by rw [houE]
  have e4 : t * houE ws (i + 1) = t * houE ws i + t * (1 + (lwE ws i).tmod 10) := by rw [e3, Int.mul_add]
  unfold Fol
  dsimp only
  rw [e4, e3]
  omega
structure PcOK (t : Int) (l : List Pt) : Prop where
 ne : 0 < l.length
 le : l.length ≤ 100
 at' : ∀ p ∈ l, p.l = t * p.s ∧ 0 ≤ p.s ∧ p.s ≤ 890
 up : l.Pairwise fun a b => a.s < b.s
theorem ptsOf_sub (p : Cd → Bool) : ∀ l : List Cd, (ptsOf (l.filter p)).Sublist (ptsOf l)
 | [] => List.Sublist.refl _
 | c :: r => by
  have ih := ptsOf_sub p r
  unfold ptsOf at ih ⊢
  rw [List.filter_cons]
  split
  ·rw [List.map_cons, List.map_cons, List.flatten_cons, List.flatten_cons]; exact (List.Sublist.refl _).append ih
  ·rw [List.map_cons, List.flatten_cons]; exact ih.trans (List.sublist_append_right _ _)
theorem pieceF_ne : ∀ (r : List Cd) (cur : List Pt) (i : Int), 0 < cur.length → (∀ c ∈ r, 0 < c.ps.length) → ∀ l ∈ pieceF cur i r, 0 < l.length
 | [], cur, i, h, _, l, hl => by rw [pieceF_nil, List.mem_singleton] at hl; rw [hl]; exact h
 | c :: r, cur, i, h, hr, l, hl => by
  have hr' : ∀ c ∈ r, 0 < c.ps.length := fun x hx => hr x (by simp [hx])
  by_cases e : i + 1 = c.i
  ·rw [pieceF_on e] at hl
   exact pieceF_ne r _ _ (by rw [List.length_append]; omega) hr' l hl
  ·rw [pieceF_new e, List.mem_cons] at hl
   rcases hl with rfl | hl
   ·exact h
   ·exact pieceF_ne r _ _ (hr c (by simp)) hr' l hl
theorem torn_lg {t : Int} (ht : 0 ≤ t ∧ t ≤ 1000) {ws : List Int} (hw : ∀ x ∈ ws, 0 ≤ x ∧ x ≤ 65535) {n : Nat} (h0 : 0 < n) (hn : n ≤ 90) (z : Int) :
  (PiecesL (tornK (fileL [lgS t ws n]) z ((fileL [lgS t ws n]).length / 40)) 77 = ([], 7)) ∨ ∃ L, PiecesL (tornK (fileL [lgS t ws n]) z ((fileL [lgS t ws n]).length / 40)) 77 = (L, 0) ∧ L.length ≤ 10 ∧ ∀ l ∈ L, PcOK t l := by
 have h := lgS_ok ht hw h0 hn
 rw [torn_on h]
 obtain ⟨hby, hlen, h1 | h1⟩ := on_law h (tornO z)
 ·exact .inl h1.2
 ·refine .inr ⟨_, h1.2, ?_, fun l hl => ?_⟩
  ·have h2 := piecesC_len (keptAt (fun c => tornO z c.i.toNat) (lgS t ws n))
   have h3 := h.many
   have h4 : (keptAt (fun c => tornO z c.i.toNat) (lgS t ws n)).length ≤ (cardsL (lgS t ws n)).length := List.length_filter_le _ _
   omega
  ·have hsub : l.Sublist (lgP t ws n) := by
    have a1 : l.Sublist (piecesC (keptAt (fun c => tornO z c.i.toNat) (lgS t ws n))).flatten := List.sublist_flatten_of_mem hl
    rw [piecesC_flat] at a1
    have a2 := a1.trans (ptsOf_sub (fun c => tornO z c.i.toNat) (cardsL (lgS t ws n)))
    rw [ptsOf_cards h] at a2
    exact a2
   refine ⟨?_, by have := hsub.length_le; rw [lgP_len] at this; omega, fun p hp => ?_, List.Pairwise.sublist hsub ?_⟩
   ·have hps : ∀ c ∈ keptAt (fun c => tornO z c.i.toNat) (lgS t ws n), 0 < c.ps.length := fun c hc => (h.card (List.mem_filter.1 hc).1).1.many.1
    cases hk : keptAt (fun c => tornO z c.i.toNat) (lgS t ws n) with
    | nil => rw [hk] at hl; cases hl
    | cons c r =>
     rw [hk] at hl hps
     rw [piecesC_cons] at hl
     exact pieceF_ne r _ _ (hps c (by simp)) (fun x hx => hps x (by simp [hx])) l hl
   ·have hp := hsub.subset hp
    unfold lgP at hp
    obtain ⟨i, hi, rfl⟩ := List.mem_map.1 hp
    rw [List.mem_range] at hi
    have := hou_b hw i
    exact ⟨rfl, this.1, by show houE ws i ≤ 890; omega⟩
   ·rw [List.pairwise_iff_getElem]
    intro i j hi hj hij
    rw [lgP_len] at hi hj
    rw [lgP_at hi, lgP_at hj]
    have := hou_lt hw i (j - i - 1)
    rw [show i + (j - i - 1) + 1 = j by omega] at this
    exact this
def fsP (l : List Pt) : Pt := l.getD 0 ⟨0, 0⟩
def lsP (l : List Pt) : Pt := l.getD (l.length - 1) ⟨0, 0⟩
def rnP (l : List Pt) : Int × Int := ((lsP l).s - (fsP l).s, (lsP l).l - (fsP l).l)
theorem PcOK.ends {t : Int} {l : List Pt} (h : PcOK t l) : l[0]? = some (fsP l) ∧ l[l.length - 1]? = some (lsP l) ∧ fsP l ∈ l ∧ lsP l ∈ l := by
 have h1 : l[0]? = some (fsP l) := by unfold fsP; rw [List.getD_eq_getElem?_getD, List.getElem?_eq_getElem h.ne]; rfl
 have h2 : l[l.length - 1]? = some (lsP l) := by unfold lsP; rw [List.getD_eq_getElem?_getD, List.getElem?_eq_getElem (by have := h.ne; omega)]; rfl
 exact ⟨h1, h2, List.mem_of_getElem? h1, List.mem_of_getElem? h2⟩
theorem PcOK.run {t : Int} (ht : 0 ≤ t ∧ t ≤ 1000) {l : List Pt} (h : PcOK t l) : (0 ≤ (rnP l).1 ∧ (rnP l).1 ≤ 890) ∧ (rnP l).2 = t * (rnP l).1 ∧ (1 < l.length → 0 < (rnP l).1) ∧ 0 ≤ (rnP l).2 ∧ (rnP l).2 ≤ 890000 := by
 obtain ⟨e1, e2, m1, m2⟩ := h.ends
 have a1 := h.at' _ m1
 have a2 := h.at' _ m2
 have hup : 1 < l.length → (fsP l).s < (lsP l).s := fun h1 => by
  have := List.pairwise_iff_getElem.1 h.up 0 (l.length - 1) (by omega) (by omega) (by omega)
  rw [List.getElem?_eq_getElem (by omega)] at e1 e2
  rw [Option.some.inj e1, Option.some.inj e2] at this
  exact this
 have hone : ¬ 1 < l.length → lsP l = fsP l := fun h1 => by
  have := h.ne
  unfold lsP fsP
  rw [show l.length - 1 = 0 by omega]
 have hs : 0 ≤ (rnP l).1 ∧ (rnP l).1 ≤ 890 := by
  unfold rnP
  dsimp only
  by_cases h1 : 1 < l.length
  ·have := hup h1; omega
  ·rw [hone h1]; omega
 have e : (rnP l).2 = t * (rnP l).1 := by
  unfold rnP
  dsimp only
  rw [a1.1, a2.1, Int.mul_sub]
 have hm := mul_b ht hs (by omega)
 exact ⟨hs, e, fun h1 => by have := hup h1; unfold rnP; dsimp only; omega, by rw [e]; omega, by rw [e]; omega⟩
theorem wdE_spec {F : List (List Int)} {b : Nat} : ∀ j, 0 < j → j ≤ F.length → (∀ i, i < j → (wdE F b j).1 ≤ (F.getD i []).getD b 0 ∧ (F.getD i []).getD b 0 ≤ (wdE F b j).2) ∧ (∃ i, i < j ∧ (wdE F b j).1 = (F.getD i []).getD b 0) ∧ (∃ i, i < j ∧ (wdE F b j).2 = (F.getD i []).getD b 0)
 | 0, h, _ => absurd h (Nat.lt_irrefl _)
 | j + 1, _, hl => by
  by_cases h0 : j = 0
  ·subst h0
   rw [K.wdE_s, if_pos (show (((0 : Nat) : Int) == 0) = true from rfl)]
   exact ⟨fun i hi => by rw [show i = 0 by omega]; exact ⟨Int.le_refl _, Int.le_refl _⟩, ⟨0, by omega, rfl⟩, ⟨0, by omega, rfl⟩⟩
  ·obtain ⟨h1, ⟨i2, hi2, h2⟩, ⟨i3, hi3, h3⟩⟩ := wdE_spec (F := F) (b := b) j (by omega) (by omega)
   rw [K.wdE_s, if_neg (by rw [beq_iff_eq]; omega)]
   dsimp only
   refine ⟨fun i hi => ?_, ?_, ?_⟩
   ·by_cases hij : i = j
    ·subst hij; omega
    ·have := h1 i (by omega); omega
   ·rcases Int.le_total (wdE F b j).1 ((F.getD j []).getD b 0) with h | h
    ·exact ⟨i2, by omega, by rw [Int.min_eq_left h]; exact h2⟩
    ·exact ⟨j, by omega, by rw [Int.min_eq_right h]⟩
   ·rcases Int.le_total (wdE F b j).2 ((F.getD j []).getD b 0) with h | h
    ·exact ⟨j, by omega, by rw [Int.max_eq_right h]⟩
    ·exact ⟨i3, by omega, by rw [Int.max_eq_left h]; exact h3⟩
theorem rates_law {rs : List (Int × Int)} (h : MV rs) {T : List Int} (hT : TOK rs T) {k : Nat} (hk : k < rs.length) {R : List (Int × Int)} (hR : ∀ x ∈ R, x.2 = T.getD k 0 * x.1) :
  okA k R (pad3 T) = true ∧ 0 < (filE rs k R).length ∧ ((wdE (filE rs k R) k (filE rs k R).length).1 ≤ T.getD k 0 ∧ T.getD k 0 ≤ (wdE (filE rs k R) k (filE rs k R).length).2) ∧
  ((∃ x ∈ R, 0 < x.1) → (wdE (filE rs k R) k (filE rs k R).length).1 = (wdE (filE rs k R) k (filE rs k R).length).2) := by
 have h3 := h.n.1.2
 have hl := hT.len
 have hp : (pad3 T).getD k 0 = T.getD k 0 := K.pad3_get (by omega) (by omega)
 have hok : okA k R (pad3 T) = true := by
  unfold okA
  rw [List.all_eq_true]
  exact fun x hx => K.okE_iff.2 (by rw [hp]; exact (hR x hx).symm)
 have hmem : pad3 T ∈ filE rs k R := List.mem_filter.2 ⟨K.tok_mem h3 hT, hok⟩
 have hpos : 0 < (filE rs k R).length := List.length_pos_of_mem hmem
 obtain ⟨i, hi, he⟩ := List.getElem_of_mem hmem
 obtain ⟨h1, ⟨i2, hi2, h2⟩, ⟨i3, hi3, h5⟩⟩ := wdE_spec (F := filE rs k R) (b := k) _ hpos (Nat.le_refl _)
 have hg : ∀ j (hj : j < (filE rs k R).length), (filE rs k R).getD j [] = (filE rs k R)[j] := fun j hj => by rw [List.getD_eq_getElem?_getD, List.getElem?_eq_getElem hj]; rfl
 refine ⟨hok, hpos, ?_, ?_⟩
 ·have := h1 i hi
  rw [hg i hi, he, hp] at this
  exact this
 ·rintro ⟨x, hx, hx0⟩
  have hall : ∀ j, j < (filE rs k R).length → ((filE rs k R).getD j []).getD k 0 = T.getD k 0 := fun j hj => by
   rw [hg j hj]
   have hm := (List.mem_filter.1 (List.getElem_mem hj)).2
   unfold okA at hm
   have hm := K.okE_iff.1 (List.all_eq_true.1 hm x hx)
   rw [hR x hx] at hm
   exact Int.eq_of_mul_eq_mul_right (by omega) hm
  rw [h2, h5, hall _ hi2, hall _ hi3]
end Go.Ev.YtijidghjiaiccaaGreat


namespace Go.Ev.YtijidghjiaiccaaGreat
open Go.Proofs
open K (rgC mtD rtD rnC rnsD rnA okA filE wdE TOK pad3 MV MtOK RnOK trT mfI)
def rnL (L : List (List Pt)) (i : Nat) : List (Int × Int) := (L.take i).map rnP
def exL (L : List (List Pt)) (i : Nat) : Bool := (L.take i).any fun l => decide (((l.map ptD).length : Int) > 1)
theorem rnL_0 {L : List (List Pt)} : rnL L 0 = [] := by unfold rnL; rw [List.take_zero]; rfl
theorem exL_0 {L : List (List Pt)} : exL L 0 = false := by unfold exL; rw [List.take_zero]; rfl
theorem rnL_s {L : List (List Pt)} {i : Nat} (h : i < L.length) : rnL L (i + 1) = rnL L i ++ [rnP L[i]] := by unfold rnL; rw [List.take_add_one, List.getElem?_eq_getElem h, List.map_append]; rfl
theorem exL_s {L : List (List Pt)} {i : Nat} (h : i < L.length) : exL L (i + 1) = (exL L i || decide ((((L[i]).map ptD).length : Int) > 1)) := by
 unfold exL; rw [List.take_add_one, List.getElem?_eq_getElem h, List.any_append]; simp
theorem rnL_len {L : List (List Pt)} {i : Nat} (h : i ≤ L.length) : (rnL L i).length = i := by unfold rnL; rw [List.length_map, List.length_take]; omega
theorem rnL_mem {L : List (List Pt)} {i : Nat} {x : Int × Int} (h : x ∈ rnL L i) : ∃ l ∈ L, x = rnP l := by
 unfold rnL at h
 obtain ⟨l, hl, rfl⟩ := List.mem_map.1 h
 exact ⟨l, List.mem_of_mem_take hl, rfl⟩
theorem write_one (s : Sh) : writeI [s] = (fileL [s], 0) := by
 unfold writeI
 rw [if_pos (by simp)]
theorem exL_mem {L : List (List Pt)} {i : Nat} (h : exL L i = true) : ∃ l, rnP l ∈ rnL L i ∧ l ∈ L ∧ 1 < l.length := by
 unfold exL at h
 rw [List.any_eq_true] at h
 obtain ⟨l, hl, h2⟩ := h
 rw [decide_eq_true_eq, List.length_map] at h2
 exact ⟨l, List.mem_map.2 ⟨l, hl, rfl⟩, List.mem_of_mem_take hl, by omega⟩
attribute [local irreducible] Pure Bor Iter layB layF checkI writeI tornK PiecesL trT mfI lgP houE lwE rnL exL okA wdE
set_option maxHeartbeats 4000000 in
theorem logged_walk (rs : List (Int × Int)) (B P z : Int) (hB : 0 ≤ B ∧ B ≤ 255) (hP : 0 ≤ P ∧ P ≤ 255) (hz : 0 ≤ z ∧ z ≤ 4294967295) (ws : List Int) (hw : ∀ x ∈ ws, 0 ≤ x ∧ x ≤ 65535) (hwl : ws.length ≤ 9223372036854775807) :
  Pure Tryz.prog 3 [mtD rs, dU B, dU P, C.wsD ws, .v (.int .u32 z)] (dB true) := by
 have c5 := K.thin_pure rs
 have c6 := K.fault_pure rs
 have c7 := charts_pure
 have hm : ((rs.map rgC).length : Int) = rs.length := by rw [List.length_map]
 by_cases h6 : (((rs.map rgC).length : Int) ≤ 6)
 ·have g6 : (!decide (((rs.map rgC).length : Int) ≤ 6)) = false := by rw [decide_eq_true h6]; rfl
  by_cases hmv : mfI rs = 0
  ·have gmv : (mfI rs != 0) = false := by rw [hmv]; rfl
   have hv : MV rs := hmv
   have c8 := K.truly_pure hv hwl hw
   have hT := K.trT_tok hv hw
   obtain ⟨T, hTe⟩ : ∃ T, T = trT rs ws := ⟨_, rfl⟩
   rw [← hTe] at c8 hT
   have hn := hv.n.1
   have hTl := hT.len
   obtain ⟨k, hk⟩ : ∃ k, k = B.toNat % rs.length := ⟨_, rfl⟩
   have hkl : k < rs.length := hk ▸ Nat.mod_lt _ hn.1
   have hkI : (IntKind.i64.wrap B).tmod ((rs.map rgC).length : Int) = (k : Int) := by
    rw [wrapI (by omega) (by omega), hm, hk]
    obtain ⟨b, rfl⟩ : ∃ b : Nat, B = b := ⟨B.toNat, by omega⟩
    rfl
   obtain ⟨N, hN⟩ : ∃ N, N = P.toNat % 90 := ⟨_, rfl⟩
   have hNI : (IntKind.i64.wrap P).tmod 90 = (N : Int) := by
    rw [wrapI (by omega) (by omega), hN]
    obtain ⟨b, rfl⟩ : ∃ b : Nat, P = b := ⟨P.toNat, by omega⟩
    rfl
   have hN90 : N < 90 := hN ▸ Nat.mod_lt _ (by decide)
   obtain ⟨t, ht⟩ : ∃ t, t = T.getD k 0 := ⟨_, rfl⟩
   have htb : 0 ≤ t ∧ t ≤ 1000 := by
    have h1 := hT.r k hkl
    have h2 := (hv.ok.rs.at hkl).2
    omega
   have hgT : (T.map fun n => [dI n])[k]? = some [dI t] := by
    rw [List.getElem?_map, ht, List.getD_eq_getElem?_getD, List.getElem?_eq_getElem (by omega)]; rfl
   refine pure_of pg Tryz.func3 (by kernel_rfl) ?_
   conv => whnf
   (repeat' ((first|refine kA ?_|refine kE ?_|apply kB<;>intro _|refine .inl ⟨_, c5, ?_⟩|refine .inl ⟨_, c6, ?_⟩|refine .inl ⟨_, c8, ?_⟩|fail)<;>conv=>whnf))
   (refine ⟨by rw [hm]; omega, ?_⟩; conv => whnf)
   (repeat' ((first|refine kA ?_|refine kE ?_|apply kB<;>intro _|fail)<;>conv=>whnf))
   refine ⟨[.cown 1 1 36, .rex], [2, 3, 4, 5, 11, 12, 13, 14, 15], [0, 1, 2], 3, fun m s => ∃ i : Nat, i + m = N + 1 ∧ s = ⟨[(2, .d (dU P)), (3, .d (C.wsD ws)), (4, .d (.v (.int .u32 z))), (5, .ref 0 0), (11, .d (.seq (T.map fun n => [dI n]))), (12, .d (dI k)), (13, .ref 1 0), (14, .d (dI (houE ws i))), (15, .d (dI i))], [(0, .var false 24 [.d (.seq (rs.map rgC))]), (1, .var false 34 [.d (dI 77), .own 2]), (2, .arr 36 ((lgP t ws i).map ptD))], 3⟩, ?_, ?_⟩
   ·conv => whnf
    exact ⟨N + 1, 0, by omega, by rw [hkI, lgP_0, houE]; rfl⟩
   ·rintro m _ ⟨i, hi, rfl⟩
    have hlN : (((lgP t ws i).map ptD).length : Int) = i := by rw [List.length_map, lgP_len]
    by_cases hiN : i < N + 1
    ·have g1 : decide ((i : Int) ≤ (IntKind.i64.wrap P).tmod 90) = true := decide_eq_true (by rw [hNI]; omega)
     have hb := hou_b hw i
     have hst := hou_step hw i
     have hmb := mul_b (x := houE ws i) (B := 1000) htb ⟨hb.1, by omega⟩ (by omega)
     have wm : IntKind.i64.wrap (t * houE ws i) = t * houE ws i := wrapI (by omega) (by omega)
     have hs := lgP_s (t := t) (ws := ws) (n := i)
     have hh : houE ws (i + 1) = houE ws i + (1 + (lwE ws i).tmod 10) := by rw [houE]
     have hwm : ((ws.map fun w => [C.dW w]).length : Int) = ws.length := by rw [List.length_map]
     by_cases h0 : ws.length = 0
     ·have g2 : decide (((ws.map fun w => [C.dW w]).length : Int) > 0) = false := decide_eq_false (by rw [hwm]; omega)
      have e1 : lwE ws i = 1 := by unfold lwE; rw [if_pos h0]
      rw [e1] at hh
      have wh : IntKind.i64.wrap (houE ws i + IntKind.i64.wrap (1 + (1 : Int).tmod 10)) = houE ws (i + 1) := by
       have e2 : (1 : Int).tmod 10 = 1 := rfl
       rw [e2] at hh ⊢
       rw [wrapI (n := 1 + 1) (by omega) (by omega), wrapI (by omega) (by omega), hh]
      conv => whnf
      (refine ⟨by decide, ?_⟩; conv => whnf)
      (repeat' ((first|refine kA ?_|refine kE ?_|apply kB<;>intro _|fail)<;>conv=>whnf))
      (refine ⟨k, _, rfl, hgT, rfl, ?_⟩; conv => whnf)
      (repeat' ((first|refine kA ?_|refine kE ?_|apply kB<;>intro _|fail)<;>conv=>whnf))
      (refine .l ?_; conv => whnf)
      (refine ⟨fun el h => by rw [List.mem_singleton.1 h]; rfl, by show (((lgP t ws i).map ptD).length + 1) * 16 ≤ _; rw [List.length_map, lgP_len]; omega, ?_⟩; conv => whnf)
      (repeat' ((first|refine kA ?_|refine kE ?_|apply kB<;>intro _|fail)<;>conv=>whnf))
      (refine ⟨by decide, ?_⟩; conv => whnf)
      (repeat' ((first|refine kA ?_|refine kE ?_|apply kB<;>intro _|fail)<;>conv=>whnf))
      (refine ⟨[0, 1, 91], ?_⟩; conv => whnf)
      exact ⟨m - 1, by omega, i + 1, by omega, by rw [w1 i (by omega), wh, wm, hs, List.map_append]; rfl⟩
     ·have g2 : decide (((ws.map fun w => [C.dW w]).length : Int) > 0) = true := decide_eq_true (by rw [hwm]; omega)
      have e1 : lwE ws i = ws.getD (i % ws.length) 0 := by unfold lwE; rw [if_neg h0]
      have hvb := lwE_b hw i
      obtain ⟨v, hvw⟩ : ∃ v, v = lwE ws i := ⟨_, rfl⟩
      rw [← hvw] at hh hst hvb
      have hgw : (ws.map fun w => [C.dW w])[i % ws.length]? = some [C.dW v] := by
       rw [List.getElem?_map, hvw, e1, List.getD_eq_getElem?_getD, List.getElem?_eq_getElem (Nat.mod_lt _ (by omega))]; rfl
      have er : ((i : Int)).tmod ((ws.map fun w => [C.dW w]).length : Int) = ((i % ws.length : Nat) : Int) := by rw [hwm]; rfl
      have wv : IntKind.i64.wrap v = v := wrapI (by omega) (by omega)
      have wh : IntKind.i64.wrap (houE ws i + IntKind.i64.wrap (1 + (IntKind.i64.wrap v).tmod 10)) = houE ws (i + 1) := by
       rw [wv, wrapI (n := 1 + v.tmod 10) (by omega) (by omega), wrapI (by omega) (by omega), hh]
      conv => whnf
      (refine ⟨by decide, ?_⟩; conv => whnf)
      (repeat' ((first|refine kA ?_|refine kE ?_|apply kB<;>intro _|fail)<;>conv=>whnf))
      (refine ⟨k, _, rfl, hgT, rfl, ?_⟩; conv => whnf)
      (repeat' ((first|refine kA ?_|refine kE ?_|apply kB<;>intro _|fail)<;>conv=>whnf))
      (refine .l ?_; conv => whnf)
      (refine ⟨fun el h => by rw [List.mem_singleton.1 h]; rfl, by show (((lgP t ws i).map ptD).length + 1) * 16 ≤ _; rw [List.length_map, lgP_len]; omega, ?_⟩; conv => whnf)
      (repeat' ((first|refine kA ?_|refine kE ?_|apply kB<;>intro _|fail)<;>conv=>whnf))
      (refine ⟨by rw [hwm]; omega, ?_⟩; conv => whnf)
      (repeat' ((first|refine kA ?_|refine kE ?_|apply kB<;>intro _|fail)<;>conv=>whnf))
      (refine ⟨i % ws.length, _, er, hgw, rfl, ?_⟩; conv => whnf)
      (repeat' ((first|refine kA ?_|refine kE ?_|apply kB<;>intro _|fail)<;>conv=>whnf))
      (refine ⟨by decide, ?_⟩; conv => whnf)
      (repeat' ((first|refine kA ?_|refine kE ?_|apply kB<;>intro _|fail)<;>conv=>whnf))
      (refine ⟨[0, 1, 91], ?_⟩; conv => whnf)
      exact ⟨m - 1, by omega, i + 1, by omega, by rw [w1 i (by omega), wh, wm, hs, List.map_append]; rfl⟩
    ·have g1 : decide ((i : Int) ≤ (IntKind.i64.wrap P).tmod 90) = false := decide_eq_false (by rw [hNI]; omega)
     have ei : i = N + 1 := by omega
     subst ei
     conv => whnf
     have hS := lgS_ok htb hw (n := N + 1) (by omega) (by omega)
     have hch := hS.check
     have cw := Write_ok [lgS t ws (N + 1)] hch
     rw [write_one] at cw
     have cby := torn_by hS z
     have cpc := torn_lg htb hw (n := N + 1) (by omega) (by omega) z
     obtain ⟨b, hb⟩ : ∃ b, b = fileL [lgS t ws (N + 1)] := ⟨_, rfl⟩
     rw [← hb] at cw cby cpc
     have ctz := torn_pure b (by have := cby.2.2; omega) z hz
     have cpp := Pieces_pure _ 77 (by have := cby.2.1; omega) cby.1
     obtain ⟨bz, hbz⟩ : ∃ bz, bz = tornK b z (b.length / 40) := ⟨_, rfl⟩
     rw [← hbz] at cby cpc ctz cpp
     have cw : Pure Tryz.prog 9 [.seq [[dI 77, ptsD (lgP t ws (N + 1))]]] (.tup [bsD b, dI 0]) := cw
     obtain ⟨L, e, hpe, he, hL10, hLp⟩ : ∃ L e, PiecesL bz 77 = (L, e) ∧ (e = 0 ∨ e = 7) ∧ L.length ≤ 10 ∧ ∀ l ∈ L, PcOK t l := by
      rcases cpc with h7 | ⟨L, h0, h1, h2⟩
      ·exact ⟨[], 7, h7, .inr rfl, by simp, fun l hl => by cases hl⟩
      ·exact ⟨L, 0, h0, .inl rfl, h1, h2⟩
     rw [hpe] at cpp
     have cpp : Pure Tryz.prog 10 [bsD bz, dI 77] (.tup [.seq (L.map rowP), dI e]) := cpp
     clear cpc
     have hmL : ((L.map rowP).length : Int) = L.length := by rw [List.length_map]
     rcases he with rfl | rfl
     all_goals
      (refine ⟨by decide, ?_⟩; conv => whnf)
      (repeat' ((first|refine kA ?_|refine kE ?_|apply kB<;>intro _|fail)<;>conv=>whnf))
      (refine .l ?_; conv => whnf)
      (repeat' ((first|refine kA ?_|refine kE ?_|apply kB<;>intro _|refine .inl ⟨_, cw, ?_⟩|refine .inl ⟨_, ctz, ?_⟩|refine .inl ⟨_, cpp, ?_⟩|fail)<;>conv=>whnf))
      refine ⟨[.own 21 54], [5, 11, 12, 19, 21, 22, 23], [0, 3], 4, fun m s => ∃ i : Nat, i + m = min L.length 6 ∧ s = ⟨[(5, .ref 0 0), (11, .d (.seq (T.map fun n => [dI n]))), (12, .d (dI k)), (19, .d (.seq (L.map rowP))), (21, .own 3), (22, .d (dB (exL L i))), (23, .d (dI i))], [(0, .var false 24 [.d (.seq (rs.map rgC))]), (3, .arr 54 ((rnL L i).map (rnC k)))], 4⟩, ?_, ?_⟩
      ·conv => whnf
       exact ⟨min L.length 6, 0, by omega, by rw [rnL_0, exL_0]; rfl⟩
      ·clear g1 hiN hi m
       rintro m _ ⟨i, hi, rfl⟩
       have hrl := rnL_len (L := L) (i := i) (by omega)
       have hrm : (((rnL L i).map (rnC k)).length : Int) = i := by rw [List.length_map, hrl]
       by_cases hil : i < min L.length 6
       ·have g1 : decide ((i : Int) < ((L.map rowP).length : Int)) = true := decide_eq_true (by rw [hmL]; omega)
        have g2 : decide ((((rnL L i).map (rnC k)).length : Int) < 6) = true := decide_eq_true (by rw [hrm]; omega)
        have hLi : i < L.length := by omega
        have hgl : (L.map rowP)[i]? = some (rowP L[i]) := by rw [List.getElem?_map, List.getElem?_eq_getElem hLi]; rfl
        have hpc := hLp _ (List.getElem_mem hLi)
        have hrs := rnL_s hLi
        have hxs := exL_s hLi
        obtain ⟨l, hl⟩ : ∃ l, l = L[i] := ⟨_, rfl⟩
        rw [← hl] at hgl hpc hrs hxs
        have hgl : (L.map rowP)[i]? = some [ptsD l] := hgl
        have hml : ((l.map ptD).length : Int) = l.length := by rw [List.length_map]
        have hne := hpc.ne
        have hle := hpc.le
        obtain ⟨q1, q2, q3, q4⟩ := hpc.ends
        obtain ⟨r1, r2, r3, r4⟩ := hpc.run htb
        have a1 := hpc.at' _ q3
        have a2 := hpc.at' _ q4
        have b1 := mul_b (x := (fsP l).s) (B := 890) htb a1.2 (by omega)
        have b2 := mul_b (x := (lsP l).s) (B := 890) htb a2.2 (by omega)
        have p1 : (l.map ptD)[0]? = some (ptD (fsP l)) := by rw [List.getElem?_map, q1]; rfl
        have p2 : (l.map ptD)[l.length - 1]? = some (ptD (lsP l)) := by rw [List.getElem?_map, q2]; rfl
        have g3 : (((l.map ptD).length : Int) == 0) = false := by rw [hml, beq_eq_false_iff_ne]; omega
        have wl : IntKind.i64.wrap (((l.map ptD).length : Int) - 1) = ((l.length - 1 : Nat) : Int) := by rw [hml, wrapI (by omega) (by omega)]; omega
        have ws1 : IntKind.i64.wrap ((lsP l).s - (fsP l).s) = (rnP l).1 := by rw [wrapI (by omega) (by omega)]; rfl
        have ws2 : IntKind.i64.wrap ((lsP l).l - (fsP l).l) = (rnP l).2 := by rw [wrapI (by omega) (by omega)]; rfl
        conv => whnf
        (repeat' ((first|refine kA ?_|refine kE ?_|apply kB<;>intro _|fail)<;>conv=>whnf))
        (refine ⟨i, _, rfl, hgl, rfl, ?_⟩; conv => whnf)
        (repeat' ((first|refine kA ?_|refine kE ?_|apply kB<;>intro _|fail)<;>conv=>whnf))
        (refine ⟨0, _, rfl, p1, rfl, ?_⟩; conv => whnf)
        (repeat' ((first|refine kA ?_|refine kE ?_|apply kB<;>intro _|fail)<;>conv=>whnf))
        (refine ⟨l.length - 1, _, wl, p2, rfl, ?_⟩; conv => whnf)
        (repeat' ((first|refine kA ?_|refine kE ?_|apply kB<;>intro _|fail)<;>conv=>whnf))
        (refine .l ?_; conv => whnf)
        (repeat' ((first|refine kA ?_|refine kE ?_|apply kB<;>intro _|fail)<;>conv=>whnf))
        (refine .l ?_; conv => whnf)
        (refine ⟨fun el h => by rw [List.mem_singleton.1 h]; rfl, by show (((rnL L i).map (rnC k)).length + 1) * 40 ≤ _; rw [List.length_map, hrl]; omega, ?_⟩; conv => whnf)
        cases hex : exL L i with
        | true =>
         rw [hex, Bool.true_or] at hxs
         (repeat' ((first|refine kA ?_|refine kE ?_|apply kB<;>intro _|fail)<;>conv=>whnf))
         exact ⟨m - 1, by omega, i + 1, by omega, by rw [w1 i (by omega), ws1, ws2, hrs, hxs, List.map_append]; rfl⟩
        | false =>
         rw [hex, Bool.false_or] at hxs
         (repeat' ((first|refine kA ?_|refine kE ?_|apply kB<;>intro _|fail)<;>conv=>whnf))
         exact ⟨m - 1, by omega, i + 1, by omega, by rw [w1 i (by omega), ws1, ws2, hrs, hxs, List.map_append]; rfl⟩
       ·have ei : i = min L.length 6 := by omega
        have hrn : ∀ x ∈ rnL L i, (0 ≤ x.1 ∧ x.1 ≤ 1000000 ∧ 0 ≤ x.2 ∧ x.2 ≤ 1000000000) ∧ x.2 = T.getD k 0 * x.1 := fun x hx => by
         obtain ⟨l, hl, rfl⟩ := rnL_mem hx
         have := (hLp l hl).run htb
         exact ⟨by omega, ht ▸ this.2.1⟩
        have hR : RnOK rs k (rnL L i) := ⟨hkl, by omega, fun x hx => (hrn x hx).1⟩
        have cm := K.material_pure rs (by omega)
        obtain ⟨l1, l2, l3, l4⟩ := rates_law hv hT hkl fun x hx => (hrn x hx).2
        have ca := K.allowsT hv.ok hR hT
        have cr := K.ratesR hv.ok hR l2
        rw [l1] at ca
        rw [← ht] at l3
        have l4' : exL L i = true → (wdE (filE rs k (rnL L i)) k (filE rs k (rnL L i)).length).1 = (wdE (filE rs k (rnL L i)) k (filE rs k (rnL L i)).length).2 := fun hh => l4 (by
         obtain ⟨l, h1, h2, h3⟩ := exL_mem hh
         exact ⟨_, h1, ((hLp l h2).run htb).2.2.1 h3⟩)
        obtain ⟨F, hF⟩ : ∃ F, F = filE rs k (rnL L i) := ⟨_, rfl⟩
        rw [← hF] at l2 l3 l4' cr
        obtain ⟨W, hW⟩ : ∃ W, W = (List.range rs.length).map fun b => wdE F b F.length := ⟨_, rfl⟩
        obtain ⟨lo, hlo⟩ : ∃ lo, lo = (wdE F k F.length).1 := ⟨_, rfl⟩
        obtain ⟨hi2, hhi2⟩ : ∃ hi2, hi2 = (wdE F k F.length).2 := ⟨_, rfl⟩
        have hWl : W.length = rs.length := by rw [hW, List.length_map, List.length_range]
        have hWk : (W.map rgC)[k]? = some [dI lo, dI hi2] := by rw [List.getElem?_map, hW, List.getElem?_map, List.getElem?_range hkl, hlo, hhi2]; rfl
        rw [← hW] at cr
        rw [← hlo, ← hhi2] at l3 l4'
        have g2 : decide ((F.length : Int) < 1) = false := decide_eq_false (by omega)
        have g3 : (((W.map rgC).length : Int) != ((T.map fun n => [dI n]).length : Int)) = false := by rw [List.length_map, List.length_map, hWl, hTl]; simp
        have g4 : decide (t < lo) = false := decide_eq_false (by omega)
        have g5 : decide (t > hi2) = false := decide_eq_false (by omega)
        have hgo : decide ((i : Int) < ((L.map rowP).length : Int)) = false ∨ (decide ((i : Int) < ((L.map rowP).length : Int)) = true ∧ decide ((((rnL L i).map (rnC k)).length : Int) < 6) = false) := by
         rw [hmL, hrm, decide_eq_false_iff_not, decide_eq_false_iff_not, decide_eq_true_eq]
         omega
        have hgx : (!exL L i) = true ∨ ((!exL L i) = false ∧ (lo == hi2) = true) := by
         by_cases hx : exL L i = true
         ·exact .inr ⟨by rw [hx]; rfl, by rw [l4' hx]; exact beq_self_eq_true _⟩
         ·exact .inl (by rw [(Bool.not_eq_true _).mp hx]; rfl)
        clear hF hW hlo hhi2 l4 hR hrn
        rcases hgo with g1 | ⟨g1, g6⟩ <;> rcases hgx with gx | ⟨gx, gy⟩
        all_goals
         conv => whnf
         (repeat' ((first|refine kA ?_|refine kE ?_|apply kB<;>intro _|fail)<;>conv=>whnf))
         (refine .inl ⟨_, cm, ?_⟩; conv => whnf)
         (repeat' ((first|refine kA ?_|refine kE ?_|apply kB<;>intro _|fail)<;>conv=>whnf))
         (refine ⟨fun el h => by rw [List.mem_map] at h; obtain ⟨_, _, rfl⟩ := h; rfl, by show (T.map fun n => [dI n]).length * 8 ≤ _; rw [List.length_map]; omega, ?_⟩; conv => whnf)
         (refine .inl ⟨_, ca, ?_⟩; conv => whnf)
         (refine .r ?_; conv => whnf)
         (repeat' ((first|refine kA ?_|refine kE ?_|apply kB<;>intro _|refine .inl ⟨_, cm, ?_⟩|refine .inl ⟨_, cr, ?_⟩|refine .inl ⟨_, c7, ?_⟩|refine ⟨k, _, rfl, hgT, rfl, ?_⟩|refine ⟨k, _, rfl, hWk, rfl, ?_⟩|fail)<;>conv=>whnf))
         rfl
  ·have gmv : (mfI rs != 0) = true := by simpa using hmv
   refine pure_of pg Tryz.func3 (by kernel_rfl) ?_
   conv => whnf
   (repeat' ((first|refine kA ?_|refine kE ?_|apply kB<;>intro _|refine .inl ⟨_, c5, ?_⟩|refine .inl ⟨_, c6, ?_⟩|refine .inl ⟨_, c7, ?_⟩|fail)<;>conv=>whnf))
   rfl
 ·have g6 : (!decide (((rs.map rgC).length : Int) ≤ 6)) = true := by rw [decide_eq_false h6]; rfl
  refine pure_of pg Tryz.func3 (by kernel_rfl) ?_
  conv => whnf
  (repeat' ((first|refine kA ?_|refine kE ?_|apply kB<;>intro _|refine .inl ⟨_, c5, ?_⟩|refine .inl ⟨_, c7, ?_⟩|fail)<;>conv=>whnf))
  rfl
end Go.Ev.YtijidghjiaiccaaGreat


namespace Go.Ev.YtijidghjiaiccaaGreat
open Go.Proofs
theorem map_of {α β : Type} {f : α → β} {q : α → Prop} : ∀ {es : List β}, (∀ el ∈ es, ∃ x, el = f x ∧ q x) → ∃ l : List α, es = l.map f ∧ ∀ x ∈ l, q x
 | [], _ => ⟨[], rfl, fun x hx => by cases hx⟩
 | e :: es, h => by
  obtain ⟨x, rfl, hq⟩ := h e (by simp)
  obtain ⟨l, rfl, hl⟩ := map_of (es := es) fun el he => h el (by simp [he])
  exact ⟨x :: l, rfl, fun y hy => by
   rcases List.mem_cons.1 hy with rfl | hy
   ·exact hq
   ·exact hl y hy⟩
theorem bounds_u16 {n : Int} (h : (Lit.int .u16 n).wf = true) : 0 ≤ n ∧ n ≤ 65535 := by
 have h1 : IntKind.u16.min ≤ n ∧ n ≤ IntKind.u16.max := by simpa [Lit.wf] using h
 have h2 : IntKind.u16.min = 0 := by decide
 have h3 : IntKind.u16.max = 65535 := by decide
 omega
theorem bounds_u32 {n : Int} (h : (Lit.int .u32 n).wf = true) : 0 ≤ n ∧ n ≤ 4294967295 := by
 have h1 : IntKind.u32.min ≤ n ∧ n ≤ IntKind.u32.max := by simpa [Lit.wf] using h
 have h2 : IntKind.u32.min = 0 := by decide
 have h3 : IntKind.u32.max = 4294967295 := by decide
 omega
theorem bounds_u8' {n : Int} (h : (Lit.int .u8 n).wf = true) : 0 ≤ n ∧ n ≤ 255 := by
 have h1 : IntKind.u8.min ≤ n ∧ n ≤ IntKind.u8.max := by simpa [Lit.wf] using h
 have h2 : IntKind.u8.min = 0 := by decide
 have h3 : IntKind.u8.max = 255 := by decide
 omega
theorem okV_mat {d : D} (h : OkV tb 6 24 d) : ∃ rs, d = K.mtD rs := by
 obtain ⟨y, ds, hy, hd, rfl⟩ := h
 cases hy
 obtain ⟨d1, d2, rfl, ⟨es, rfl, hlen, hel⟩, rfl⟩ := hd
 obtain ⟨l, rfl, hl⟩ := map_of (f := K.rgC) (q := fun _ => True) (es := es) fun el he => by
  obtain ⟨a1, r1, rfl, ⟨i1, rfl, w1⟩, a2, r2, rfl, ⟨i2, rfl, w2⟩, rfl⟩ := hel el he
  exact ⟨(i1, i2), rfl, trivial⟩
 exact ⟨l, rfl⟩
theorem okV_u8 {d : D} (h : OkV tb 6 5 d) : ∃ i, d = dU i ∧ 0 ≤ i ∧ i ≤ 255 := by
 obtain ⟨y, ds, hy, hd, rfl⟩ := h
 cases hy
 obtain ⟨i, rfl, hw⟩ := hd
 exact ⟨i, rfl, bounds_u8' hw⟩
theorem okV_words {d : D} (h : OkV tb 6 25 d) : ∃ ws : List Int, d = C.wsD ws ∧ ws.length ≤ 9223372036854775807 ∧ ∀ x ∈ ws, 0 ≤ x ∧ x ≤ 65535 := by
 obtain ⟨y, ds, hy, hd, rfl⟩ := h
 cases hy
 obtain ⟨es, rfl, hlen, hel⟩ := hd
 obtain ⟨l, rfl, hl⟩ := map_of (f := fun w : Int => [D.v (.int .u16 w)]) (q := fun x => 0 ≤ x ∧ x ≤ 65535) (es := es) fun el he => by
  obtain ⟨i, rfl, hw⟩ := hel el he
  exact ⟨i, rfl, bounds_u16 hw⟩
 exact ⟨l, rfl, by simpa [maxLen] using hlen, hl⟩
theorem okV_u32 {d : D} (h : OkV tb 6 26 d) : ∃ i, d = .v (.int .u32 i) ∧ 0 ≤ i ∧ i ≤ 4294967295 := by
 obtain ⟨y, ds, hy, hd, rfl⟩ := h
 cases hy
 obtain ⟨i, rfl, hw⟩ := hd
 exact ⟨i, rfl, bounds_u32 hw⟩
theorem law_own : ownKnob Tryz.prog.godebug = none := by kernel_rfl
theorem law_laid : laidOutB Tryz.prog = true := by kernel_rfl
end Go.Ev.YtijidghjiaiccaaGreat

