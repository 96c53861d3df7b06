/-
  Contracts of functions, and plain laws, that lead to the statement. Written by an agent.
-/
import Derived.Test.YtijidghjiaiccaaGreatRows
import Derived.Test.YtijidghjiaiccaaGreatLb
set_option linter.unusedVariables false
set_option linter.unusedSimpArgs false
set_option linter.unusedSectionVars false
set_option maxRecDepth 100000
namespace Go.Ev.YtijidghjiaiccaaGreat
open Go.Proofs
open K (rgC mtD rtD rnC rnsD rnA okA filE wdE TOK pad3 MV MtOK RnOK trT mfI)
def rnL (L : List (List Pt)) (i : Nat) : List (Int × Int) := (L.take i).map rnP
def exL (L : List (List Pt)) (i : Nat) : Bool := (L.take i).any fun l => decide (((l.map ptD).length : Int) > 1)
theorem rnL_0 {L : List (List Pt)} : rnL L 0 = [] := by unfold rnL; rw [List.take_zero]; rfl
theorem exL_0 {L : List (List Pt)} : exL L 0 = false := by unfold exL; rw [List.take_zero]; rfl
theorem rnL_s {L : List (List Pt)} {i : Nat} (h : i < L.length) : rnL L (i + 1) = rnL L i ++ [rnP L[i]] := by unfold rnL; rw [List.take_add_one, List.getElem?_eq_getElem h, List.map_append]; rfl
theorem exL_s {L : List (List Pt)} {i : Nat} (h : i < L.length) : exL L (i + 1) = (exL L i || decide ((((L[i]).map ptD).length : Int) > 1)) := by
 unfold exL; rw [List.take_add_one, List.getElem?_eq_getElem h, List.any_append]; simp
theorem rnL_len {L : List (List Pt)} {i : Nat} (h : i ≤ L.length) : (rnL L i).length = i := by unfold rnL; rw [List.length_map, List.length_take]; omega
theorem rnL_mem {L : List (List Pt)} {i : Nat} {x : Int × Int} (h : x ∈ rnL L i) : ∃ l ∈ L, x = rnP l := by
 unfold rnL at h
 obtain ⟨l, hl, rfl⟩ := List.mem_map.1 h
 exact ⟨l, List.mem_of_mem_take hl, rfl⟩
theorem write_one (s : Sh) : writeI [s] = (fileL [s], 0) := by
 unfold writeI
 rw [if_pos (by simp)]
theorem exL_mem {L : List (List Pt)} {i : Nat} (h : exL L i = true) : ∃ l, rnP l ∈ rnL L i ∧ l ∈ L ∧ 1 < l.length := by
 unfold exL at h
 rw [List.any_eq_true] at h
 obtain ⟨l, hl, h2⟩ := h
 rw [decide_eq_true_eq, List.length_map] at h2
 exact ⟨l, List.mem_map.2 ⟨l, hl, rfl⟩, List.mem_of_mem_take hl, by omega⟩
attribute [local irreducible] Pure Bor Iter layB layF checkI writeI tornK ReadL PiecesL trT mfI lgP houE lwE rnL exL okA wdE
set_option maxHeartbeats 4000000 in
theorem logged_walk (rs : List (Int × Int)) (B P z : Int) (hB : 0 ≤ B ∧ B ≤ 255) (hP : 0 ≤ P ∧ P ≤ 255) (hz : 0 ≤ z ∧ z ≤ 4294967295) (ws : List Int) (hw : ∀ x ∈ ws, 0 ≤ x ∧ x ≤ 65535) (hwl : ws.length ≤ 9223372036854775807) :
  Pure Tryz.prog 3 [mtD rs, dU B, dU P, C.wsD ws, .v (.int .u32 z)] (dB true) := by
 have c5 := K.thin_pure rs
 have c6 := K.fault_pure rs
 have c7 := charts_pure
 have hm : ((rs.map rgC).length : Int) = rs.length := by rw [List.length_map]
 by_cases h6 : (((rs.map rgC).length : Int) ≤ 6)
 ·have g6 : (!decide (((rs.map rgC).length : Int) ≤ 6)) = false := by rw [decide_eq_true h6]; rfl
  by_cases hmv : mfI rs = 0
  ·have gmv : (mfI rs != 0) = false := by rw [hmv]; rfl
   have hv : MV rs := hmv
   have c8 := K.truly_pure hv hwl hw
   have hT := K.trT_tok hv hw
   obtain ⟨T, hTe⟩ : ∃ T, T = trT rs ws := ⟨_, rfl⟩
   rw [← hTe] at c8 hT
   have hn := hv.n.1
   have hTl := hT.len
   obtain ⟨k, hk⟩ : ∃ k, k = B.toNat % rs.length := ⟨_, rfl⟩
   have hkl : k < rs.length := hk ▸ Nat.mod_lt _ hn.1
   have hkI : (IntKind.i64.wrap B).tmod ((rs.map rgC).length : Int) = (k : Int) := by
    rw [wrapI (by omega) (by omega), hm, hk]
    obtain ⟨b, rfl⟩ : ∃ b : Nat, B = b := ⟨B.toNat, by omega⟩
    rfl
   obtain ⟨N, hN⟩ : ∃ N, N = P.toNat % 90 := ⟨_, rfl⟩
   have hNI : (IntKind.i64.wrap P).tmod 90 = (N : Int) := by
    rw [wrapI (by omega) (by omega), hN]
    obtain ⟨b, rfl⟩ : ∃ b : Nat, P = b := ⟨P.toNat, by omega⟩
    rfl
   have hN90 : N < 90 := hN ▸ Nat.mod_lt _ (by decide)
   obtain ⟨t, ht⟩ : ∃ t, t = T.getD k 0 := ⟨_, rfl⟩
   have htb : 0 ≤ t ∧ t ≤ 1000 := by
    have h1 := hT.r k hkl
    have h2 := (hv.ok.rs.at hkl).2
    omega
   have hgT : (T.map fun n => [dI n])[k]? = some [dI t] := by
    rw [List.getElem?_map, ht, List.getD_eq_getElem?_getD, List.getElem?_eq_getElem (by omega)]; rfl
   refine pure_of pg Tryz.func3 (by kernel_rfl) ?_
   conv => whnf
   (repeat' ((first|refine kA ?_|refine kE ?_|apply kB<;>intro _|refine .inl ⟨_, c5, ?_⟩|refine .inl ⟨_, c6, ?_⟩|refine .inl ⟨_, c8, ?_⟩|fail)<;>conv=>whnf))
   (refine ⟨by rw [hm]; omega, ?_⟩; conv => whnf)
   (repeat' ((first|refine kA ?_|refine kE ?_|apply kB<;>intro _|fail)<;>conv=>whnf))
   refine ⟨[.cown 1 1 36, .rex], [2, 3, 4, 5, 11, 12, 13, 14, 15], [0, 1, 2], 3, fun m s => ∃ i : Nat, i + m = N + 1 ∧ s = ⟨[(2, .d (dU P)), (3, .d (C.wsD ws)), (4, .d (.v (.int .u32 z))), (5, .ref 0 0), (11, .d (.seq (T.map fun n => [dI n]))), (12, .d (dI k)), (13, .ref 1 0), (14, .d (dI (houE ws i))), (15, .d (dI i))], [(0, .var false 24 [.d (.seq (rs.map rgC))]), (1, .var false 34 [.d (dI 77), .own 2]), (2, .arr 36 ((lgP t ws i).map ptD))], 3⟩, ?_, ?_⟩
   ·conv => whnf
    exact ⟨N + 1, 0, by omega, by rw [hkI, lgP_0, houE]; rfl⟩
   ·rintro m _ ⟨i, hi, rfl⟩
    have hlN : (((lgP t ws i).map ptD).length : Int) = i := by rw [List.length_map, lgP_len]
    by_cases hiN : i < N + 1
    ·have g1 : decide ((i : Int) ≤ (IntKind.i64.wrap P).tmod 90) = true := decide_eq_true (by rw [hNI]; omega)
     have hb := hou_b hw i
     have hst := hou_step hw i
     have hmb := mul_b (x := houE ws i) (B := 1000) htb ⟨hb.1, by omega⟩ (by omega)
     have wm : IntKind.i64.wrap (t * houE ws i) = t * houE ws i := wrapI (by omega) (by omega)
     have hs := lgP_s (t := t) (ws := ws) (n := i)
     have hh : houE ws (i + 1) = houE ws i + (1 + (lwE ws i).tmod 10) := by rw [houE]
     have hwm : ((ws.map fun w => [C.dW w]).length : Int) = ws.length := by rw [List.length_map]
     by_cases h0 : ws.length = 0
     ·have g2 : decide (((ws.map fun w => [C.dW w]).length : Int) > 0) = false := decide_eq_false (by rw [hwm]; omega)
      have e1 : lwE ws i = 1 := by unfold lwE; rw [if_pos h0]
      rw [e1] at hh
      have wh : IntKind.i64.wrap (houE ws i + IntKind.i64.wrap (1 + (1 : Int).tmod 10)) = houE ws (i + 1) := by
       have e2 : (1 : Int).tmod 10 = 1 := rfl
       rw [e2] at hh ⊢
       rw [wrapI (n := 1 + 1) (by omega) (by omega), wrapI (by omega) (by omega), hh]
      conv => whnf
      (refine ⟨by decide, ?_⟩; conv => whnf)
      (repeat' ((first|refine kA ?_|refine kE ?_|apply kB<;>intro _|fail)<;>conv=>whnf))
      (refine ⟨k, _, rfl, hgT, rfl, ?_⟩; conv => whnf)
      (repeat' ((first|refine kA ?_|refine kE ?_|apply kB<;>intro _|fail)<;>conv=>whnf))
      (refine .l ?_; conv => whnf)
      (refine ⟨fun el h => by rw [List.mem_singleton.1 h]; rfl, by show (((lgP t ws i).map ptD).length + 1) * 16 ≤ _; rw [List.length_map, lgP_len]; omega, ?_⟩; conv => whnf)
      (repeat' ((first|refine kA ?_|refine kE ?_|apply kB<;>intro _|fail)<;>conv=>whnf))
      (refine ⟨by decide, ?_⟩; conv => whnf)
      (repeat' ((first|refine kA ?_|refine kE ?_|apply kB<;>intro _|fail)<;>conv=>whnf))
      (refine ⟨[0, 1, 91], ?_⟩; conv => whnf)
      exact ⟨m - 1, by omega, i + 1, by omega, by rw [w1 i (by omega), wh, wm, hs, List.map_append]; rfl⟩
     ·have g2 : decide (((ws.map fun w => [C.dW w]).length : Int) > 0) = true := decide_eq_true (by rw [hwm]; omega)
      have e1 : lwE ws i = ws.getD (i % ws.length) 0 := by unfold lwE; rw [if_neg h0]
      have hvb := lwE_b hw i
      obtain ⟨v, hvw⟩ : ∃ v, v = lwE ws i := ⟨_, rfl⟩
      rw [← hvw] at hh hst hvb
      have hgw : (ws.map fun w => [C.dW w])[i % ws.length]? = some [C.dW v] := by
       rw [List.getElem?_map, hvw, e1, List.getD_eq_getElem?_getD, List.getElem?_eq_getElem (Nat.mod_lt _ (by omega))]; rfl
      have er : ((i : Int)).tmod ((ws.map fun w => [C.dW w]).length : Int) = ((i % ws.length : Nat) : Int) := by rw [hwm]; rfl
      have wv : IntKind.i64.wrap v = v := wrapI (by omega) (by omega)
      have wh : IntKind.i64.wrap (houE ws i + IntKind.i64.wrap (1 + (IntKind.i64.wrap v).tmod 10)) = houE ws (i + 1) := by
       rw [wv, wrapI (n := 1 + v.tmod 10) (by omega) (by omega), wrapI (by omega) (by omega), hh]
      conv => whnf
      (refine ⟨by decide, ?_⟩; conv => whnf)
      (repeat' ((first|refine kA ?_|refine kE ?_|apply kB<;>intro _|fail)<;>conv=>whnf))
      (refine ⟨k, _, rfl, hgT, rfl, ?_⟩; conv => whnf)
      (repeat' ((first|refine kA ?_|refine kE ?_|apply kB<;>intro _|fail)<;>conv=>whnf))
      (refine .l ?_; conv => whnf)
      (refine ⟨fun el h => by rw [List.mem_singleton.1 h]; rfl, by show (((lgP t ws i).map ptD).length + 1) * 16 ≤ _; rw [List.length_map, lgP_len]; omega, ?_⟩; conv => whnf)
      (repeat' ((first|refine kA ?_|refine kE ?_|apply kB<;>intro _|fail)<;>conv=>whnf))
      (refine ⟨by rw [hwm]; omega, ?_⟩; conv => whnf)
      (repeat' ((first|refine kA ?_|refine kE ?_|apply kB<;>intro _|fail)<;>conv=>whnf))
      (refine ⟨i % ws.length, _, er, hgw, rfl, ?_⟩; conv => whnf)
      (repeat' ((first|refine kA ?_|refine kE ?_|apply kB<;>intro _|fail)<;>conv=>whnf))
      (refine ⟨by decide, ?_⟩; conv => whnf)
      (repeat' ((first|refine kA ?_|refine kE ?_|apply kB<;>intro _|fail)<;>conv=>whnf))
      (refine ⟨[0, 1, 91], ?_⟩; conv => whnf)
      exact ⟨m - 1, by omega, i + 1, by omega, by rw [w1 i (by omega), wh, wm, hs, List.map_append]; rfl⟩
    ·have g1 : decide ((i : Int) ≤ (IntKind.i64.wrap P).tmod 90) = false := decide_eq_false (by rw [hNI]; omega)
     have ei : i = N + 1 := by omega
     subst ei
     conv => whnf
     have hS := lgS_ok htb hw (n := N + 1) (by omega) (by omega)
     have hch := hS.check
     have cw := Write_ok [lgS t ws (N + 1)] hch
     rw [write_one] at cw
     have cby := torn_by hS z
     have cpc := torn_lg htb hw (n := N + 1) (by omega) (by omega) z
     obtain ⟨b, hb⟩ : ∃ b, b = fileL [lgS t ws (N + 1)] := ⟨_, rfl⟩
     rw [← hb] at cw cby cpc
     have ctz := torn_pure b (by have := cby.2.2; omega) z hz
     have cpp := Pieces_pure _ 77 (by have := cby.2.1; omega) cby.1
     obtain ⟨bz, hbz⟩ : ∃ bz, bz = tornK b z (b.length / 40) := ⟨_, rfl⟩
     rw [← hbz] at cby cpc ctz cpp
     have cw : Pure Tryz.prog 9 [.seq [[dI 77, ptsD (lgP t ws (N + 1))]]] (.tup [bsD b, dI 0]) := cw
     obtain ⟨L, e, hpe, he, hL10, hLp⟩ : ∃ L e, PiecesL bz 77 = (L, e) ∧ (e = 0 ∨ e = 7) ∧ L.length ≤ 10 ∧ ∀ l ∈ L, PcOK t l := by
      rcases cpc with h7 | ⟨L, h0, h1, h2⟩
      ·exact ⟨[], 7, h7, .inr rfl, by simp, fun l hl => by cases hl⟩
      ·exact ⟨L, 0, h0, .inl rfl, h1, h2⟩
     rw [hpe] at cpp
     have cpp : Pure Tryz.prog 10 [bsD bz, dI 77] (.tup [.seq (L.map rowP), dI e]) := cpp
     clear cpc
     have hmL : ((L.map rowP).length : Int) = L.length := by rw [List.length_map]
     rcases he with rfl | rfl
     all_goals
      (refine ⟨by decide, ?_⟩; conv => whnf)
      (repeat' ((first|refine kA ?_|refine kE ?_|apply kB<;>intro _|fail)<;>conv=>whnf))
      (refine .l ?_; conv => whnf)
      (repeat' ((first|refine kA ?_|refine kE ?_|apply kB<;>intro _|refine .inl ⟨_, cw, ?_⟩|refine .inl ⟨_, ctz, ?_⟩|refine .inl ⟨_, cpp, ?_⟩|fail)<;>conv=>whnf))
      refine ⟨[.own 21 54], [5, 11, 12, 19, 21, 22, 23], [0, 3], 4, fun m s => ∃ i : Nat, i + m = min L.length 6 ∧ s = ⟨[(5, .ref 0 0), (11, .d (.seq (T.map fun n => [dI n]))), (12, .d (dI k)), (19, .d (.seq (L.map rowP))), (21, .own 3), (22, .d (dB (exL L i))), (23, .d (dI i))], [(0, .var false 24 [.d (.seq (rs.map rgC))]), (3, .arr 54 ((rnL L i).map (rnC k)))], 4⟩, ?_, ?_⟩
      ·conv => whnf
       exact ⟨min L.length 6, 0, by omega, by rw [rnL_0, exL_0]; rfl⟩
      ·clear g1 hiN hi m
       rintro m _ ⟨i, hi, rfl⟩
       have hrl := rnL_len (L := L) (i := i) (by omega)
       have hrm : (((rnL L i).map (rnC k)).length : Int) = i := by rw [List.length_map, hrl]
       by_cases hil : i < min L.length 6
       ·have g1 : decide ((i : Int) < ((L.map rowP).length : Int)) = true := decide_eq_true (by rw [hmL]; omega)
        have g2 : decide ((((rnL L i).map (rnC k)).length : Int) < 6) = true := decide_eq_true (by rw [hrm]; omega)
        have hLi : i < L.length := by omega
        have hgl : (L.map rowP)[i]? = some (rowP L[i]) := by rw [List.getElem?_map, List.getElem?_eq_getElem hLi]; rfl
        have hpc := hLp _ (List.getElem_mem hLi)
        have hrs := rnL_s hLi
        have hxs := exL_s hLi
        obtain ⟨l, hl⟩ : ∃ l, l = L[i] := ⟨_, rfl⟩
        rw [← hl] at hgl hpc hrs hxs
        have hgl : (L.map rowP)[i]? = some [ptsD l] := hgl
        have hml : ((l.map ptD).length : Int) = l.length := by rw [List.length_map]
        have hne := hpc.ne
        have hle := hpc.le
        obtain ⟨q1, q2, q3, q4⟩ := hpc.ends
        obtain ⟨r1, r2, r3, r4⟩ := hpc.run htb
        have a1 := hpc.at' _ q3
        have a2 := hpc.at' _ q4
        have b1 := mul_b (x := (fsP l).s) (B := 890) htb a1.2 (by omega)
        have b2 := mul_b (x := (lsP l).s) (B := 890) htb a2.2 (by omega)
        have p1 : (l.map ptD)[0]? = some (ptD (fsP l)) := by rw [List.getElem?_map, q1]; rfl
        have p2 : (l.map ptD)[l.length - 1]? = some (ptD (lsP l)) := by rw [List.getElem?_map, q2]; rfl
        have g3 : (((l.map ptD).length : Int) == 0) = false := by rw [hml, beq_eq_false_iff_ne]; omega
        have wl : IntKind.i64.wrap (((l.map ptD).length : Int) - 1) = ((l.length - 1 : Nat) : Int) := by rw [hml, wrapI (by omega) (by omega)]; omega
        have ws1 : IntKind.i64.wrap ((lsP l).s - (fsP l).s) = (rnP l).1 := by rw [wrapI (by omega) (by omega)]; rfl
        have ws2 : IntKind.i64.wrap ((lsP l).l - (fsP l).l) = (rnP l).2 := by rw [wrapI (by omega) (by omega)]; rfl
        conv => whnf
        (repeat' ((first|refine kA ?_|refine kE ?_|apply kB<;>intro _|fail)<;>conv=>whnf))
        (refine ⟨i, _, rfl, hgl, rfl, ?_⟩; conv => whnf)
        (repeat' ((first|refine kA ?_|refine kE ?_|apply kB<;>intro _|fail)<;>conv=>whnf))
        (refine ⟨0, _, rfl, p1, rfl, ?_⟩; conv => whnf)
        (repeat' ((first|refine kA ?_|refine kE ?_|apply kB<;>intro _|fail)<;>conv=>whnf))
        (refine ⟨l.length - 1, _, wl, p2, rfl, ?_⟩; conv => whnf)
        (repeat' ((first|refine kA ?_|refine kE ?_|apply kB<;>intro _|fail)<;>conv=>whnf))
        (refine .l ?_; conv => whnf)
        (repeat' ((first|refine kA ?_|refine kE ?_|apply kB<;>intro _|fail)<;>conv=>whnf))
        (refine .l ?_; conv => whnf)
        (refine ⟨fun el h => by rw [List.mem_singleton.1 h]; rfl, by show (((rnL L i).map (rnC k)).length + 1) * 40 ≤ _; rw [List.length_map, hrl]; omega, ?_⟩; conv => whnf)
        cases hex : exL L i with
        | true =>
         rw [hex, Bool.true_or] at hxs
         (repeat' ((first|refine kA ?_|refine kE ?_|apply kB<;>intro _|fail)<;>conv=>whnf))
         exact ⟨m - 1, by omega, i + 1, by omega, by rw [w1 i (by omega), ws1, ws2, hrs, hxs, List.map_append]; rfl⟩
        | false =>
         rw [hex, Bool.false_or] at hxs
         (repeat' ((first|refine kA ?_|refine kE ?_|apply kB<;>intro _|fail)<;>conv=>whnf))
         exact ⟨m - 1, by omega, i + 1, by omega, by rw [w1 i (by omega), ws1, ws2, hrs, hxs, List.map_append]; rfl⟩
       ·have ei : i = min L.length 6 := by omega
        have hrn : ∀ x ∈ rnL L i, (0 ≤ x.1 ∧ x.1 ≤ 1000000 ∧ 0 ≤ x.2 ∧ x.2 ≤ 1000000000) ∧ x.2 = T.getD k 0 * x.1 := fun x hx => by
         obtain ⟨l, hl, rfl⟩ := rnL_mem hx
         have := (hLp l hl).run htb
         exact ⟨by omega, ht ▸ this.2.1⟩
        have hR : RnOK rs k (rnL L i) := ⟨hkl, by omega, fun x hx => (hrn x hx).1⟩
        have cm := K.material_pure rs (by omega)
        obtain ⟨l1, l2, l3, l4⟩ := rates_law hv hT hkl fun x hx => (hrn x hx).2
        have ca := K.allowsT hv.ok hR hT
        have cr := K.ratesR hv.ok hR l2
        rw [l1] at ca
        rw [← ht] at l3
        have l4' : exL L i = true → (wdE (filE rs k (rnL L i)) k (filE rs k (rnL L i)).length).1 = (wdE (filE rs k (rnL L i)) k (filE rs k (rnL L i)).length).2 := fun hh => l4 (by
         obtain ⟨l, h1, h2, h3⟩ := exL_mem hh
         exact ⟨_, h1, ((hLp l h2).run htb).2.2.1 h3⟩)
        obtain ⟨F, hF⟩ : ∃ F, F = filE rs k (rnL L i) := ⟨_, rfl⟩
        rw [← hF] at l2 l3 l4' cr
        obtain ⟨W, hW⟩ : ∃ W, W = (List.range rs.length).map fun b => wdE F b F.length := ⟨_, rfl⟩
        obtain ⟨lo, hlo⟩ : ∃ lo, lo = (wdE F k F.length).1 := ⟨_, rfl⟩
        obtain ⟨hi2, hhi2⟩ : ∃ hi2, hi2 = (wdE F k F.length).2 := ⟨_, rfl⟩
        have hWl : W.length = rs.length := by rw [hW, List.length_map, List.length_range]
        have hWk : (W.map rgC)[k]? = some [dI lo, dI hi2] := by rw [List.getElem?_map, hW, List.getElem?_map, List.getElem?_range hkl, hlo, hhi2]; rfl
        rw [← hW] at cr
        rw [← hlo, ← hhi2] at l3 l4'
        have g2 : decide ((F.length : Int) < 1) = false := decide_eq_false (by omega)
        have g3 : (((W.map rgC).length : Int) != ((T.map fun n => [dI n]).length : Int)) = false := by rw [List.length_map, List.length_map, hWl, hTl]; simp
        have g4 : decide (t < lo) = false := decide_eq_false (by omega)
        have g5 : decide (t > hi2) = false := decide_eq_false (by omega)
        have hgo : decide ((i : Int) < ((L.map rowP).length : Int)) = false ∨ (decide ((i : Int) < ((L.map rowP).length : Int)) = true ∧ decide ((((rnL L i).map (rnC k)).length : Int) < 6) = false) := by
         rw [hmL, hrm, decide_eq_false_iff_not, decide_eq_false_iff_not, decide_eq_true_eq]
         omega
        have hgx : (!exL L i) = true ∨ ((!exL L i) = false ∧ (lo == hi2) = true) := by
         by_cases hx : exL L i = true
         ·exact .inr ⟨by rw [hx]; rfl, by rw [l4' hx]; exact beq_self_eq_true _⟩
         ·exact .inl (by rw [(Bool.not_eq_true _).mp hx]; rfl)
        clear hF hW hlo hhi2 l4 hR hrn
        rcases hgo with g1 | ⟨g1, g6⟩ <;> rcases hgx with gx | ⟨gx, gy⟩
        all_goals
         conv => whnf
         (repeat' ((first|refine kA ?_|refine kE ?_|apply kB<;>intro _|fail)<;>conv=>whnf))
         (refine .inl ⟨_, cm, ?_⟩; conv => whnf)
         (repeat' ((first|refine kA ?_|refine kE ?_|apply kB<;>intro _|fail)<;>conv=>whnf))
         (refine ⟨fun el h => by rw [List.mem_map] at h; obtain ⟨_, _, rfl⟩ := h; rfl, by show (T.map fun n => [dI n]).length * 8 ≤ _; rw [List.length_map]; omega, ?_⟩; conv => whnf)
         (refine .inl ⟨_, ca, ?_⟩; conv => whnf)
         (refine .r ?_; conv => whnf)
         (repeat' ((first|refine kA ?_|refine kE ?_|apply kB<;>intro _|refine .inl ⟨_, cm, ?_⟩|refine .inl ⟨_, cr, ?_⟩|refine .inl ⟨_, c7, ?_⟩|refine ⟨k, _, rfl, hgT, rfl, ?_⟩|refine ⟨k, _, rfl, hWk, rfl, ?_⟩|fail)<;>conv=>whnf))
         rfl
  ·have gmv : (mfI rs != 0) = true := by simpa using hmv
   refine pure_of pg Tryz.func3 (by kernel_rfl) ?_
   conv => whnf
   (repeat' ((first|refine kA ?_|refine kE ?_|apply kB<;>intro _|refine .inl ⟨_, c5, ?_⟩|refine .inl ⟨_, c6, ?_⟩|refine .inl ⟨_, c7, ?_⟩|fail)<;>conv=>whnf))
   rfl
 ·have g6 : (!decide (((rs.map rgC).length : Int) ≤ 6)) = true := by rw [decide_eq_false h6]; rfl
  refine pure_of pg Tryz.func3 (by kernel_rfl) ?_
  conv => whnf
  (repeat' ((first|refine kA ?_|refine kE ?_|apply kB<;>intro _|refine .inl ⟨_, c5, ?_⟩|refine .inl ⟨_, c7, ?_⟩|fail)<;>conv=>whnf))
  rfl
end Go.Ev.YtijidghjiaiccaaGreat


namespace Go.Ev.YtijidghjiaiccaaGreat
open Go.Proofs
theorem map_of {α β : Type} {f : α → β} {q : α → Prop} : ∀ {es : List β}, (∀ el ∈ es, ∃ x, el = f x ∧ q x) → ∃ l : List α, es = l.map f ∧ ∀ x ∈ l, q x
 | [], _ => ⟨[], rfl, fun x hx => by cases hx⟩
 | e :: es, h => by
  obtain ⟨x, rfl, hq⟩ := h e (by simp)
  obtain ⟨l, rfl, hl⟩ := map_of (es := es) fun el he => h el (by simp [he])
  exact ⟨x :: l, rfl, fun y hy => by
   rcases List.mem_cons.1 hy with rfl | hy
   ·exact hq
   ·exact hl y hy⟩
theorem bounds_u16 {n : Int} (h : (Lit.int .u16 n).wf = true) : 0 ≤ n ∧ n ≤ 65535 := by
 have h1 : IntKind.u16.min ≤ n ∧ n ≤ IntKind.u16.max := by simpa [Lit.wf] using h
 have h2 : IntKind.u16.min = 0 := by decide
 have h3 : IntKind.u16.max = 65535 := by decide
 omega
theorem bounds_u32 {n : Int} (h : (Lit.int .u32 n).wf = true) : 0 ≤ n ∧ n ≤ 4294967295 := by
 have h1 : IntKind.u32.min ≤ n ∧ n ≤ IntKind.u32.max := by simpa [Lit.wf] using h
 have h2 : IntKind.u32.min = 0 := by decide
 have h3 : IntKind.u32.max = 4294967295 := by decide
 omega
theorem bounds_u8' {n : Int} (h : (Lit.int .u8 n).wf = true) : 0 ≤ n ∧ n ≤ 255 := by
 have h1 : IntKind.u8.min ≤ n ∧ n ≤ IntKind.u8.max := by simpa [Lit.wf] using h
 have h2 : IntKind.u8.min = 0 := by decide
 have h3 : IntKind.u8.max = 255 := by decide
 omega
theorem okV_mat {d : D} (h : OkV tb 6 24 d) : ∃ rs, d = K.mtD rs := by
 obtain ⟨y, ds, hy, hd, rfl⟩ := h
 cases hy
 obtain ⟨d1, d2, rfl, ⟨es, rfl, hlen, hel⟩, rfl⟩ := hd
 obtain ⟨l, rfl, hl⟩ := map_of (f := K.rgC) (q := fun _ => True) (es := es) fun el he => by
  obtain ⟨a1, r1, rfl, ⟨i1, rfl, w1⟩, a2, r2, rfl, ⟨i2, rfl, w2⟩, rfl⟩ := hel el he
  exact ⟨(i1, i2), rfl, trivial⟩
 exact ⟨l, rfl⟩
theorem okV_u8 {d : D} (h : OkV tb 6 5 d) : ∃ i, d = dU i ∧ 0 ≤ i ∧ i ≤ 255 := by
 obtain ⟨y, ds, hy, hd, rfl⟩ := h
 cases hy
 obtain ⟨i, rfl, hw⟩ := hd
 exact ⟨i, rfl, bounds_u8' hw⟩
theorem okV_words {d : D} (h : OkV tb 6 25 d) : ∃ ws : List Int, d = C.wsD ws ∧ ws.length ≤ 9223372036854775807 ∧ ∀ x ∈ ws, 0 ≤ x ∧ x ≤ 65535 := by
 obtain ⟨y, ds, hy, hd, rfl⟩ := h
 cases hy
 obtain ⟨es, rfl, hlen, hel⟩ := hd
 obtain ⟨l, rfl, hl⟩ := map_of (f := fun w : Int => [D.v (.int .u16 w)]) (q := fun x => 0 ≤ x ∧ x ≤ 65535) (es := es) fun el he => by
  obtain ⟨i, rfl, hw⟩ := hel el he
  exact ⟨i, rfl, bounds_u16 hw⟩
 exact ⟨l, rfl, by simpa [maxLen] using hlen, hl⟩
theorem okV_u32 {d : D} (h : OkV tb 6 26 d) : ∃ i, d = .v (.int .u32 i) ∧ 0 ≤ i ∧ i ≤ 4294967295 := by
 obtain ⟨y, ds, hy, hd, rfl⟩ := h
 cases hy
 obtain ⟨i, rfl, hw⟩ := hd
 exact ⟨i, rfl, bounds_u32 hw⟩
theorem law_own : ownKnob Tryz.prog.godebug = none := by kernel_rfl
theorem law_laid : laidOutB Tryz.prog = true := by kernel_rfl
end Go.Ev.YtijidghjiaiccaaGreat

