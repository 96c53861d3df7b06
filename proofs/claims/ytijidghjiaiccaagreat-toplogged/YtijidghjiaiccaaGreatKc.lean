/-
  A part of an evaluator of the model on abstract data, and of its proof. Written by an agent.
-/
import Derived.Maps.RangeRun
import Derived.OrdersIn
import Derived.ControlIn
import Derived.Test.YtijidghjiaiccaaGreatKb
set_option linter.unusedVariables false
set_option linter.unusedSimpArgs false
set_option linter.unusedSectionVars false
set_option maxRecDepth 100000
namespace Go.Ev
open RowKit
section
variable {tb : TB} {X : Ctx} {P : Program} {Wn : Nat} {Y : Nat → List D → Bool → Prop} {F : Fence} {n : Nat} {g : Nat → A} {o : Nat → Option Ob} {a : Act} {w : World} {G : Nat → Option GR} {I : Nat → Prop} {oper : Oper} {K : Eff → Prop} {nid : Nat}
theorem getM {b : Nat} {ents : Array MapEntry} {clock : Nat} (h : w.heap[b]? = some (.map ents clock)) : (getObj b).run P w = .ok (.map ents clock) w := by simp [getObj, Sem.run, h]
theorem setM {b : Nat} {ents : Array MapEntry} {clock : Nat} (h : w.heap[b]? = some (.map ents clock)) (ob : Obj) : (setObj b ob).run P w = .ok () { w with heap := w.heap.setIfInBounds b ob } := by simp [setObj, Sem.run, h]
theorem zeroD_rep {t : TypeId} {y : Ty} (hT : TyOK P t y) : ∃ z, (zeroValue t).run P w = .ok z w ∧ RepD I w.heap (zeroD y) z := by
 obtain ⟨i, z, h1, h2, h3, h4, h5⟩ := hT.info
 obtain ⟨q1, q2⟩ := hT.zagg i z h1 h4
 refine ⟨z, run_zero h1 h4, ?_⟩
 unfold zeroD
 cases ha : y.k.agg with
 | true =>
  obtain ⟨cs, rfl⟩ := q1 ha
  rw [cond_true, RepD]
  refine ⟨cs, rfl, ?_⟩
  have h5 : cs.toList = y.zero := h5
  rw [← h5]
  generalize cs.toList = l
  induction l with
  | nil => exact RepL.nil
  | cons v l ih => exact RepL.cons (by rw [RepD]) ih
 | false =>
  have hne := q2 ha
  have : z.cells = #[z] := by
   cases z <;> first | rfl | exact absurd rfl (hne _)
  rw [this] at h5
  have h5 : [z] = y.zero := by simpa using h5
  rw [cond_false, ← h5]
  rw [RepD]
variable (hP : PG P tb) (hF : Wide F) (m : Mod tb X g o a w G I) (hdst : ∀ d, oper.dst = some d → d < X.nt)
include hP hF m hdst
theorem snd_makeMap {T : TypeId} {r : Option Operand} (hop : oper.op = .makeMap T r) (hn : o nid = none) (hnb : X.nb ≤ nid) (h : effOp tb (Con P tb Wn Y) (.makeMap T r) oper.dst g o nid K) : ∃ e, K e ∧ Does tb X P F n g o a w oper e := by
 have hd : ∀ c, oper.op ≠ .defer c := by simp [hop]
 simp only [effOp] at h
 split at h
 ·rename_i k e s1 s2 z fl hTy
  unfold effNew at h
  cases hd' : oper.dst with
  | none => simp [hd'] at h
  | some d =>
   simp only [hd'] at h
   have hrun : (execOp a.eval oper).run P w = .ok (.value (.map (some w.heap.size))) { w with heap := w.heap.push (.map #[] 0) } := by
    simp [execOp, hop, Instr.makeMap, newObj, Sem.run]
   refine ⟨_, h, fun next Q hK => wpIn_value hF hd hrun ?_⟩
   have m2 := m.mk' hn hnb (gr := ⟨.map (some w.heap.size), some w.heap.size⟩) (ob := .map k e []) (below_push w (.map #[] 0))
    (fun b hb => by cases hb; exact ⟨Nat.le_refl _, by simp⟩)
    ⟨w.heap.size, #[], 0, updG_self, by simp, rfl, (fun p hp => nomatch hp), rfl, fun i e he => by simp at he⟩
   have m3 := m2.put (d := d) (x := .own nid) (v := .map (some w.heap.size)) (hdst d hd') (by rw [RepA]; exact ⟨⟨_, updG_self, rfl⟩, rfl⟩)
   rw [hd']
   refine hK _ _ (updG G nid ⟨.map (some w.heap.size), some w.heap.size⟩) I ?_
   rw [appO_one rfl rfl rfl]
   exact m3
 ·exact h.elim
theorem snd_lookup {T : TypeId} {x ix : Operand} {ok : Bool} (hop : oper.op = .lookup T x ix ok) (h : effOp tb (Con P tb Wn Y) (.lookup T x ix ok) oper.dst g o nid K) : ∃ e, K e ∧ Does tb X P F n g o a w oper e := by
 have hd : ∀ c, oper.op ≠ .defer c := by simp [hop]
 have rx := m.eval x
 have rix := m.eval ix
 simp only [effOp] at h
 split at h
 ·rename_i k e s1 s2 z fl i key hTy hx hix
  split at h
  ·rename_i k' e' es y ho hy
   cases hb : (Nat.beq k k' && Nat.beq e e' && keyB tb k key) with
   | false => rw [hb] at h; exact h.elim
   | true =>
    rw [hb, cond_true] at h
    simp only [Bool.and_eq_true] at hb
    obtain ⟨⟨hk1, hk2⟩, hkey⟩ := hb
    have hk1 := Nat.eq_of_beq_eq_true hk1
    have hk2 := Nat.eq_of_beq_eq_true hk2
    subst hk1; subst hk2
    have hk := (hP.ty T _ hTy).kind
    simp only [TKOK] at hk
    obtain ⟨b, ents, clock, r1, r2, r3, r4, _⟩ := m.objs i _ ho
    rw [hx, RepA] at rx
    obtain ⟨⟨gr, hg, hu⟩, _⟩ := rx
    rw [hg] at r1; cases r1
    rw [hix, RepA] at rix
    have hki := key_is hP hkey rix
    have hfind := run_find hP hkey rix r3 r4 w
    obtain ⟨r, hr, h⟩ := h
    obtain ⟨z0, hz1, hz2⟩ := zeroD_rep (I := I) (w := w) (hP.ty e y hy)
    have hget : (getObj b).run P w = .ok (.map ents clock) w := getM r2
    have hchk := hki.check ents.isEmpty w
    cases hs : scanE key es ents.toList 0 with
    | none =>
     rw [hs] at hfind
     rw [(scan_none r3 hs).1] at hr
     subst hr
     simp only at h
     have hrun : (execOp a.eval oper).run P w = .ok (.value (if ok then .tuple #[z0, .bool false] else z0)) w := by
      simp [execOp, hop, Instr.lookup, run_und hk, hu, hget, hchk, hfind, hz1]
     cases ok with
     | true =>
      refine fin_put hF hd hrun m ?_ hdst h
      rw [RepA]
      exact ⟨#[z0, .bool false], rfl, RepAL.cons (by rw [RepA]; exact hz2) (RepAL.cons (by unfold boolRes; rw [RepA, RepD]) RepAL.nil)⟩
     | false =>
      refine fin_put hF hd hrun m ?_ hdst h
      rw [RepA]; exact hz2
    | some jx =>
     obtain ⟨j, v⟩ := jx
     rw [hs] at hfind
     obtain ⟨_, p, e0, p1, p2, p3, p4, p5, _⟩ := scan_some r3 hs
     rw [p5] at hr
     subst hr
     simp only at h
     have hrv : RepD I w.heap p.2 v := by rw [← p3]; exact (RepE.at r3 p1 p2).2
     have hrun : (execOp a.eval oper).run P w = .ok (.value (if ok then .tuple #[v, .bool true] else v)) w := by
      simp [execOp, hop, Instr.lookup, run_und hk, hu, hget, hchk, hfind]
     cases ok with
     | true =>
      refine fin_put hF hd hrun m ?_ hdst h
      rw [RepA]
      exact ⟨#[v, .bool true], rfl, RepAL.cons (by rw [RepA]; exact hrv) (RepAL.cons (by unfold boolRes; rw [RepA, RepD]) RepAL.nil)⟩
     | false =>
      refine fin_put hF hd hrun m ?_ hdst h
      rw [RepA]; exact hrv
  ·exact h.elim
 ·exact h.elim
theorem snd_mapUpdate {T : TypeId} {x ix vx : Operand} (hop : oper.op = .mapUpdate T x ix vx ∨ oper.op = .insert T x ix vx) (h : effOp tb (Con P tb Wn Y) (.mapUpdate T x ix vx) oper.dst g o nid K) : ∃ e, K e ∧ Does tb X P F n g o a w oper e := by
 have hd : ∀ c, oper.op ≠ .defer c := by rcases hop with hop | hop <;> simp [hop]
 have hex : ∀ w', (Instr.mapUpdate T (a.eval x) (a.eval ix) (a.eval vx)).run P w = .ok () w' → (execOp a.eval oper).run P w = .ok .skip w' := fun w' hr => by rcases hop with hop | hop <;> simp [execOp, hop, hr]
 have rx := m.eval x
 have rix := m.eval ix
 have rv := m.eval vx
 simp only [effOp] at h
 split at h
 ·rename_i k e s1 s2 z fl i key v hTy hx hix hv
  split at h
  ·rename_i k' e' es ho
   cases hb : (Nat.beq k k' && Nat.beq e e' && keyB tb k key) with
   | false => rw [hb] at h; exact h.elim
   | true =>
    rw [hb, cond_true] at h
    simp only [Bool.and_eq_true] at hb
    obtain ⟨⟨hk1, hk2⟩, hkey⟩ := hb
    have hk1 := Nat.eq_of_beq_eq_true hk1
    have hk2 := Nat.eq_of_beq_eq_true hk2
    subst hk1; subst hk2
    have hk := (hP.ty T _ hTy).kind
    simp only [TKOK] at hk
    obtain ⟨b, ents, clock, r1, r2, r3, r4, r5, r6⟩ := m.objs i _ ho
    rw [hx, RepA] at rx
    obtain ⟨⟨gr, hg, hu⟩, _⟩ := rx
    rw [hg] at r1; cases r1
    rw [hix, RepA] at rix
    rw [hv, RepA] at rv
    have hki := key_is hP hkey rix
    have hfind := run_find hP hkey rix r3 r4 w
    obtain ⟨es', hes, h⟩ := h
    have hget : (getObj b).run P w = .ok (.map ents clock) w := getM r2
    have hchk := hki.check false w
    have hlt : b < w.heap.size := (Array.getElem?_eq_some_iff.1 r2).1
    have hnI : ¬ I b := (m.own i _ _ b ho rfl hg rfl).1
    have key1 : ∃ ents' clock', (execOp a.eval oper).run P w = .ok .skip { w with heap := w.heap.setIfInBounds b (.map ents' clock') } ∧ RepE I w.heap es' ents'.toList ∧ (∀ p ∈ es', keyB tb k p.1 = true) ∧ BornOK ents' clock' := by
     cases hs : scanE key es ents.toList 0 with
     | none =>
      rw [hs] at hfind
      rw [(scan_none r3 hs).2 v] at hes
      subst hes
      refine ⟨ents.push { key := a.eval ix, val := a.eval vx, born := clock }, clock + 1, ?_, ?_, ?_, ?_⟩
      ·exact hex _ (by simp [Instr.mapUpdate, run_und hk, hu, hget, hchk, hfind, setM r2])
      ·rw [Array.toList_push]; exact RepE.snoc (e := { key := a.eval ix, val := a.eval vx, born := clock }) rix rv r3
      ·intro p hp
       rcases List.mem_append.1 hp with hp | hp
       ·exact r4 p hp
       ·rw [List.mem_singleton.1 hp]; exact hkey
      ·refine ⟨by rw [r5]; simp, fun i e he => ?_⟩
       rw [Array.getElem?_push] at he
       split at he
       ·cases he; rename_i hi; rw [hi]; exact r5
       ·exact r6 i e he
     | some jx =>
      obtain ⟨j, xv⟩ := jx
      rw [hs] at hfind
      obtain ⟨_, p, e0, p1, p2, p3, p4, p5, p6⟩ := scan_some r3 hs
      simp only [Nat.sub_zero] at p1 p2 p6
      rw [p6 v] at hes
      subst hes
      have hkv : a.eval ix = e0.key := keyEq_val p4 rix (RepE.at r3 p1 p2).1
      have hst : (Instr.keyThatStays e0.key (a.eval ix)).run P w = .ok (a.eval ix) w := by rw [← hkv]; exact hki.stays w
      have p2' : ents[j]? = some e0 := by rw [← Array.getElem?_toList]; exact p2
      refine ⟨ents.modify j fun e => { e with key := a.eval ix, val := a.eval vx }, clock, ?_, ?_, ?_, ?_⟩
      ·exact hex _ (by simp [Instr.mapUpdate, run_und hk, hu, hget, hchk, hfind, setM r2, p2', hst])
      ·have hj : j < ents.size := (Array.getElem?_eq_some_iff.1 p2').1
       have e1 : (ents.modify j fun e => { e with key := a.eval ix, val := a.eval vx }).toList = ents.toList.set j { e0 with key := a.eval ix, val := a.eval vx } := by
        apply List.ext_getElem?
        intro q
        rw [Array.getElem?_toList, Array.getElem?_modify, List.getElem?_set]
        by_cases hq : j = q
        ·subst hq
         have e2 : ents[j] = e0 := (Array.getElem?_eq_some_iff.1 p2').2
         simp [hj, e2]
        ·simp [hq]
       rw [e1]
       exact RepE.setAt (e := { e0 with key := a.eval ix, val := a.eval vx }) rix rv j r3
      ·intro p' hp'
       rcases List.mem_or_eq_of_mem_set hp' with h' | h'
       ·exact r4 p' h'
       ·rw [h']; exact hkey
      ·refine ⟨by rw [r5]; simp, fun i e he => ?_⟩
       rw [Array.getElem?_modify] at he
       split at he
       ·obtain ⟨e', he', rfl⟩ := Option.map_eq_some_iff.1 he
        exact r6 i e' he'
       ·exact r6 i e he
    obtain ⟨ents', clock', hrun, q1, q2, q3⟩ := key1
    have hh : ∀ q, q ≠ b → ({ w with heap := w.heap.setIfInBounds b (.map ents' clock') } : World).heap[q]? = w.heap[q]? := fun q hq => by
     simp [Array.getElem?_setIfInBounds_ne (Ne.symm hq)]
    have m2 := m.set' ho rfl hg rfl (ob := .map k e es') (w' := { w with heap := w.heap.setIfInBounds b (.map ents' clock') }) (by simp) hh rfl rfl rfl
     ⟨b, ents', clock', hg, by simp [hlt], RepE.mono (fun _ h => h) (fun q hq => hh q (fun e => hnI (e ▸ hq))) q1, q2, q3⟩ (fun _ _ e => nomatch e)
    have m3 := m2.slotE hdst (x := .d (.v undef)) (v := undef) (by rw [RepA, RepD])
    unfold effSet at h
    cases hd' : oper.dst with
    | some d =>
     simp only [hd'] at h
     rw [hd'] at m3
     refine ⟨_, h, fun next Q hK => wpIn_unit hF hd hrun (hK _ _ G I ?_)⟩
     rw [appO_one rfl rfl rfl, hd']
     exact m3
    | none =>
     simp only [hd'] at h
     rw [hd'] at m3
     refine ⟨_, h, fun next Q hK => wpIn_unit hF hd hrun (hK _ _ G I ?_)⟩
     rw [appO_one rfl rfl rfl, hd']
     exact m3
  ·exact h.elim
 ·exact h.elim
end
end Go.Ev


namespace Go.Ev
open RowKit
section
variable {tb : TB} {X : Ctx} {P : Program} {Wn : Nat} {Y : Nat → List D → Bool → Prop} {F : Fence} {n : Nat} {g : Nat → A} {o : Nat → Option Ob} {a : Act} {w : World} {G : Nat → Option GR} {I : Nat → Prop} {oper : Oper} {K : Eff → Prop} {nid : Nat}
theorem Mod.afterYield (m : Mod tb X g o a w G I) {k : Nat} (h0 : o 0 = some (.env k)) {F1 : Nat → Prop} {ds : List Nat} {Ft : Nat → Prop}
  (e1 : a.defers = ds.map markD ++ X.E.base) (e2 : ds.Nodup) (e3 : ∀ r ∈ ds, w.heap[r]? = some (.deferred (some [])) ∧ ¬ I r ∧ X.w0.heap.size ≤ r ∧ ¬ F1 r) (e4 : ∀ b, Ft b ↔ F1 b ∨ b ∈ ds)
  (f2 : ∀ b, Ft b → b < w.heap.size ∧ (X.lent b ∨ X.w0.heap.size ≤ b)) (f3 : ∀ j oj gj b, o j = some oj → oj.live = true → G j = some gj → gj.blk = some b → ¬ Ft b) (f4 : ∀ i k', o i = some (.env k') → i = 0 ∧ k' = k ∧ G 0 = some ⟨X.E.v, none⟩)
  {F1' I' : Nat → Prop} {w' : World} (hE : X.E.P (k + 1) F1' I' w') (t : Turned F1 I w F1' I' w') : Mod tb X g (updO o 0 (.env (k + 1))) a w' G I' := by
 have hF1 : ∀ b, F1 b → Ft b := fun b h => (e4 b).2 (.inl h)
 have hI : ∀ b, I b → w'.heap[b]? = w.heap[b]? := fun b hb => t.keep b (m.isz b hb) (.inl hb)
 have hl : ∀ j oj gj b, o j = some oj → oj.live = true → G j = some gj → gj.blk = some b → w'.heap[b]? = w.heap[b]? := fun j oj gj b h1 h2 h3 h4 =>
  t.keep b (m.own j oj gj b h1 h2 h3 h4).2.1 (.inr fun h => f3 j oj gj b h1 h2 h3 h4 (hF1 b h))
 have ho : ∀ j oj, updO o 0 (.env (k + 1)) j = some oj → oj.live = true → o j = some oj := by
  intro j oj hj hlv
  by_cases e : 0 = j
  ·subst e; rw [updO_self] at hj; cases hj; simp [Ob.live] at hlv
  ·rwa [updO_ne e] at hj
 refine { m with tsize := m.tsize, slots := fun q => RepA.mono (fun _ _ h => h) t.up hI _ _ (m.slots q), objs := ?_, dom := ?_, sep := ?_, own := ?_, isz := t.isz, i0 := fun b hb => t.up b (m.i0 b hb), inew := ?_, frame := ?_, os := t.os.trans m.os, tape := t.tape.trans m.tape, output := t.output.trans m.output, wsz := Nat.le_trans m.wsz t.size, barr := ?_, env := ?_ }
 ·intro j oj hj
  by_cases e : 0 = j
  ·subst e; rw [updO_self] at hj; cases hj; trivial
  ·rw [updO_ne e] at hj
   exact ObOK.mono (fun _ _ h => h) t.up hI (fun h2 gr b h3 h4 => hl j oj gr b hj h2 h3 h4) (m.objs j oj hj)
 ·intro j gr hj
  by_cases e : 0 = j
  ·subst e; rw [updO_self]; rfl
  ·rw [updO_ne e]; exact m.dom j gr hj
 ·intro i j oi oj gi gj b h1 h2 h3 h4
  exact m.sep i j oi oj gi gj b (ho i oi h1 h3) (ho j oj h2 h4) h3 h4
 ·intro j oj gj b h1 h2 h3 h4
  obtain ⟨p1, p2, p3⟩ := m.own j oj gj b (ho j oj h1 h2) h2 h3 h4
  refine ⟨fun h => ?_, by have := t.size; omega, p3⟩
  rcases t.inew b h with h | h | h
  ·exact p1 h
  ·exact f3 j oj gj b (ho j oj h1 h2) h2 h3 h4 (hF1 b h)
  ·omega
 ·intro b hb
  rcases t.inew b hb with h | h | h
  ·exact m.inew b h
  ·rcases (f2 b (hF1 b h)).2 with h | h
   ·exact .inr (.inl h)
   ·exact .inr (.inr (.inr h))
  ·exact .inr (.inr (.inr (Nat.le_trans m.wsz h)))
 ·intro b hb h1
  rw [t.keep b (Nat.lt_of_lt_of_le hb m.wsz) ?_]
  ·exact m.frame b hb h1
  ·rcases h1 with h1 | ⟨h1, _⟩
   ·exact .inl (m.i0 b h1)
   ·right
    intro h
    rcases (f2 b (hF1 b h)).2 with h | h
    ·exact h1 h
    ·omega
 ·intro j T es hj hb
  by_cases e : 0 = j
  ·subst e; rw [updO_self]; simp
  ·rw [updO_ne e]; exact m.barr j T es hj hb
 ·refine ⟨k + 1, fun b => F1' b ∨ b ∈ ds, ⟨ds, F1', e1, e2, fun r hr => ?_, fun b => Iff.rfl, hE⟩, fun b hb => ?_, fun j oj gj b h1 h2 h3 h4 hf => ?_, fun j k' hj => ?_⟩
  ·obtain ⟨p1, p2, p3, p4⟩ := e3 r hr
   have hr' : r < w.heap.size := (Array.getElem?_eq_some_iff.1 p1).1
   refine ⟨by rw [t.keep r hr' (.inr p4)]; exact p1, fun h => ?_, p3, fun h => ?_⟩
   ·rcases t.inew r h with h | h | h
    ·exact p2 h
    ·exact p4 h
    ·omega
   ·rcases (t.fnew r h).1 with h | h
    ·exact p4 h
    ·omega
  ·rcases hb with hb | hb
   ·obtain ⟨p1, p2⟩ := t.fnew b hb
    refine ⟨p2, ?_⟩
    rcases p1 with p1 | p1
    ·exact (f2 b (hF1 b p1)).2
    ·exact .inr (Nat.le_trans m.wsz p1)
   ·obtain ⟨p1, p2⟩ := f2 b ((e4 b).2 (.inr hb))
    exact ⟨Nat.lt_of_lt_of_le p1 t.size, p2⟩
  ·have h1' := ho j oj h1 h2
   rcases hf with hf | hf
   ·rcases (t.fnew b hf).1 with h | h
    ·exact f3 j oj gj b h1' h2 h3 h4 (hF1 b h)
    ·have := (m.own j oj gj b h1' h2 h3 h4).2.1; omega
   ·exact f3 j oj gj b h1' h2 h3 h4 ((e4 b).2 (.inr hf))
  ·by_cases e : 0 = j
   ·subst e; rw [updO_self] at hj; cases hj; exact ⟨rfl, rfl, (f4 0 k h0).2.2⟩
   ·rw [updO_ne e] at hj
    exact absurd (f4 j k' hj).1.symm e
variable (hP : PG P tb) (hF : Wide F) (hE : EnvOK P X.E Y) (m : Mod tb X g o a w G I) (hdst : ∀ d, oper.dst = some d → d < X.nt)
include hP hF hE m hdst
theorem snd_yield {c : Call} {f : Operand} (hop : oper.op = .call c) (hc : c.callee = .value f) {i k : Nat} (hf : opA g f = .own i) (hi : o i = some (.env k)) {as : List A} {frz : List (Nat × D)} (hh : handL true o (c.args.toList.map (opA g)) = (as, frz))
  {ds : List D} (hds : toDs as = some ds) {b : Bool} (hy : Y k ds b) (h : match oper.dst with
   | some d => K ⟨some (d, boolRes b), (i, .env (k + 1)) :: frz.map fun p => (p.1, .dead), i :: frz.map (·.1), 0, frz, []⟩
   | none => K ⟨none, (i, .env (k + 1)) :: frz.map fun p => (p.1, .dead), i :: frz.map (·.1), 0, frz, []⟩) : ∃ e, K e ∧ Does tb X P F n g o a w oper e := by
 have hd : ∀ c, oper.op ≠ .defer c := by simp [hop]
 obtain ⟨_, _, _, _, _, f40⟩ := m.env
 obtain ⟨rfl, _, hG0⟩ := f40 i k hi
 have hz : ZOK o frz := by have := handL_zok (cv := true) (o := o) (c.args.toList.map (opA g)); rwa [hh] at this
 have m1 := m.freeze hz.frz
 have h0 : frzObs o frz 0 = some (.env k) := by
  unfold frzObs
  cases e : lookD frz 0 with
  | some d => obtain ⟨T, es, h1, _⟩ := hz.frz _ _ e; rw [hi] at h1; cases h1
  | none => simp [hi, frzO]
 have hargs : RepAL G I w.heap (c.args.toList.map (opA g)) (c.args.toList.map a.eval) := by
  generalize c.args.toList = l
  induction l with
  | nil => exact RepAL.nil
  | cons z l ih => exact RepAL.cons (m.eval z) ih
 have hrep := handL_rep (cv := true) hz m.objs (by rw [hh]; exact fun p hp => hp) hargs
 rw [hh] at hrep
 simp only at hrep
 rw [toDs_eq hds] at hrep
 have hrep := RepAL.of_d.1 hrep
 obtain ⟨kE, Ft, ⟨dl, F1, e1, e2, e3, e4, e5⟩, f2, f3, f4⟩ := m1.env
 obtain ⟨_, rfl, hG⟩ := f4 0 k h0
 have hF1z : ∀ q, F1 q → q < w.heap.size := fun q hq => (f2 q ((e4 q).2 (.inl hq))).1
 obtain ⟨l, fn, tmps, assign, body, hv, hyr, hround⟩ := hE F (n - 1) hF k F1 _ w ds _ b e5 m1.isz hF1z hy hrep
 have rf := m.eval f
 rw [hf, RepA] at rf
 obtain ⟨⟨gr, hg, hu⟩, _⟩ := rf
 rw [hG0] at hg; cases hg
 have hu : a.eval f = .func (.yield l) #[] #[] := by rw [hu]; exact hv
 have hrun : (execOp a.eval oper).run P w = .ok (.round l fn tmps assign body) w := by
  have ea : (c.args.toList.map a.eval).toArray = c.args.map a.eval := by apply Array.ext'; simp
  rw [ea] at hyr
  simp [execOp, hop, resolve, hc, hu, Deferred.ofValue, invoke, hyr]
 have fin : ∀ (slot : Option (Nat × A)) (next : Act → World → Prop) (Q : Exit → Act → World → Prop), (∀ a' w' I', Mod tb X (slotG oper.dst (boolRes b) fun t => frzA frz (g t)) (updO (frzObs o frz) 0 (.env (k + 1))) a' w' G I' → next a' w') → oper.wpIn F n P a w next Q := by
  intro slot next Q hN
  refine ⟨fun _ _ => hF.fn _, ?_⟩
  rw [Oper.semAt_eq _ _ _ hd, hrun, Oper.uponIn_round]
  refine ⟨fun h => by rw [hF.depth] at h; (cases h), hround.mono fun e w' he => ?_⟩
  obtain ⟨rfl, Ft', I', hE', t⟩ := he
  have m2 := m1.afterYield h0 e1 e2 e3 e4 f2 f3 f4 hE' t
  have m3 := m2.slotE hdst (x := boolRes b) (v := .bool b) (by unfold boolRes; rw [RepA, RepD])
  exact hN _ _ I' m3
 have eo : ∀ slot rd, appO ⟨slot, (0, Ob.env (k + 1)) :: frz.map fun p => (p.1, .dead), rd, 0, frz, []⟩ o = updO (frzObs o frz) 0 (.env (k + 1)) := by
  intro slot rd
  funext j
  have := congrFun (appO_call (o := o) (slot := slot) (z := frz)) j
  simp only [appO, lookO, updO] at this ⊢
  cases Nat.beq 0 j with
  | true => rfl
  | false => simp only [cond_false]; rw [← this]; rfl
 cases hd' : oper.dst with
 | some d =>
  rw [hd'] at h fin
  refine ⟨_, h, fun next Q hN => fin none next Q fun a' w' I' m' => hN a' w' G I' ?_⟩
  rw [eo]
  have eg : appG ⟨some (d, boolRes b), (0, Ob.env (k + 1)) :: frz.map fun p => (p.1, .dead), 0 :: frz.map (·.1), 0, frz, []⟩ g = slotG (some d) (boolRes b) fun t => frzA frz (g t) := by
   funext t
   simp only [appG, trA_call, slotG]
  rw [eg]; exact m'
 | none =>
  rw [hd'] at h fin
  refine ⟨_, h, fun next Q hN => fin none next Q fun a' w' I' m' => hN a' w' G I' ?_⟩
  rw [eo]
  have eg : appG ⟨none, (0, Ob.env (k + 1)) :: frz.map fun p => (p.1, .dead), 0 :: frz.map (·.1), 0, frz, []⟩ g = slotG none (boolRes b) fun t => frzA frz (g t) := by
   funext t
   simp only [appG, trA_call, slotG]
  rw [eg]; exact m'
end
end Go.Ev


namespace Go.Ev
open RowKit
theorem len_sub {l m : List Nat} (hn : l.Nodup) (h : ∀ x ∈ l, x ∈ m) : l.length ≤ m.length := by
 induction l generalizing m with
 | nil => simp
 | cons x l ih =>
  have hx : x ∈ m := h x (by simp)
  have hn' := List.nodup_cons.1 hn
  have := ih (m := m.erase x) hn'.2 (fun y hy => (List.mem_erase_of_ne (fun e => hn'.1 (by subst e; exact hy))).2 (h y (by simp [hy])))
  rw [List.length_erase_of_mem hx] at this
  have : 0 < m.length := List.length_pos_of_mem hx
  simp only [List.length_cons]
  omega
section
variable {tb : TB} {X : Ctx} {P : Program} {Wn : Nat} {Y : Nat → List D → Bool → Prop} {F : Fence} {n : Nat} {g : Nat → A} {o : Nat → Option Ob} {a : Act} {w : World} {G : Nat → Option GR} {I : Nat → Prop} {oper : Oper} {K : Eff → Prop} {nid : Nat}
theorem born_nodup {ents : Array MapEntry} {clock : Nat} (h : BornOK ents clock) : (ents.toList.map (·.born)).Nodup := by
 have : ents.toList.map (·.born) = List.range ents.size := by
  apply List.ext_getElem?
  intro i
  rw [List.getElem?_map, Array.getElem?_toList]
  rcases Nat.lt_or_ge i ents.size with hi | hi
  ·rw [List.getElem?_range hi, Array.getElem?_eq_getElem hi]
   simp only [Option.map_some, Option.some.injEq]
   exact h.2 i _ (Array.getElem?_eq_getElem hi)
  ·rw [Array.getElem?_eq_none hi, List.getElem?_eq_none (by simpa using hi)]; rfl
 rw [this]
 exact List.nodup_range
variable (hP : PG P tb) (hF : Wide F) (m : Mod tb X g o a w G I) (hdst : ∀ d, oper.dst = some d → d < X.nt)
include hP hF m hdst
theorem snd_range {T : TypeId} {x : Operand} (hop : oper.op = .range T x) (hn : o nid = none) (hnb : X.nb ≤ nid) (h : effOp tb (Con P tb Wn Y) (.range T x) oper.dst g o nid K) : ∃ e, K e ∧ Does tb X P F n g o a w oper e := by
 have hd : ∀ c, oper.op ≠ .defer c := by simp [hop]
 simp only [effOp] at h
 cases hW : Nat.beq (Con P tb Wn Y).w 8 with
 | true => rw [hW] at h; exact h.elim
 | false =>
 rw [hW, cond_false] at h
 split at h
 ·rename_i k e s1 s2 z fl i hTy hx
  split at h
  ·rename_i k' e' es ho
   obtain ⟨q, rfl, h⟩ := h
   have hk := (hP.ty T _ hTy).kind
   simp only [TKOK] at hk
   have rx := m.eval x
   rw [hx, RepA] at rx
   obtain ⟨⟨gr, hg, hu⟩, _⟩ := rx
   obtain ⟨bm, ents, clock, r1, r2, r3, r4, r5⟩ := m.objs i _ ho
   rw [hg] at r1; cases r1
   have hq : clock = es.length := by rw [r5.1]; simpa using RepE.length r3
   unfold effNew at h
   cases hd' : oper.dst with
   | none => simp [hd'] at h
   | some d =>
    simp only [hd'] at h
    have hrun : (execOp a.eval oper).run P w = .ok (.value (.pointer (some ⟨w.heap.size, 0, none⟩))) { w with heap := w.heap.push (.mapIter (some bm) clock #[] clock) } := by
     simp [execOp, hop, Instr.range, run_und hk, hu, getObj, Sem.run, r2, newObj]
    refine ⟨_, h, fun next Q hK => wpIn_value hF hd hrun ?_⟩
    have hne : nid ≠ i := fun e => by subst e; rw [ho] at hn; cases hn
    have m2 := m.mk' hn hnb (gr := ⟨.pointer (some ⟨w.heap.size, 0, none⟩), some w.heap.size⟩) (ob := .iter i es.length []) (below_push w (.mapIter (some bm) clock #[] clock))
     (fun b hb => by cases hb; exact ⟨Nat.le_refl _, by simp⟩)
     ⟨w.heap.size, bm, #[], updG_self, by simp [hq], by rw [updG_ne hne]; exact hg, rfl, List.nodup_nil, fun j hj => (nomatch hj)⟩
    have m3 := m2.put (d := d) (x := .ref nid 0) (v := .pointer (some ⟨w.heap.size, 0, none⟩)) (hdst d hd') (by rw [RepA]; exact ⟨_, updG_self, rfl⟩)
    rw [hd']
    refine hK _ _ (updG G nid ⟨.pointer (some ⟨w.heap.size, 0, none⟩), some w.heap.size⟩) I ?_
    rw [appO_one rfl rfl rfl]
    exact m3
  ·exact h.elim
 ·exact h.elim
theorem snd_next {x : Operand} {str : Bool} (hop : oper.op = .next x str) (h : effOp tb (Con P tb Wn Y) (.next x str) oper.dst g o nid K) : ∃ e, K e ∧ Does tb X P F n g o a w oper e := by
 have hd : ∀ c, oper.op ≠ .defer c := by simp [hop]
 simp only [effOp] at h
 cases hW : (Nat.beq (Con P tb Wn Y).w 8 || str) with
 | true => rw [hW] at h; exact h.elim
 | false =>
 rw [hW, cond_false] at h
 simp only [Bool.or_eq_false_iff] at hW
 obtain ⟨_, rfl⟩ := hW
 split at h
 ·rename_i j d hx hdd
  split at h
  ·rename_i i q seen hj
   split at h
   ·rename_i kT eT es hi
    obtain ⟨hq, h1, h2⟩ := h
    have rx := m.eval x
    rw [hx, RepA] at rx
    obtain ⟨b, hg, hu⟩ := rx
    obtain ⟨b', bm, sn, s1, s2, s3, s4, s5, s6⟩ := m.objs j _ hj
    rw [hg] at s1; cases s1
    obtain ⟨bm', ents, clock, r1, r2, r3, r4, r5⟩ := m.objs i _ hi
    rw [s3] at r1; cases r1
    have hsz : ents.size = q := by rw [← hq]; simpa using RepE.length r3
    have hclk : clock = q := r5.1.trans hsz
    subst hclk
    have hold : ∀ y ∈ ents.toList, y.born < clock := by
     intro y hy
     obtain ⟨k, hk⟩ := List.mem_iff_getElem?.1 hy
     rw [Array.getElem?_toList] at hk
     rw [r5.2 k y hk, ← hsz]
     exact (Array.getElem?_eq_some_iff.1 hk).1
    have hcon : ∀ r, sn.contains r = true ↔ r ∈ seen := by
     intro r
     rw [Array.contains_iff_mem, ← Array.mem_toList_iff, s4, List.mem_reverse]
    rcases run_next_at (P := P) w oper.type b bm clock clock sn ents clock s2 r2 hold (Nat.le_refl _) with ⟨h0, hrun⟩ | ⟨e0, he, w1, hw1, hrun⟩
    ·-- over
     have hall : ∀ r, r < clock → r ∈ seen := by
      intro r hr
      have hr' : r < ents.size := by omega
      have : ents[r] ∉ (leftOf ents sn).toList := by
       rw [show (leftOf ents sn) = #[] from Array.eq_empty_of_size_eq_zero h0]; simp
      unfold leftOf at this
      simp only [Array.toList_filter, List.mem_filter, Array.getElem_mem_toList, true_and, Bool.not_eq_true'] at this
      rw [r5.2 r _ (Array.getElem?_eq_getElem hr'), Bool.not_eq_false] at this
      exact (hcon r).1 this
     have hlen : seen.length = clock := by
      have e1 := len_sub (l := seen) (m := List.range clock) s5 (fun y hy => List.mem_range.2 (s6 y hy))
      have e2 := len_sub (l := List.range clock) (m := seen) List.nodup_range (fun y hy => hall y (List.mem_range.1 hy))
      simp only [List.length_range] at e1 e2
      omega
     have hrun' : (execOp a.eval oper).run P w = .ok (.value (.tuple #[.bool false])) w := by
      simp [execOp, hop, hu, hrun]
     refine ⟨_, h1 hlen, fun next Q hK => wpIn_value hF hd hrun' ?_⟩
     have m3 := m.put (d := d) (x := .d (.tup [.v (.bool false)])) (v := .tuple #[.bool false]) (hdst d hdd) (by rw [RepA, RepD]; exact ⟨_, rfl, RepL.cons (by rw [RepD]) RepL.nil⟩)
     rw [hdd]
     refine hK _ _ G I ?_
     rw [appO_id rfl rfl rfl]
     exact m3
    ·-- one that is left
     obtain ⟨he1, he2⟩ := mem_left he
     obtain ⟨r, hr⟩ := List.mem_iff_getElem?.1 he1
     have hr' := hr
     rw [Array.getElem?_toList] at hr'
     have hborn : e0.born = r := r5.2 r e0 hr'
     have hrl : r < clock := by rw [← hsz]; exact (Array.getElem?_eq_some_iff.1 hr').1
     have hns : r ∉ seen := fun hm => by
      rw [hborn] at he2
      rw [(hcon r).2 hm] at he2; cases he2
     have hlt : seen.length < clock := by
      have := len_sub (l := r :: seen) (m := List.range clock) (List.nodup_cons.2 ⟨hns, s5⟩) (fun y hy => by
       rcases List.mem_cons.1 hy with rfl | hy
       ·exact List.mem_range.2 hrl
       ·exact List.mem_range.2 (s6 y hy))
      simp only [List.length_cons, List.length_range] at this
      omega
     have hesl : r < es.length := by omega
     obtain ⟨rk, rv⟩ := RepE.at r3 (List.getElem?_eq_getElem hesl) hr
     have hrun' : (execOp a.eval oper).run P w = .ok (.value (.tuple #[.bool true, e0.key, e0.val])) (ChangeMaps.setBlock w1 b (.mapIter (some bm) clock (sn.push e0.born) clock)) := by
      simp [execOp, hop, hu, hrun]
     have hw1h : w1.heap = w.heap ∧ w1.os = w.os ∧ w1.tape = w.tape ∧ w1.output = w.output := by rcases hw1 with rfl | rfl <;> exact ⟨rfl, rfl, rfl, rfl⟩
     obtain ⟨z1, z2, z3, z4⟩ := hw1h
     have hlt2 : b < w.heap.size := (Array.getElem?_eq_some_iff.1 s2).1
     have m2 := m.set' hj rfl hg rfl (ob := .iter i clock (r :: seen)) (w' := ChangeMaps.setBlock w1 b (.mapIter (some bm) clock (sn.push e0.born) clock)) (by simp [ChangeMaps.setBlock, z1])
      (fun k hk => by simp only [ChangeMaps.setBlock, z1]; exact Array.getElem?_setIfInBounds_ne (Ne.symm hk)) (by simp [ChangeMaps.setBlock, z2]) (by simp [ChangeMaps.setBlock, z3]) (by simp [ChangeMaps.setBlock, z4])
      ⟨b, bm, sn.push r, hg, by simp [ChangeMaps.setBlock, z1, hlt2, hborn], s3, by rw [Array.toList_push, s4, List.reverse_cons], List.nodup_cons.2 ⟨hns, s5⟩, fun y hy => by
       rcases List.mem_cons.1 hy with rfl | hy
       ·exact hrl
       ·exact s6 y hy⟩ (fun _ _ e => nomatch e)
     have hI : ∀ k, I k → (ChangeMaps.setBlock w1 b (.mapIter (some bm) clock (sn.push e0.born) clock)).heap[k]? = w.heap[k]? := fun k hk => by
      simp only [ChangeMaps.setBlock, z1]
      exact Array.getElem?_setIfInBounds_ne (fun e => (m.own j _ _ b hj rfl hg rfl).1 (by subst e; exact hk))
     have m3 := m2.put (d := d) (x := .d (.tup [.v (.bool true), es[r].1, es[r].2])) (v := .tuple #[.bool true, e0.key, e0.val]) (hdst d hdd) (by
      rw [RepA, RepD]
      exact ⟨_, rfl, RepL.cons (by rw [RepD]) (RepL.cons (RepD.mono (fun _ h => h) hI _ _ rk) (RepL.cons (RepD.mono (fun _ h => h) hI _ _ rv) RepL.nil))⟩)
     refine ⟨_, h2 r es[r] hlt hns (List.getElem?_eq_getElem hesl), fun next Q hK => wpIn_value hF hd hrun' ?_⟩
     rw [hdd]
     refine hK _ _ G I ?_
     rw [appO_one rfl rfl rfl]
     exact m3
   ·exact h.elim
  ·exact h.elim
 ·exact h.elim
theorem snd_entry {x : Operand} (hop : oper.op = .entry x) (h : effOp tb (Con P tb Wn Y) (.entry x) oper.dst g o nid K) : ∃ e, K e ∧ Does tb X P F n g o a w oper e := by
 have hd : ∀ c, oper.op ≠ .defer c := by simp [hop]
 simp only [effOp] at h
 cases hW : Nat.beq (Con P tb Wn Y).w 8 with
 | true => rw [hW] at h; exact h.elim
 | false =>
 rw [hW, cond_false] at h
 split at h
 ·rename_i j hx
  split at h
  ·rename_i i q r rest hj
   split at h
   ·rename_i kT eT es hi
    obtain ⟨hq, p, hp, h⟩ := h
    have rx := m.eval x
    rw [hx, RepA] at rx
    obtain ⟨b, hg, hu⟩ := rx
    obtain ⟨b', bm, sn, s1, s2, s3, s4, s5, s6⟩ := m.objs j _ hj
    rw [hg] at s1; cases s1
    obtain ⟨bm', ents, clock, r1, r2, r3, r4, r5⟩ := m.objs i _ hi
    rw [s3] at r1; cases r1
    have hsz : ents.size = q := by rw [← hq]; simpa using RepE.length r3
    have hclk : clock = q := r5.1.trans hsz
    subst hclk
    have hrl : r < ents.size := by rw [hsz]; exact s6 r (by simp)
    obtain ⟨rk, rv⟩ := RepE.at r3 hp (by rw [Array.getElem?_toList]; exact Array.getElem?_eq_getElem hrl)
    have hsn : sn = (rest.reverse.toArray).push r := by
     apply Array.ext'
     rw [s4]; simp
    have hborn : ents[r].born = r := r5.2 r _ (Array.getElem?_eq_getElem hrl)
    rw [hsn, ← hborn] at s2
    have hrun := run_entry_at (P := P) w b bm clock (rest.reverse.toArray) ents clock ents[r] s2 r2 (by simp) (born_nodup r5)
    refine fin_put hF hd (v := .tuple #[ents[r].key, ents[r].val]) (by simp [execOp, hop, hu, hrun]) m ?_ hdst h
    rw [RepA, RepD]
    exact ⟨_, rfl, RepL.cons rk (RepL.cons rv RepL.nil)⟩
   ·exact h.elim
  ·exact h.elim
 ·exact h.elim
omit hP hF m hdst in
theorem Mod.patch (m : Mod tb X g o a w G I) {i b z0 cap0 : Nat} {e : TypeId} {y : Ty} {es zs : List (List D)} {c0 : Array Value} {news : List Value} {l : Nat} (hy : tb e = some y) (ho : o i = some (.arr e es))
  (hg : G i = some ⟨.slice (some ⟨b, z0, none⟩) es.length cap0, some b⟩) (h3 : w.heap[b]? = some (.cells c0 e (0, 0))) (h4 : es.length ≤ cap0) (h5 : cap0 ≤ maxLen) (h6 : z0 + cap0 * y.size ≤ c0.size) (h7 : RepR I w.heap y.size es (c0.toList.drop z0))
  (hl : l + zs.length ≤ es.length) (hzs : ∀ el ∈ zs, el.length = y.size) (rn : RepL I w.heap zs.flatten news) (hone : ∀ u ∈ news, u.oneCell' = true) :
  ∃ w', (storeCells ⟨b, z0 + l * y.size, none⟩ news).run P w = .ok () w' ∧ Mod tb X g (updO o i (.arr e (es.take l ++ zs ++ es.drop (l + zs.length)))) a w' G I := by
 have hfl : zs.flatten.length = zs.length * y.size := by
  have : ∀ l : List (List D), (∀ el ∈ l, el.length = y.size) → l.flatten.length = l.length * y.size := by
   intro l
   induction l with
   | nil => simp
   | cons p l ih => intro hl; simp only [List.flatten_cons, List.length_append, List.length_cons, Nat.add_mul, Nat.one_mul]; rw [ih fun r hr => hl r (by simp [hr]), hl p (by simp)]; omega
  exact this _ hzs
 have hnl : news.length = zs.length * y.size := by rw [RepL.length rn, hfl]
 have hmul : l * y.size + news.length ≤ cap0 * y.size := by
  rw [hnl, ← Nat.add_mul]
  exact Nat.mul_le_mul_right _ (Nat.le_trans hl h4)
 have hsize : z0 + l * y.size + news.length ≤ c0.size := by omega
 have hst := run_storeCells_at P b (z0 + l * y.size) e news 0 c0 w h3 (by simpa using hsize) hone
 simp only [Nat.add_zero] at hst
 generalize hvs' : (c0.toList.take (z0 + l * y.size) ++ news ++ c0.toList.drop (z0 + l * y.size + news.length)).toArray = vs' at hst
 have hvl' : vs'.toList = c0.toList.take (z0 + l * y.size) ++ news ++ c0.toList.drop (z0 + l * y.size + news.length) := by rw [← hvs']
 have hh : ∀ k, k ≠ b → (w.setRow b vs').heap[k]? = w.heap[k]? := fun k hk => setRow_other w b k _ hk
 have hnI : ¬ I b := (m.own i _ _ b ho rfl hg rfl).1
 have hl7 := RepR.len h7
 generalize hes' : es.take l ++ zs ++ es.drop (l + zs.length) = es'
 have hesl : es'.length = es.length := by rw [← hes']; simp; omega
 have hcl : c0.toList.length = c0.size := Array.length_toList
 have hrows : RepR I w.heap y.size es' (vs'.toList.drop z0) := by
  have e1 : vs'.toList.drop z0 = (c0.toList.drop z0).take (l * y.size) ++ news ++ c0.toList.drop (z0 + l * y.size + news.length) := by
   rw [hvl', List.append_assoc, List.drop_append_of_le_length (by rw [List.length_take]; omega), List.drop_take, Nat.add_sub_cancel_left, List.append_assoc]
  rw [e1, ← hes']
  have r2 : RepR I w.heap y.size zs news := by
   have := RepR.mk (ws := []) hzs rn hone
   simpa using this
  have htl : (es.take l).length = l := by rw [List.length_take]; omega
  have hpl : ((c0.toList.drop z0).take (l * y.size)).length = l * y.size := by rw [List.length_take, List.length_drop]; omega
  have r1 : RepR I w.heap y.size (es.take l) ((c0.toList.drop z0).take (l * y.size)) := RepR.pref _ (RepR.takes h7 l) (by rw [htl]; exact Nat.le_refl _)
  refine RepR.append (RepR.append r1 (by rw [hpl, htl]) r2) (by rw [List.length_append, List.length_append, hpl, htl, hnl, Nat.add_mul]) ?_
  have := RepR.sub h7 (l + zs.length)
  rw [List.drop_drop, Nat.add_mul, ← hnl, ← Nat.add_assoc] at this
  exact this
 refine ⟨w.setRow b vs', hst, ?_⟩
 exact m.set' ho rfl hg rfl (ob := .arr e es') (w' := w.setRow b vs') (by simp) hh rfl rfl rfl
  ⟨y, hy, .inr ⟨b, z0, cap0, vs', by rw [hesl]; exact hg, setRow_heap w b c0 vs' e (0, 0) h3, by rw [hesl]; exact h4, h5, by
   have := congrArg List.length hvl'
   simp only [Array.length_toList, List.length_append, List.length_take, List.length_drop] at this
   rw [this]; omega, RepR.mono (fun _ h => h) (fun k hk => hh k (fun e => hnI (e ▸ hk))) _ _ _ hrows⟩⟩ (fun _ _ _ => ⟨_, _, rfl⟩)
omit hP hF m hdst in
theorem Mod.patchSub (m : Mod tb X g o a w G I) {i off q : Nat} {e : TypeId} {y : Ty} {es zs : List (List D)} {news : List Value} {l : Nat} {u : Value} (hy : tb e = some y) (ho : o i = some (.arr e es)) (hu : RepA G I w.heap (.sub i y.size off y.size q) u) (hoff : off = l * y.size)
  (hq : zs.length ≤ q) (hl : l + zs.length ≤ es.length) (hzs : ∀ el ∈ zs, el.length = y.size) (rn : RepL I w.heap zs.flatten news) (hone : ∀ u ∈ news, u.oneCell' = true) :
  ∃ ad cp w', u = .slice ad q cp ∧ (match ad with | some a0 => storeCells a0 news | none => pure () : Sem Unit).run P w = .ok () w' ∧ (ad = none → news = []) ∧ Mod tb X g (updO o i (.arr e (es.take l ++ zs ++ es.drop (l + zs.length)))) a w' G I := by
 rw [RepA] at hu
 obtain ⟨ad, cp, h1, h2, h3⟩ := hu
 have hsame : zs = [] → Mod tb X g (updO o i (.arr e (es.take l ++ zs ++ es.drop (l + zs.length)))) a w G I := fun h0 => by
  subst h0
  rw [List.append_nil, List.length_nil, Nat.add_zero, List.take_append_drop]
  have e1 : updO o i (.arr e es) = o := by
   funext j
   by_cases e1 : i = j
   ·subst e1; rw [updO_self, ho]
   ·rw [updO_ne e1]
  rw [e1]; exact m
 by_cases hz : zs = []
 ·have hn0 : news = [] := by
   subst hz
   exact List.eq_nil_of_length_eq_zero (by rw [RepL.length rn]; rfl)
  refine ⟨ad, cp, w, h1, ?_, fun _ => hn0, hsame hz⟩
  rw [hn0]
  cases ad <;> simp [storeCells]
 ·have hzl : 0 < zs.length := List.length_pos_iff.2 hz
  obtain ⟨y', hy', hob⟩ := m.objs i _ ho
  rw [hy] at hy'; cases hy'
  rcases hob with ⟨h0, _⟩ | ⟨b, z0, cap0, c0, g2, g3, g4, g5, g6, g7⟩
  ·rw [h0, List.length_nil] at hl; omega
  ·rcases h3 with h3 | ⟨b', z', len', cap', k1, k2, _⟩ | ⟨b', _, k1, _⟩
   ·omega
   ·rw [g2] at k1
    cases k1
    subst k2
    obtain ⟨w', r1, r2⟩ := m.patch (P := P) (l := l) hy ho g2 g3 g4 g5 g6 g7 hl hzs rn hone
    rw [hoff] at h1
    exact ⟨some ⟨b, z0 + l * y.size, none⟩, cp, w', h1, r1, (fun h => by cases h), r2⟩
   ·rw [g2] at k1; cases k1
theorem snd_clear {c : Call} (hop : oper.op = .call c) (hc : c.callee = .builtin .clear) (h : effOp tb (Con P tb Wn Y) (.call c) oper.dst g o nid K) : ∃ e, K e ∧ Does tb X P F n g o a w oper e := by
 have hd : ∀ c, oper.op ≠ .defer c := by simp [hop]
 simp only [effOp, hc] at h
 cases hW : Nat.beq (Con P tb Wn Y).w 8 with
 | true => rw [hW] at h; exact h.elim
 | false =>
 rw [hW, cond_false] at h
 split at h
 ·rename_i x T hx hT hdd
  have hargs : c.args = #[x] := by apply Array.ext'; simpa using hx
  have htys : c.argTypes = #[T] := by apply Array.ext'; simpa using hT
  split at h
  ·rename_i e s1 s2 z bk hTy
   have hk := (hP.ty T _ hTy).kind
   simp only [TKOK] at hk
   split at h
   ·rename_i y i ysz off sz q hy hxx
    have hTyE := hP.ty e y hy
    split at h
    ·rename_i e' es ho
     cases hb : (Nat.beq e e' && Nat.beq sz y.size && Nat.beq ysz y.size) with
     | false => rw [hb] at h; exact h.elim
     | true =>
      rw [hb, cond_true] at h
      simp only [Bool.and_eq_true] at hb
      obtain ⟨⟨b1, b2⟩, b3⟩ := hb
      have b1 := Nat.eq_of_beq_eq_true b1
      have b2 := Nat.eq_of_beq_eq_true b2
      have b3 := Nat.eq_of_beq_eq_true b3
      subst b1 b2 b3
      obtain ⟨l, hoff, hl, es', hes', h⟩ := h
      have rx := m.eval x
      rw [hxx] at rx
      obtain ⟨ti, tz, i1, i2, i3, i4, i5⟩ := hTyE.info
      have hzl : tz.cells.toList.length = y.size := by rw [i5]; exact hTyE.len
      have hcells : (Builtin.zeroCells tz.cells q).toList = (List.replicate q tz.cells.toList).flatten := zeroCells_toList _ _
      have rz : RepL I w.heap (y.zero.map D.v) tz.cells.toList := by
       rw [i5]
       have : ∀ l : List Value, RepL I w.heap (l.map D.v) l := by
        intro l
        induction l with
        | nil => exact RepL.nil
        | cons v l ih => exact RepL.cons (by rw [RepD]) ih
       exact this y.zero
      have rn := rep_repl rz q
      rw [← hcells] at rn
      have hone : ∀ u ∈ (Builtin.zeroCells tz.cells q).toList, u.oneCell' = true := by
       intro u hu
       rw [hcells] at hu
       obtain ⟨l', hl', hu⟩ := List.mem_flatten.1 hu
       rw [(List.mem_replicate.1 hl').2, i5] at hu
       exact hTyE.one u hu
      have hrl : (List.replicate q (y.zero.map D.v)).length = q := List.length_replicate ..
      obtain ⟨ad, cp, w', hu, hst, hnil, m2⟩ := m.patchSub (P := P) (l := l) (zs := List.replicate q (y.zero.map D.v)) hy ho rx hoff (by rw [hrl]; exact Nat.le_refl _) (by rw [hrl]; exact hl) (fun el hel => by rw [(List.mem_replicate.1 hel).2, List.length_map]; exact hTyE.len) rn hone
      rw [hrl, hes'] at m2
      have hr : (Builtin.clear_ c.argTypes oper.type #[a.eval x]).run P w = .ok (.tuple #[]) w' := by
       rw [hu, htys]
       cases q with
       | zero =>
        have hw : w' = w := by
         have e0 : (Builtin.zeroCells tz.cells 0).toList = [] := by rw [hcells]; rfl
         rw [e0] at hst
         cases ad <;> simp [storeCells] at hst <;> exact hst.symm
        rw [hw]
        cases ad <;> simp [Builtin.clear_, run_und hk]
       | succ q =>
        cases ad with
        | none =>
         have hn0 := hnil rfl
         simp only [Sem.run_pure, Result.ok.injEq, true_and] at hst
         subst hst
         simp [Builtin.clear_, run_und hk]
        | some a0 =>
         simp only at hst
         simp [Builtin.clear_, run_und hk, zeroValue, typeInfo, i1, i4, hst]
      have hrun : (execOp a.eval oper).run P w = .ok (.value (.tuple #[])) w' := by
       simp [execOp, hop, resolve, hc, hargs, invoke, builtin, hr]
      refine ⟨_, h, fun next Q hK => wpIn_value hF hd hrun ?_⟩
      have m3 := m2.slotE hdst (x := .d (.tup [])) (v := .tuple #[]) (by rw [RepA, RepD]; exact ⟨_, rfl, RepL.nil⟩)
      rw [hdd] at m3 ⊢
      refine hK _ _ G I ?_
      rw [appO_one rfl rfl rfl]
      exact m3
    ·exact h.elim
   ·exact h.elim
  ·exact h.elim
 ·exact h.elim
theorem snd_copy {c : Call} (hop : oper.op = .call c) (hc : c.callee = .builtin .copy) (h : effOp tb (Con P tb Wn Y) (.call c) oper.dst g o nid K) : ∃ e, K e ∧ Does tb X P F n g o a w oper e := by
 have hd : ∀ c, oper.op ≠ .defer c := by simp [hop]
 simp only [effOp, hc] at h
 split at h
 ·rename_i x v T T' hx hT
  have hargs : c.args = #[x, v] := by apply Array.ext'; simpa using hx
  have htys : c.argTypes = #[T, T'] := by apply Array.ext'; simpa using hT
  split at h
  ·rename_i e s1 s2 z bk ys rd hTy hel
   have hk := (hP.ty T _ hTy).kind
   simp only [TKOK] at hk
   split at h
   ·rename_i y hy
    have hTyE := hP.ty e y hy
    cases hTT : Nat.beq T T' with
    | false => rw [hTT] at h; exact h.elim
    | true =>
    rw [hTT, cond_true] at h
    have hrun : ∀ v' w', (Builtin.copy_ c.argTypes oper.type #[a.eval x, a.eval v]).run P w = .ok v' w' → (execOp a.eval oper).run P w = .ok (.value v') w' := by
     intro v' w' hr
     simp [execOp, hop, resolve, hc, hargs, invoke, builtin, hr]
    have rx := m.eval x
    have hsrc : ∀ q, (∀ el ∈ ys, el.length = y.size) → ∃ ad cap news, a.eval v = .slice ad ys.length cap ∧ (Builtin.firstCells y.size (min ys.length q) (a.eval v)).run P w = .ok news.toArray w ∧
      RepL I w.heap (ys.take q).flatten news ∧ ∀ u ∈ news, u.oneCell' = true := by
     intro q hys
     obtain ⟨ad, cap, hu, hs⟩ := m.src hel hys
     rcases hs with h0 | ⟨b, off, c2, T2, fr, rfl, hc2, hr2⟩
     ·refine ⟨ad, cap, [], hu, ?_, by rw [h0]; simpa using RepL.nil, fun u hu => (nomatch hu)⟩
      rw [hu, h0]
      cases ad with
      | none => simp [Builtin.firstCells]
      | some z => simp [Builtin.firstCells, loadCells, loadCellsFrom]
     ·have hr3 := RepR.takes hr2 q
      obtain ⟨f1, f2⟩ := RepR.flat hr3 (RepR.len hr3)
      have hlq : (ys.take q).length = min ys.length q := by rw [List.length_take]; exact Nat.min_comm _ _
      rw [hlq] at f1 f2
      refine ⟨_, cap, _, hu, ?_, f1, f2⟩
      rw [hu]
      refine run_firstCells_some (P := P) w y.size _ ⟨b, off, none⟩ ys.length cap _ ?_ ?_
      ·have := RepR.len hr3
       rw [hlq] at this
       rw [List.length_take]; omega
      ·intro j u hj
       rw [addr_add, cell_at hc2]
       rw [List.getElem?_take] at hj
       split at hj
       ·simpa using hj
       ·cases hj
    split at h
    ·-- into a variable
     rename_i i off sz q hxx
     split at h
     ·rename_i bulk T0 cs ho
      by_cases hb : (Nat.beq sz y.size && !rd.contains i) = true
      ·rw [hb, cond_true] at h
       rw [Bool.and_eq_true] at hb
       have hsz := Nat.eq_of_beq_eq_true hb.1
       subst hsz
       obtain ⟨hys, hfit, cs', hcs', h⟩ := h
       obtain ⟨ad, cap, news, hu, hfirst, rn, hone⟩ := hsrc q hys
       rw [hxx, RepA] at rx
       obtain ⟨ax, cpx, hux, hcpx, rx⟩ := rx
       obtain ⟨b, c0, p1, p2, p3, p4⟩ := m.objs i _ ho
       have hnl : news.length = (ys.take q).flatten.length := RepL.length rn
       have hfl : (ys.take q).flatten.length = (min q ys.length) * y.size := by
        have : ∀ l : List (List D), (∀ el ∈ l, el.length = y.size) → l.flatten.length = l.length * y.size := by
         intro l
         induction l with
         | nil => simp
         | cons p l ih => intro hl; simp only [List.flatten_cons, List.length_append, List.length_cons, Nat.add_mul, Nat.one_mul]; rw [ih fun r hr => hl r (by simp [hr]), hl p (by simp)]; omega
        rw [this _ fun el he => hys el (List.mem_of_mem_take he), List.length_take]
       have hcl := RepAL.length p3
       have hmul : (min q ys.length) * y.size ≤ q * y.size := Nat.mul_le_mul_right _ (Nat.min_le_left _ _)
       have hsize : off + news.length ≤ c0.size := by simp at hcl; omega
       have hst : ∃ w', (match ax with | some a0 => storeCells a0 news | none => pure () : Sem Unit).run P w = .ok () w' ∧ w' = w.setRow b (c0.toList.take off ++ news ++ c0.toList.drop (off + news.length)).toArray := by
        rcases rx with h0 | ⟨b', z', len', cap', g1, _⟩ | ⟨b', _, g1, g2⟩
        ·have hn0 : news = [] := List.eq_nil_of_length_eq_zero (by rw [hnl, hfl, h0]; simp)
         rw [hn0]
         refine ⟨w, ?_, ?_⟩
         ·cases ax <;> simp [storeCells]
         ·simp only [List.append_nil, List.length_nil, Nat.add_zero, List.take_append_drop, Array.toArray_toList]
          exact (setRow_self w b c0 T0 (0, 0) p2).symm
        ·rw [p1] at g1; cases g1
        ·rw [p1] at g1; cases g1
         subst g2
         have := run_storeCells_at P b off T0 news 0 c0 w p2 (by simpa using hsize) hone
         simp only [Nat.add_zero] at this
         exact ⟨_, this, rfl⟩
       obtain ⟨w', hst, hw'⟩ := hst
       have hr : (Builtin.copy_ c.argTypes oper.type #[a.eval x, a.eval v]).run P w = .ok (.int .i64 (min q ys.length : Nat)) w' := by
        rw [hux, htys]
        rw [hu] at hfirst ⊢
        have hmin : Nat.min ys.length q = min ys.length q := rfl
        have hcm : min q ys.length = min ys.length q := Nat.min_comm _ _
        cases ax with
        | none =>
         simp only [Sem.run_pure, Result.ok.injEq, true_and] at hst
         subst hst
         simp [Builtin.copy_, run_und hk, Builtin.lenOf, hTyE.size, hmin, hfirst, goInt, hcm]
        | some a0 =>
         simp only at hst
         simp [Builtin.copy_, run_und hk, Builtin.lenOf, hTyE.size, hmin, hfirst, hst, goInt, hcm]
       have hnI : ¬ I b := (m.own i _ _ b ho rfl p1 rfl).1
       have hh : ∀ k, k ≠ b → w'.heap[k]? = w.heap[k]? := fun k hk => by rw [hw']; exact setRow_other w b k _ hk
       have hrep : RepAL G I w'.heap cs' (c0.toList.take off ++ news ++ c0.toList.drop (off + news.length)) := by
        rw [← hcs']
        unfold putAt
        have hl2 : ((ys.take q).flatten.map A.d).length = news.length := by rw [List.length_map, hnl]
        rw [hl2]
        refine RepAL.mono (fun _ _ h => h) (fun _ h => h) (fun k hk => hh k (fun e => hnI (e ▸ hk))) _ _ ?_
        exact RepAL.append (RepAL.append (p3.take off) (RepAL.of_d.2 rn)) (p3.drop _)
       have m2 := m.set' ho rfl p1 rfl (ob := .var bulk T0 cs') (w' := w') (by rw [hw']; simp) hh (by rw [hw']; rfl) (by rw [hw']; rfl) (by rw [hw']; rfl)
        ⟨b, _, p1, by rw [hw']; exact setRow_heap w b c0 _ T0 (0, 0) p2, by simpa using hrep, fun u hu => by
         simp only [List.toList_toArray] at hu
         rcases List.mem_append.1 hu with hu | hu
         ·rcases List.mem_append.1 hu with hu | hu
          ·exact p4 u (List.mem_of_mem_take hu)
          ·exact hone u hu
         ·exact p4 u (List.mem_of_mem_drop hu)⟩ (fun _ _ e => nomatch e)
       have m3 := m2.slotE hdst (x := intRes .i64 (min q ys.length : Nat)) (v := .int .i64 (min q ys.length : Nat)) (by unfold intRes; rw [RepA, RepD])
       cases hd' : oper.dst with
       | some d =>
        simp only [hd'] at h
        rw [hd'] at m3
        refine ⟨_, h, fun next Q hK => wpIn_value hF hd (hrun _ _ hr) ?_⟩
        rw [hd']
        refine hK _ _ G I ?_
        rw [appO_one rfl rfl rfl]
        exact m3
       | none =>
        simp only [hd'] at h
        rw [hd'] at m3
        refine ⟨_, h, fun next Q hK => wpIn_value hF hd (hrun _ _ hr) ?_⟩
        rw [hd']
        refine hK _ _ G I ?_
        rw [appO_one rfl rfl rfl]
        exact m3
      ·rw [Bool.not_eq_true] at hb; rw [hb] at h; exact h.elim
     ·exact h.elim
    ·-- into a part of a slice
     rename_i i ysz off sz q hno hxx
     split at h
     ·rename_i e' es ho
      by_cases hb : (Nat.beq e e' && Nat.beq sz y.size && Nat.beq ysz y.size) = true
      ·rw [hb, cond_true] at h
       simp only [Bool.and_eq_true] at hb
       obtain ⟨⟨b1, b2⟩, b3⟩ := hb
       have b1 := Nat.eq_of_beq_eq_true b1
       have b2 := Nat.eq_of_beq_eq_true b2
       have b3 := Nat.eq_of_beq_eq_true b3
       subst b1 b2 b3
       obtain ⟨l, hoff, hl, hys, es', hes', h⟩ := h
       obtain ⟨ad, cap, news, hu, hfirst, rn, hone⟩ := hsrc q hys
       rw [hxx] at rx
       have htl : (ys.take q).length = min q ys.length := List.length_take
       obtain ⟨ax, cpx, w', hux, hst, hnil, m2⟩ := m.patchSub (P := P) (l := l) (zs := ys.take q) hy ho rx hoff (by rw [htl]; exact Nat.min_le_left _ _) (by rw [htl]; have := Nat.min_le_left q ys.length; omega) (fun el he => hys el (List.mem_of_mem_take he)) rn hone
       rw [hes'] at m2
       have hcm : min q ys.length = min ys.length q := Nat.min_comm _ _
       have hmin : Nat.min ys.length q = min ys.length q := rfl
       have hr : (Builtin.copy_ c.argTypes oper.type #[a.eval x, a.eval v]).run P w = .ok (.int .i64 (min q ys.length : Nat)) w' := by
        rw [hux, htys]
        rw [hu] at hfirst ⊢
        cases ax with
        | none =>
         simp only [Sem.run_pure, Result.ok.injEq, true_and] at hst
         subst hst
         simp [Builtin.copy_, run_und hk, Builtin.lenOf, hTyE.size, hmin, hfirst, goInt, hcm]
        | some a0 =>
         simp only at hst
         simp [Builtin.copy_, run_und hk, Builtin.lenOf, hTyE.size, hmin, hfirst, hst, goInt, hcm]
       have m3 := m2.slotE hdst (x := intRes .i64 (min q ys.length : Nat)) (v := .int .i64 (min q ys.length : Nat)) (by unfold intRes; rw [RepA, RepD])
       cases hd' : oper.dst with
       | some d =>
        simp only [hd'] at h
        rw [hd'] at m3
        refine ⟨_, h, fun next Q hK => wpIn_value hF hd (hrun _ _ hr) ?_⟩
        rw [hd']
        refine hK _ _ G I ?_
        rw [appO_one rfl rfl rfl]
        exact m3
       | none =>
        simp only [hd'] at h
        rw [hd'] at m3
        refine ⟨_, h, fun next Q hK => wpIn_value hF hd (hrun _ _ hr) ?_⟩
        rw [hd']
        refine hK _ _ G I ?_
        rw [appO_one rfl rfl rfl]
        exact m3
      ·rw [Bool.not_eq_true] at hb; rw [hb] at h; exact h.elim
     ·exact h.elim
    ·-- into a slice
     rename_i i hxx
     split at h
     ·rename_i e' es ho
      by_cases hb : (Nat.beq e e' && !rd.contains i) = true
      ·rw [hb, cond_true] at h
       rw [Bool.and_eq_true] at hb
       have he := Nat.eq_of_beq_eq_true hb.1
       subst he
       obtain ⟨hys, es', hes', h⟩ := h
       obtain ⟨ad, cap, news, hu, hfirst, rn, hone⟩ := hsrc es.length hys
       rw [hxx, RepA] at rx
       obtain ⟨⟨gr, hg, hux⟩, _⟩ := rx
       obtain ⟨y', hy', hob⟩ := m.objs i _ ho
       rw [hy] at hy'; cases hy'
       have hfl : (ys.take es.length).flatten.length = (min es.length ys.length) * y.size := by
        have : ∀ l : List (List D), (∀ el ∈ l, el.length = y.size) → l.flatten.length = l.length * y.size := by
         intro l
         induction l with
         | nil => simp
         | cons p l ih => intro hl; simp only [List.flatten_cons, List.length_append, List.length_cons, Nat.add_mul, Nat.one_mul]; rw [ih fun r hr => hl r (by simp [hr]), hl p (by simp)]; omega
        rw [this _ fun el he => hys el (List.mem_of_mem_take he), List.length_take]
       have hnl : news.length = (ys.take es.length).flatten.length := RepL.length rn
       have hcm : min es.length ys.length = min ys.length es.length := Nat.min_comm _ _
       have hmin : Nat.min ys.length es.length = min ys.length es.length := rfl
       have main : ∃ w', (Builtin.copy_ c.argTypes oper.type #[a.eval x, a.eval v]).run P w = .ok (.int .i64 (min es.length ys.length : Nat)) w' ∧ Mod tb X g (updO o i (.arr e es')) a w' G I := by
        rcases hob with ⟨h0, h2⟩ | ⟨b, z0, cap0, c0, h2, h3, h4, h5, h6, h7⟩
        ·rw [hg] at h2; cases h2
         refine ⟨w, ?_, ?_⟩
         ·rw [hux, htys]
          rw [hu, h0] at hfirst
          rw [hu, h0]
          simp only [List.length_nil, Nat.min_zero, Nat.zero_min] at hfirst ⊢
          have hmin0 : Nat.min ys.length 0 = 0 := Nat.min_zero _
          simp [Builtin.copy_, run_und hk, Builtin.lenOf, hTyE.size, hmin0, hfirst, goInt]
         ·have : es' = es := by rw [← hes', h0]; simp
          rw [this]
          have e1 : updO o i (.arr e es) = o := by
           funext j
           by_cases e1 : i = j
           ·subst e1; rw [updO_self, ho]
           ·rw [updO_ne e1]
          rw [e1]; exact m
        ·rw [hg] at h2; cases h2
         have hmul : (min es.length ys.length) * y.size ≤ cap0 * y.size := Nat.mul_le_mul_right _ (Nat.le_trans (Nat.min_le_left _ _) h4)
         have hsize : z0 + news.length ≤ c0.size := by omega
         have hst := run_storeCells_at P b z0 e news 0 c0 w h3 (by simpa using hsize) hone
         simp only [Nat.add_zero] at hst
         generalize hvs' : (c0.toList.take z0 ++ news ++ c0.toList.drop (z0 + news.length)).toArray = vs' at hst
         have hvl' : vs'.toList = c0.toList.take z0 ++ news ++ c0.toList.drop (z0 + news.length) := by rw [← hvs']
         have hh : ∀ k, k ≠ b → (w.setRow b vs').heap[k]? = w.heap[k]? := fun k hk => setRow_other w b k _ hk
         have hnI : ¬ I b := (m.own i _ _ b ho rfl hg rfl).1
         refine ⟨w.setRow b vs', ?_, ?_⟩
         ·rw [hux, htys]
          rw [hu] at hfirst ⊢
          simp [Builtin.copy_, run_und hk, Builtin.lenOf, hTyE.size, hmin, hfirst, hst, goInt, hcm]
         ·have hesl : es'.length = es.length := by rw [← hes']; simp; omega
          have hl7 := RepR.len h7
          have hrows : RepR I w.heap y.size es' (vs'.toList.drop z0) := by
           rw [hvl', ← hes', List.append_assoc, List.drop_append_of_le_length (by simp; omega), List.drop_take, Nat.sub_self, List.take_zero, List.nil_append]
           have r1 : RepR I w.heap y.size (ys.take es.length) (news ++ c0.toList.drop (z0 + news.length)) :=
            RepR.mk (fun el he => hys el (List.mem_of_mem_take he)) rn hone
           have r2 : RepR I w.heap y.size (ys.take es.length) news := by
            have := RepR.mk (ws := []) (fun el he => hys el (List.mem_of_mem_take he)) rn hone
            simpa using this
           have hd2 : es.drop ys.length = es.drop (min es.length ys.length) := by
            rcases Nat.le_total es.length ys.length with h | h
            ·rw [Nat.min_eq_left h, List.drop_of_length_le h, List.drop_of_length_le (Nat.le_refl _)]
            ·rw [Nat.min_eq_right h]
           rw [hd2]
           refine RepR.append r2 (by rw [hnl, hfl, List.length_take]) ?_
           have := RepR.sub h7 (min es.length ys.length)
           rw [List.drop_drop, ← hfl, ← hnl] at this
           exact this
          exact m.set' ho rfl hg rfl (ob := .arr e es') (w' := w.setRow b vs') (by simp) hh rfl rfl rfl
           ⟨y, hy, .inr ⟨b, z0, cap0, vs', by rw [hesl]; exact hg, setRow_heap w b c0 vs' e (0, 0) h3, by rw [hesl]; exact h4, h5, by
            have := congrArg List.length hvl'
            simp only [Array.length_toList, List.length_append, List.length_take, List.length_drop] at this
            rw [this]; omega, RepR.mono (fun _ h => h) (fun k hk => hh k (fun e => hnI (e ▸ hk))) _ _ _ hrows⟩⟩ (fun _ _ _ => ⟨_, _, rfl⟩)
       obtain ⟨w', hr, m2⟩ := main
       have m3 := m2.slotE hdst (x := intRes .i64 (min es.length ys.length : Nat)) (v := .int .i64 (min es.length ys.length : Nat)) (by unfold intRes; rw [RepA, RepD])
       cases hd' : oper.dst with
       | some d =>
        simp only [hd'] at h
        rw [hd'] at m3
        refine ⟨_, h, fun next Q hK => wpIn_value hF hd (hrun _ _ hr) ?_⟩
        rw [hd']
        refine hK _ _ G I ?_
        rw [appO_one rfl rfl rfl]
        exact m3
       | none =>
        simp only [hd'] at h
        rw [hd'] at m3
        refine ⟨_, h, fun next Q hK => wpIn_value hF hd (hrun _ _ hr) ?_⟩
        rw [hd']
        refine hK _ _ G I ?_
        rw [appO_one rfl rfl rfl]
        exact m3
      ·rw [Bool.not_eq_true] at hb; rw [hb] at h; exact h.elim
     ·exact h.elim
    ·exact h.elim
   ·exact h.elim
  ·exact h.elim
 ·exact h.elim
end
end Go.Ev


namespace Go.Ev
open RowKit
section
variable {tb : TB} {X : Ctx} {P : Program} {Wn : Nat} {Y : Nat → List D → Bool → Prop} {F : Fence} {n : Nat} {g : Nat → A} {o : Nat → Option Ob} {a : Act} {w : World} {G : Nat → Option GR} {I : Nat → Prop} {oper : Oper} {K : Eff → Prop} {nid : Nat}
theorem snd_makeInterface (hP : PG P tb) (hF : Wide F) (m : Mod tb X g o a w G I) (hdst : ∀ d, oper.dst = some d → d < X.nt) {T : TypeId} {x : Operand} (hop : oper.op = .makeInterface T x) (h : effOp tb (Con P tb Wn Y) (.makeInterface T x) oper.dst g o nid K) : ∃ e, K e ∧ Does tb X P F n g o a w oper e := by
 have hd : ∀ c, oper.op ≠ .defer c := by simp [hop]
 simp only [effOp] at h
 cases hW : Nat.beq (Con P tb Wn Y).w 8 with
 | true => rw [hW] at h; exact h.elim
 | false =>
 rw [hW, cond_false] at h
 split at h
 ·rename_i fs s1 s2 z fl hTy hx
  have hk := (hP.ty T _ hTy).kind
  simp only [TKOK] at hk
  obtain ⟨fields, h1, _⟩ := hk
  have rx := m.eval x
  rw [hx, RepA, RepD] at rx
  obtain ⟨vs, hu, hr⟩ := rx
  have hv : a.eval x = .agg #[] := by
   have hz := RepL.length hr
   have : vs = #[] := Array.eq_empty_of_size_eq_zero (by simpa using hz)
   rw [hu, this]
  exact fin_put hF hd (v := .iface T (.agg #[])) (by simp [execOp, hop, Instr.makeInterface, run_und h1, hv]) m (by rw [RepA, RepD]) hdst h
 ·exact h.elim
theorem snd_typeAssert (hP : PG P tb) (hF : Wide F) (m : Mod tb X g o a w G I) (hdst : ∀ d, oper.dst = some d → d < X.nt) {T T' : TypeId} {x : Operand} (hop : oper.op = .typeAssert x T' T true) (h : effOp tb (Con P tb Wn Y) (.typeAssert x T' T true) oper.dst g o nid K) : ∃ e, K e ∧ Does tb X P F n g o a w oper e := by
 have hd : ∀ c, oper.op ≠ .defer c := by simp [hop]
 simp only [effOp] at h
 cases hW : Nat.beq (Con P tb Wn Y).w 8 with
 | true => rw [hW] at h; exact h.elim
 | false =>
 rw [hW, cond_false] at h
 split at h
 ·rename_i fs s1 s2 z fl t hTy hx
  have hk := (hP.ty T _ hTy).kind
  simp only [TKOK] at hk
  obtain ⟨fields, h1, _⟩ := hk
  have rx := m.eval x
  rw [hx, RepA, RepD] at rx
  cases ht : Nat.beq t T with
  | false => rw [ht] at h; exact h.elim
  | true =>
   rw [ht, cond_true] at h
   have e := Nat.eq_of_beq_eq_true ht
   subst e
   have hrun : (execOp a.eval oper).run P w = .ok (.value (.tuple #[.agg #[], .bool true])) w := by
    simp [execOp, hop, Instr.typeAssert, run_und h1, rx]
   exact fin_put hF hd hrun m (by rw [RepA]; exact ⟨_, rfl, by simpa using RepAL.cons (by rw [RepA, RepD]; exact ⟨#[], rfl, RepL.nil⟩) (RepAL.cons (by rw [boolRes, RepA, RepD]) RepAL.nil)⟩) hdst h
 ·exact h.elim
theorem snd_panic (hP : PG P tb) (hF : Wide F) (m : Mod tb X g o a w G I) {x : Operand} (hop : oper.op = .panic x) (h : effOp tb (Con P tb Wn Y) (.panic x) oper.dst g o nid K) : ∃ e, K e ∧ Pans tb X P F n g o a w oper e := by
 have hd : ∀ c, oper.op ≠ .defer c := by simp [hop]
 simp only [effOp] at h
 cases hW : Nat.beq (Con P tb Wn Y).w 8 with
 | true => rw [hW] at h; exact h.elim
 | false =>
 rw [hW, cond_false] at h
 split at h
 ·rename_i T u hx hdd
  have rx := m.eval x
  rw [hx, RepA, RepD] at rx
  refine ⟨_, h, nid, .iface T u, List.mem_cons_self, fun next Q hQ => ⟨fun _ _ => hF.fn _, ?_⟩⟩
  have hrun : (execOp a.eval oper).run P w = .halt (.panic (.iface T u)) w := by
   simp [execOp, hop, Instr.panic, rx, goPanic]
  rw [Oper.semAt_eq _ _ _ hd, hrun, Oper.uponIn_panic]
  exact hQ w G I fun os hos => m.pan (ρ := []) rfl rfl rfl (Nat.le_refl _) (fun _ _ _ => rfl) (fun j hj => (nomatch hj)) (fun i _ hi => (nomatch hi))
 ·exact h.elim
end
theorem eff_sound {tb : TB} {X : Ctx} {P : Program} {Wn : Nat} {Y : Nat → List D → Bool → Prop} {F : Fence} {n : Nat} {g : Nat → A} {o : Nat → Option Ob} {a : Act} {w : World} {G : Nat → Option GR} {I : Nat → Prop} {oper : Oper} {K : Eff → Prop} {nid : Nat}
  (hP : PG P tb) (hF : Wide F) (hE : EnvOK P X.E Y) (m : Mod tb X g o a w G I) (hdst : ∀ d, oper.dst = some d → d < X.nt) (hn : o nid = none) (hw : ∀ k, k < Wn → o (nid + k) = none) (hnb : X.nb ≤ nid) (h : effOp tb (Con P tb Wn Y) oper.op oper.dst g o nid K) :
  (∃ e, K e ∧ Does tb X P F n g o a w oper e) ∨ (True ∧ ∃ e, K e ∧ Pans tb X P F n g o a w oper e) := by
 cases hop : oper.op with
 | move x => rw [hop] at h; exact .inl <| snd_move hP hF m hdst (.inl hop) h
 | assign x => rw [hop] at h; exact .inl <| snd_move hP hF m hdst (.inr hop) h
 | pick c x y => rw [hop] at h; exact .inl <| snd_pick hP hF m hdst hop h
 | alloc T => rw [hop] at h; exact .inl <| snd_alloc hP hF m hdst hop hn hnb h
 | box T x => rw [hop] at h; exact .inl <| snd_box hP hF m hdst hop hn hnb h
 | build T ps => rw [hop] at h; exact .inl <| snd_build hP hF m hdst hop h
 | buildSlice T len ps => rw [hop] at h; exact .inl <| snd_buildSlice hP hF m hdst hop hn hnb h
 | load T x => rw [hop] at h; exact .inl <| snd_load hP hF m hdst hop h
 | store T x v => rw [hop] at h; exact .inl <| snd_store hP hF m hdst hop h
 | nilCheck x => rw [hop] at h; exact .inl <| snd_nilCheck hP hF m hdst hop h
 | binOp op T x y T' => rw [hop] at h; exact .inl <| snd_binOp hP hF m hdst hop h
 | unOp op T x => rw [hop] at h; exact .inl <| snd_unOp hP hF m hdst hop h
 | convert s d x => rw [hop] at h; exact .inl <| snd_convert hP hF m hdst hop h
 | fieldAddr T x f => rw [hop] at h; exact .inl <| snd_fieldAddr hP hF m hdst hop h
 | indexAddr T x ix => rw [hop] at h; exact .inl <| snd_indexAddr hP hF m hdst hop h
 | extract t i => rw [hop] at h; exact .inl <| snd_extract hP hF m hdst hop h
 | field T x i => rw [hop] at h; exact .inl <| snd_field hP hF m hdst hop h
 | index T x i => rw [hop] at h; exact .inl <| snd_index hP hF m hdst hop h
 | makeFunc fn first caps => rw [hop] at h; exact .inl <| snd_makeFunc hP hF m hdst hop h
 | slice T x lo hi mx => rw [hop] at h; exact .inl <| snd_slice hP hF m hdst hop h
 | makeMap T r => rw [hop] at h; exact .inl <| snd_makeMap hP hF m hdst hop hn hnb h
 | makeSlice T l c => rw [hop] at h; exact .inl <| snd_makeSlice hP hF m hdst hop hn hnb h
 | lookup T x ix ok => rw [hop] at h; exact .inl <| snd_lookup hP hF m hdst hop h
 | mapUpdate T x ix v => rw [hop] at h; exact .inl <| snd_mapUpdate hP hF m hdst (.inl hop) h
 | insert T x ix v =>
  rw [hop] at h
  refine .inl <| snd_mapUpdate (Wn := Wn) (Y := Y) (nid := nid) hP hF m hdst (.inr hop) ?_
  simp only [effOp] at h ⊢
  cases hW : Nat.beq (Con P tb Wn Y).w 8 with
  | true => rw [hW] at h; exact h.elim
  | false => rw [hW] at h; exact h
 | makeInterface T x => rw [hop] at h; exact .inl <| snd_makeInterface hP hF m hdst hop h
 | typeAssert x T' T ok => cases ok with
  | true => rw [hop] at h; exact .inl <| snd_typeAssert hP hF m hdst hop h
  | false => rw [hop] at h; simp only [effOp] at h
 | panic x => rw [hop] at h; exact .inr ⟨trivial, snd_panic hP hF m hop h⟩
 | range T x => rw [hop] at h; exact .inl <| snd_range hP hF m hdst hop hn hnb h
 | next x str => rw [hop] at h; exact .inl <| snd_next hP hF m hdst hop h
 | entry x => rw [hop] at h; exact .inl <| snd_entry hP hF m hdst hop h
 | call c =>
  cases hc : c.callee with
  | value f =>
   rw [hop] at h
   cases hq : getFn (opA g f) with
   | some q => exact snd_call hP hF m hdst hE hop hc (by rw [hq]; rfl) hnb hw h
   | none =>
    simp only [effOp, hc, hq] at h
    split at h
    ·rename_i i hf
     split at h
     ·rename_i k hi
      split at h
      ·rename_i ds hds
       obtain ⟨b, hy, h⟩ := h
       exact .inl <| snd_yield hP hF hE m hdst hop hc hf hi rfl hds hy h
      ·exact h.elim
     ·exact h.elim
    ·exact h.elim
  | builtin b =>
   cases b with
   | len => rw [hop] at h; exact .inl <| snd_len hP hF m hdst hop hc h
   | append => rw [hop] at h; exact .inl <| snd_append hP hF m hdst hop hc hn hnb h
   | max => rw [hop] at h; exact .inl <| snd_max hP hF m hdst hop hc h
   | min => rw [hop] at h; exact .inl <| snd_min hP hF m hdst hop hc h
   | cap => rw [hop] at h; exact .inl <| snd_cap hP hF m hdst hop hc h
   | copy => rw [hop] at h; exact .inl <| snd_copy hP hF m hdst hop hc h
   | clear => rw [hop] at h; exact .inl <| snd_clear hP hF m hdst hop hc h
   | _ => rw [hop] at h; simp only [effOp, hc] at h
  | invoke r nm => rw [hop] at h; simp only [effOp, hc] at h
 | _ => rw [hop] at h; simp only [effOp] at h
section
variable {K : Eff → Prop}
theorem ex_put {dst : Option Tmp} {x : A} {rd : List Nat} (h : effPut dst x rd K) : ∃ e, K e ∧ effPut dst x rd (fun e' => e' = e) := by
 unfold effPut at h ⊢
 cases dst with
 | some d => simp only [fA_eq] at h ⊢; exact ⟨_, h, rfl⟩
 | none => exact ⟨_, h, rfl⟩
theorem ex_new {dst : Option Tmp} {x : A} {nid : Nat} {ob : Ob} (h : effNew dst x nid ob K) : ∃ e, K e ∧ effNew dst x nid ob (fun e' => e' = e) := by
 unfold effNew at h ⊢
 cases dst with
 | some d => exact ⟨_, h, rfl⟩
 | none => exact h.elim
theorem ex_set {dst : Option Tmp} {i : Nat} {ob : Ob} (h : effSet dst i ob K) : ∃ e, K e ∧ effSet dst i ob (fun e' => e' = e) := by
 unfold effSet at h ⊢
 cases dst with
 | some d => exact ⟨_, h, rfl⟩
 | none => exact ⟨_, h, rfl⟩
theorem ex_int {op : BinOp} {k : IntKind} {p q : Int} {dst : Option Tmp} (h : intE op k p q fun r => effPut dst r [] K) : ∃ e, K e ∧ intE op k p q fun r => effPut dst r [] (fun e' => e' = e) := by
 cases op <;> simp only [intE] at h ⊢ <;> first
  | exact h.elim
  | exact ex_put h
  | (obtain ⟨h0, h⟩ := h; obtain ⟨e, h1, h2⟩ := ex_put h; exact ⟨e, h1, h0, h2⟩)
theorem ex_bin {tb : TB} {op : BinOp} {T : TypeId} {x y : A} {dst : Option Tmp} (h : binE tb op T x y fun r => effPut dst r [] K) : ∃ e, K e ∧ binE tb op T x y fun r => effPut dst r [] (fun e' => e' = e) := by
 unfold binE at h ⊢
 split at h
 ·split at h
  ·simp only [shiftE] at h ⊢; obtain ⟨h0, h⟩ := h; obtain ⟨e, h1, h2⟩ := ex_put h; exact ⟨e, h1, h0, h2⟩
  ·simp only [shiftE] at h ⊢; obtain ⟨h0, h⟩ := h; obtain ⟨e, h1, h2⟩ := ex_put h; exact ⟨e, h1, h0, h2⟩
  ·rename_i k a k' b _ _ _
   cases hk : decide (k = k') with
   | true => rw [hk] at h; simp only [cond_true] at h ⊢; exact ex_int h
   | false => rw [hk] at h; exact h.elim
 ·split at h
  ·split at h
   ·exact ex_put h
   ·exact ex_put h
   ·exact h.elim
  ·exact h.elim
 ·split at h
  ·rename_i yT _
   cases hbk : yT.bulk with
   | true =>
    rw [hbk, cond_true] at h
    obtain ⟨h1, h2, q, h3, h⟩ := h
    split at h
    ·obtain ⟨e, h4, h5⟩ := ex_put h; exact ⟨e, h4, h1, h2, q, h3, h5⟩
    ·obtain ⟨e, h4, h5⟩ := ex_put h; exact ⟨e, h4, h1, h2, q, h3, h5⟩
    ·exact h.elim
   | false =>
   rw [hbk, cond_false] at h
   simp only [cond_false]
   cases hb : (yT.eqB && fitC yT.zero _) with
   | false => rw [hb] at h; exact h.elim
   | true =>
    rw [hb] at h
    simp only [cond_true] at h ⊢
    split at h
    ·split at h
     ·exact ex_put h
     ·exact ex_put h
     ·exact h.elim
    ·exact h.elim
  ·exact h.elim
 ·split at h
  ·obtain ⟨q, h0, h⟩ := h
   split at h
   ·obtain ⟨e, h1, h2⟩ := ex_put h; exact ⟨e, h1, q, h0, h2⟩
   ·obtain ⟨e, h1, h2⟩ := ex_put h; exact ⟨e, h1, q, h0, h2⟩
   ·exact h.elim
  ·exact h.elim
 ·split at h
  ·split at h
   ·obtain ⟨h0, h⟩ := h; obtain ⟨e, h1, h2⟩ := ex_put h; exact ⟨e, h1, h0, h2⟩
   ·obtain ⟨h0, h⟩ := h; obtain ⟨e, h1, h2⟩ := ex_put h; exact ⟨e, h1, h0, h2⟩
   ·exact h.elim
  ·exact h.elim
 ·split at h
  ·split at h
   ·exact ex_put h
   ·exact ex_put h
   ·exact h.elim
  ·exact h.elim
 ·exact h.elim
theorem ex_fill (tb : TB) (fs : List (Nat × TypeId)) {K2 : List A → Eff → Prop} : ∀ (ps : List (Nat × A)) (cells : List A) {dst : Option Tmp}, (fillA tb fs cells ps fun cs => effPut dst (aggA cs) [] K) →
  ∃ e, K e ∧ fillA tb fs cells ps fun cs => effPut dst (aggA cs) [] (fun e' => e' = e)
 | [], cells, dst, h => ex_put h
 | (i, x) :: r, cells, dst, h => by
  simp only [fillA] at h ⊢
  split at h
  ·rename_i off t hf
   split at h
   ·rename_i y hy
    rw [withCells_eq] at h
    obtain ⟨vs, hc, h⟩ := h
    cases hb : (Nat.beq vs.length y.size && Nat.ble (off + vs.length) cells.length) with
    | false => rw [hb] at h; exact h.elim
    | true =>
     rw [hb] at h
     simp only [cond_true, fL_eq] at h
     obtain ⟨e, h1, h2⟩ := ex_fill tb fs (K2 := K2) r _ h
     refine ⟨e, h1, ?_⟩
     rw [withCells_eq]
     exact ⟨vs, hc, by rw [hb]; simpa only [cond_true, fL_eq] using h2⟩
   ·exact h.elim
  ·exact h.elim
theorem ex_rows (sz : Nat) : ∀ (ps : List (Nat × A)) (k : Nat) {T : List (List D) → (Eff → Prop) → Prop} (hT : ∀ es K, T es K → ∃ e, K e ∧ T es (fun e' => e' = e)), (effOp.buildRows sz ps k fun es => T es K) →
  ∃ e, K e ∧ effOp.buildRows sz ps k fun es => T es (fun e' => e' = e)
 | [], k, T, hT, h => hT _ _ h
 | (i, x) :: r, k, T, hT, h => by
  obtain ⟨hb, cs, ds, hc, hds, hb2, h'⟩ := buildRows_cons h
  obtain ⟨e, h1, h2⟩ := ex_rows sz r (k + 1) (T := fun es => T (ds :: es)) (fun es K => hT _ K) h'
  exact ⟨e, h1, buildRows_mk hb h2 h hc hds⟩
theorem ex_lst : ∀ (ps : List (Nat × A)) (k : Nat) {T : List A → (Eff → Prop) → Prop} (hT : ∀ es K, T es K → ∃ e, K e ∧ T es (fun e' => e' = e)), (effOp.buildLst ps k fun es => T es K) →
  ∃ e, K e ∧ effOp.buildLst ps k fun es => T es (fun e' => e' = e)
 | [], k, T, hT, h => hT _ _ h
 | (i, x) :: r, k, T, hT, h => by
  simp only [effOp.buildLst, fA_eq] at h ⊢
  cases hb : (Nat.beq i k && x.one) with
  | false => rw [hb] at h; exact h.elim
  | true =>
   rw [hb] at h
   simp only [cond_true] at h ⊢
   exact ex_lst r (k + 1) (T := fun es => T (x :: es)) (fun es K => hT _ K) h
theorem ex_isInt {x : A} {T : IntKind → Int → (Eff → Prop) → Prop} (hT : ∀ k n, T k n K → ∃ e, K e ∧ T k n (fun e' => e' = e)) (h : isInt x fun k n => T k n K) : ∃ e, K e ∧ isInt x fun k n => T k n (fun e' => e' = e) := by
 unfold isInt at h ⊢
 split at h
 ·exact hT _ _ h
 ·exact h.elim
theorem ex_bnd {g : Nat → A} {x : Option Operand} {d : Nat} {T : Nat → (Eff → Prop) → Prop} (hT : ∀ k, T k K → ∃ e, K e ∧ T k (fun e' => e' = e)) (h : bnd g x d fun k => T k K) : ∃ e, K e ∧ bnd g x d fun k => T k (fun e' => e' = e) := by
 unfold bnd at h ⊢
 split at h
 ·exact hT _ h
 ·exact ex_isInt (T := fun _ n K => ∃ k : Nat, n = k ∧ T k K) (fun _ n ⟨k, e, hk⟩ => let ⟨e', h1, h2⟩ := hT k hk; ⟨e', h1, k, e, h2⟩) h
theorem ex_pure {w : Nat} {dst : Option Tmp} {frz : List (Nat × D)} {r : D} (h : effPure w dst frz r K) : ∃ e, K e ∧ effPure w dst frz r (fun e' => e' = e) := by
 unfold effPure at h ⊢
 split at h
 ·cases dst with
  | some d => simp only [fA_eq] at h ⊢; exact ⟨_, h, rfl⟩
  | none => exact ⟨_, h, rfl⟩
 ·rcases h with ⟨hf, h⟩ | h
  ·cases dst with
   | some d => simp only [fA_eq] at h ⊢; exact ⟨_, h, .l ⟨hf, rfl⟩⟩
   | none => exact ⟨_, h, .l ⟨hf, rfl⟩⟩
  ·cases dst with
   | some d => simp only [fA_eq] at h ⊢; exact ⟨_, h, .r rfl⟩
   | none => exact ⟨_, h, .r rfl⟩
theorem eff_ex {tb : TB} {S : Sums} {op : Op} {dst : Option Tmp} {g : Nat → A} {o : Nat → Option Ob} {nid : Nat} (hW : Nat.beq S.w 8 = true) (h : effOp tb S op dst g o nid K) : ∃ e, K e ∧ effOp tb S op dst g o nid (fun e' => e' = e) := by
 cases op with
 | move x => exact ex_put h
 | assign x => exact ex_put h
 | pick c x y =>
  simp only [effOp] at h ⊢
  split at h
  ·rename_i t ht
   cases t with
   | true => obtain ⟨e, h1, h2⟩ := ex_put (h.1 rfl); exact ⟨e, h1, fun _ => h2, (fun h => by cases h)⟩
   | false => obtain ⟨e, h1, h2⟩ := ex_put (h.2 rfl); exact ⟨e, h1, (fun h => by cases h), fun _ => h2⟩
  ·exact h.elim
 | alloc T =>
  simp only [effOp] at h ⊢
  split at h
  ·rename_i y hy
   cases hb : y.bulk with
   | true => rw [hb] at h; simp only [cond_true] at h ⊢; exact ex_new h
   | false => rw [hb] at h; simp only [cond_false, fL_eq] at h ⊢; exact ex_new h
  ·exact h.elim
 | box T x =>
  simp only [effOp] at h ⊢
  split at h
  ·rename_i y hy
   cases hb : y.bulk with
   | true =>
    rw [hb] at h
    simp only [cond_true] at h ⊢
    split at h
    ·rename_i cs hc
     obtain ⟨e, h1, h2⟩ := ex_new h.2
     exact ⟨e, h1, h.1, h2⟩
    ·exact h.elim
   | false =>
    rw [hb] at h
    simp only [cond_false, withCells_eq] at h ⊢
    obtain ⟨cs, hc, h⟩ := h
    cases ho : cs.all A.one with
    | true => rw [ho] at h; simp only [cond_true] at h; obtain ⟨e, h1, h2⟩ := ex_new h; exact ⟨e, h1, cs, hc, by rw [ho]; exact h2⟩
    | false => rw [ho] at h; exact h.elim
  ·exact h.elim
 | build T ps =>
  simp only [effOp] at h ⊢
  split at h
  ·rename_i fs s1 s2 z bk hT
   cases hb : (fs.all fun p => (tb p.2).isSome) with
   | true =>
    rw [hb] at h
    simp only [cond_true, fL_eq] at h ⊢
    cases hbz : (bk.1 && z.all intV) with
    | true =>
     rw [hbz] at h
     simp only [cond_true] at h ⊢
     obtain ⟨ds, hc, h⟩ := h
     obtain ⟨e, h1, h2⟩ := ex_put h
     exact ⟨e, h1, ds, hc, h2⟩
    | false =>
    rw [hbz] at h
    simp only [cond_false] at h ⊢
    cases hbk : bk.1 with
    | true =>
     rw [hbk] at h
     simp only [cond_true] at h ⊢
     obtain ⟨cs, hc, h⟩ := h
     obtain ⟨e, h1, h2⟩ := ex_put h
     exact ⟨e, h1, cs, hc, h2⟩
    | false => rw [hbk] at h; simp only [cond_false] at h ⊢; exact ex_fill (K2 := fun _ _ => True) tb fs _ _ h
   | false => rw [hb] at h; exact h.elim
  ·split at h
   ·simp only [fL_eq] at h ⊢; exact ex_fill (K2 := fun _ _ => True) tb _ _ _ h
   ·exact h.elim
  ·exact h.elim
 | buildSlice T len ps =>
  simp only [effOp] at h ⊢
  split at h
  ·rename_i e s1 s2 z bk hT
   split at h
   ·rename_i y hy
    cases hb : Nat.beq len 0 with
    | true =>
     rw [hb] at h
     simp only [cond_true] at h ⊢
     cases hb2 : Nat.beq ps.size 0 with
     | true => rw [hb2] at h; simp only [cond_true] at h ⊢; exact ex_new h
     | false => rw [hb2] at h; exact h.elim
    | false =>
     rw [hb] at h
     simp only [cond_false] at h ⊢
     cases hb2 : (Nat.beq ps.size len && Nat.ble (len * y.size) 16777216) with
     | true =>
      rw [hb2] at h
      simp only [cond_true] at h ⊢
      cases hFn : (y.k.fnB && Nat.beq y.size 1 && (ps.toList.map fun p => opA g p.2).any A.fnB) with
      | true => rw [hFn] at h; simp only [cond_true] at h ⊢; exact ex_lst _ _ (fun cs K h => ex_put h) h
      | false =>
      rw [hFn] at h
      simp only [cond_false] at h ⊢
      cases hOw : (ps.toList.map fun p => opA g p.2).any A.ownB with
      | true =>
       rw [hOw, cond_true] at h
       simp only [cond_true]
       rcases h with h | h
       rotate_left
       ·simp only [hW, Bool.not_true, Bool.and_false, cond_false] at h
       refine (fun ⟨e, h1, h2⟩ => ⟨e, h1, .l h2⟩ : (∃ e, K e ∧ _) → _) ?_
       obtain ⟨as, frz, hh⟩ : ∃ as frz, handL true o (ps.toList.map fun p => opA g p.2) = (as, frz) := ⟨_, _, rfl⟩
       rw [hh] at h ⊢
       simp only at h ⊢
       cases hfe : frz.isEmpty with
       | true => simp only [hfe, Bool.not_true, cond_false] at h
       | false =>
        simp only [hfe, Bool.not_false, cond_true] at h ⊢
        exact ex_rows _ _ _ (T := fun es K => effFz dst (.d (.seq es)) frz K) (fun es K h => by
         unfold effFz at h ⊢
         cases dst with
         | some d => simp only [fA_eq] at h ⊢; exact ⟨_, h, rfl⟩
         | none => exact ⟨_, h, rfl⟩) h
      | false =>
      rw [hOw, cond_false] at h
      simp only [cond_false]
      exact ex_rows _ _ _ (T := fun es K => ChL (effPut dst (.d (.seq es)) [] K) (0 < y.size ∧ effNew dst (.own nid) nid (.arr e es) K)) (fun es K h => by
       rcases h with h | ⟨h0, h⟩
       ·obtain ⟨e, h1, h2⟩ := ex_put h; exact ⟨e, h1, .l h2⟩
       ·obtain ⟨e, h1, h2⟩ := ex_new h; exact ⟨e, h1, .r ⟨h0, h2⟩⟩) h
     | false => rw [hb2] at h; exact h.elim
   ·exact h.elim
  ·exact h.elim
 | load T x =>
  simp only [effOp] at h ⊢
  split at h
  ·rename_i y hy
   split at h
   ·rename_i i off hx
    split at h
    ·rename_i T' cs ho
     cases ha : y.k.agg with
     | true =>
      simp only [ha, cond_true] at h ⊢
      obtain ⟨ds, h1, h2, h⟩ := h
      obtain ⟨e, h3, h4⟩ := ex_put h
      exact ⟨e, h3, ds, h1, h2, h4⟩
     | false =>
      simp only [ha, cond_false] at h ⊢
      obtain ⟨c, h1, h⟩ := h
      obtain ⟨e, h3, h4⟩ := ex_put h
      exact ⟨e, h3, c, h1, h4⟩
    ·rename_i T' cs ho
     cases ha : y.k.agg with
     | true =>
      simp only [ha, cond_true, fL_eq] at h ⊢
      cases hb : Nat.beq ((cs.drop off).take y.size).length y.size with
      | true => rw [hb] at h; simp only [cond_true] at h ⊢; exact ex_put h
      | false => rw [hb] at h; exact h.elim
     | false =>
      simp only [ha, cond_false] at h ⊢
      split at h
      ·rename_i c h1; exact ex_put h
      ·exact h.elim
    ·rename_i T' cs ho
     cases ha : y.k.agg with
     | true =>
      simp only [ha, cond_true] at h ⊢
      obtain ⟨ds, h1, h2, h⟩ := h
      obtain ⟨e, h3, h4⟩ := ex_put h
      exact ⟨e, h3, ds, h1, h2, h4⟩
     | false =>
      simp only [ha, cond_false] at h ⊢
      obtain ⟨c, h1, h⟩ := h
      obtain ⟨e, h3, h4⟩ := ex_put h
      exact ⟨e, h3, c, h1, h4⟩
    ·exact h.elim
   ·rename_i cs hx
    cases ha : y.k.agg with
    | true =>
     simp only [ha, cond_true] at h ⊢
     simp only [fD_eq] at h ⊢
     obtain ⟨h1, h⟩ := h
     obtain ⟨e, h3, h4⟩ := ex_put h
     exact ⟨e, h3, h1, h4⟩
    | false =>
     simp only [ha, cond_false] at h ⊢
     split at h
     ·rename_i c h1; exact ex_put h
     ·exact h.elim
   ·rename_i cs n0 hx
    cases ha : y.k.agg with
    | true =>
     simp only [ha, cond_true] at h ⊢
     obtain ⟨h1, h⟩ := h
     obtain ⟨e, h3, h4⟩ := ex_put h
     exact ⟨e, h3, h1, h4⟩
    | false =>
     simp only [ha, cond_false] at h ⊢
     obtain ⟨c, h1, h⟩ := h
     obtain ⟨e, h3, h4⟩ := ex_put h
     exact ⟨e, h3, c, h1, h4⟩
   ·rename_i i k sz off hx
    split at h
    ·rename_i T' es ho
     obtain ⟨el, hel, h⟩ := h
     cases hb : Nat.beq sz el.length with
     | false => rw [hb] at h; exact h.elim
     | true =>
      rw [hb] at h
      simp only [cond_true] at h
      cases ha : y.k.agg with
      | true =>
       simp only [ha, cond_true] at h
       obtain ⟨h1, h⟩ := h
       obtain ⟨e, h3, h4⟩ := ex_put h
       exact ⟨e, h3, el, hel, by rw [hb]; simp only [cond_true]; exact ⟨h1, h4⟩⟩
      | false =>
       simp only [ha, cond_false] at h
       obtain ⟨d, h1, h⟩ := h
       obtain ⟨e, h3, h4⟩ := ex_put h
       exact ⟨e, h3, el, hel, by rw [hb]; simp only [cond_true, cond_false]; exact ⟨d, h1, h4⟩⟩
    ·cases hb : (Nat.beq off 0 && Nat.beq sz 1 && !y.k.agg) with
     | false => rw [hb] at h; exact h.elim
     | true =>
      rw [hb, cond_true] at h
      obtain ⟨c, h1, h⟩ := h
      obtain ⟨e, h3, h4⟩ := ex_put h
      exact ⟨e, h3, c, h1, h4⟩
    ·exact h.elim
   ·rename_i x1 hx
    cases ha : y.k.agg with
    | true => rw [ha] at h; exact h.elim
    | false => rw [ha] at h; simp only [cond_false] at h ⊢; exact ex_put h
   ·exact h.elim
  ·exact h.elim
 | store T x v =>
  simp only [effOp] at h ⊢
  split at h
  ·rename_i y hy
   split at h
   ·rename_i i off hx
    split at h
    ·rename_i T' cs ho
     cases ha : y.k.agg with
     | true =>
      simp only [ha, cond_true] at h ⊢
      obtain ⟨vs, h1, h2, h3, h4, h⟩ := h
      obtain ⟨e, h5, h6⟩ := ex_set h
      exact ⟨e, h5, vs, h1, h2, h3, h4, h6⟩
     | false =>
      simp only [ha, cond_false, fA_eq] at h ⊢
      obtain ⟨h1, h⟩ := h
      cases hb : ((opA g v).one && Nat.beq y.size 1) with
      | true => rw [hb] at h; simp only [cond_true] at h; obtain ⟨e, h5, h6⟩ := ex_set h; exact ⟨e, h5, h1, h6⟩
      | false => rw [hb] at h; exact h.elim
    ·rename_i T' cs ho
     simp only [withCells_eq] at h ⊢
     obtain ⟨vs, h1, h⟩ := h
     cases hb : (Nat.beq vs.length y.size && Nat.ble (off + vs.length) cs.length && vs.all A.one) with
     | true =>
      rw [hb] at h
      simp only [cond_true, fL_eq] at h
      obtain ⟨e, h5, h6⟩ := ex_set h
      exact ⟨e, h5, vs, h1, by rw [hb]; simp only [cond_true, fL_eq]; exact h6⟩
     | false => rw [hb] at h; exact h.elim
    ·exact h.elim
   ·rename_i i k sz off hx
    split at h
    ·rename_i e' es ho
     simp only [withCells_eq] at h ⊢
     obtain ⟨vs, h1, h⟩ := h
     split at h
     ·rename_i ds hds
      cases hb : (Nat.beq ds.length y.size && vs.all A.one) with
      | true =>
       rw [hb] at h
       simp only [cond_true] at h
       obtain ⟨el, q1, q2, q3, es', q4, h⟩ := h
       obtain ⟨e, h5, h6⟩ := ex_set h
       refine ⟨e, h5, vs, h1, ?_⟩
       rw [hds]
       simp only [hb, cond_true]
       exact ⟨el, q1, q2, q3, es', q4, h6⟩
      | false => rw [hb] at h; exact h.elim
     ·exact h.elim
    ·rename_i e' cs ho
     cases hb : (Nat.beq off 0 && Nat.beq sz 1 && Nat.beq y.size 1) with
     | false => rw [hb] at h; exact h.elim
     | true =>
      rw [hb, cond_true, fA_eq] at h
      cases hb2 : (opA g v).one with
      | false => rw [hb2] at h; exact h.elim
      | true =>
       rw [hb2, cond_true] at h
       obtain ⟨h1, cs', h2, h⟩ := h
       obtain ⟨e, h3, h4⟩ := ex_set h
       refine ⟨e, h3, ?_⟩
       simp only [cond_true, fA_eq, hb2]
       exact ⟨h1, cs', h2, h4⟩
    ·exact h.elim
   ·exact h.elim
  ·exact h.elim
 | nilCheck x =>
  simp only [effOp] at h ⊢
  split at h
  ·exact ex_put h
  ·exact ex_put h
  ·exact ex_put h
  ·exact h.elim
 | binOp op T x y T' => exact ex_bin h
 | unOp op T x =>
  simp only [effOp] at h ⊢
  split at h
  ·split at h
   ·exact ex_put h
   ·exact h.elim
  ·simp only [isInt] at h ⊢
   split at h
   ·exact ex_put h
   ·exact h.elim
  ·exact h.elim
 | convert s d x =>
  simp only [effOp] at h ⊢
  split at h
  ·simp only [isInt] at h ⊢
   split at h
   ·exact ex_put h
   ·exact h.elim
  ·split at h
   ·obtain ⟨q, h0, h⟩ := h
    obtain ⟨e, h1, h2⟩ := ex_put h
    exact ⟨e, h1, q, h0, h2⟩
   ·exact h.elim
  ·exact h.elim
 | fieldAddr T x f =>
  simp only [effOp] at h ⊢
  split at h
  ·split at h
   ·split at h
    ·rename_i y hy
     cases hb : Nat.beq y.size 0 with
     | true => rw [hb] at h; exact h.elim
     | false =>
      rw [hb] at h
      simp only [cond_false] at h ⊢
      split at h
      ·exact ex_put h
      ·exact ex_put h
      ·exact ex_put h
      ·exact ex_put h
      ·exact h.elim
    ·exact h.elim
   ·exact h.elim
  ·exact h.elim
 | indexAddr T x ix =>
  simp only [effOp] at h ⊢
  split at h
  ·split at h
   ·split at h
    ·simp only [isInt] at h ⊢
     split at h
     ·obtain ⟨k, el, h1, h2, h3, h⟩ := h
      obtain ⟨e, h5, h6⟩ := ex_put h
      exact ⟨e, h5, k, el, h1, h2, h3, h6⟩
     ·exact h.elim
    ·split at h
     ·simp only [isInt] at h ⊢
      split at h
      ·obtain ⟨k, h1, h2, h⟩ := h
       obtain ⟨e, h5, h6⟩ := ex_put h
       exact ⟨e, h5, k, h1, h2, h6⟩
      ·exact h.elim
     ·simp only [isInt] at h ⊢
      split at h
      ·obtain ⟨k, h1, h2, h⟩ := h
       obtain ⟨e, h5, h6⟩ := ex_put h
       exact ⟨e, h5, k, h1, h2, h6⟩
      ·exact h.elim
     ·exact h.elim
    ·simp only [isInt] at h ⊢
     split at h
     ·obtain ⟨k, c, h1, h2, h3, h⟩ := h
      obtain ⟨e, h5, h6⟩ := ex_put h
      exact ⟨e, h5, k, c, h1, h2, h3, h6⟩
     ·exact h.elim
    ·exact h.elim
   ·exact h.elim
  ·split at h
   ·split at h
    ·simp only [isInt] at h ⊢
     split at h
     ·obtain ⟨k, h1, h2, h⟩ := h
      obtain ⟨e, h5, h6⟩ := ex_put h
      exact ⟨e, h5, k, h1, h2, h6⟩
     ·exact h.elim
    ·simp only [isInt] at h ⊢
     split at h
     ·obtain ⟨k, h1, h2, h⟩ := h
      obtain ⟨e, h5, h6⟩ := ex_put h
      exact ⟨e, h5, k, h1, h2, h6⟩
     ·exact h.elim
    ·simp only [isInt] at h ⊢
     split at h
     ·obtain ⟨k, h1, h2, h⟩ := h
      obtain ⟨e, h5, h6⟩ := ex_put h
      exact ⟨e, h5, k, h1, h2, h6⟩
     ·exact h.elim
    ·simp only [isInt] at h ⊢
     split at h
     ·obtain ⟨k, h1, h2, h⟩ := h
      obtain ⟨e, h5, h6⟩ := ex_put h
      exact ⟨e, h5, k, h1, h2, h6⟩
     ·exact h.elim
    ·exact h.elim
   ·exact h.elim
  ·exact h.elim
 | makeMap T r =>
  simp only [effOp] at h ⊢
  split at h
  ·exact ex_new h
  ·exact h.elim
 | lookup T x ix ok =>
  simp only [effOp] at h ⊢
  split at h
  ·rename_i k e s1 s2 z fl i key hTy hx hix
   split at h
   ·rename_i k' e' es y ho hy
    cases hb : (Nat.beq k k' && Nat.beq e e' && keyB tb k key) with
    | false => rw [hb] at h; exact h.elim
    | true =>
     rw [hb] at h
     simp only [cond_true] at h ⊢
     obtain ⟨r, hr, h⟩ := h
     cases r with
     | some v => cases ok <;> (obtain ⟨e2, h1, h2⟩ := ex_put h; exact ⟨e2, h1, _, hr, h2⟩)
     | none => cases ok <;> (obtain ⟨e2, h1, h2⟩ := ex_put h; exact ⟨e2, h1, _, hr, h2⟩)
   ·exact h.elim
  ·exact h.elim
 | mapUpdate T x ix v =>
  simp only [effOp] at h ⊢
  split at h
  ·rename_i k e s1 s2 z fl i key v hTy hx hix hv
   split at h
   ·rename_i k' e' es ho
    cases hb : (Nat.beq k k' && Nat.beq e e' && keyB tb k key) with
    | false => rw [hb] at h; exact h.elim
    | true =>
     rw [hb] at h
     simp only [cond_true] at h ⊢
     obtain ⟨es', hes, h⟩ := h
     obtain ⟨e2, h1, h2⟩ := ex_set h
     exact ⟨e2, h1, _, hes, h2⟩
   ·exact h.elim
  ·exact h.elim
 | makeFunc fn first caps => simp only [effOp, fL_eq] at h ⊢; exact ex_put h
 | slice T x lo hi mx =>
  simp only [effOp] at h ⊢
  split at h
  ·split at h
   ·split at h
    ·rename_i y hy
     split at h
     ·rename_i hx
      exact ex_bnd (T := fun l K => bnd g hi 0 fun h => l = 0 ∧ h = 0 ∧ effPut dst (.d (.v (.slice none 0 0))) [] K)
       (fun l h => ex_bnd (T := fun h K => l = 0 ∧ h = 0 ∧ effPut dst (.d (.v (.slice none 0 0))) [] K) (fun h' ⟨h1, h2, h4⟩ => let ⟨e, q1, q2⟩ := ex_put h4; ⟨e, q1, h1, h2, q2⟩) h) h
     ·rename_i es hx
      exact ex_bnd (T := fun l K => bnd g hi es.length fun h => l ≤ h ∧ h ≤ es.length ∧ (∀ el ∈ es, el.length = y.size) ∧ effPut dst (.d (.seq ((es.take h).drop l))) [] K)
       (fun l h => ex_bnd (T := fun h K => l ≤ h ∧ h ≤ es.length ∧ (∀ el ∈ es, el.length = y.size) ∧ effPut dst (.d (.seq ((es.take h).drop l))) [] K) (fun h' ⟨h1, h2, h3, h4⟩ => let ⟨e, q1, q2⟩ := ex_put h4; ⟨e, q1, h1, h2, h3, q2⟩) h) h
     ·rename_i i hx
      split at h
      ·rename_i d e' es ho
       cases hb : Nat.beq _ e' with
       | false => rw [hb] at h; exact h.elim
       | true =>
        rw [hb] at h
        simp only [cond_true] at h ⊢
        exact ex_bnd (T := fun h K => h ≤ es.length ∧ Ch (∃ es', es.take h = es' ∧ K ⟨some (d, .own i), [(i, .arr _ es')], [i], 0, [], [i]⟩) (K ⟨some (d, .pre i h), [], [i], 0, [], []⟩)) (fun h' ⟨h1, h2⟩ => by
         rcases h2 with ⟨es', h2, h3⟩ | h3
         ·exact ⟨_, h3, h1, .l ⟨es', h2, rfl⟩⟩
         ·exact ⟨_, h3, h1, .r rfl⟩) h
      ·rename_i l0 d e' es ho
       cases hb : (Nat.beq _ e' && hi.isNone) with
       | false => rw [hb] at h; exact h.elim
       | true =>
        rw [hb] at h
        simp only [cond_true] at h ⊢
        exact ex_bnd (T := fun l K => l ≤ es.length ∧ Ch (∃ es', es.drop l = es' ∧ K ⟨some (d, .own i), [(i, .arr _ es')], [i], 0, [], [i]⟩) (K ⟨some (d, .sub i _ (l * _) _ (es.length - l)), [], [i], 0, [], []⟩)) (fun h' ⟨h1, h2⟩ => by
         rcases h2 with ⟨es', h2, h3⟩ | h3
         ·exact ⟨_, h3, h1, .l ⟨es', h2, rfl⟩⟩
         ·exact ⟨_, h3, h1, .r rfl⟩) h
      ·exact h.elim
     ·exact h.elim
    ·exact h.elim
   ·split at h
    ·rename_i y hy
     split at h
     ·rename_i i d hx
      split at h
      ·rename_i bulk T' cs ho
       rcases h with h | h
       rotate_left
       ·refine (fun ⟨e, h1, h2⟩ => ⟨e, h1, .r h2⟩ : (∃ e, K e ∧ _) → _) ?_
        exact ex_bnd (T := fun h K => h ≤ _ ∧ K ⟨some (d, .sub i 0 0 y.size h), [], [i], 0, [], []⟩) (fun h' ⟨h1, h5⟩ => ⟨_, h5, h1, rfl⟩) h
       refine (fun ⟨e, h1, h2⟩ => ⟨e, h1, .l h2⟩ : (∃ e, K e ∧ _) → _) ?_
       exact ex_bnd (T := fun h K => h ≤ _ ∧ ∃ es : List (List D), cs.take (h * y.size) = es.flatten.map A.d ∧ (∀ el ∈ es, el.length = y.size) ∧ es.length = h ∧ K ⟨some (d, .d (.seq es)), [(i, .ro T' cs)], [i], 0, [], []⟩)
        (fun h' ⟨h1, es, h2, h3, h4, h5⟩ => ⟨_, h5, h1, es, h2, h3, h4, rfl⟩) h
      ·rename_i T' cs ho
       exact ex_bnd (T := fun h K => h ≤ _ ∧ ∃ es : List (List D), cs.take (h * y.size) = es.flatten.map A.d ∧ (∀ el ∈ es, el.length = y.size) ∧ es.length = h ∧ K ⟨some (d, .d (.seq es)), [], [i], 0, [], []⟩)
        (fun h' ⟨h1, es, h2, h3, h4, h5⟩ => ⟨_, h5, h1, es, h2, h3, h4, rfl⟩) h
      ·exact h.elim
     ·rename_i l0 i d hx
      split at h
      ·rename_i T' cs ho
       exact ex_bnd (T := fun l K => l ≤ _ ∧ K ⟨some (d, .sub i 0 (l * y.size) y.size (_ - l)), [], [i], 0, [], []⟩) (fun h' ⟨h1, h5⟩ => ⟨_, h5, h1, rfl⟩) h
      ·exact h.elim
     ·rename_i i k sz q d hx
      split at h
      ·rename_i T' es ho
       exact ex_bnd (T := fun h K => h ≤ _ ∧ k < es.length ∧ q + h * y.size ≤ sz ∧ K ⟨some (d, .sub i sz (k * sz + q) y.size h), [], [i], 0, [], []⟩)
        (fun h' ⟨h1, h2, h3, h5⟩ => ⟨_, h5, h1, h2, h3, rfl⟩) h
      ·exact h.elim
     ·simp only [hW, cond_true] at h
     ·exact h.elim
    ·exact h.elim
   ·exact h.elim
  ·simp only [hW, cond_true] at h
 | makeInterface T x => simp only [effOp, hW, cond_true] at h
 | typeAssert x T' T ok => cases ok with
  | true => simp only [effOp, hW, cond_true] at h
  | false => simp only [effOp] at h
 | panic x => simp only [effOp, hW, cond_true] at h
 | makeSlice T l c =>
  simp only [effOp] at h ⊢
  split at h
  ·split at h
   ·rename_i y hy
    exact ex_isInt (T := fun _ n K => isInt (opA g c) fun _ q => ∃ k : Nat, n = k ∧ q = k ∧ k * y.bytes ≤ 140737488355328 ∧ k ≤ 140737488355328 ∧ ∃ es, List.replicate k (y.zero.map D.v) = es ∧ effNew dst (.own nid) nid (.arr _ es) K)
     (fun _ n h => ex_isInt (T := fun _ q K => ∃ k : Nat, n = k ∧ q = k ∧ k * y.bytes ≤ 140737488355328 ∧ k ≤ 140737488355328 ∧ ∃ es, List.replicate k (y.zero.map D.v) = es ∧ effNew dst (.own nid) nid (.arr _ es) K)
      (fun _ q ⟨k, h1, h2, h3, h4, es, h5, h6⟩ => let ⟨e, q1, q2⟩ := ex_new h6; ⟨e, q1, k, h1, h2, h3, h4, es, h5, q2⟩) h) h
   ·exact h.elim
  ·exact h.elim
 | field T x i =>
  simp only [effOp] at h ⊢
  split at h
  ·split at h
   ·split at h
    ·rename_i y hy
     split at h
     ·rename_i ds hx
      unfold partD at h ⊢
      cases ha : y.k.agg with
      | true =>
       simp only [ha] at h ⊢
       cases hb : Nat.beq ((ds.drop _).take y.size).length y.size with
       | true => rw [hb] at h; simp only [cond_true] at h ⊢; exact ex_put h
       | false => rw [hb] at h; exact h.elim
      | false =>
       simp only [ha] at h ⊢
       split at h
       ·exact ex_put h
       ·exact h.elim
     ·rename_i cs hx
      cases ha : y.k.agg with
      | true =>
       simp only [ha, cond_true, fL_eq] at h ⊢
       cases hb : Nat.beq ((cs.drop _).take y.size).length y.size with
       | true => rw [hb] at h; simp only [cond_true] at h ⊢; exact ex_put h
       | false => rw [hb] at h; exact h.elim
      | false =>
       simp only [ha, cond_false] at h ⊢
       split at h
       ·exact ex_put h
       ·exact h.elim
     ·exact h.elim
    ·exact h.elim
   ·exact h.elim
  ·exact h.elim
 | index T x i =>
  simp only [effOp] at h ⊢
  split at h
  ·split at h
   ·rename_i y hy
    split at h
    ·rename_i ds hx
     simp only [isInt] at h ⊢
     split at h
     ·obtain ⟨j, h1, h2, h⟩ := h
      cases ha : y.k.agg with
      | true =>
       simp only [ha, cond_true] at h ⊢
       obtain ⟨h3, h⟩ := h
       obtain ⟨e, q1, q2⟩ := ex_put h
       exact ⟨e, q1, j, h1, h2, h3, q2⟩
      | false =>
       simp only [ha, cond_false] at h ⊢
       obtain ⟨c, h3, h⟩ := h
       obtain ⟨e, q1, q2⟩ := ex_put h
       exact ⟨e, q1, j, h1, h2, c, h3, q2⟩
     ·exact h.elim
    ·exact h.elim
   ·exact h.elim
  ·exact h.elim
 | extract t i =>
  simp only [effOp] at h ⊢
  split at h
  ·split at h
   ·exact ex_put h
   ·exact h.elim
  ·split at h
   ·exact ex_put h
   ·exact h.elim
  ·exact h.elim
 | call c =>
  cases hc : c.callee with
  | value f =>
   simp only [effOp, hc] at h ⊢
   split at h
   ·rename_i fid first caps hfn
    simp only [Ch3.iff] at h ⊢
    rcases h with h | ⟨hw, ρ, v, hS, h⟩ | h
    ·unfold effInp at h
     rw [hW, cond_true] at h
     exact h.elim
    ·split at h
     ·rename_i d
      cases hb : (nodupB ρ && (ρ.all fun j => Nat.blt j nid) && (pres o [] ρ).all Ob.sure) with
      | false => rw [hb] at h; exact h.elim
      | true => rw [hb] at h; exact ⟨_, h, .inr (.inl ⟨hw, ρ, v, hS, by rw [hb]; rfl⟩)⟩
     ·exact h.elim
    refine (fun ⟨e, h1, h2⟩ => ⟨e, h1, .inr (.inr h2)⟩ : (∃ e, K e ∧ _) → _) ?_
    rcases h with h | ⟨ρ, N, r, post, hS, h⟩
    ·obtain ⟨as, frz, hh⟩ : ∃ as frz, handL true o (first ++ c.args.toList.map (opA g) ++ caps) = (as, frz) := ⟨_, _, rfl⟩
     rw [hh] at h ⊢
     simp only at h ⊢
     cases hds : toDs as with
     | none =>
      rw [hds] at h
      rcases h with ⟨ds, r, hl, hr, hf, h⟩ | ⟨ds, T, es, h1, h2, h3, h4, h⟩
      ·cases dst with
       | some d => simp only [fA_eq] at h; exact ⟨_, h, .inl (.inl ⟨ds, r, hl, hr, hf, by simp only [fA_eq]⟩)⟩
       | none => exact ⟨_, h, .inl (.inl ⟨ds, r, hl, hr, hf, rfl⟩)⟩
      ·cases dst with
       | some d => exact ⟨_, h, .inl (.inr ⟨ds, T, es, h1, h2, h3, h4, rfl⟩)⟩
       | none => exact h.elim
     | some ds =>
      rw [hds] at h
      obtain ⟨r, hr, h⟩ := h
      obtain ⟨e, h1, h2⟩ := ex_pure h
      exact ⟨e, h1, .inl ⟨r, hr, h2⟩⟩
    ·obtain ⟨as, frz, hh⟩ : ∃ as frz, handL false (hideO ρ o) (first ++ c.args.toList.map (opA g) ++ caps) = (as, frz) := ⟨_, _, rfl⟩
     rw [hh] at h hS
     simp only at h hS
     cases hb : borB ρ nid N S.w (pres o frz ρ) post with
     | false => rw [hb] at h; exact h.elim
     | true =>
      rw [hb, cond_true] at h
      obtain ⟨rd0, hrd0⟩ : ∃ rd0, rd0 = ρ ++ frz.map (·.1) ++ ownIds (first ++ (c.args.toList.map (opA g)) ++ caps) := ⟨_, rfl⟩
      obtain ⟨js, hjs⟩ : ∃ js, js = arrIds post 0 ρ (pres o frz ρ) := ⟨_, rfl⟩
      obtain ⟨post', hpost'⟩ : ∃ post', post' = dropRo (pres o frz ρ) post := ⟨_, rfl⟩
      rw [← hrd0, ← hjs, ← hpost'] at h
      by_cases hfr : frB S.w frz = true
      ·rw [hfr, cond_true] at h
       have : ∃ e, K e ∧ effFr dst ρ nid rd0 r post (fun e' => e' = e) := by
        unfold effFr at h ⊢
        split at h
        ·obtain ⟨q, h⟩ := h
         cases dst with
         | some d => exact ⟨_, h, q, rfl⟩
         | none => exact ⟨_, h, q, rfl⟩
        ·exact h.elim
       obtain ⟨e, h1, h2⟩ := this
       exact ⟨e, h1, .inr ⟨ρ, N, r, post, by rw [hh]; exact hS, by rw [hh]; simp only; rw [hb, ← hrd0, cond_true, hfr]; exact h2⟩⟩
      rw [Bool.not_eq_true] at hfr
      rw [hfr, cond_false] at h
      have : ∃ e, K e ∧ effBor dst ρ nid N frz rd0 js r post' (fun e' => e' = e) := by
       unfold effBor at h ⊢
       cases dst with
       | some d => simp only [forceA_eq, outObs_eq] at h ⊢; exact ⟨_, h, rfl⟩
       | none => simp only [outObs_eq] at h ⊢; exact ⟨_, h, rfl⟩
      obtain ⟨e, h1, h2⟩ := this
      exact ⟨e, h1, .inr ⟨ρ, N, r, post, by rw [hh]; exact hS, by rw [hh]; simp only; rw [hb, ← hrd0, ← hjs, ← hpost', hfr]; exact h2⟩⟩
   ·split at h
    ·split at h
     ·split at h
      ·obtain ⟨b, hy, h⟩ := h
       cases dst with
       | some d => exact ⟨_, h, b, hy, rfl⟩
       | none => exact ⟨_, h, b, hy, rfl⟩
      ·exact h.elim
     ·exact h.elim
    ·exact h.elim
  | builtin b =>
   cases b with
   | len =>
    simp only [effOp, hc] at h ⊢
    split at h
    ·split at h
     ·split at h
      ·split at h
       ·exact ex_put h
       ·exact h.elim
      ·exact h.elim
     ·split at h
      ·exact ex_put h
      ·split at h
       ·split at h
        ·exact ex_put h
        ·exact h.elim
       ·exact h.elim
     ·exact h.elim
    ·exact h.elim
   | cap =>
    simp only [effOp, hc] at h ⊢
    split at h
    ·split at h
     ·exact ex_put h
     ·exact h.elim
    ·exact h.elim
   | copy =>
    simp only [effOp, hc] at h ⊢
    split at h
    ·rename_i T T' _ _
     split at h
     ·rename_i ys rd hTy hel
      split at h
      ·rename_i y hy
       cases hb : Nat.beq T T' with
       | false => rw [hb] at h; exact h.elim
       | true =>
        rw [hb, cond_true] at h
        simp only [cond_true]
        split at h
        ·rename_i i off sz q hxx
         split at h
         ·cases hb2 : (Nat.beq sz y.size && !rd.contains i) with
          | false => rw [hb2] at h; exact h.elim
          | true =>
           rw [hb2, cond_true] at h
           obtain ⟨h1, h2, cs', h3, h⟩ := h
           cases dst with
           | some d => exact ⟨_, h, h1, h2, cs', h3, rfl⟩
           | none => exact ⟨_, h, h1, h2, cs', h3, rfl⟩
         ·exact h.elim
        ·rename_i i ysz off sz q hno hxx
         split at h
         ·rename_i e' es ho
          cases hb2 : (Nat.beq _ e' && Nat.beq sz y.size && Nat.beq ysz y.size) with
          | false => rw [hb2] at h; exact h.elim
          | true =>
           rw [hb2, cond_true] at h
           obtain ⟨l, h0, h1, h2, es', h3, h⟩ := h
           cases dst with
           | some d => exact ⟨_, h, l, h0, h1, h2, es', h3, rfl⟩
           | none => exact ⟨_, h, l, h0, h1, h2, es', h3, rfl⟩
         ·exact h.elim
        ·rename_i i hxx
         split at h
         ·rename_i e' es ho
          cases hb2 : (Nat.beq _ e' && !rd.contains i) with
          | false => rw [hb2] at h; exact h.elim
          | true =>
           rw [hb2, cond_true] at h
           obtain ⟨h1, es', h3, h⟩ := h
           cases dst with
           | some d => exact ⟨_, h, h1, es', h3, rfl⟩
           | none => exact ⟨_, h, h1, es', h3, rfl⟩
         ·exact h.elim
        ·exact h.elim
      ·exact h.elim
     ·exact h.elim
    ·exact h.elim
   | max =>
    simp only [effOp, hc] at h ⊢
    split at h
    ·exact ex_isInt (T := fun k p K => isInt _ fun _ q => effPut dst (intRes k (max p q)) [] K) (fun k p h => ex_isInt (T := fun _ q K => effPut dst (intRes k (max p q)) [] K) (fun _ _ h => ex_put h) h) h
    ·exact h.elim
   | min =>
    simp only [effOp, hc] at h ⊢
    split at h
    ·exact ex_isInt (T := fun k p K => isInt _ fun _ q => effPut dst (intRes k (min p q)) [] K) (fun k p h => ex_isInt (T := fun _ q K => effPut dst (intRes k (min p q)) [] K) (fun _ _ h => ex_put h) h) h
    ·exact h.elim
   | append =>
    simp only [effOp, hc] at h ⊢
    split at h
    ·rename_i s x T T' d _ _
     split at h
     ·rename_i e0 s1 s2 z bk hTy
      split at h
      ·rename_i y ys rd hy hel
       cases hb : (Nat.beq T T' && Nat.blt 0 y.size && Nat.blt 0 y.bytes) with
       | false => rw [hb] at h; exact h.elim
       | true =>
        rw [hb] at h
        simp only [cond_true] at h ⊢
        split at h
        ·obtain ⟨h1, h2, h⟩ := h; exact ⟨_, h, h1, h2, rfl⟩
        ·rename_i i _
         split at h
         ·rename_i e' es ho
          cases hb2 : (Nat.beq e0 e' && !rd.contains i) with
          | false => rw [hb2] at h; exact h.elim
          | true =>
           rw [hb2] at h
           simp only [cond_true] at h ⊢
           obtain ⟨h1, h2, h⟩ := h
           cases hW : Nat.beq S.w 8 with
           | true => rw [hW] at h; exact ⟨_, h, h1, h2, rfl⟩
           | false => rw [hW] at h; exact ⟨_, h, h1, h2, rfl⟩
         ·simp only [hW, Bool.not_true, Bool.and_false, cond_false] at h
         ·exact h.elim
        ·exact h.elim
      ·split at h
       ·split at h
        ·simp only [hW, Bool.not_true, Bool.and_false, cond_false] at h
        ·exact h.elim
       ·split at h
        ·simp only [hW, Bool.not_true, Bool.and_false, cond_false] at h
        ·exact h.elim
       ·split at h
        ·split at h
         ·simp only [hW, Bool.not_true, Bool.and_false, cond_false] at h
         ·exact h.elim
        ·exact h.elim
       ·exact h.elim
      ·exact h.elim
     ·exact h.elim
    ·exact h.elim
   | clear => simp only [effOp, hc, hW, cond_true] at h
   | _ => simp only [effOp, hc] at h
  | invoke r nm => simp only [effOp, hc] at h
 | insert T x ix v => simp only [effOp, hW, cond_true] at h
 | range T x => simp only [effOp, hW, cond_true] at h
 | next x str => simp only [effOp, hW, Bool.true_or, cond_true] at h
 | entry x => simp only [effOp, hW, cond_true] at h
 | _ => simp only [effOp] at h
end
end Go.Ev


namespace Go.Ev
open RowKit
theorem rd_put {dst : Option Tmp} {x : A} {rd : List Nat} {e : Eff} (h : effPut dst x rd (fun e' => e' = e)) : e.rd = rd := by
 unfold effPut at h
 cases dst with
 | some d => simp only [fA_eq] at h; rw [← h]
 | none => simp only at h; rw [← h]
theorem rd_set {dst : Option Tmp} {i : Nat} {ob : Ob} {e : Eff} (h : effSet dst i ob (fun e' => e' = e)) : e.rd = [i] := by
 unfold effSet at h
 cases dst with
 | some d => simp only at h; rw [← h]
 | none => simp only at h; rw [← h]
theorem handA_same {cv : Bool} {o o' : Nat → Option Ob} {x : A} (h : ∀ i, x ≠ .own i) (h' : ∀ i k, x ≠ .pre i k) : handA cv o' x = handA cv o x := by
 unfold handA
 split
 ·exact absurd rfl (h _)
 ·exact absurd rfl (h' _ _)
 ·rfl
 ·rfl
def NoOwn : List A → Prop
 | [] => True
 | .own _ :: _ => False
 | .pre _ _ :: _ => False
 | .agg cs :: r => (∀ i, A.own i ∉ cs) ∧ (∀ i k, A.pre i k ∉ cs) ∧ NoOwn r
 | _ :: r => NoOwn r
theorem handL_same {cv : Bool} {o o' : Nat → Option Ob} : ∀ {l : List A}, NoOwn l → handL cv o' l = handL cv o l
 | [], _ => rfl
 | x :: r, h => by
  cases x with
  | own i => exact h.elim
  | pre i k => exact h.elim
  | agg cs =>
   obtain ⟨h1, h1', h2⟩ := h
   have e1 : ∀ y ∈ cs, handA cv o' y = handA cv o y := fun y hy => handA_same (fun i e => h1 i (e ▸ hy)) (fun i k e => h1' i k (e ▸ hy))
   have e2 : (cs.map fun x => (handA cv o' x).1) = cs.map fun x => (handA cv o x).1 := List.map_congr_left fun y hy => by rw [e1 y hy]
   have e3 : (cs.flatMap fun x => (handA cv o' x).2) = cs.flatMap fun x => (handA cv o x).2 := by
    clear h1 h1' e2
    induction cs with
    | nil => rfl
    | cons y cs ih => simp only [List.flatMap_cons]; rw [e1 y (by simp), ih (fun z hz => e1 z (by simp [hz]))]
   have ih := handL_same (cv := cv) (o := o) (o' := o') h2
   simp only [handL, e2, e3, ih]
  | d y =>
   have h2 : NoOwn r := h
   have ih := handL_same (cv := cv) (o := o) (o' := o') h2
   cases y with
   | agg cs => simp only [handL, ih]
   | _ => simp only [handL, ih, handA_same (cv := cv) (o := o) (o' := o') (x := A.d _) (fun i e => by cases e) (fun i k e => by cases e)]
  | ref i off => have h2 : NoOwn r := h; have ih := handL_same (cv := cv) (o := o) (o' := o') h2; simp only [handL, ih, handA_same (cv := cv) (o := o) (o' := o') (x := A.ref i off) (fun i e => by cases e) (fun i k e => by cases e)]
  | eref i k sz off => have h2 : NoOwn r := h; have ih := handL_same (cv := cv) (o := o) (o' := o') h2; simp only [handL, ih, handA_same (cv := cv) (o := o) (o' := o') (x := A.eref i k sz off) (fun i e => by cases e) (fun i k e => by cases e)]
  | fn f a b => have h2 : NoOwn r := h; have ih := handL_same (cv := cv) (o := o) (o' := o') h2; simp only [handL, ih, handA_same (cv := cv) (o := o) (o' := o') (x := A.fn f a b) (fun i e => by cases e) (fun i k e => by cases e)]
  | tup xs => have h2 : NoOwn r := h; have ih := handL_same (cv := cv) (o := o) (o' := o') h2; simp only [handL, ih, handA_same (cv := cv) (o := o) (o' := o') (x := A.tup xs) (fun i e => by cases e) (fun i k e => by cases e)]
  | lst xs => have h2 : NoOwn r := h; have ih := handL_same (cv := cv) (o := o) (o' := o') h2; simp only [handL, ih, handA_same (cv := cv) (o := o) (o' := o') (x := A.lst xs) (fun i e => by cases e) (fun i k e => by cases e)]
  | lptr x => have h2 : NoOwn r := h; have ih := handL_same (cv := cv) (o := o) (o' := o') h2; simp only [handL, ih, handA_same (cv := cv) (o := o) (o' := o') (x := A.lptr x) (fun i e => by cases e) (fun i k e => by cases e)]
  | unk => have h2 : NoOwn r := h; have ih := handL_same (cv := cv) (o := o) (o' := o') h2; simp only [handL, ih, handA_same (cv := cv) (o := o) (o' := o') (x := A.unk) (fun i e => by cases e) (fun i k e => by cases e)]
  | sub q1 q2 q3 q4 q5 => have h2 : NoOwn r := h; have ih := handL_same (cv := cv) (o := o) (o' := o') h2; simp only [handL, ih, handA_same (cv := cv) (o := o) (o' := o') (x := A.sub q1 q2 q3 q4 q5) (fun i e => by cases e) (fun i k e => by cases e)]
theorem handTop_own {cv : Bool} {o o' : Nat → Option Ob} : ∀ {cs : List A}, (∀ i ∈ ownTop cs, o' i = o i) → ∀ x ∈ cs, handA cv o' x = handA cv o x
 | [], _, x, hx => by cases hx
 | y :: r, h, x, hx => by
  have hr : ∀ i ∈ ownTop r, o' i = o i := fun i hi => h i (by cases y <;> first | exact hi | exact List.mem_cons_of_mem _ hi)
  rcases List.mem_cons.1 hx with rfl | hx
  ·cases x with
   | own i => have := h i (by simp [ownTop]); simp only [handA, this]
   | pre i k => have := h i (by simp [ownTop]); simp only [handA, this]
   | _ => exact handA_same (fun i e => by cases e) (fun i k e => by cases e)
  ·exact handTop_own hr x hx
theorem handL_own {cv : Bool} {o o' : Nat → Option Ob} : ∀ {l : List A}, (∀ i ∈ ownIds l, o' i = o i) → handL cv o' l = handL cv o l
 | [], _ => rfl
 | x :: r, h => by
  cases x with
  | own i =>
   have ih := handL_own (cv := cv) (o := o) (o' := o') (l := r) (fun j hj => h j (by simp [ownIds, hj]))
   have := h i (by simp [ownIds])
   simp only [handL, ih, handA, this]
  | pre i k =>
   have ih := handL_own (cv := cv) (o := o) (o' := o') (l := r) (fun j hj => h j (by simp [ownIds, hj]))
   have := h i (by simp [ownIds])
   simp only [handL, ih, handA, this]
  | agg cs =>
   have ih := handL_own (cv := cv) (o := o) (o' := o') (l := r) (fun j hj => h j (by simp [ownIds, hj]))
   have e1 := handTop_own (cv := cv) (o := o) (o' := o') (cs := cs) (fun j hj => h j (by simp [ownIds, hj]))
   have e2 : (cs.map fun x => (handA cv o' x).1) = cs.map fun x => (handA cv o x).1 := List.map_congr_left fun y hy => by rw [e1 y hy]
   have e3 : (cs.flatMap fun x => (handA cv o' x).2) = cs.flatMap fun x => (handA cv o x).2 := by
    clear h e2 ih
    induction cs with
    | nil => rfl
    | cons y cs ih => simp only [List.flatMap_cons]; rw [e1 y (by simp), ih (fun z hz => e1 z (by simp [hz]))]
   simp only [handL, e2, e3, ih]
  | d y =>
   have ih := handL_own (cv := cv) (o := o) (o' := o') (l := r) (fun j hj => h j hj)
   cases y with
   | agg cs => simp only [handL, ih]
   | _ => simp only [handL, ih, handA_same (cv := cv) (o := o) (o' := o') (x := A.d _) (fun i e => by cases e) (fun i k e => by cases e)]
  | ref i off => have ih := handL_own (cv := cv) (o := o) (o' := o') (l := r) (fun j hj => h j hj); simp only [handL, ih, handA_same (cv := cv) (o := o) (o' := o') (x := A.ref i off) (fun i e => by cases e) (fun i k e => by cases e)]
  | eref i k sz off => have ih := handL_own (cv := cv) (o := o) (o' := o') (l := r) (fun j hj => h j hj); simp only [handL, ih, handA_same (cv := cv) (o := o) (o' := o') (x := A.eref i k sz off) (fun i e => by cases e) (fun i k e => by cases e)]
  | fn f a b => have ih := handL_own (cv := cv) (o := o) (o' := o') (l := r) (fun j hj => h j hj); simp only [handL, ih, handA_same (cv := cv) (o := o) (o' := o') (x := A.fn f a b) (fun i e => by cases e) (fun i k e => by cases e)]
  | tup xs => have ih := handL_own (cv := cv) (o := o) (o' := o') (l := r) (fun j hj => h j hj); simp only [handL, ih, handA_same (cv := cv) (o := o) (o' := o') (x := A.tup xs) (fun i e => by cases e) (fun i k e => by cases e)]
  | lst xs => have ih := handL_own (cv := cv) (o := o) (o' := o') (l := r) (fun j hj => h j hj); simp only [handL, ih, handA_same (cv := cv) (o := o) (o' := o') (x := A.lst xs) (fun i e => by cases e) (fun i k e => by cases e)]
  | lptr x => have ih := handL_own (cv := cv) (o := o) (o' := o') (l := r) (fun j hj => h j hj); simp only [handL, ih, handA_same (cv := cv) (o := o) (o' := o') (x := A.lptr x) (fun i e => by cases e) (fun i k e => by cases e)]
  | unk => have ih := handL_own (cv := cv) (o := o) (o' := o') (l := r) (fun j hj => h j hj); simp only [handL, ih, handA_same (cv := cv) (o := o) (o' := o') (x := A.unk) (fun i e => by cases e) (fun i k e => by cases e)]
  | sub q1 q2 q3 q4 q5 => have ih := handL_own (cv := cv) (o := o) (o' := o') (l := r) (fun j hj => h j (List.mem_cons_of_mem _ hj)); simp only [handL, ih, handA_same (cv := cv) (o := o) (o' := o') (x := A.sub q1 q2 q3 q4 q5) (fun i e => by cases e) (fun i k e => by cases e)]
theorem lendC_same {o o' : Nat → Option Ob} : ∀ {l : List A} {ds : List D}, (∀ i ∈ ownIds l, o' i = o i) → lendC o l ds → lendC o' l ds
 | [], _, _, h => h
 | x :: r, ds, ho, h => by
  have hr : ∀ i ∈ ownIds r, o' i = o i := fun i hi => ho i (by cases x <;> first | exact hi | exact List.mem_cons_of_mem _ hi | exact List.mem_append_right _ hi)
  cases x with
  | d x => obtain ⟨q, h1, h2⟩ := h; exact ⟨q, h1, lendC_same hr h2⟩
  | own j =>
   have e := ho j (by simp [ownIds])
   simp only [lendC] at h ⊢
   rw [e]
   split at h
   ·obtain ⟨q, h1, h2⟩ := h; exact ⟨q, h1, lendC_same hr h2⟩
   ·exact h.elim
  | _ => exact (show False from h).elim
theorem lendV_same {o o' : Nat → Option Ob} : ∀ {l : List A} {ds : List D}, (∀ i ∈ viewIds o l, o' i = o i) → lendV o l ds → lendV o' l ds ∧ viewIds o' l = viewIds o l
 | [], _, _, h => ⟨h, rfl⟩
 | x :: r, ds, ho, h => by
  cases x with
  | d x =>
   obtain ⟨q, h1, h2⟩ := h
   obtain ⟨a, b⟩ := lendV_same (o' := o') (l := r) (fun i hi => ho i hi) h2
   exact ⟨⟨q, h1, a⟩, b⟩
  | ref i off =>
   cases off with
   | succ off => exact (show False from h).elim
   | zero =>
    have e : o' i = o i := ho i (by unfold viewIds; split <;> exact List.mem_cons_self ..)
    simp only [lendV] at h ⊢
    unfold viewIds
    rw [e]
    split at h
    ·rename_i bk T cs hoi
     obtain ⟨c, q, h1, h2, h3⟩ := h
     have hm : ∀ j, j ∈ ownIds cs ++ viewIds o r → o' j = o j := fun j hj => ho j (by unfold viewIds; rw [hoi]; exact List.mem_cons_of_mem _ hj)
     obtain ⟨a, b⟩ := lendV_same (o' := o') (l := r) (fun j hj => hm j (List.mem_append_right _ hj)) h3
     exact ⟨⟨c, q, h1, lendC_same (fun j hj => hm j (List.mem_append_left _ hj)) h2, a⟩, by rw [b]⟩
    ·exact h.elim
  | _ => exact (show False from h).elim
theorem lendV_own {o : Nat → Option Ob} : ∀ {l : List A} {ds : List D}, lendV o l ds → ownIds l = []
 | [], _, _ => rfl
 | x :: r, ds, h => by
  cases x with
  | d x => obtain ⟨q, h1, h2⟩ := h; exact lendV_own (l := r) h2
  | ref i off =>
   cases off with
   | succ off => exact (show False from h).elim
   | zero =>
    simp only [lendV] at h
    split at h
    ·obtain ⟨c, q, h1, h2, h3⟩ := h; exact lendV_own (l := r) h3
    ·exact h.elim
  | _ => exact (show False from h).elim
theorem lendL_same {tb : TB} {o o' : Nat → Option Ob} : ∀ {l : List A} {ds : List D}, (∀ i ∈ ownIds l, o' i = o i) → lendL tb o l ds → lendL tb o' l ds
 | [], _, _, h => h
 | x :: r, ds, ho, h => by
  obtain ⟨d, q, rfl, h1, h2⟩ := h
  have hr : ∀ i ∈ ownIds r, o' i = o i := fun i hi => ho i (by cases x <;> first | exact hi | exact List.mem_cons_of_mem _ hi | exact List.mem_append_right _ hi)
  refine ⟨d, q, rfl, ?_, lendL_same hr h2⟩
  cases x with
  | own i => have e := ho i (by simp [ownIds]); simp only [lendA] at h1 ⊢; rw [e]; exact h1
  | pre i hi => have e := ho i (by simp [ownIds]); simp only [lendA] at h1 ⊢; rw [e]; exact h1
  | sub i a b c n => have e := ho i (by simp [ownIds]); simp only [lendA] at h1 ⊢; rw [e]; exact h1
  | _ => exact h1
theorem toDs_cons {x : A} {l : List A} {ds : List D} (h : toDs (x :: l) = some ds) : ∃ d r, x = .d d ∧ toDs l = some r ∧ ds = d :: r := by
 have h0 := toDs_eq h
 cases ds with
 | nil => simp at h0
 | cons d r =>
  simp only [List.map_cons, List.cons.injEq] at h0
  obtain ⟨rfl, rfl⟩ := h0
  refine ⟨d, r, rfl, ?_, rfl⟩
  have : ∀ r : List D, toDs (r.map A.d) = some r := fun r => by
   induction r with
   | nil => rfl
   | cons a r ih => simp [toDs, ih]
  exact this r
theorem topIn {cv : Bool} {o : Nat → Option Ob} : ∀ {cs : List A} {ds : List D}, toDs (cs.map fun x => (handA cv o x).1) = some ds → ∀ i ∈ ownTop cs, i ∈ (cs.flatMap fun x => (handA cv o x).2).map (·.1)
 | [], _, _, i, hi => by cases hi
 | x :: r, ds, h, i, hi => by
  rw [List.map_cons] at h
  obtain ⟨d, r', h1, h2, _⟩ := toDs_cons h
  rw [List.flatMap_cons, List.map_append]
  have tl : i ∈ ownTop r → i ∈ ((handA cv o x).2).map (·.1) ++ (r.flatMap fun x => (handA cv o x).2).map (·.1) := fun hi => List.mem_append_right _ (topIn h2 i hi)
  cases x with
  | own j =>
   rcases List.mem_cons.1 hi with rfl | hi
   ·refine List.mem_append_left _ ?_
    cases ho : o i with
    | none => simp [handA, ho] at h1
    | some ob => cases ob <;> simp [handA, ho] at h1 ⊢
   ·exact tl hi
  | pre j k =>
   rcases List.mem_cons.1 hi with rfl | hi
   ·refine List.mem_append_left _ ?_
    cases ho : o i with
    | none => simp [handA, ho] at h1
    | some ob => cases ob <;> simp [handA, ho] at h1 ⊢
   ·exact tl hi
  | sub q1 q2 q3 q4 q5 => simp [handA] at h1
  | _ => exact tl hi
theorem ownIds_in {cv : Bool} {o : Nat → Option Ob} : ∀ {l : List A} {ds : List D}, toDs (handL cv o l).1 = some ds → ∀ i ∈ ownIds l, i ∈ (handL cv o l).2.map (·.1)
 | [], _, _, i, hi => by cases hi
 | x :: r, ds, h, i, hi => by
  cases x with
  | own j =>
   simp only [handL] at h ⊢
   obtain ⟨d, r', h1, h2, _⟩ := toDs_cons h
   rw [List.map_append]
   rcases List.mem_cons.1 hi with rfl | hi
   ·refine List.mem_append_left _ ?_
    cases ho : o i with
    | none => simp [handA, ho] at h1
    | some ob => cases ob <;> simp [handA, ho] at h1 ⊢
   ·exact List.mem_append_right _ (ownIds_in h2 i hi)
  | pre j k =>
   simp only [handL] at h ⊢
   obtain ⟨d, r', h1, h2, _⟩ := toDs_cons h
   rw [List.map_append]
   rcases List.mem_cons.1 hi with rfl | hi
   ·refine List.mem_append_left _ ?_
    cases ho : o i with
    | none => simp [handA, ho] at h1
    | some ob => cases ob <;> simp [handA, ho] at h1 ⊢
   ·exact List.mem_append_right _ (ownIds_in h2 i hi)
  | agg cs =>
   simp only [handL] at h ⊢
   obtain ⟨d, r', h1, h2, _⟩ := toDs_cons h
   rw [List.map_append]
   rcases List.mem_append.1 hi with hi | hi
   ·refine List.mem_append_left _ ?_
    unfold aggA at h1
    split at h1
    ·rename_i ds' hds
     exact topIn hds i hi
    ·cases h1
   ·exact List.mem_append_right _ (ownIds_in h2 i hi)
  | d y =>
   have hi : i ∈ ownIds r := hi
   cases y with
   | agg cs => simp only [handL] at h ⊢; obtain ⟨d, r', h1, h2, _⟩ := toDs_cons h; exact ownIds_in h2 i hi
   | _ => simp only [handL] at h ⊢; obtain ⟨d, r', h1, h2, _⟩ := toDs_cons h; rw [List.map_append]; exact List.mem_append_right _ (ownIds_in h2 i hi)
  | ref j off => have hi : i ∈ ownIds r := hi; simp only [handL] at h ⊢; obtain ⟨d, r', h1, h2, _⟩ := toDs_cons h; rw [List.map_append]; exact List.mem_append_right _ (ownIds_in h2 i hi)
  | eref j k sz off => have hi : i ∈ ownIds r := hi; simp only [handL] at h ⊢; obtain ⟨d, r', h1, h2, _⟩ := toDs_cons h; rw [List.map_append]; exact List.mem_append_right _ (ownIds_in h2 i hi)
  | fn f a b => have hi : i ∈ ownIds r := hi; simp only [handL] at h ⊢; obtain ⟨d, r', h1, h2, _⟩ := toDs_cons h; rw [List.map_append]; exact List.mem_append_right _ (ownIds_in h2 i hi)
  | tup xs => have hi : i ∈ ownIds r := hi; simp only [handL] at h ⊢; obtain ⟨d, r', h1, h2, _⟩ := toDs_cons h; rw [List.map_append]; exact List.mem_append_right _ (ownIds_in h2 i hi)
  | lst xs => have hi : i ∈ ownIds r := hi; simp only [handL] at h ⊢; obtain ⟨d, r', h1, h2, _⟩ := toDs_cons h; rw [List.map_append]; exact List.mem_append_right _ (ownIds_in h2 i hi)
  | lptr x => have hi : i ∈ ownIds r := hi; simp only [handL] at h ⊢; obtain ⟨d, r', h1, h2, _⟩ := toDs_cons h; rw [List.map_append]; exact List.mem_append_right _ (ownIds_in h2 i hi)
  | unk => have hi : i ∈ ownIds r := hi; simp only [handL] at h ⊢; obtain ⟨d, r', h1, h2, _⟩ := toDs_cons h; rw [List.map_append]; exact List.mem_append_right _ (ownIds_in h2 i hi)
  | sub q1 q2 q3 q4 q5 => simp only [handL] at h ⊢; obtain ⟨d, r', h1, h2, _⟩ := toDs_cons h; simp [handA] at h1
theorem noOwn_of {cv : Bool} {o : Nat → Option Ob} : ∀ {l : List A} {ds : List D}, toDs (handL cv o l).1 = some ds → (handL cv o l).2 = [] → NoOwn l
 | [], _, _, _ => trivial
 | x :: r, ds, h, hz => by
  have own_no : ∀ i, (handA cv o (.own i)).2 = [] → ∃ j, (handA cv o (.own i)).1 = .own j := by
   intro i h
   refine ⟨i, ?_⟩
   cases ho : o i with
   | none => simp [handA, ho]
   | some ob => cases ob <;> simp [handA, ho] at h ⊢
  have pre_no : ∀ i k, (handA cv o (.pre i k)).2 = [] → ∃ j, (handA cv o (.pre i k)).1 = .pre j k := by
   intro i k h
   refine ⟨i, ?_⟩
   cases ho : o i with
   | none => simp [handA, ho]
   | some ob => cases ob <;> simp [handA, ho] at h ⊢
  cases x with
  | own i =>
   simp only [handL, List.append_eq_nil_iff] at h hz
   obtain ⟨j, hj⟩ := own_no i hz.1
   rw [hj] at h
   obtain ⟨d, _, h1, _⟩ := toDs_cons h
   cases h1
  | pre i k =>
   simp only [handL, List.append_eq_nil_iff] at h hz
   obtain ⟨j, hj⟩ := pre_no i k hz.1
   rw [hj] at h
   obtain ⟨d, _, h1, _⟩ := toDs_cons h
   cases h1
  | agg cs =>
   simp only [handL, List.append_eq_nil_iff, List.flatMap_eq_nil_iff] at h hz
   obtain ⟨d, r', h1, h2, _⟩ := toDs_cons h
   refine ⟨fun i hi => ?_, fun i k hi => ?_, noOwn_of h2 hz.2⟩
   ·obtain ⟨j, hj⟩ := own_no i (hz.1 _ hi)
    unfold aggA at h1
    split at h1
    ·rename_i ds' hds
     have h3 := toDs_eq hds
     have h4 : A.own j ∈ cs.map fun x => (handA cv o x).1 := List.mem_map.2 ⟨_, hi, hj⟩
     rw [h3] at h4
     obtain ⟨_, _, h5⟩ := List.mem_map.1 h4
     cases h5
    ·cases h1
   ·obtain ⟨j, hj⟩ := pre_no i k (hz.1 _ hi)
    unfold aggA at h1
    split at h1
    ·rename_i ds' hds
     have h3 := toDs_eq hds
     have h4 : A.pre j k ∈ cs.map fun x => (handA cv o x).1 := List.mem_map.2 ⟨_, hi, hj⟩
     rw [h3] at h4
     obtain ⟨_, _, h5⟩ := List.mem_map.1 h4
     cases h5
    ·cases h1
  | d y =>
   cases y with
   | agg cs => simp only [handL] at h hz; obtain ⟨_, r', _, h2, _⟩ := toDs_cons h; show NoOwn r; exact noOwn_of h2 hz
   | _ => simp only [handL, List.append_eq_nil_iff] at h hz; obtain ⟨_, r', _, h2, _⟩ := toDs_cons h; show NoOwn r; exact noOwn_of h2 hz.2
  | ref i off => simp only [handL, List.append_eq_nil_iff] at h hz; obtain ⟨_, r', _, h2, _⟩ := toDs_cons h; show NoOwn r; exact noOwn_of h2 hz.2
  | eref i k sz off => simp only [handL, List.append_eq_nil_iff] at h hz; obtain ⟨_, r', _, h2, _⟩ := toDs_cons h; show NoOwn r; exact noOwn_of h2 hz.2
  | fn f a b => simp only [handL, List.append_eq_nil_iff] at h hz; obtain ⟨_, r', _, h2, _⟩ := toDs_cons h; show NoOwn r; exact noOwn_of h2 hz.2
  | tup xs => simp only [handL, List.append_eq_nil_iff] at h hz; obtain ⟨_, r', _, h2, _⟩ := toDs_cons h; show NoOwn r; exact noOwn_of h2 hz.2
  | lst xs => simp only [handL, List.append_eq_nil_iff] at h hz; obtain ⟨_, r', _, h2, _⟩ := toDs_cons h; show NoOwn r; exact noOwn_of h2 hz.2
  | lptr x => simp only [handL, List.append_eq_nil_iff] at h hz; obtain ⟨_, r', _, h2, _⟩ := toDs_cons h; show NoOwn r; exact noOwn_of h2 hz.2
  | unk => simp only [handL, List.append_eq_nil_iff] at h hz; obtain ⟨_, r', _, h2, _⟩ := toDs_cons h; show NoOwn r; exact noOwn_of h2 hz.2
  | sub q1 q2 q3 q4 q5 => simp only [handL, List.append_eq_nil_iff] at h hz; obtain ⟨_, r', _, h2, _⟩ := toDs_cons h; show NoOwn r; exact noOwn_of h2 hz.2
theorem elems_same {o o' : Nat → Option Ob} {x : A} {ys : List (List D)} {rd : List Nat} (h : elemsOf o x = some (ys, rd)) (ho : ∀ i ∈ rd, o' i = o i) : elemsOf o' x = some (ys, rd) := by
 unfold elemsOf at h ⊢
 split at h
 ·exact h
 ·exact h
 ·rename_i i
  split at h
  ·rename_i T es he
   simp only [Option.some.injEq, Prod.mk.injEq] at h
   obtain ⟨rfl, rfl⟩ := h
   simp only [ho i (by simp), he]
  ·cases h
 ·rename_i i k
  split at h
  ·rename_i T es he
   simp only [Option.some.injEq, Prod.mk.injEq] at h
   obtain ⟨rfl, rfl⟩ := h
   simp only [ho i (by simp), he]
  ·cases h
 ·cases h
theorem sameO_congr {o o' : Nat → Option Ob} : ∀ {ρ : List Nat}, (∀ j ∈ ρ, o' j = o j) → sameO o' ρ = sameO o ρ
 | [], _ => rfl
 | j :: r, h => by
  rw [sameO, sameO, h j (by simp), sameO_congr fun j hj => h j (by simp [hj])]
theorem eff_frame {tb : TB} {S : Sums} {op : Op} {dst : Option Tmp} {g g' : Nat → A} {o o' : Nat → Option Ob} {nid : Nat} {e : Eff} (hW : Nat.beq S.w 8 = true) (h : effOp tb S op dst g o nid (fun e' => e' = e)) (hg : ∀ x ∈ op.operands.toList, opA g' x = opA g x)
  (ho : ∀ i ∈ e.rd, o' i = o i) (hz : e.frz = []) (hc : e.clr = []) : effOp tb S op dst g' o' nid (fun e' => e' = e) := by
 cases op with
 | move x => simp only [effOp] at h ⊢; rw [hg x (by simp [Op.operands])]; exact h
 | assign x => simp only [effOp] at h ⊢; rw [hg x (by simp [Op.operands])]; exact h
 | pick c x y => simp only [effOp] at h ⊢; rw [hg c (by simp [Op.operands]), hg x (by simp [Op.operands]), hg y (by simp [Op.operands])]; exact h
 | alloc T => exact h
 | box T x => simp only [effOp] at h ⊢; rw [hg x (by simp [Op.operands])]; exact h
 | build T ps =>
  simp only [effOp] at h ⊢
  have : (ps.toList.map fun p => (p.1, opA g' p.2)) = ps.toList.map fun p => (p.1, opA g p.2) :=
   List.map_congr_left fun p hp => by rw [hg p.2 (by simp only [Op.operands, List.toList_toArray]; exact List.mem_map.2 ⟨p, hp, rfl⟩)]
  rw [this]; exact h
 | buildSlice T len ps =>
  simp only [effOp] at h ⊢
  have : (ps.toList.map fun p => (p.1, opA g' p.2)) = ps.toList.map fun p => (p.1, opA g p.2) :=
   List.map_congr_left fun p hp => by rw [hg p.2 (by simp only [Op.operands, List.toList_toArray]; exact List.mem_map.2 ⟨p, hp, rfl⟩)]
  have e2 : (ps.toList.map fun p => opA g' p.2) = ps.toList.map fun p => opA g p.2 :=
   List.map_congr_left fun p hp => hg p.2 (by simp only [Op.operands, List.toList_toArray]; exact List.mem_map.2 ⟨p, hp, rfl⟩)
  rw [this, e2]
  split at h
  ·rename_i el s1 s2 z bk hT
   split at h
   ·rename_i y hy
    cases hb : Nat.beq len 0 with
    | true => simp only [hb, cond_true] at h ⊢; exact h
    | false =>
     simp only [hb, cond_false] at h ⊢
     cases hb2 : (Nat.beq ps.size len && Nat.ble (len * y.size) 16777216) with
     | false => rw [hb2] at h; exact h.elim
     | true =>
      simp only [hb2, cond_true] at h ⊢
      cases hFn : (y.k.fnB && Nat.beq y.size 1 && (ps.toList.map fun p => opA g p.2).any A.fnB) with
      | true => simp only [hFn, cond_true] at h ⊢; exact h
      | false =>
       simp only [hFn, cond_false] at h ⊢
       cases hOw : (ps.toList.map fun p => opA g p.2).any A.ownB with
       | false => simp only [hOw, cond_false] at h ⊢; exact h
       | true =>
        simp only [hOw, cond_true] at h
        exfalso
        rcases h with h | h
        rotate_left
        ·simp only [hW, Bool.not_true, Bool.and_false, cond_false] at h
        generalize handL true o (ps.toList.map fun p => opA g p.2) = H at h
        obtain ⟨as, frz⟩ := H
        dsimp only at h
        cases hfe : frz.isEmpty with
        | true => simp only [hfe, Bool.not_true, cond_false] at h
        | false =>
         simp only [hfe, Bool.not_false, cond_true] at h
         have key : ∀ (sz : Nat) (l : List (Nat × A)) (k : Nat) (f : List (List D) → List (List D)), (effOp.buildRows sz l k fun es => effFz dst (.d (.seq (f es))) frz (fun e' => e' = e)) → e.frz = frz := by
          intro sz l
          induction l with
          | nil =>
           intro k f h
           simp only [effOp.buildRows, effFz] at h
           cases dst with
           | some d => simp only [fA_eq] at h; rw [← h]
           | none => rw [← h]
          | cons x l ih =>
           intro k f h
           obtain ⟨i, x⟩ := x
           obtain ⟨hb, cs, ds, hc, hds, hb2, h'⟩ := buildRows_cons h
           exact ih (k + 1) (fun es => f (ds :: es)) h'
         have := key y.size _ 0 id h
         rw [hz] at this
         rw [← this] at hfe
         cases hfe
   ·exact h.elim
  ·exact h.elim
 | load T x =>
  simp only [effOp] at h ⊢
  rw [hg x (by simp [Op.operands])]
  cases hT : tb T with
  | none => rw [hT] at h; exact h.elim
  | some y =>
   simp only [hT] at h ⊢
   cases hx : opA g x with
   | ref i off =>
    simp only [hx] at h ⊢
    have hi : i ∈ e.rd := by
     split at h
     ·cases ha : y.k.agg with
      | true => simp only [ha, cond_true] at h; obtain ⟨ds, _, _, h⟩ := h; rw [rd_put h]; simp
      | false => simp only [ha, cond_false] at h; obtain ⟨c, _, h⟩ := h; rw [rd_put h]; simp
     ·cases ha : y.k.agg with
      | true =>
       simp only [ha, cond_true, fL_eq] at h
       rename_i cs _
       cases hb : Nat.beq ((cs.drop off).take y.size).length y.size with
       | true => rw [hb] at h; rw [rd_put h]; simp
       | false => rw [hb] at h; exact h.elim
      | false =>
       simp only [ha, cond_false] at h
       split at h
       ·rw [rd_put h]; simp
       ·exact h.elim
     ·cases ha : y.k.agg with
      | true => simp only [ha, cond_true] at h; obtain ⟨ds, _, _, h⟩ := h; rw [rd_put h]; simp
      | false => simp only [ha, cond_false] at h; obtain ⟨c, _, h⟩ := h; rw [rd_put h]; simp
     ·exact h.elim
    rw [ho i hi]; exact h
   | eref i k sz off =>
    simp only [hx] at h ⊢
    have hi : i ∈ e.rd := by
     split at h
     ·rename_i T' es _
      obtain ⟨el, _, h⟩ := h
      cases hb : Nat.beq sz el.length with
      | false => rw [hb] at h; exact h.elim
      | true =>
       rw [hb] at h
       simp only [cond_true] at h
       cases ha : y.k.agg with
       | true => simp only [ha, cond_true] at h; rw [rd_put h.2]; simp
       | false => simp only [ha, cond_false] at h; obtain ⟨c, _, h⟩ := h; rw [rd_put h]; simp
     ·cases hb : (Nat.beq off 0 && Nat.beq sz 1 && !y.k.agg) with
      | false => rw [hb] at h; exact h.elim
      | true => rw [hb, cond_true] at h; obtain ⟨c, _, h⟩ := h; rw [rd_put h]; simp
     ·exact h.elim
    rw [ho i hi]; exact h
   | d z => simp only [hx] at h ⊢; cases z <;> first | exact h | exact h.elim
   | lptr z => simp only [hx] at h ⊢; exact h
   | _ => simp only [hx] at h
 | store T x v =>
  simp only [effOp] at h ⊢
  rw [hg x (by simp [Op.operands]), hg v (by simp [Op.operands])]
  cases hT : tb T with
  | none => rw [hT] at h; exact h.elim
  | some y =>
   simp only [hT] at h ⊢
   cases hx : opA g x with
   | ref i off =>
    simp only [hx] at h ⊢
    have hi : i ∈ e.rd := by
     split at h
     ·cases ha : y.k.agg with
      | true => simp only [ha, cond_true] at h; obtain ⟨vs, _, _, _, _, h⟩ := h; rw [rd_set h]; simp
      | false =>
       simp only [ha, cond_false, fA_eq] at h
       obtain ⟨_, h⟩ := h
       cases hb : ((opA g v).one && Nat.beq y.size 1) with
       | true => rw [hb] at h; rw [rd_set h]; simp
       | false => rw [hb] at h; exact h.elim
     ·rename_i T' cs _
      rw [withCells_eq] at h
      obtain ⟨vs, _, h⟩ := h
      cases hb : (Nat.beq vs.length y.size && Nat.ble (off + vs.length) cs.length && vs.all A.one) with
      | true => rw [hb] at h; simp only [cond_true, fL_eq] at h; rw [rd_set h]; simp
      | false => rw [hb] at h; exact h.elim
     ·exact h.elim
    rw [ho i hi]; exact h
   | eref i k sz off =>
    simp only [hx] at h ⊢
    have hi : i ∈ e.rd := by
     split at h
     ·rename_i e' es _
      rw [withCells_eq] at h
      obtain ⟨vs, _, h⟩ := h
      split at h
      ·rename_i ds _
       cases hb : (Nat.beq ds.length y.size && vs.all A.one) with
       | true => rw [hb] at h; simp only [cond_true] at h; obtain ⟨el, _, _, _, es', _, h⟩ := h; rw [rd_set h]; simp
       | false => rw [hb] at h; exact h.elim
      ·exact h.elim
     ·cases hb : (Nat.beq off 0 && Nat.beq sz 1 && Nat.beq y.size 1) with
      | false => rw [hb] at h; exact h.elim
      | true =>
       rw [hb, cond_true, fA_eq] at h
       cases hb2 : (opA g v).one with
       | false => rw [hb2] at h; exact h.elim
       | true => rw [hb2, cond_true] at h; obtain ⟨_, cs', _, h⟩ := h; rw [rd_set h]; simp
     ·exact h.elim
    rw [ho i hi]; exact h
   | _ => simp only [hx] at h
 | nilCheck x => simp only [effOp] at h ⊢; rw [hg x (by simp [Op.operands])]; exact h
 | binOp op T x y T' => simp only [effOp] at h ⊢; rw [hg x (by simp [Op.operands]), hg y (by simp [Op.operands])]; exact h
 | unOp op T x => simp only [effOp] at h ⊢; rw [hg x (by simp [Op.operands])]; exact h
 | convert s d x =>
  simp only [effOp] at h ⊢
  rw [hg x (by simp [Op.operands])]
  split at h
  ·exact h
  ·split at h
   ·rename_i hte hel
    obtain ⟨q, h1, h⟩ := h
    rw [hte, elems_same hel (fun i hi => ho i (by rw [rd_put h]; exact hi))]
    exact ⟨q, h1, h⟩
   ·exact h.elim
  ·exact h.elim
 | fieldAddr T x f => simp only [effOp] at h ⊢; rw [hg x (by simp [Op.operands])]; exact h
 | indexAddr T x ix =>
  simp only [effOp] at h ⊢
  rw [hg x (by simp [Op.operands]), hg ix (by simp [Op.operands])]
  split at h
  ·rename_i e' s1 s2 z bk hT
   split at h
   ·rename_i y hy
    cases hx : opA g x with
    | own i =>
     simp only [hx] at h ⊢
     have hi : i ∈ e.rd := by
      split at h
      ·simp only [isInt] at h
       split at h
       ·obtain ⟨k, _, _, h⟩ := h; rw [rd_put h]; simp
       ·exact h.elim
      ·simp only [isInt] at h
       split at h
       ·obtain ⟨k, _, _, h⟩ := h; rw [rd_put h]; simp
       ·exact h.elim
      ·exact h.elim
     rw [ho i hi]; exact h
    | d z => simp only [hx] at h ⊢; cases z <;> first | exact h | exact h.elim
    | lst z => simp only [hx] at h ⊢; exact h
    | _ => simp only [hx] at h
   ·exact h.elim
  ·exact h
  ·exact h.elim
 | makeMap T r => exact h
 | lookup T x ix ok =>
  simp only [effOp] at h ⊢
  rw [hg x (by simp [Op.operands]), hg ix (by simp [Op.operands])]
  split at h
  ·rename_i k e' s1 s2 z fl i key hTy hx hix
   have hi : i ∈ e.rd := by
    split at h
    ·rename_i k' e' es y ho' hy
     cases hb : (Nat.beq k k' && Nat.beq _ e' && keyB tb k key) with
     | false => rw [hb] at h; exact h.elim
     | true =>
      rw [hb] at h
      simp only [cond_true] at h
      obtain ⟨r, hr, h⟩ := h
      cases r <;> cases ok <;> (rw [rd_put h]; simp)
    ·exact h.elim
   simp only [ho i hi]
   exact h
  ·exact h.elim
 | mapUpdate T x ix v =>
  simp only [effOp] at h ⊢
  rw [hg x (by simp [Op.operands]), hg ix (by simp [Op.operands]), hg v (by simp [Op.operands])]
  split at h
  ·rename_i k e' s1 s2 z fl i key v hTy hx hix hv
   have hi : i ∈ e.rd := by
    split at h
    ·rename_i k' e' es ho'
     cases hb : (Nat.beq k k' && Nat.beq _ e' && keyB tb k key) with
     | false => rw [hb] at h; exact h.elim
     | true =>
      rw [hb] at h
      simp only [cond_true] at h
      obtain ⟨r, hr, h⟩ := h
      rw [rd_set h]; simp
    ·exact h.elim
   simp only [ho i hi]
   exact h
  ·exact h.elim
 | makeFunc fn first caps =>
  have e1 : first.toList.map (opA g') = first.toList.map (opA g) := List.map_congr_left fun x hx => hg x (by simp only [Op.operands, Array.toList_append]; exact List.mem_append_left _ hx)
  have e2 : caps.toList.map (opA g') = caps.toList.map (opA g) := List.map_congr_left fun x hx => hg x (by simp only [Op.operands, Array.toList_append]; exact List.mem_append_right _ hx)
  simp only [effOp] at h ⊢
  rw [e1, e2]; exact h
 | slice T x lo hi mx =>
  have b : ∀ (z : Option Operand) (d : Nat) (K : Nat → Prop), (∀ y, z = some y → opA g' y = opA g y) → bnd g' z d K = bnd g z d K := by
   intro z d K hz
   unfold bnd
   cases z with
   | none => rfl
   | some y => simp only [hz y rfl]
  have e1 : opA g' x = opA g x := hg x (by simp [Op.operands])
  have e2 : ∀ y, lo = some y → opA g' y = opA g y := fun y hy => hg y (by simp [Op.operands, hy])
  have e3 : ∀ y, hi = some y → opA g' y = opA g y := fun y hy => hg y (by simp [Op.operands, hy])
  simp only [effOp, b _ _ _ e2, b _ _ _ e3, e1] at h ⊢
  cases mx with
  | some z => simp only [hW, cond_true] at h
  | none =>
   simp only at h ⊢
   split at h
   ·split at h
    ·cases hx : opA g x with
     | own i =>
      simp only [hx] at h ⊢
      have hi : i ∈ e.rd := by
       split at h
       ·rename_i d e' es _
        cases hb : Nat.beq _ e' with
        | false => rw [hb] at h; exact h.elim
        | true =>
         rw [hb] at h
         simp only [cond_true, bnd] at h
         split at h
         ·obtain ⟨_, h⟩ := h
          rcases h with ⟨es', _, h⟩ | h
          ·rw [← h] at hc; cases hc
          ·rw [← h]; simp
         ·simp only [isInt] at h
          split at h
          ·obtain ⟨k, _, _, h⟩ := h
           rcases h with ⟨es', _, h⟩ | h
           ·rw [← h] at hc; cases hc
           ·rw [← h]; simp
          ·exact h.elim
       ·rename_i l0 d e' es _
        cases hb : (Nat.beq _ e' && Option.isNone _) with
        | false => rw [hb] at h; exact h.elim
        | true =>
         rw [hb] at h
         simp only [cond_true, bnd, isInt] at h
         split at h
         ·obtain ⟨k, _, _, h⟩ := h
          rcases h with ⟨es', _, h⟩ | h
          ·rw [← h] at hc; cases hc
          ·rw [← h]; simp
         ·exact h.elim
       ·exact h.elim
      rw [ho i hi]
      split at h
      ·rename_i d e' es ho'
       first | exact h | (rw [ho']; exact h)
      ·rename_i l0 d e' es ho'
       have hz : ∀ K, bnd g' (some l0) 0 K = bnd g (some l0) 0 K := fun K => b _ _ _ e2
       simp only [hz]
       exact h
      ·exact h.elim
     | d z =>
      simp only [hx] at h ⊢
      cases z with
      | v u =>
       split at h
       ·rename_i heq; cases heq; exact h
       ·rename_i heq; cases heq
       ·rename_i heq; cases heq
       ·exact h.elim
      | seq es => exact h
      | _ => exact h.elim
     | _ => simp only [hx] at h
    ·exact h
   ·split at h
    ·split at h
     ·rename_i i d hx
      have hi : i ∈ e.rd := by
       split at h
       ·rcases h with h | h
        ·simp only [bnd] at h
         split at h
         ·obtain ⟨_, es, _, _, _, h⟩ := h; rw [← h]; simp
         ·simp only [isInt] at h
          split at h
          ·obtain ⟨k, _, _, es, _, _, _, h⟩ := h; rw [← h]; simp
          ·exact h.elim
        ·simp only [bnd] at h
         split at h
         ·obtain ⟨_, h⟩ := h; rw [← h]; simp
         ·simp only [isInt] at h
          split at h
          ·obtain ⟨k, _, _, h⟩ := h; rw [← h]; simp
          ·exact h.elim
       ·simp only [bnd] at h
        split at h
        ·obtain ⟨_, es, _, _, _, h⟩ := h; rw [← h]; simp
        ·simp only [isInt] at h
         split at h
         ·obtain ⟨k, _, _, es, _, _, _, h⟩ := h; rw [← h]; simp
         ·exact h.elim
       ·exact h.elim
      rw [ho i hi]; exact h
     ·rename_i l0 i d hx
      have hi : i ∈ e.rd := by
       split at h
       ·simp only [bnd, isInt] at h
        split at h
        ·obtain ⟨k, _, _, h⟩ := h; rw [← h]; simp
        ·exact h.elim
       ·exact h.elim
      rw [ho i hi]
      split at h
      ·rename_i T' cs ho'
       have hz : ∀ K, bnd g' (some l0) 0 K = bnd g (some l0) 0 K := fun K => b _ _ _ e2
       simp only [ho', hz]
       exact h
      ·exact h.elim
     ·rename_i i k0 sz0 q0 d hx
      have hi : i ∈ e.rd := by
       split at h
       ·simp only [bnd] at h
        split at h
        ·obtain ⟨_, _, _, h⟩ := h; rw [← h]; simp
        ·simp only [isInt] at h
         split at h
         ·obtain ⟨k, _, _, _, _, h⟩ := h; rw [← h]; simp
         ·exact h.elim
       ·exact h.elim
      rw [ho i hi]; exact h
     ·simp only [hW, cond_true] at h
     ·exact h
    ·exact h
   ·exact h
 | makeInterface T x => simp only [effOp, hW, cond_true] at h
 | typeAssert x T' T ok => cases ok with
  | true => simp only [effOp, hW, cond_true] at h
  | false => simp only [effOp] at h
 | panic x => simp only [effOp, hW, cond_true] at h
 | makeSlice T l c =>
  simp only [effOp] at h ⊢
  rw [hg l (by simp [Op.operands]), hg c (by simp [Op.operands])]; exact h
 | extract t i => simp only [effOp] at h ⊢; rw [hg t (by simp [Op.operands])]; exact h
 | field T x i => simp only [effOp] at h ⊢; rw [hg x (by simp [Op.operands])]; exact h
 | index T x i => simp only [effOp] at h ⊢; rw [hg x (by simp [Op.operands]), hg i (by simp [Op.operands])]; exact h
 | call c =>
  have hargs : c.args.toList.map (opA g') = c.args.toList.map (opA g) := List.map_congr_left fun x hx => hg x (by simp only [Op.operands, Call.operands, Array.toList_append]; exact List.mem_append_right _ hx)
  cases hcc : c.callee with
  | value f =>
   have hf : opA g' f = opA g f := hg f (by simp [Op.operands, Call.operands, hcc])
   simp only [effOp, hcc] at h ⊢
   rw [hf, hargs]
   split at h
   ·rename_i fid first caps hfn
    rw [Ch3.iff] at h ⊢
    rcases h with h | ⟨hw, ρ, v, hS, h⟩ | h
    ·unfold effInp at h
     rw [hW, cond_true] at h
     exact h.elim
    ·right
     left
     have hrd : e.rd = ρ := by
      split at h
      ·cases hb : (nodupB ρ && (ρ.all fun j => Nat.blt j nid) && (pres o [] ρ).all Ob.sure) with
       | false => rw [hb] at h; exact h.elim
       | true => rw [hb, cond_true] at h; rw [← h]
      ·exact h.elim
     have hp : pres o' [] ρ = pres o [] ρ := by
      unfold pres
      exact List.map_congr_left fun j hj => by rw [ho j (by rw [hrd]; exact hj)]
     have hs : sameO o' ρ = sameO o ρ := sameO_congr fun j hj => ho j (by rw [hrd]; exact hj)
     refine ⟨hw, ρ, v, by rw [hp]; exact hS, ?_⟩
     rw [hp, hs]
     exact h
    right
    right
    rcases h with h | ⟨ρ, N, r, post, hS, h⟩
    ·obtain ⟨as, frz, hh⟩ : ∃ as frz, handL true o (first ++ c.args.toList.map (opA g) ++ caps) = (as, frz) := ⟨_, _, rfl⟩
     rw [hh] at h
     simp only at h
     have hl : handL true o' (first ++ c.args.toList.map (opA g) ++ caps) = (as, frz) := by
      split at h
      ·rename_i ds hds
       obtain ⟨r, _, h⟩ := h
       have hrd : e.rd = frz.map (·.1) := by
        unfold effPure at h
        split at h
        ·cases dst with
         | some d => simp only [fA_eq] at h; rw [← h]; rfl
         | none => simp only at h; rw [← h]; rfl
        ·rcases h with ⟨_, h⟩ | h
         ·cases dst with
          | some d => simp only [fA_eq] at h; rw [← h]
          | none => simp only at h; rw [← h]
         ·cases dst with
          | some d => simp only [fA_eq] at h; rw [← h]
          | none => simp only at h; rw [← h]
       have hin := ownIds_in (o := o) (l := first ++ c.args.toList.map (opA g) ++ caps) (ds := ds) (by rw [hh]; exact hds)
       rw [hh] at hin
       rw [handL_own (o := o), hh]
       intro i hi
       exact ho i (by rw [hrd]; exact hin i hi)
      ·rcases h with ⟨ds, r, _, _, _, h⟩ | ⟨ds, T, es, h1, h2, h3, h4, h⟩
       rotate_left
       ·rw [handL_own (o := o), hh]
        intro i hi
        rw [lendV_own h2] at hi
        cases hi
       have hrd : e.rd = ownIds (first ++ (c.args.toList.map (opA g)) ++ caps) := by
        cases dst with
        | some d => simp only [fA_eq] at h; rw [← h]
        | none => simp only at h; rw [← h]
       rw [handL_own (o := o), hh]
       intro i hi
       exact ho i (by rw [hrd]; exact hi)
     rw [hl]
     cases hds : toDs as with
     | some ds => rw [hds] at h; simp only [hds]; exact .inl h
     | none =>
      rw [hds] at h
      simp only [hds]
      rcases h with ⟨ds, r, h1, h2, h3, h⟩ | ⟨ds, T, es, h1, h2, h3, h4, h⟩
      ·have hrd : e.rd = ownIds (first ++ (c.args.toList.map (opA g)) ++ caps) := by
        cases dst with
        | some d => simp only [fA_eq] at h; rw [← h]
        | none => simp only at h; rw [← h]
       exact .inl (.inl ⟨ds, r, lendL_same (fun i hi => ho i (by rw [hrd]; exact hi)) h1, h2, h3, h⟩)
      ·cases dst with
       | none => exact h.elim
       | some d =>
        have hrd : e.rd = viewIds o (first ++ (c.args.toList.map (opA g)) ++ caps) := by simp only at h; rw [← h]
        obtain ⟨q1, q2⟩ := lendV_same (o' := o') (fun i hi => ho i (by rw [hrd]; exact hi)) h2
        exact .inl (.inr ⟨ds, T, es, h1, q1, h3, h4, by rw [q2]; exact h⟩)
    ·obtain ⟨as, frz, hh⟩ : ∃ as frz, handL false (hideO ρ o) (first ++ c.args.toList.map (opA g) ++ caps) = (as, frz) := ⟨_, _, rfl⟩
     rw [hh] at h hS
     simp only at h hS
     cases hb : borB ρ nid N S.w (pres o frz ρ) post with
     | false => rw [hb] at h; exact h.elim
     | true =>
      rw [hb, cond_true] at h
      by_cases hfr : frB S.w frz = true
      ·rw [hfr, cond_true] at h
       have h2 : e.rd = ρ ++ frz.map (·.1) ++ ownIds (first ++ (c.args.toList.map (opA g)) ++ caps) ∧ ρ = [] := by
        unfold effFr at h
        split at h
        ·obtain ⟨_, h⟩ := h
         cases dst with
         | some d => simp only at h; rw [← h]; exact ⟨rfl, rfl⟩
         | none => simp only at h; rw [← h]; exact ⟨rfl, rfl⟩
        ·exact h.elim
       have hl : handL false (hideO ρ o') (first ++ c.args.toList.map (opA g) ++ caps) = (as, frz) := by
        rw [handL_own (o := hideO ρ o), hh]
        intro i hi
        unfold hideO
        rw [ho i (by rw [h2.1]; exact List.mem_append_right _ hi)]
       have hp : pres o' frz ρ = pres o frz ρ := by
        rw [h2.2]
        unfold pres
        cases frz <;> rfl
       refine .inr ⟨ρ, N, r, post, by rw [hl]; simp only; rw [hp]; exact hS, ?_⟩
       rw [hl]
       simp only
       rw [hp, hb, cond_true, hfr]
       exact h
      rw [Bool.not_eq_true] at hfr
      rw [hfr, cond_false] at h
      have h2 : e.frz = frz ∧ e.rd = ρ ++ frz.map (·.1) ++ ownIds (first ++ (c.args.toList.map (opA g)) ++ caps) := by
       unfold effBor at h
       cases dst with
       | some d => simp only [forceA_eq, outObs_eq] at h; rw [← h]; exact ⟨rfl, rfl⟩
       | none => simp only [outObs_eq] at h; rw [← h]; exact ⟨rfl, rfl⟩
      have hz2 : frz = [] := by rw [← h2.1]; exact hz
      have hl : handL false (hideO ρ o') (first ++ c.args.toList.map (opA g) ++ caps) = (as, frz) := by
       rw [handL_own (o := hideO ρ o), hh]
       intro i hi
       unfold hideO
       rw [ho i (by rw [h2.2]; exact List.mem_append_right _ hi)]
      have hp : pres o' frz ρ = pres o frz ρ := by
       rw [hz2]
       unfold pres
       exact List.map_congr_left fun j hj => by rw [ho j (by rw [h2.2]; exact List.mem_append_left _ (List.mem_append_left _ hj))]
      refine .inr ⟨ρ, N, r, post, by rw [hl]; simp only; rw [hp]; exact hS, ?_⟩
      rw [hl]
      simp only
      rw [hp, hb, cond_true, hfr]
      exact h
   ·split at h
    ·rename_i i hfo
     have key : ∀ k ds, o i = some (.env k) → toDs (handL true o (c.args.toList.map (opA g))).1 = some ds → e.rd = i :: (handL true o (c.args.toList.map (opA g))).2.map (·.1) → e.frz = (handL true o (c.args.toList.map (opA g))).2 →
       o' i = o i ∧ handL true o' (c.args.toList.map (opA g)) = handL true o (c.args.toList.map (opA g)) := by
      intro k ds h1 h2 h3 h4
      refine ⟨ho i (by rw [h3]; simp), handL_same (noOwn_of h2 (by rw [← h4]; exact hz))⟩
     split at h
     ·rename_i k hi
      split at h
      ·rename_i ds hds
       obtain ⟨b, hy, h⟩ := h
       have h3 : e.rd = i :: (handL true o (c.args.toList.map (opA g))).2.map (·.1) ∧ e.frz = (handL true o (c.args.toList.map (opA g))).2 := by
        cases dst with
        | some d => simp only at h; rw [← h]; exact ⟨rfl, rfl⟩
        | none => simp only at h; rw [← h]; exact ⟨rfl, rfl⟩
       obtain ⟨q1, q2⟩ := key k ds hi hds h3.1 h3.2
       rw [q1, q2]
       simp only [hi, hds]
       exact ⟨b, hy, h⟩
      ·exact h.elim
     ·exact h.elim
    ·exact h.elim
  | builtin b =>
   cases b with
   | len =>
    simp only [effOp, hcc] at h ⊢
    split at h
    ·rename_i x T hx hT
     rw [hg x (by simp [Op.operands, Call.operands, hcc, hx])]
     split at h
     ·split at h
      ·rename_i i hxi
       have hi : i ∈ e.rd := by
        split at h
        ·rw [rd_put h]; simp
        ·exact h.elim
       rw [ho i hi]
       exact h
      ·exact h.elim
     ·split at h
      ·rename_i es rd hel
       rw [elems_same hel (fun i hi => ho i (by rw [rd_put h]; exact hi))]
       exact h
      ·split at h
       ·rename_i i hxi
        split at h
        ·rename_i T' cs hoi
         have hi := ho i (by rw [rd_put h]; simp)
         simp only [elemsOf, hi, hoi, hxi]
         exact h
        ·exact h.elim
       ·exact h.elim
     ·exact h.elim
    ·exact h.elim
   | cap =>
    simp only [effOp, hcc] at h ⊢
    split at h
    ·rename_i x T hx hT
     rw [hg x (by simp [Op.operands, Call.operands, hcc, hx])]
     exact h
    ·exact h.elim
   | copy =>
    simp only [effOp, hcc] at h ⊢
    split at h
    ·rename_i x v T T' hx hT
     rw [hg x (by simp [Op.operands, Call.operands, hcc, hx]), hg v (by simp [Op.operands, Call.operands, hcc, hx])]
     split at h
     ·rename_i e0 s1 s2 z bk ys rd hTy hel
      split at h
      ·rename_i y hy
       cases hb : Nat.beq T T' with
       | false => rw [hb] at h; exact h.elim
       | true =>
        have h0 := h
        rw [hb, cond_true] at h
        split at h
        ·rename_i i off sz q hxx
         split at h
         ·rename_i bulk T0 cs hoi
          cases hb2 : (Nat.beq sz y.size && !rd.contains i) with
          | false => rw [hb2] at h; exact h.elim
          | true =>
           rw [hb2, cond_true] at h
           obtain ⟨h1, h2, cs', h3, h⟩ := h
           have hrd : e.rd = i :: rd := by
            cases dst with
            | some d => simp only at h; rw [← h]
            | none => simp only at h; rw [← h]
           rw [elems_same hel (fun j hj => ho j (by rw [hrd]; exact List.mem_cons_of_mem _ hj))]
           simp only [hTy, hy, hb, hxx, cond_true, ho i (by rw [hrd]; exact List.mem_cons_self ..), hoi, hb2]
           exact ⟨h1, h2, cs', h3, h⟩
         ·exact h.elim
        ·rename_i i ysz off sz q hno hxx
         split at h
         ·rename_i e' es hoi
          cases hb2 : (Nat.beq e0 e' && Nat.beq sz y.size && Nat.beq ysz y.size) with
          | false => rw [hb2] at h; exact h.elim
          | true =>
           rw [hb2, cond_true] at h
           obtain ⟨l, q0, h1, h2, es', h3, h⟩ := h
           have hrd : e.rd = i :: rd := by
            cases dst with
            | some d => simp only at h; rw [← h]
            | none => simp only at h; rw [← h]
           rw [elems_same hel (fun j hj => ho j (by rw [hrd]; exact List.mem_cons_of_mem _ hj))]
           simp only [hTy, hy, hb, hxx, cond_true, ho i (by rw [hrd]; exact List.mem_cons_self ..), hoi, hb2]
           exact ⟨l, q0, h1, h2, es', h3, h⟩
         ·exact h.elim
        ·rename_i i hxx
         split at h
         ·rename_i e' es hoi
          cases hb2 : (Nat.beq e0 e' && !rd.contains i) with
          | false => rw [hb2] at h; exact h.elim
          | true =>
           rw [hb2, cond_true] at h
           obtain ⟨h1, es', h3, h⟩ := h
           have hrd : e.rd = i :: rd := by
            cases dst with
            | some d => simp only at h; rw [← h]
            | none => simp only at h; rw [← h]
           rw [elems_same hel (fun j hj => ho j (by rw [hrd]; exact List.mem_cons_of_mem _ hj))]
           simp only [hTy, hy, hb, hxx, cond_true, ho i (by rw [hrd]; exact List.mem_cons_self ..), hoi, hb2]
           exact ⟨h1, es', h3, h⟩
         ·exact h.elim
        ·exact h.elim
      ·exact h.elim
     ·exact h.elim
    ·exact h.elim
   | max =>
    simp only [effOp, hcc] at h ⊢
    split at h
    ·rename_i x y hx
     rw [hg x (by simp [Op.operands, Call.operands, hcc, hx]), hg y (by simp [Op.operands, Call.operands, hcc, hx])]
     exact h
    ·exact h.elim
   | min =>
    simp only [effOp, hcc] at h ⊢
    split at h
    ·rename_i x y hx
     rw [hg x (by simp [Op.operands, Call.operands, hcc, hx]), hg y (by simp [Op.operands, Call.operands, hcc, hx])]
     exact h
    ·exact h.elim
   | append =>
    simp only [effOp, hcc] at h ⊢
    split at h
    ·rename_i s x T T' d hx hT
     rw [hg x (by simp [Op.operands, Call.operands, hcc, hx]), hg s (by simp [Op.operands, Call.operands, hcc, hx])]
     split at h
     ·rename_i e0 s1 s2 z bk hTy
      split at h
      ·rename_i y ys rd hy hel
       cases hb : (Nat.beq T T' && Nat.blt 0 y.size && Nat.blt 0 y.bytes) with
       | false => rw [hb] at h; exact h.elim
       | true =>
        have h0 := h
        rw [hb] at h
        simp only [cond_true] at h
        split at h
        ·rename_i hs
         obtain ⟨h1, h2, h⟩ := h
         have hrd : e.rd = rd := by rw [← h]
         rw [hy, elems_same hel (fun i hi => ho i (by rw [hrd]; exact hi))]
         simp only [hs] at h0 ⊢
         exact h0
        ·rename_i i hs
         split at h
         ·rename_i e' es ho'
          cases hb2 : (Nat.beq e0 e' && !rd.contains i) with
          | false => rw [hb2] at h; exact h.elim
          | true =>
           rw [hb2] at h
           simp only [cond_true] at h
           obtain ⟨h1, h2, h⟩ := h
           cases hW : Nat.beq S.w 8 with
           | false => rw [hW, cond_false] at h; rw [← h] at hc; cases hc
           | true =>
            rw [hW, cond_true] at h
            have hrd : e.rd = i :: rd := by rw [← h]
            rw [hy, elems_same hel (fun j hj => ho j (by rw [hrd]; exact List.mem_cons_of_mem _ hj))]
            simp only [hs] at h0 ⊢
            rw [ho i (by rw [hrd]; exact List.mem_cons_self ..)]
            rw [hW] at h0
            exact h0
         ·simp only [hW, Bool.not_true, Bool.and_false, cond_false] at h
         ·exact h.elim
        ·exact h.elim
      ·split at h
       ·split at h
        ·simp only [hW, Bool.not_true, Bool.and_false, cond_false] at h
        ·exact h.elim
       ·split at h
        ·simp only [hW, Bool.not_true, Bool.and_false, cond_false] at h
        ·exact h.elim
       ·split at h
        ·split at h
         ·simp only [hW, Bool.not_true, Bool.and_false, cond_false] at h
         ·exact h.elim
        ·exact h.elim
       ·exact h.elim
      ·exact h.elim
     ·exact h.elim
    ·exact h.elim
   | clear => simp only [effOp, hcc, hW, cond_true] at h
   | _ => simp only [effOp, hcc] at h
  | invoke r nm => simp only [effOp, hcc] at h
 | insert T x ix v => simp only [effOp, hW, cond_true] at h
 | range T x => simp only [effOp, hW, cond_true] at h
 | next x str => simp only [effOp, hW, Bool.true_or, cond_true] at h
 | entry x => simp only [effOp, hW, cond_true] at h
 | _ => simp only [effOp] at h
end Go.Ev


namespace Go.Ev
open RowKit
def evStep (tb : TB) (S : Sums) (l : List Oper) (x : Oper) (g : Nat → A) (o : Nat → Option Ob) (nid : Nat) (K : Eff → Prop) : Prop :=
 match x.guard with
 | none => effOp tb S x.op x.dst g o nid K
 | some (j, want) =>
  match ((l[j]?).bind (·.dst)).map g with
  | some (.d (.v (.bool b))) => (match want with
   | true => (b = true → effOp tb S x.op x.dst g o nid K) ∧ (b = false → effPut x.dst (.d (.v undef)) [] K)
   | false => (b = true → effPut x.dst (.d (.v undef)) [] K) ∧ (b = false → effOp tb S x.op x.dst g o nid K))
  | some (.d (.v (.tuple _))) => effPut x.dst (.d (.v undef)) [] K
  | _ => False
def freshB (n : Nat) (e : Eff) : Bool :=
 match e with
 | ⟨_, obs, _, new, _, _⟩ => ltB (n + new) obs
theorem freshB_eq (n : Nat) (e : Eff) : freshB n e = e.obs.all fun p => Nat.blt p.1 (n + e.new) := by
 obtain ⟨_, obs, _, new, _, _⟩ := e
 exact ltB_eq _ _
def panB : List (Nat × Ob) → Bool
 | [] => false
 | (_, x) :: r => match x with
  | .pan _ => true
  | _ => panB r
def panIn (ob : List (Nat × Ob)) : List (Nat × Ob) → Bool
 | [] => false
 | (i, x) :: r => match x with
  | .pan _ => (match lookO ob i with
   | some (.pan _) => true
   | _ => panIn ob r)
  | _ => panIn ob r
def panAll (v : Value) : List (Nat × Ob) → Prop
 | [] => True
 | (_, x) :: r => match x with
  | .pan u => u = v ∧ panAll v r
  | _ => panAll v r
def killO (os : List Nat) : List (Nat × Ob) → (List (Nat × Ob) → Prop) → Prop
 | [], K => K []
 | (i, x) :: r, K => bif memN os i then killO os r fun r => K ((i, x) :: r) else killO os r fun r => K ((i, .dead) :: r)
theorem panB_mem : ∀ {l : List (Nat × Ob)} {i : Nat} {v : Value}, (i, Ob.pan v) ∈ l → panB l = true
 | (j, x) :: r, i, v, h => by
  rcases List.mem_cons.1 h with h | h
  ·cases h; rfl
  ·have := panB_mem h
   cases x <;> first | rfl | exact this
theorem panIn_spec {ob : List (Nat × Ob)} : ∀ {l : List (Nat × Ob)}, panIn ob l = true → ∃ i v, lookO ob i = some (.pan v)
 | [], h => by simp [panIn] at h
 | (j, x) :: r, h => by
  cases x with
  | pan u =>
   simp only [panIn] at h
   split at h
   ·rename_i u' hu; exact ⟨j, u', hu⟩
   ·exact panIn_spec h
  | _ => exact panIn_spec (l := r) h
theorem panAll_mem {v : Value} : ∀ {l : List (Nat × Ob)} {i : Nat} {u : Value}, panAll v l → (i, Ob.pan u) ∈ l → u = v
 | (j, x) :: r, i, u, h, hm => by
  rcases List.mem_cons.1 hm with hm | hm
  ·cases hm; exact h.1
  ·refine panAll_mem (l := r) ?_ hm
   cases x <;> first | exact h.2 | exact h
theorem killO_eq (os : List Nat) (l : List (Nat × Ob)) (K : List (Nat × Ob) → Prop) : killO os l K = K (l.map fun p => (p.1, bif memN os p.1 then p.2 else .dead)) := by
 induction l generalizing K with
 | nil => rfl
 | cons p l ih =>
  obtain ⟨i, x⟩ := p
  simp only [killO, List.map_cons]
  cases memN os i <;> simp only [cond_true, cond_false, ih]
theorem lookO_kill (os : List Nat) : ∀ (l : List (Nat × Ob)) (i : Nat), lookO (l.map fun p => (p.1, bif memN os p.1 then p.2 else .dead)) i = deadO os (lookO l) i
 | [], i => by
  show none = deadO os (lookO []) i
  unfold deadO
  cases memN os i <;> rfl
 | (k, x) :: r, i => by
  have ih := lookO_kill os r i
  simp only [List.map_cons, lookO]
  cases e : Nat.beq k i with
  | true =>
   have e := Nat.eq_of_beq_eq_true e
   subst e
   unfold deadO
   simp only [cond_true, lookO, beq_self]
   cases memN os k <;> rfl
  | false =>
   rw [cond_false, ih]
   unfold deadO
   simp only [lookO, e, cond_false]
def panE (e : Eff) : Bool :=
 match e with
 | ⟨_, obs, _, _, _, _⟩ => panB obs
theorem panE_eq (e : Eff) : panE e = panB e.obs := by obtain ⟨_, _, _, _, _, _⟩ := e; rfl
def endP (e : Eff) (s : St) (KP : Value → St → Prop) : Prop :=
 match s, e with
 | ⟨sl, ob, n⟩, ⟨_, obs, _, new, _, _⟩ => bif panIn obs obs then ∃ (v : Value) (os : List Nat), panAll v obs ∧ (obs.all fun p => !memN os p.1) = true ∧ killO os ob fun ob => KP v ⟨sl, ob, n + new⟩ else False
theorem endP_eq (e : Eff) (s : St) (KP : Value → St → Prop) : endP e s KP =
  (bif panIn e.obs e.obs then ∃ (v : Value) (os : List Nat), panAll v e.obs ∧ (e.obs.all fun p => !memN os p.1) = true ∧ killO os s.ob fun ob => KP v ⟨s.sl, ob, s.n + e.new⟩ else False) := by
 obtain ⟨_, _, _⟩ := s; obtain ⟨_, _, _, _, _, _⟩ := e; rfl
def evSeqN : St → (St → Prop) → (Value → St → Prop) → Prop := fun s K _ => K s
def evSeqM (tb : TB) (S : Sums) (l : List Oper) (x : Oper) (_r : List Oper) (ih : St → (St → Prop) → (Value → St → Prop) → Prop) : St → (St → Prop) → (Value → St → Prop) → Prop := fun s K KP =>
 gN s fun n => evStep tb S l x s.get s.obj n fun e => bif freshB n e then (bif panE e then endP e s KP else s.app e fun s => fS s fun s => ih s K KP) else False
noncomputable def evSeq (tb : TB) (S : Sums) (l : List Oper) (ops : List Oper) (s : St) (K : St → Prop) (KP : Value → St → Prop) : Prop :=
 List.rec (motive := fun _ => St → (St → Prop) → (Value → St → Prop) → Prop) evSeqN (evSeqM tb S l) ops s K KP
theorem evSeq_cons {tb : TB} {S : Sums} {l : List Oper} {x : Oper} {r : List Oper} {s : St} {K : St → Prop} {KP : Value → St → Prop} : evSeq tb S l (x :: r) s K KP = gN s fun n => evStep tb S l x s.get s.obj n fun e =>
   bif freshB n e then (bif panE e then endP e s KP else s.app e fun s => fS s fun s => evSeq tb S l r s K KP) else False := rfl
def St.ok (s : St) : Prop := ∀ i, s.n ≤ i → s.obj i = none
section
variable {tb : TB} {X : Ctx} {P : Program} {Wn : Nat} {Y : Nat → List D → Bool → Prop} {F : Fence} {n : Nat} {g : Nat → A} {o : Nat → Option Ob} {a : Act} {w : World} {G : Nat → Option GR} {I : Nat → Prop} {K : Eff → Prop} {x : Oper} {ops : Array Oper} {nid : Nat}
theorem Mod.yielded_bool (m : Mod tb X g o a w G I) {j : Nat} {b : Bool} (h : ((ops.toList[j]?).bind (·.dst)).map g = some (.d (.v (.bool b)))) : yielded ops a.tmps j = some b := by
 cases hd : (ops[j]?).bind (·.dst) with
 | none => rw [Array.getElem?_toList, hd] at h; cases h
 | some d =>
  rw [Array.getElem?_toList, hd] at h
  simp only [Option.map_some, Option.some.injEq] at h
  have := m.slots d
  rw [h, RepA, RepD] at this
  unfold yielded
  rw [hd]
  rcases Nat.lt_or_ge d a.tmps.size with hl | hl
  ·simp [hl] at this
   simp [hl, this]
  ·simp [Array.getD, Nat.not_lt.2 hl, undef] at this
theorem Mod.yielded_none (m : Mod tb X g o a w G I) {j : Nat} {c : Array Value} (h : ((ops.toList[j]?).bind (·.dst)).map g = some (.d (.v (.tuple c)))) : yielded ops a.tmps j = none := by
 cases hd : (ops[j]?).bind (·.dst) with
 | none => rw [Array.getElem?_toList, hd] at h; cases h
 | some d =>
  rw [Array.getElem?_toList, hd] at h
  simp only [Option.map_some, Option.some.injEq] at h
  have := m.slots d
  rw [h, RepA, RepD] at this
  unfold yielded
  rw [hd]
  rcases Nat.lt_or_ge d a.tmps.size with hl | hl
  ·simp [hl] at this
   simp [hl, this]
  ·simp [Array.getElem?_eq_none hl]
def StepDoes (F : Fence) (n : Nat) (P : Program) (ops : Array Oper) (x : Oper) (next : Act → World → Prop) (Q : Exit → Act → World → Prop) (a : Act) (w : World) : Prop :=
 if Region.wanted x (yielded ops a.tmps) then x.wpIn F n P a w next Q else (∀ f, x.about P w a.eval = some f → F.fn f) ∧ next (a.put x.dst undef) w
theorem undef_step (hF : Wide F) (m : Mod tb X g o a w G I) (hdst : ∀ d, x.dst = some d → d < X.nt) (hw : Region.wanted x (yielded ops a.tmps) = false) (h : effPut x.dst (.d (.v undef)) [] K) :
  ∃ e, K e ∧ ∀ next Q, (∀ a' w' G' I', Mod tb X (appG e g) (appO e o) a' w' G' I' → next a' w') → StepDoes F n P ops x next Q a w := by
 have m2 := m.slotE hdst (x := .d (.v undef)) (v := undef) (by rw [RepA, RepD])
 unfold effPut at h
 cases hd : x.dst with
 | some d =>
  simp only [hd, fA_eq] at h
  refine ⟨_, h, fun next Q hn => ?_⟩
  unfold StepDoes
  rw [hw]
  refine ⟨fun _ _ => hF.fn _, hn _ _ G I ?_⟩
  rw [appO_id rfl rfl rfl, hd]
  rw [hd] at m2
  exact m2
 | none =>
  simp only [hd] at h
  refine ⟨_, h, fun next Q hn => ?_⟩
  unfold StepDoes
  rw [hw]
  refine ⟨fun _ _ => hF.fn _, hn _ _ G I ?_⟩
  rw [appO_id rfl rfl rfl, hd]
  rw [hd] at m2
  exact m2
def StepPans (tb : TB) (X : Ctx) (F : Fence) (n : Nat) (P : Program) (ops : Array Oper) (x : Oper) (g : Nat → A) (o : Nat → Option Ob) (a : Act) (w : World) (e : Eff) : Prop :=
 ∃ i v, (i, Ob.pan v) ∈ e.obs ∧ ∀ next Q, (∀ w' G' I', (∀ os : List Nat, (∀ j ∈ os, ∀ p ∈ e.obs, p.1 ≠ j) → Mod tb X g (deadO os o) a w' G' I') → Q (.panic [{ v := v, recovered := false }]) a w') → StepDoes F n P ops x next Q a w
theorem step_sound (hP : PG P tb) (hF : Wide F) (hE : EnvOK P X.E Y) (m : Mod tb X g o a w G I) (hdst : ∀ d, x.dst = some d → d < X.nt) (hn : o nid = none) (hw : ∀ k, k < Wn → o (nid + k) = none) (hnb : X.nb ≤ nid)
  (h : evStep tb (Con P tb Wn Y) ops.toList x g o nid K) : (∃ e, K e ∧ ∀ next Q, (∀ a' w' G' I', Mod tb X (appG e g) (appO e o) a' w' G' I' → next a' w') → StepDoes F n P ops x next Q a w) ∨
   (True ∧ ∃ e, K e ∧ StepPans tb X F n P ops x g o a w e) := by
 unfold evStep at h
 split at h
 ·rename_i hg
  rcases eff_sound (F := F) (n := n) hP hF hE m hdst hn hw hnb h with ⟨e, hK, hd⟩ | ⟨hW, e, hK, i, v, hm, hd⟩
  ·refine .inl ⟨e, hK, fun next Q hnx => ?_⟩
   unfold StepDoes
   rw [if_pos (by simp [Region.wanted, hg])]
   exact hd next Q hnx
  ·refine .inr ⟨hW, e, hK, i, v, hm, fun next Q hnx => ?_⟩
   unfold StepDoes
   rw [if_pos (by simp [Region.wanted, hg])]
   exact hd next Q hnx
 ·rename_i j want hg
  split at h
  ·rename_i b hb
   have hy := m.yielded_bool (ops := ops) hb
   by_cases e : b = want
   ·have h : effOp tb (Con P tb Wn Y) x.op x.dst g o nid K := by cases want with
     | true => exact And.left h e
     | false => exact And.right h e
    rcases eff_sound (F := F) (n := n) hP hF hE m hdst hn hw hnb h with ⟨e', hK, hd⟩ | ⟨hW, e', hK, i, v, hm, hd⟩
    ·refine .inl ⟨e', hK, fun next Q hnx => ?_⟩
     unfold StepDoes
     rw [if_pos (by simp [Region.wanted, hg, hy, e])]
     exact hd next Q hnx
    ·refine .inr ⟨hW, e', hK, i, v, hm, fun next Q hnx => ?_⟩
     unfold StepDoes
     rw [if_pos (by simp [Region.wanted, hg, hy, e])]
     exact hd next Q hnx
   ·exact .inl <| undef_step hF m hdst (by simp [Region.wanted, hg, hy, e]) (by cases want <;> cases b <;> first | exact absurd rfl e | exact And.left h rfl | exact And.right h rfl)
  ·rename_i c hb
   have hy := m.yielded_none (ops := ops) hb
   exact .inl <| undef_step hF m hdst (by simp [Region.wanted, hg, hy]) h
  ·exact h.elim
theorem step_ex {S : Sums} {l : List Oper} (hW : Nat.beq S.w 8 = true) (h : evStep tb S l x g o nid K) : ∃ e, K e ∧ evStep tb S l x g o nid (fun e' => e' = e) := by
 unfold evStep at h ⊢
 split at h
 ·exact eff_ex hW h
 ·split at h
  ·rename_i j want hg _ b hb
   cases want with
   | true =>
    cases b with
    | true => obtain ⟨e', h1, h2⟩ := eff_ex hW (And.left h rfl); exact ⟨e', h1, And.intro (fun _ => h2) (fun he => nomatch he)⟩
    | false => obtain ⟨e', h1, h2⟩ := ex_put (And.right h rfl); exact ⟨e', h1, And.intro (fun he => nomatch he) (fun _ => h2)⟩
   | false =>
    cases b with
    | true => obtain ⟨e', h1, h2⟩ := ex_put (And.left h rfl); exact ⟨e', h1, And.intro (fun _ => h2) (fun he => nomatch he)⟩
    | false => obtain ⟨e', h1, h2⟩ := eff_ex hW (And.right h rfl); exact ⟨e', h1, And.intro (fun he => nomatch he) (fun _ => h2)⟩
  ·exact ex_put h
  ·exact h.elim
theorem opA_looks {g g' : Nat → A} (h : ∀ t ∈ x.looksAt ops, g' t = g t) : ∀ y ∈ x.op.operands.toList, opA g' y = opA g y := by
 intro y hy
 cases y with
 | tmp t => exact h t (List.mem_append_left _ (List.mem_filterMap.2 ⟨.tmp t, hy, rfl⟩))
 | _ => rfl
theorem step_frame {S : Sums} {g' : Nat → A} {o' : Nat → Option Ob} {e : Eff} (hW : Nat.beq S.w 8 = true) (h : evStep tb S ops.toList x g o nid (fun e' => e' = e)) (hg : ∀ t ∈ x.looksAt ops, g' t = g t) (ho : ∀ i ∈ e.rd, o' i = o i)
  (hz : e.frz = []) (hc : e.clr = []) : evStep tb S ops.toList x g' o' nid (fun e' => e' = e) := by
 unfold evStep at h ⊢
 split at h
 ·exact eff_frame hW h (opA_looks hg) ho hz hc
 ·rename_i j want hgd
  have hm : ((ops.toList[j]?).bind (·.dst)).map g' = ((ops.toList[j]?).bind (·.dst)).map g := by
   cases hd : (ops.toList[j]?).bind (·.dst) with
   | none => rfl
   | some d =>
    simp only [Option.map_some, Option.some.injEq]
    refine hg d (List.mem_append_right _ ?_)
    rw [Array.getElem?_toList] at hd
    simp [hgd, hd]
  rw [hm]
  split at h
  ·cases want with
   | true => exact And.intro (fun e => eff_frame hW (And.left h e) (opA_looks hg) ho hz hc) (And.right h)
   | false => exact And.intro (And.left h) (fun e => eff_frame hW (And.right h e) (opA_looks hg) ho hz hc)
  ·exact h
  ·exact h.elim
theorem seq_sound {P : Program} {tb : TB} {Wn : Nat} {Y : Nat → List D → Bool → Prop} {F : Fence} (hP : PG P tb) (hF : Wide F) (hE : EnvOK P X.E Y) {Q : Exit → Act → World → Prop} {K : St → Prop} {KP : Value → St → Prop} : ∀ (l : List Oper) (k : Nat) {a : Act} {w : World} {s : St} {G : Nat → Option GR} {I : Nat → Prop}, (∀ j, l[j]? = ops.toList[k + j]?) →
  (∀ y ∈ ops.toList, ∀ d, y.dst = some d → d < X.nt) → X.nb ≤ s.n → s.ok → Mod tb X s.get s.obj a w G I → evSeq tb (Con P tb Wn Y) ops.toList l s K KP →
  (∀ a' w' s' G' I', Mod tb X s'.get s'.obj a' w' G' I' → s'.ok → s.n ≤ s'.n → K s' → Q .normal a' w') →
  (∀ v a' w' s' G' I', Mod tb X s'.get s'.obj a' w' G' I' → s'.ok → s.n ≤ s'.n → KP v s' → Q (.panic [{ v := v, recovered := false }]) a' w') → wpOpsIn F n P ops Q ((List.range' k l.length)) a w
 | [], k, a, w, s, G, I, _, _, _, hok, m, h, hQ, hQ2 => by
  simp only [List.length_nil, List.range'_zero, wpOpsIn]
  exact hQ a w s G I m hok (Nat.le_refl _) h
 | y :: r, k, a, w, s, G, I, hl, hd, hnb, hok, m, h, hQ, hQ2 => by
  have h0 : ops[k]? = some y := by rw [← Array.getElem?_toList]; simpa using (hl 0).symm
  have hy : y ∈ ops.toList := by rw [← Array.getElem?_toList] at h0; exact List.mem_of_getElem? h0
  simp only [List.length_cons, List.range'_succ, wpOpsIn, h0]
  rw [evSeq_cons, gN_eq] at h
  have hst := step_sound (F := F) (n := n) hP hF hE m (hd y hy) (hok _ (Nat.le_refl _)) (fun k _ => hok _ (by omega)) hnb h
  rcases hst with ⟨e, hK, hstep⟩ | ⟨_, e, hK, i0, v0, hm0, hstep⟩
  rotate_left
  ·rw [freshB_eq] at hK
   cases hb : e.obs.all (fun p => Nat.blt p.1 (s.n + e.new)) with
   | false => rw [hb] at hK; exact hK.elim
   | true =>
    rw [hb, cond_true, panE_eq, panB_mem hm0, cond_true, endP_eq] at hK
    cases hp2 : panIn e.obs e.obs with
    | false => rw [hp2] at hK; exact hK.elim
    | true =>
     rw [hp2, cond_true] at hK
     obtain ⟨v, os, k1, k2, k3⟩ := hK
     have hv0 := panAll_mem k1 hm0
     subst hv0
     rw [killO_eq] at k3
     refine hstep _ _ fun w' G' I' hmod => ?_
     have m' := hmod os fun j hj p hp hpj => by
      have := List.all_eq_true.1 k2 p hp
      rw [Bool.not_eq_true'] at this
      rw [hpj] at this
      rw [memN_iff.2 hj] at this
      cases this
     have hob : St.obj ⟨s.sl, s.ob.map fun p => (p.1, bif memN os p.1 then p.2 else .dead), s.n + e.new⟩ = deadO os s.obj := by
      funext i
      exact lookO_kill os s.ob i
     refine hQ2 _ _ w' ⟨s.sl, _, s.n + e.new⟩ G' I' (by rw [hob]; exact m') (fun i hi => ?_) (Nat.le_add_right _ _) k3
     rw [hob]
     unfold deadO
     rw [hok i (Nat.le_trans (Nat.le_add_right _ _) hi)]
     cases memN os i <;> rfl
  rw [freshB_eq] at hK
  cases hb : e.obs.all (fun p => Nat.blt p.1 (s.n + e.new)) with
  | false => rw [hb] at hK; exact hK.elim
  | true =>
   rw [hb, cond_true] at hK
   cases hpe : panE e with
   | true =>
    rw [hpe, cond_true, endP_eq] at hK
    cases hp2 : panIn e.obs e.obs with
    | false => rw [hp2] at hK; exact hK.elim
    | true =>
     obtain ⟨i, v, hi⟩ := panIn_spec hp2
     refine hstep _ _ fun a' w' G' I' m' => ?_
     exact (m'.objs i (.pan v) (by simp only [appO, hi])).elim
   | false =>
   rw [hpe, cond_false] at hK
   obtain ⟨s', hs1, hs2, hs3, hK, _⟩ := St.app_iff hK
   rw [fS_eq] at hK
   have hok' : s'.ok := fun i hi => by
    have hi' : s.n + e.new ≤ i := by omega
    rw [hs2]
    simp only [appO]
    have h1 : lookO e.obs i = none := by
     cases hlk : lookO e.obs i with
     | none => rfl
     | some z =>
      exfalso
      have : ∀ (ob : List (Nat × Ob)), lookO ob i = some z → ∃ p ∈ ob, p.1 = i := by
       intro ob
       induction ob with
       | nil => intro h; cases h
       | cons p ob ih =>
        obtain ⟨q, z'⟩ := p
        intro h
        rw [lookO] at h
        cases hq : Nat.beq q i with
        | true => exact ⟨(q, z'), by simp, by simpa using hq⟩
        | false => rw [hq] at h; obtain ⟨p, hp, e⟩ := ih h; exact ⟨p, by simp [hp], e⟩
      obtain ⟨p, hp, e2⟩ := this _ hlk
      have := List.all_eq_true.1 hb p hp
      simp at this
      omega
    rw [h1, hok i (by omega)]
    rfl
   refine hstep _ _ fun a' w' G' I' m' => ?_
   rw [← hs1, ← hs2] at m'
   exact seq_sound hP hF hE r (k + 1) (fun j => by have := hl (j + 1); simpa [Nat.add_assoc, Nat.add_comm 1 j] using this) hd (by rw [hs3]; omega) hok' m' hK
    (fun a2 w2 s2 G2 I2 m2 ok2 hle hK2 => hQ a2 w2 s2 G2 I2 m2 ok2 (Nat.le_trans (by rw [hs3]; omega) hle) hK2) (fun v a2 w2 s2 G2 I2 m2 ok2 hle hK2 => hQ2 v a2 w2 s2 G2 I2 m2 ok2 (Nat.le_trans (by rw [hs3]; omega) hle) hK2)
end
end Go.Ev


namespace Go.Ev
open RowKit
def predsOf (x : Oper) : List Nat := (x.after.toList.filter (Region.binds .any)).map (·.on)
def reach (l : List Oper) : Nat → Nat → Nat → Bool
 | 0, _, _ => false
 | f + 1, j, i => match l[j]? with
  | some x => (predsOf x).any (fun p => Nat.beq p i) || (predsOf x).any (fun p => Nat.ble i p && reach l f p i)
  | none => false
def drawB (l : List Oper) : Bool :=
 (List.range l.length).all fun j => match l[j]? with
  | some y => (predsOf y).all (fun p => Nat.blt p j) && (List.range j).all fun i => match l[i]? with
   | some x => x.apart l.toArray y || reach l l.length j i
   | none => true
  | none => true
def disj (a b : List Nat) : Bool := a.all fun x => b.all fun y => !Nat.beq x y
def memB (l : List Oper) (N : Nat) : List (Nat × List Nat × List Nat) → Bool
 | [] => true
 | (j, w, r) :: rest => (rest.all fun q => (disj q.2.1 w && disj q.2.1 r && disj q.2.2 w) || reach l N j q.1) && memB l N rest
def slotB (s : Option (Nat × A)) (dst : Option Tmp) : Bool :=
 match s, dst with
 | none, _ => true
 | some (d, _), some d' => Nat.beq d d'
 | some _, none => false
def idsB (l : List Oper) (N n0 k nid : Nat) : List (Nat × Ob) → Bool
 | [] => true
 | (i, _) :: r => (Nat.blt i n0 || (Nat.ble nid i || reach l N k ((i - n0) / 8)) && Nat.blt i (nid + 8)) && idsB l N n0 k nid r
theorem idsB_eq (l : List Oper) (N n0 k nid : Nat) : ∀ r : List (Nat × Ob), idsB l N n0 k nid r = r.all fun p => Nat.blt p.1 n0 || (Nat.ble nid p.1 || reach l N k ((p.1 - n0) / 8)) && Nat.blt p.1 (nid + 8)
 | [] => rfl
 | (j, x) :: r => by rw [idsB, List.all_cons, idsB_eq l N n0 k nid r]
def fK : List (Nat × Ob) → (List (Nat × Ob) → Prop) → Prop
 | [], K => K []
 | (i, x) :: r, K => fN i fun i => fK r fun r => K ((i, x) :: r)
def fR : List Nat → (List Nat → Prop) → Prop
 | [], K => K []
 | i :: r, K => fN i fun i => fR r fun r => K (i :: r)
def fE (e : Eff) (K : Eff → Prop) : Prop :=
 match e with
 | ⟨slot, obs, rd, new, frz, clr⟩ => fK obs fun obs => fR rd fun rd => K ⟨slot, obs, rd, new, frz, clr⟩
theorem fK_eq : ∀ (l : List (Nat × Ob)) (K : List (Nat × Ob) → Prop), fK l K = K l
 | [], _ => rfl
 | (i, x) :: r, K => by rw [fK, fN_eq, fK_eq r]
theorem fR_eq : ∀ (l : List Nat) (K : List Nat → Prop), fR l K = K l
 | [], _ => rfl
 | i :: r, K => by rw [fR, fN_eq, fR_eq r]
theorem fE_eq (e : Eff) (K : Eff → Prop) : fE e K = K e := by obtain ⟨a, b, c, d, f, g⟩ := e; simp only [fE, fK_eq, fR_eq]
abbrev DrawT := Nat → St → List (Nat × List Nat × List Nat) → (List (Nat × List Nat × List Nat) → St → Prop) → Prop
def evDrawN (l : List Oper) (N n0 : Nat) : DrawT := fun _ s acc K => bif memB l N acc then (match s with | ⟨sl, ob, _⟩ => fN (n0 + N * 8) fun n => K acc ⟨sl, ob, n⟩) else False
def evDrawM (tb : TB) (S : Sums) (l : List Oper) (N n0 : Nat) (x : Oper) (_r : List Oper) (ih : DrawT) : DrawT := fun k s acc K =>
 fN (n0 + k * 8) fun nid => fN (k + 1) fun k1 => evStep tb S l x s.get s.obj nid fun e => fE e fun e =>
   bif e.frz.isEmpty && e.clr.isEmpty && slotB e.slot x.dst && idsB l N n0 k nid e.obs then
    s.app e fun s => fS s fun s => ih k1 s (bif e.obs.isEmpty && e.rd.isEmpty then acc else (k, keysO e.obs, e.rd) :: acc) K
   else False
noncomputable def evDraw (tb : TB) (S : Sums) (l : List Oper) (N n0 : Nat) (k : Nat) (ops : List Oper) (s : St) (acc : List (Nat × List Nat × List Nat)) (K : List (Nat × List Nat × List Nat) → St → Prop) : Prop :=
 List.rec (motive := fun _ => DrawT) (evDrawN l N n0) (evDrawM tb S l N n0) ops k s acc K
theorem evDraw_nil {tb : TB} {S : Sums} {l : List Oper} {N n0 k : Nat} {s : St} {acc : List (Nat × List Nat × List Nat)} {K : List (Nat × List Nat × List Nat) → St → Prop} : evDraw tb S l N n0 k [] s acc K =
  bif memB l N acc then (match s with | ⟨sl, ob, _⟩ => fN (n0 + N * 8) fun n => K acc ⟨sl, ob, n⟩) else False := rfl
theorem evDraw_cons {tb : TB} {S : Sums} {l : List Oper} {N n0 k : Nat} {x : Oper} {r : List Oper} {s : St} {acc : List (Nat × List Nat × List Nat)} {K : List (Nat × List Nat × List Nat) → St → Prop} : evDraw tb S l N n0 k (x :: r) s acc K =
  fN (n0 + k * 8) fun nid => fN (k + 1) fun k1 => evStep tb S l x s.get s.obj nid fun e => fE e fun e =>
   bif e.frz.isEmpty && e.clr.isEmpty && slotB e.slot x.dst && idsB l N n0 k nid e.obs then
    s.app e fun s => fS s fun s => evDraw tb S l N n0 k1 r s (bif e.obs.isEmpty && e.rd.isEmpty then acc else (k, keysO e.obs, e.rd) :: acc) K
   else False := rfl
def foldG (p : Nat → Bool) : Nat → List Eff → (Nat → A) → (Nat → A)
 | _, [], g => g
 | k, e :: es, g => foldG p (k + 1) es (bif p k then appG e g else g)
def foldO (p : Nat → Bool) : Nat → List Eff → (Nat → Option Ob) → (Nat → Option Ob)
 | _, [], o => o
 | k, e :: es, o => foldO p (k + 1) es (bif p k then appO e o else o)
structure Plain (e : Eff) : Prop where
 frz : e.frz = []
 clr : e.clr = []
theorem appG_at {e : Eff} (h : Plain e) {g : Nat → A} {t : Nat} (ht : ∀ d x, e.slot = some (d, x) → d ≠ t) : appG e g t = g t := by
 unfold appG
 rw [trA_id h.frz h.clr]
 cases hs : e.slot with
 | none => rfl
 | some p => obtain ⟨d, x⟩ := p; simp [beq_ne (ht d x hs)]
theorem lookO_none_of {ob : List (Nat × Ob)} {i : Nat} (h : ∀ p ∈ ob, p.1 ≠ i) : lookO ob i = none := by
 induction ob with
 | nil => rfl
 | cons q ob ih =>
  obtain ⟨j, x⟩ := q
  rw [lookO, beq_ne (h (j, x) (by simp)), cond_false]
  exact ih fun p hp => h p (by simp [hp])
theorem appO_at {e : Eff} (h : Plain e) {o : Nat → Option Ob} {i : Nat} (hi : ∀ p ∈ e.obs, p.1 ≠ i) : appO e o i = o i := by
 unfold appO
 rw [lookO_none_of hi]
 unfold trO
 rw [h.frz, h.clr]
 simp
theorem foldG_congr {p q : Nat → Bool} {t : Nat} : ∀ (es : List Eff) (k : Nat) (g g' : Nat → A), (∀ e ∈ es, Plain e) → g t = g' t →
  (∀ i e, es[i]? = some e → p (k + i) ≠ q (k + i) → ∀ d x, e.slot = some (d, x) → d ≠ t) → foldG p k es g t = foldG q k es g' t
 | [], _, _, _, _, h, _ => h
 | e :: es, k, g, g', hp, h, hd => by
  simp only [foldG]
  refine foldG_congr es (k + 1) _ _ (fun x hx => hp x (by simp [hx])) ?_ (fun i x hx hne => hd (i + 1) x (by simpa using hx) (by rwa [show k + (i + 1) = k + 1 + i by omega]))
  have h0 := hd 0 e rfl
  simp only [Nat.add_zero] at h0
  cases h1 : p k <;> cases h2 : q k <;> simp only [cond_true, cond_false]
  ·exact h
  ·rw [appG_at (hp e (by simp)) (h0 (by simp [h1, h2]))]; exact h
  ·rw [appG_at (hp e (by simp)) (h0 (by simp [h1, h2]))]; exact h
  ·unfold appG; rw [trA_id (hp e (by simp)).frz (hp e (by simp)).clr]
   cases e.slot with
   | none => exact h
   | some q => simp only [id, h]
theorem foldO_congr {p q : Nat → Bool} {t : Nat} : ∀ (es : List Eff) (k : Nat) (g g' : Nat → Option Ob), (∀ e ∈ es, Plain e) → g t = g' t →
  (∀ i e, es[i]? = some e → p (k + i) ≠ q (k + i) → ∀ x ∈ e.obs, x.1 ≠ t) → foldO p k es g t = foldO q k es g' t
 | [], _, _, _, _, h, _ => h
 | e :: es, k, g, g', hp, h, hd => by
  simp only [foldO]
  refine foldO_congr es (k + 1) _ _ (fun x hx => hp x (by simp [hx])) ?_ (fun i x hx hne => hd (i + 1) x (by simpa using hx) (by rwa [show k + (i + 1) = k + 1 + i by omega]))
  have h0 := hd 0 e rfl
  simp only [Nat.add_zero] at h0
  cases h1 : p k <;> cases h2 : q k <;> simp only [cond_true, cond_false]
  ·exact h
  ·rw [appO_at (hp e (by simp)) (h0 (by simp [h1, h2]))]; exact h
  ·rw [appO_at (hp e (by simp)) (h0 (by simp [h1, h2]))]; exact h
  ·unfold appO; unfold trO; rw [(hp e (by simp)).frz, (hp e (by simp)).clr, h]
theorem appG_comm {e e' : Eff} (h : Plain e) (h' : Plain e') (hd : ∀ d x d' x', e.slot = some (d, x) → e'.slot = some (d', x') → d ≠ d') (g : Nat → A) : appG e (appG e' g) = appG e' (appG e g) := by
 funext t
 unfold appG
 rw [trA_id h.frz h.clr, trA_id h'.frz h'.clr]
 cases hs : e.slot with
 | none => rfl
 | some p =>
  cases hs' : e'.slot with
  | none => rfl
  | some p' =>
   obtain ⟨d, x⟩ := p; obtain ⟨d', x'⟩ := p'
   have := hd d x d' x' hs hs'
   simp only [id]
   cases h1 : Nat.beq d t <;> cases h2 : Nat.beq d' t <;> first | rfl | exact absurd ((Nat.eq_of_beq_eq_true h1).trans (Nat.eq_of_beq_eq_true h2).symm) this
theorem appO_comm {e e' : Eff} (h : Plain e) (h' : Plain e') (hd : ∀ p ∈ e.obs, ∀ p' ∈ e'.obs, p.1 ≠ p'.1) (o : Nat → Option Ob) : appO e (appO e' o) = appO e' (appO e o) := by
 funext t
 by_cases h1 : ∃ p ∈ e.obs, p.1 = t
 ·obtain ⟨p, hp, rfl⟩ := h1
  rw [appO_at h' (fun q hq => fun e1 => hd p hp q hq e1.symm)]
  have hz : ∃ z, lookO e.obs p.1 = some z := by
   revert hp
   induction e.obs with
   | nil => intro hp; cases hp
   | cons q ob ih =>
    intro hp
    rw [lookO]
    cases hq : Nat.beq q.1 p.1 with
    | true => exact ⟨_, rfl⟩
    | false =>
     rcases List.mem_cons.1 hp with rfl | hp
     ·simp at hq
     ·exact ih hp
  obtain ⟨z, hz⟩ := hz
  simp only [appO, hz]
 ·rw [appO_at h (fun p hp e1 => h1 ⟨p, hp, e1⟩)]
  unfold appO
  cases lookO e'.obs t with
  | some z => rfl
  | none =>
   simp only
   rw [show lookO e.obs t = none from lookO_none_of (fun p hp e1 => h1 ⟨p, hp, e1⟩)]
   unfold trO
   rw [h.frz, h.clr]
   simp
theorem foldG_push {p : Nat → Bool} {e : Eff} (h : Plain e) : ∀ (es : List Eff) (k : Nat) (g : Nat → A), (∀ e ∈ es, Plain e) →
  (∀ i e', es[i]? = some e' → p (k + i) = true → ∀ d x d' x', e.slot = some (d, x) → e'.slot = some (d', x') → d ≠ d') → foldG p k es (appG e g) = appG e (foldG p k es g)
 | [], _, _, _, _ => rfl
 | e' :: es, k, g, hp, hd => by
  simp only [foldG]
  have h0 := hd 0 e' rfl
  simp only [Nat.add_zero] at h0
  have ih := fun g => foldG_push h es (k + 1) g (fun x hx => hp x (by simp [hx])) (fun i x hx hne => hd (i + 1) x (by simpa using hx) (by rwa [show k + (i + 1) = k + 1 + i by omega]))
  cases h1 : p k with
  | false => exact ih g
  | true =>
   simp only [cond_true]
   rw [appG_comm (hp e' (by simp)) h (fun d x d' x' a b => (h0 h1 d' x' d x b a).symm), ih]
theorem foldO_push {p : Nat → Bool} {e : Eff} (h : Plain e) : ∀ (es : List Eff) (k : Nat) (g : Nat → Option Ob), (∀ e ∈ es, Plain e) →
  (∀ i e', es[i]? = some e' → p (k + i) = true → ∀ x ∈ e.obs, ∀ x' ∈ e'.obs, x.1 ≠ x'.1) → foldO p k es (appO e g) = appO e (foldO p k es g)
 | [], _, _, _, _ => rfl
 | e' :: es, k, g, hp, hd => by
  simp only [foldO]
  have h0 := hd 0 e' rfl
  simp only [Nat.add_zero] at h0
  have ih := fun g => foldO_push h es (k + 1) g (fun x hx => hp x (by simp [hx])) (fun i x hx hne => hd (i + 1) x (by simpa using hx) (by rwa [show k + (i + 1) = k + 1 + i by omega]))
  cases h1 : p k with
  | false => exact ih g
  | true =>
   simp only [cond_true]
   rw [appO_comm (hp e' (by simp)) h (fun a ha b hb => (h0 h1 b hb a ha).symm), ih]
theorem foldG_add {p p' : Nat → Bool} : ∀ (es : List Eff) (k j : Nat) (e : Eff) (g : Nat → A), (∀ e ∈ es, Plain e) → es[j]? = some e → p (k + j) = false → p' (k + j) = true → (∀ i, i ≠ k + j → p' i = p i) →
  (∀ i e', es[i]? = some e' → j < i → p (k + i) = true → ∀ d x d' x', e.slot = some (d, x) → e'.slot = some (d', x') → d ≠ d') → foldG p' k es g = appG e (foldG p k es g)
 | [], _, j, _, _, _, h, _, _, _, _ => by simp at h
 | e0 :: es, k, j, e, g, hp, he, hf, ht, hoth, hd => by
  cases j with
  | zero =>
   simp only [List.getElem?_cons_zero, Option.some.injEq] at he
   subst he
   simp only [Nat.add_zero] at hf ht hoth
   simp only [foldG, hf, ht, cond_true, cond_false]
   rw [← foldG_push (hp e0 (by simp)) es (k + 1) g (fun x hx => hp x (by simp [hx])) (fun i x hx hpi => hd (i + 1) x (by simpa using hx) (by omega) (by rwa [show k + (i + 1) = k + 1 + i by omega]))]
   have : ∀ (es : List Eff) (k0 : Nat) (g : Nat → A), k < k0 → foldG p' k0 es g = foldG p k0 es g := by
    intro es
    induction es with
    | nil => intros; rfl
    | cons x es ih => intro k0 g hk; simp only [foldG]; rw [hoth k0 (by omega), ih (k0 + 1) _ (by omega)]
   exact this es (k + 1) _ (by omega)
  | succ j =>
   simp only [foldG]
   rw [hoth k (by omega)]
   exact foldG_add es (k + 1) j e _ (fun x hx => hp x (by simp [hx])) (by simpa using he) (by rwa [show k + 1 + j = k + (j + 1) by omega]) (by rwa [show k + 1 + j = k + (j + 1) by omega])
    (fun i hi => hoth i (by omega)) (fun i x hx hji hpi => hd (i + 1) x (by simpa using hx) (by omega) (by rwa [show k + (i + 1) = k + 1 + i by omega]))
theorem foldO_add {p p' : Nat → Bool} : ∀ (es : List Eff) (k j : Nat) (e : Eff) (g : Nat → Option Ob), (∀ e ∈ es, Plain e) → es[j]? = some e → p (k + j) = false → p' (k + j) = true → (∀ i, i ≠ k + j → p' i = p i) →
  (∀ i e', es[i]? = some e' → j < i → p (k + i) = true → ∀ x ∈ e.obs, ∀ x' ∈ e'.obs, x.1 ≠ x'.1) → foldO p' k es g = appO e (foldO p k es g)
 | [], _, j, _, _, _, h, _, _, _, _ => by simp at h
 | e0 :: es, k, j, e, g, hp, he, hf, ht, hoth, hd => by
  cases j with
  | zero =>
   simp only [List.getElem?_cons_zero, Option.some.injEq] at he
   subst he
   simp only [Nat.add_zero] at hf ht hoth
   simp only [foldO, hf, ht, cond_true, cond_false]
   rw [← foldO_push (hp e0 (by simp)) es (k + 1) g (fun x hx => hp x (by simp [hx])) (fun i x hx hpi => hd (i + 1) x (by simpa using hx) (by omega) (by rwa [show k + (i + 1) = k + 1 + i by omega]))]
   have : ∀ (es : List Eff) (k0 : Nat) (g : Nat → Option Ob), k < k0 → foldO p' k0 es g = foldO p k0 es g := by
    intro es
    induction es with
    | nil => intros; rfl
    | cons x es ih => intro k0 g hk; simp only [foldO]; rw [hoth k0 (by omega), ih (k0 + 1) _ (by omega)]
   exact this es (k + 1) _ (by omega)
  | succ j =>
   simp only [foldO]
   rw [hoth k (by omega)]
   exact foldO_add es (k + 1) j e _ (fun x hx => hp x (by simp [hx])) (by simpa using he) (by rwa [show k + 1 + j = k + (j + 1) by omega]) (by rwa [show k + 1 + j = k + (j + 1) by omega])
    (fun i hi => hoth i (by omega)) (fun i x hx hji hpi => hd (i + 1) x (by simpa using hx) (by omega) (by rwa [show k + (i + 1) = k + 1 + i by omega]))
structure Row (tb : TB) (S : Sums) (l : List Oper) (n0 : Nat) (es : List Eff) (g : Nat → A) (o : Nat → Option Ob) (j : Nat) (x : Oper) (e : Eff) : Prop where
 step : evStep tb S l x (foldG (fun i => Nat.blt i j) 0 es g) (foldO (fun i => Nat.blt i j) 0 es o) (n0 + j * 8) (fun e' => e' = e)
 plain : Plain e
 slot : ∀ d y, e.slot = some (d, y) → x.dst = some d
 ids : ∀ p ∈ e.obs, p.1 < n0 ∨ (n0 + j * 8 ≤ p.1 ∨ reach l l.length j ((p.1 - n0) / 8) = true) ∧ p.1 < n0 + j * 8 + 8
end Go.Ev


namespace Go.Ev
open RowKit
theorem foldG_append {p : Nat → Bool} : ∀ (es fs : List Eff) (k : Nat) (g : Nat → A), foldG p k (es ++ fs) g = foldG p (k + es.length) fs (foldG p k es g)
 | [], _, _, _ => rfl
 | e :: es, fs, k, g => by
  simp only [List.cons_append, foldG, List.length_cons]
  rw [foldG_append es fs (k + 1)]
  rw [show k + (es.length + 1) = k + 1 + es.length by omega]
theorem foldO_append {p : Nat → Bool} : ∀ (es fs : List Eff) (k : Nat) (g : Nat → Option Ob), foldO p k (es ++ fs) g = foldO p (k + es.length) fs (foldO p k es g)
 | [], _, _, _ => rfl
 | e :: es, fs, k, g => by
  simp only [List.cons_append, foldO, List.length_cons]
  rw [foldO_append es fs (k + 1)]
  rw [show k + (es.length + 1) = k + 1 + es.length by omega]
theorem foldG_none {p : Nat → Bool} : ∀ (es : List Eff) (k : Nat) (g : Nat → A), (∀ i, k ≤ i → p i = false) → foldG p k es g = g
 | [], _, _, _ => rfl
 | e :: es, k, g, h => by simp only [foldG]; rw [h k (by omega)]; exact foldG_none es (k + 1) g fun i hi => h i (by omega)
theorem foldO_none {p : Nat → Bool} : ∀ (es : List Eff) (k : Nat) (g : Nat → Option Ob), (∀ i, k ≤ i → p i = false) → foldO p k es g = g
 | [], _, _, _ => rfl
 | e :: es, k, g, h => by simp only [foldO]; rw [h k (by omega)]; exact foldO_none es (k + 1) g fun i hi => h i (by omega)
theorem foldG_same {p q : Nat → Bool} : ∀ (es : List Eff) (k : Nat) (g : Nat → A), (∀ i, k ≤ i → i < k + es.length → p i = q i) → foldG p k es g = foldG q k es g
 | [], _, _, _ => rfl
 | e :: es, k, g, h => by
  simp only [foldG]
  rw [h k (by omega) (by simp)]
  exact foldG_same es (k + 1) _ fun i hi hi2 => h i (by omega) (by simp only [List.length_cons]; omega)
theorem foldO_same {p q : Nat → Bool} : ∀ (es : List Eff) (k : Nat) (g : Nat → Option Ob), (∀ i, k ≤ i → i < k + es.length → p i = q i) → foldO p k es g = foldO q k es g
 | [], _, _, _ => rfl
 | e :: es, k, g, h => by
  simp only [foldO]
  rw [h k (by omega) (by simp)]
  exact foldO_same es (k + 1) _ fun i hi hi2 => h i (by omega) (by simp only [List.length_cons]; omega)
theorem foldG_pre {pre rest : List Eff} {g : Nat → A} {j : Nat} (hj : j = pre.length) : foldG (fun i => Nat.blt i j) 0 (pre ++ rest) g = foldG (fun _ => true) 0 pre g := by
 subst hj
 rw [foldG_append, foldG_none (p := fun i => Nat.blt i pre.length) rest _ _ (fun i hi => by rw [Bool.eq_false_iff]; intro h; rw [Nat.blt_eq] at h; omega)]
 exact foldG_same pre 0 g fun i _ hi => by show Nat.blt i pre.length = true; rw [Nat.blt_eq]; omega
theorem foldO_pre {pre rest : List Eff} {g : Nat → Option Ob} {j : Nat} (hj : j = pre.length) : foldO (fun i => Nat.blt i j) 0 (pre ++ rest) g = foldO (fun _ => true) 0 pre g := by
 subst hj
 rw [foldO_append, foldO_none (p := fun i => Nat.blt i pre.length) rest _ _ (fun i hi => by rw [Bool.eq_false_iff]; intro h; rw [Nat.blt_eq] at h; omega)]
 exact foldO_same pre 0 g fun i _ hi => by show Nat.blt i pre.length = true; rw [Nat.blt_eq]; omega
def accOf : Nat → List Eff → List (Nat × List Nat × List Nat) → List (Nat × List Nat × List Nat)
 | _, [], acc => acc
 | k, e :: es, acc => accOf (k + 1) es (bif e.obs.isEmpty && e.rd.isEmpty then acc else (k, e.obs.map (·.1), e.rd) :: acc)
def Free (l : List Oper) (N : Nat) (i : Nat) (w r : List Nat) (j : Nat) (e : Eff) : Prop :=
 (disj w (e.obs.map (·.1)) = true ∧ disj w e.rd = true ∧ disj r (e.obs.map (·.1)) = true) ∨ reach l N j i = true
theorem free_nil {l : List Oper} {N i j : Nat} {w r : List Nat} {e : Eff} (h : (e.obs.isEmpty && e.rd.isEmpty) = true) : Free l N i w r j e := by
 simp only [Bool.and_eq_true, List.isEmpty_iff] at h
 left
 rw [h.1, h.2]
 simp [disj]
theorem memB_acc {l : List Oper} {N : Nat} : ∀ (es : List Eff) (k : Nat) (acc : List (Nat × List Nat × List Nat)), memB l N (accOf k es acc) = true → memB l N acc = true ∧
  (∀ q ∈ acc, ∀ j e, es[j]? = some e → Free l N q.1 q.2.1 q.2.2 (k + j) e) ∧ (∀ i j ei ej, i < j → es[i]? = some ei → es[j]? = some ej → Free l N (k + i) (ei.obs.map (·.1)) ei.rd (k + j) ej)
 | [], _, acc, h => ⟨h, fun q _ j e he => by simp at he, fun i j ei ej _ he => by simp at he⟩
 | e :: es, k, acc, h => by
  simp only [accOf] at h
  obtain ⟨h1, h2, h3⟩ := memB_acc es (k + 1) _ h
  cases hb : (e.obs.isEmpty && e.rd.isEmpty) with
  | true =>
   rw [hb, cond_true] at h1 h2
   refine ⟨h1, fun q hq j e' he' => ?_, fun i j ei ej hij hi hj => ?_⟩
   ·cases j with
    | zero => simp at he'; subst he'; exact free_nil hb
    | succ j => have := h2 q hq j e' (by simpa using he'); rwa [show k + (j + 1) = k + 1 + j by omega]
   ·cases j with
    | zero => omega
    | succ j =>
     cases i with
     | zero =>
      simp at hi; subst hi
      simp only [Bool.and_eq_true, List.isEmpty_iff] at hb
      left
      rw [hb.1, hb.2]
      simp [disj]
     | succ i => have := h3 i j ei ej (by omega) (by simpa using hi) (by simpa using hj); rwa [show k + (j + 1) = k + 1 + j by omega, show k + (i + 1) = k + 1 + i by omega]
  | false =>
   rw [hb, cond_false] at h1 h2
   simp only [memB, Bool.and_eq_true] at h1
   refine ⟨h1.2, fun q hq j e' he' => ?_, fun i j ei ej hij hi hj => ?_⟩
   ·cases j with
    | zero =>
     simp at he'; subst he'
     have := List.all_eq_true.1 h1.1 q hq
     simp only [Bool.or_eq_true, Bool.and_eq_true] at this
     rcases this with h | h
     ·exact .inl ⟨h.1.1, h.1.2, h.2⟩
     ·exact .inr h
    | succ j => have := h2 q (by simp [hq]) j e' (by simpa using he'); rwa [show k + (j + 1) = k + 1 + j by omega]
   ·cases j with
    | zero => omega
    | succ j =>
     cases i with
     | zero =>
      simp at hi; subst hi
      have := h2 (k, e.obs.map (·.1), e.rd) (by simp) j ej (by simpa using hj)
      rwa [show k + (j + 1) = k + 1 + j by omega]
     | succ i => have := h3 i j ei ej (by omega) (by simpa using hi) (by simpa using hj); rwa [show k + (j + 1) = k + 1 + j by omega, show k + (i + 1) = k + 1 + i by omega]
theorem draw_rows {tb : TB} {S : Sums} (hW : Nat.beq S.w 8 = true) {l : List Oper} {n0 : Nat} {g0 : Nat → A} {o0 : Nat → Option Ob} {K : List (Nat × List Nat × List Nat) → St → Prop} : ∀ (r : List Oper) (k : Nat) (s : St) (acc : List (Nat × List Nat × List Nat)) (pre : List Eff),
  k = pre.length → s.get = foldG (fun _ => true) 0 pre g0 → s.obj = foldO (fun _ => true) 0 pre o0 → evDraw tb S l l.length n0 k r s acc K →
  ∃ es s', memB l l.length (accOf k es acc) = true ∧ s'.get = foldG (fun _ => true) 0 (pre ++ es) g0 ∧ s'.obj = foldO (fun _ => true) 0 (pre ++ es) o0 ∧ s'.n = n0 + l.length * 8 ∧ K (accOf k es acc) s' ∧ es.length = r.length ∧ (∃ m : List (Nat × Ob), s'.ob = m ++ s.ob ∧ ∀ e ∈ es, ∀ p ∈ e.obs, p ∈ m) ∧
   ∀ i x, r[i]? = some x → ∃ e, es[i]? = some e ∧ Row tb S l n0 (pre ++ es) g0 o0 (k + i) x e
 | [], k, s, acc, pre, hk, hg, ho, h => by
  obtain ⟨sl', ob', n'⟩ := s
  rw [evDraw_nil] at h
  cases hb : memB l l.length acc with
  | false => rw [hb] at h; exact h.elim
  | true =>
   rw [hb, cond_true] at h
   simp only [fN_eq] at h
   exact ⟨[], ⟨sl', ob', n0 + l.length * 8⟩, hb, by rw [List.append_nil]; exact hg, by rw [List.append_nil]; exact ho, rfl, h, rfl, ⟨[], rfl, fun e he => (nomatch he)⟩, fun i x hx => by simp at hx⟩
 | x :: r, k, s, acc, pre, hk, hg, ho, h => by
  rw [evDraw_cons] at h
  simp only [fN_eq, idsB_eq, keysO_eq, fE_eq] at h
  obtain ⟨e, hK, hst⟩ := step_ex hW h
  cases hb : (e.frz.isEmpty && e.clr.isEmpty && slotB e.slot x.dst && e.obs.all (fun p => Nat.blt p.1 n0 || (Nat.ble (n0 + k * 8) p.1 || reach l l.length k ((p.1 - n0) / 8)) && Nat.blt p.1 (n0 + k * 8 + 8))) with
  | false => rw [hb] at hK; exact hK.elim
  | true =>
   rw [hb, cond_true] at hK
   simp only [Bool.and_eq_true, List.isEmpty_iff] at hb
   obtain ⟨⟨⟨h1, h2⟩, h3⟩, h4⟩ := hb
   obtain ⟨s', e1, e2, e3, hK, e4⟩ := St.app_iff hK
   rw [fS_eq] at hK
   have hpl : Plain e := ⟨h1, h2⟩
   have eg : s'.get = foldG (fun _ => true) 0 (pre ++ [e]) g0 := by rw [e1, hg, foldG_append]; rfl
   have eo : s'.obj = foldO (fun _ => true) 0 (pre ++ [e]) o0 := by rw [e2, ho, foldO_append]; rfl
   obtain ⟨es, s2, m1, m2, m3, m4, m5, m6, ⟨mm, m8, m9⟩, m7⟩ := draw_rows hW r (k + 1) s' _ (pre ++ [e]) (by simp [hk]) eg eo hK
   have ea : pre ++ [e] ++ es = pre ++ (e :: es) := by simp
   rw [ea] at m2 m3 m7
   refine ⟨e :: es, s2, m1, m2, m3, m4, m5, by simp [m6], ⟨mm ++ e.obs, by rw [m8, e4 h1 h2, List.append_assoc], fun e' he' p hp => ?_⟩, fun i y hy => ?_⟩
   ·rcases List.mem_cons.1 he' with rfl | he'
    ·exact List.mem_append_right _ hp
    ·exact List.mem_append_left _ (m9 e' he' p hp)
   cases i with
   | zero =>
    simp only [List.getElem?_cons_zero, Option.some.injEq] at hy
    subst hy
    refine ⟨e, rfl, ?_, hpl, ?_, ?_⟩
    ·rw [foldG_pre (by omega), foldO_pre (by omega), ← hg, ← ho]; exact hst
    ·intro d y hs
     rw [hs] at h3
     unfold slotB at h3
     cases hd : x.dst with
     | none => simp [hd] at h3
     | some d' => simp only [hd] at h3; rw [Nat.eq_of_beq_eq_true h3]
    ·intro p hp
     have := List.all_eq_true.1 h4 p hp
     simp only [Bool.or_eq_true, Bool.and_eq_true, Nat.blt_eq, Nat.ble_eq] at this
     rcases this with h | ⟨h, h'⟩
     ·exact .inl h
     ·exact .inr ⟨h, by simp; omega⟩
   | succ i =>
    obtain ⟨e', he', hr⟩ := m7 i y (by simpa using hy)
    exact ⟨e', by simpa using he', by rwa [show k + (i + 1) = k + 1 + i by omega]⟩
section
variable {tb : TB} {X : Ctx} {P : Program} {Wn : Nat} {Y : Nat → List D → Bool → Prop} {F : Fence} {n : Nat} {ops : Array Oper} {n0 : Nat} {es : List Eff} {g0 : Nat → A} {o0 : Nat → Option Ob} {Q : Exit → Act → World → Prop}
structure Closed (ops : Array Oper) (listed : Array Bool) : Prop where
 size : listed.size = ops.size
 pre : ∀ j x, ops.toList[j]? = some x → listed.getD j true = true → ∀ p ∈ predsOf x, listed.getD p true = true
theorem mem_preds {x : Oper} {p : Nat} : p ∈ predsOf x ↔ ∃ e ∈ x.after, Region.binds .any e = true ∧ e.on = p := by
 unfold predsOf
 simp [List.mem_map, List.mem_filter, and_assoc]
theorem getD_true_of_false {listed : Array Bool} {i : Nat} (h : listed.getD i false = true) : listed.getD i true = true := by
 rcases Nat.lt_or_ge i listed.size with h' | h'
 ·simp [h'] at h ⊢; exact h
 ·simp [Array.getElem?_eq_none h'] at h
theorem getD_false_of_true {listed : Array Bool} {i : Nat} (hi : i < listed.size) (h : listed.getD i true = true) : listed.getD i false = true := by
 simp [hi] at h ⊢; exact h
theorem set_true {listed : Array Bool} {i j : Nat} (h : listed.getD j true = true) : (listed.setIfInBounds i true).getD j true = true := by
 by_cases e : i = j
 ·subst e
  rcases Nat.lt_or_ge i listed.size with h' | h'
  ·simp [h']
  ·simp [Array.getElem?_eq_none h']
 ·rw [getD_set_ne true e]; exact h
theorem set_self {listed : Array Bool} {i : Nat} : (listed.setIfInBounds i true).getD i true = true := by
 rcases Nat.lt_or_ge i listed.size with h' | h'
 ·simp [h']
 ·simp [Array.getElem?_eq_none h']
theorem reach_closed {listed : Array Bool} (hc : Closed ops listed) : ∀ (f j i : Nat), (∀ x, ops.toList[j]? = some x → ∀ p ∈ predsOf x, listed.getD p true = true) → reach ops.toList f j i = true → listed.getD i true = true
 | 0, _, _, _, h => by simp [reach] at h
 | f + 1, j, i, hj, h => by
  rw [reach] at h
  cases hx : ops.toList[j]? with
  | none => simp [hx] at h
  | some x =>
   simp only [hx, Bool.or_eq_true, List.any_eq_true, Bool.and_eq_true] at h
   rcases h with ⟨p, hp, he⟩ | ⟨p, hp, _, hr⟩
   ·rw [← Nat.eq_of_beq_eq_true he]; exact hj x hx p hp
   ·exact reach_closed hc f p i (fun y hy => hc.pre p y hy (hj x hx p hp)) hr
theorem drawB_spec (hB : drawB ops.toList = true) {j : Nat} {y : Oper} (hy : ops.toList[j]? = some y) : (∀ p ∈ predsOf y, p < j) ∧ ∀ i x, i < j → ops.toList[i]? = some x → x.apart ops y = true ∨ reach ops.toList ops.toList.length j i = true := by
 have hj : j < ops.toList.length := (List.getElem?_eq_some_iff.1 hy).1
 have := List.all_eq_true.1 hB j (List.mem_range.2 hj)
 simp only [hy, Bool.and_eq_true, List.all_eq_true, List.mem_range, Nat.blt_eq] at this
 refine ⟨this.1, fun i x hi hx => ?_⟩
 have := this.2 i hi
 simp only [hx, Bool.or_eq_true] at this
 simpa using this
theorem ready_all (hB : drawB ops.toList = true) {listed : Array Bool} (hc : Closed ops listed) (h : Region.ready .any ops listed = []) : ∀ j, j < ops.size → listed.getD j true = true := by
 intro j
 induction j using Nat.strongRecOn with
 | _ j ih =>
  intro hj
  cases hl : listed.getD j true with
  | true => rfl
  | false =>
   exfalso
   have hy : ops[j]? = some ops[j] := by simp [hj]
   have : j ∈ Region.ready .any ops listed := by
    rw [mem_ready]
    refine ⟨hl, _, hy, fun e he hb => ?_⟩
    have hlt := (drawB_spec hB (by rw [Array.getElem?_toList]; exact hy)).1 e.on (mem_preds.2 ⟨e, he, hb, rfl⟩)
    exact getD_false_of_true (by rw [hc.size]; omega) (ih e.on hlt (by omega))
   rw [h] at this
   cases this
def unl (ops : Array Oper) (listed : Array Bool) : Nat := (List.range ops.size).countP fun i => !listed.getD i true
theorem countP_lt {p q : Nat → Bool} (hpq : ∀ i, q i = true → p i = true) : ∀ (l : List Nat) (i : Nat), i ∈ l → p i = true → q i = false → l.countP q < l.countP p
 | [], i, h, _, _ => by cases h
 | x :: l, i, h, h1, h2 => by
  have hle : l.countP q ≤ l.countP p := List.countP_mono_left fun y _ hy => hpq y hy
  rw [List.countP_cons, List.countP_cons]
  by_cases e : x = i
  ·subst e; simp [h1, h2]; omega
  ·have := countP_lt hpq l i (by rcases List.mem_cons.1 h with rfl | h; exact absurd rfl e; exact h) h1 h2
   cases hq : q x with
   | true => simp [hpq x hq]; omega
   | false => cases hp : p x <;> simp <;> omega
theorem unl_set {listed : Array Bool} {i : Nat} (hi : i < ops.size) (h : listed.getD i true = false) : unl ops (listed.setIfInBounds i true) < unl ops listed := by
 refine countP_lt (fun j hj => ?_) _ i (List.mem_range.2 hi) (by rw [h]; rfl) (by rw [set_self]; rfl)
 cases hl : listed.getD j true with
 | false => rfl
 | true => rw [set_true hl] at hj; cases hj
theorem disj_spec {a b : List Nat} (h : disj a b = true) {x : Nat} (hx : x ∈ a) (hy : x ∈ b) : False := by
 have := List.all_eq_true.1 (List.all_eq_true.1 h x hx) x hy
 simp at this
theorem draw_main (hP : PG P tb) (hF : Wide F) (hE : EnvOK P X.E Y) (hd : ∀ y ∈ ops.toList, ∀ d, y.dst = some d → d < X.nt) (hnb : X.nb ≤ n0) (hok : ∀ i, n0 ≤ i → o0 i = none)
  (rows : ∀ i x, ops.toList[i]? = some x → ∃ e, es[i]? = some e ∧ Row tb (Con P tb 8 Y) ops.toList n0 es g0 o0 i x e) (hlen : es.length = ops.size)
  (mem : ∀ i j ei ej, i < j → es[i]? = some ei → es[j]? = some ej → Free ops.toList ops.toList.length i (ei.obs.map (·.1)) ei.rd j ej) (hB : drawB ops.toList = true)
  (hQ : ∀ a w G I, Mod tb X (foldG (fun _ => true) 0 es g0) (foldO (fun _ => true) 0 es o0) a w G I → Q .normal a w)
  (hQP : ∀ v, (∃ e ∈ es, ∃ i, (i, Ob.pan v) ∈ e.obs) → ∀ a w G I (p : Nat → Bool), (∀ os : List Nat, (∀ j ∈ os, ∀ e ∈ es, ∀ q ∈ e.obs, q.1 ≠ j) → Mod tb X (foldG p 0 es g0) (deadO os (foldO p 0 es o0)) a w G I) → Q (.panic [{ v := v, recovered := false }]) a w) :
  ∀ (fuel : Nat) (listed : Array Bool) (a : Act) (w : World) (G : Nat → Option GR) (I : Nat → Prop), Closed ops listed → unl ops listed ≤ fuel →
   Mod tb X (foldG (fun i => listed.getD i true) 0 es g0) (foldO (fun i => listed.getD i true) 0 es o0) a w G I → wpAnyIn F n P .any ops Q fuel listed a w := by
 have hplain : ∀ e ∈ es, Plain e := by
  intro e he
  obtain ⟨i, hi⟩ := List.mem_iff_getElem?.1 he
  have hil : i < ops.size := by rw [← hlen]; exact (List.getElem?_eq_some_iff.1 hi).1
  obtain ⟨e', he', hr⟩ := rows i ops[i] (by rw [Array.getElem?_toList]; simp [hil])
  rw [hi] at he'
  cases he'
  exact hr.plain
 have hdone : ∀ (listed : Array Bool) (a : Act) (w : World) (G : Nat → Option GR) (I : Nat → Prop), (∀ j, j < ops.size → listed.getD j true = true) →
   Mod tb X (foldG (fun i => listed.getD i true) 0 es g0) (foldO (fun i => listed.getD i true) 0 es o0) a w G I → Q .normal a w := by
  intro listed a w G I hall m
  rw [foldG_same (q := fun _ => true) es 0 g0 (fun i _ hi => hall i (by omega)), foldO_same (q := fun _ => true) es 0 o0 (fun i _ hi => hall i (by omega))] at m
  exact hQ a w G I m
 intro fuel
 induction fuel with
 | zero =>
  intro listed a w G I hc hu m
  have hall : ∀ j, j < ops.size → listed.getD j true = true := by
   intro j hj
   cases hl : listed.getD j true with
   | true => rfl
   | false => have := unl_set hj hl; omega
  refine ⟨?_, hdone listed a w G I hall m⟩
  cases hr : Region.ready .any ops listed with
  | nil => rfl
  | cons j r =>
   exfalso
   have hj : j ∈ Region.ready .any ops listed := by rw [hr]; simp
   obtain ⟨h1, o, ho, _⟩ := mem_ready.1 hj
   rw [hall j (Array.getElem?_eq_some_iff.1 ho).1] at h1
   cases h1
 | succ fuel ih =>
  intro listed a w G I hc hu m
  refine ⟨fun hr => hdone listed a w G I (ready_all hB hc hr) m, fun j hj => ?_⟩
  obtain ⟨hjl, x, hx, hall⟩ := mem_ready.1 hj
  have hjn : j < ops.size := (Array.getElem?_eq_some_iff.1 hx).1
  have hx' : ops.toList[j]? = some x := by rw [Array.getElem?_toList]; exact hx
  obtain ⟨e, he, row⟩ := rows j x hx'
  have hpre : ∀ y, ops.toList[j]? = some y → ∀ p ∈ predsOf y, listed.getD p true = true := by
   intro y hy p hp
   rw [hx'] at hy
   cases hy
   obtain ⟨ed, hed, hb, rfl⟩ := mem_preds.1 hp
   exact getD_true_of_false (hall ed hed hb)
  have sep : ∀ k y, ops.toList[k]? = some y → k ≠ j → listed.getD k true ≠ Nat.blt k j → (x.apart ops y = true ∨ y.apart ops x = true) ∧
    (∀ ek, es[k]? = some ek → (k < j ∧ Free ops.toList ops.toList.length k (ek.obs.map (·.1)) ek.rd j e ∧ ¬ reach ops.toList ops.toList.length j k = true) ∨
     (j < k ∧ Free ops.toList ops.toList.length j (e.obs.map (·.1)) e.rd k ek ∧ ¬ reach ops.toList ops.toList.length k j = true)) := by
   intro k y hy hkj hne
   rcases Nat.lt_or_ge k j with hlt | hge
   ·have hkl : listed.getD k true = false := by
     cases hl : listed.getD k true with
     | false => rfl
     | true => rw [hl] at hne; simp [hlt] at hne
    have hnr : ¬ reach ops.toList ops.toList.length j k = true := fun hr => by
     rw [reach_closed hc _ j k hpre hr] at hkl; cases hkl
    refine ⟨.inr (((drawB_spec hB hx').2 k y hlt hy).resolve_right hnr), fun ek hek => .inl ⟨hlt, mem k j ek e hlt hek he, hnr⟩⟩
   ·have hlt : j < k := by omega
    have hkl : listed.getD k true = true := by
     cases hl : listed.getD k true with
     | true => rfl
     | false => rw [hl] at hne; simp at hne; omega
    have hnr : ¬ reach ops.toList ops.toList.length k j = true := fun hr => by
     have := reach_closed hc _ k j (fun z hz p hp => hc.pre k z hz hkl p hp) hr
     rw [hjl] at this; cases this
    exact ⟨.inl (((drawB_spec hB hy).2 j x hlt hx').resolve_right hnr), fun ek hek => .inr ⟨hlt, mem j k e ek hlt he hek, hnr⟩⟩
  have rowOf : ∀ k ek, es[k]? = some ek → ∃ y, ops.toList[k]? = some y ∧ Row tb (Con P tb 8 Y) ops.toList n0 es g0 o0 k y ek := by
   intro k ek hk
   have hkl : k < ops.size := by rw [← hlen]; exact (List.getElem?_eq_some_iff.1 hk).1
   have hy : ops.toList[k]? = some ops[k] := by rw [Array.getElem?_toList]; simp [hkl]
   obtain ⟨e', he', hr⟩ := rows k _ hy
   rw [hk] at he'
   cases he'
   exact ⟨_, hy, hr⟩
  have hg : ∀ t ∈ x.looksAt ops, foldG (fun i => listed.getD i true) 0 es g0 t = foldG (fun i => Nat.blt i j) 0 es g0 t := by
   intro t ht
   refine foldG_congr es 0 g0 g0 hplain rfl fun k ek hek hne d y hs hdt => ?_
   simp only [Nat.zero_add] at hne
   obtain ⟨z, hz, rz⟩ := rowOf k ek hek
   have hzd := rz.slot d y hs
   have hkj : k ≠ j := fun e1 => by subst e1; rw [hjl] at hne; simp at hne
   obtain ⟨hap, _⟩ := sep k z hz hkj hne
   subst hdt
   rcases hap with hap | hap
   ·exact (Oper.apart_spec hap).2.2 d hzd ht
   ·exact (Oper.apart_spec hap).1 d hzd ht
  have ho : ∀ i ∈ e.rd, foldO (fun i => listed.getD i true) 0 es o0 i = foldO (fun i => Nat.blt i j) 0 es o0 i := by
   intro i hi
   refine foldO_congr es 0 o0 o0 hplain rfl fun k ek hek hne p hp hpi => ?_
   simp only [Nat.zero_add] at hne
   obtain ⟨z, hz, rz⟩ := rowOf k ek hek
   have hkj : k ≠ j := fun e1 => by subst e1; rw [hjl] at hne; simp at hne
   obtain ⟨_, hm⟩ := sep k z hz hkj hne
   subst hpi
   rcases hm ek hek with ⟨_, hf, hnr⟩ | ⟨_, hf, hnr⟩
   ·rcases hf with hf | hf
    ·exact disj_spec hf.2.1 (List.mem_map.2 ⟨p, hp, rfl⟩) hi
    ·exact hnr hf
   ·rcases hf with hf | hf
    ·exact disj_spec hf.2.2 hi (List.mem_map.2 ⟨p, hp, rfl⟩)
    ·exact hnr hf
  have hnid : ∀ t, t < 8 → foldO (fun i => listed.getD i true) 0 es o0 (n0 + j * 8 + t) = none := by
   intro t ht
   have : foldO (fun i => listed.getD i true) 0 es o0 (n0 + j * 8 + t) = foldO (fun _ => false) 0 es o0 (n0 + j * 8 + t) := by
    refine foldO_congr es 0 o0 o0 hplain rfl fun k ek hek hne p hp hpi => ?_
    simp only [Nat.zero_add, ne_eq, Bool.not_eq_false] at hne
    obtain ⟨z, hz, rz⟩ := rowOf k ek hek
    have hkj : k ≠ j := fun e1 => by subst e1; rw [hjl] at hne; cases hne
    rcases rz.ids p hp with h1 | ⟨h1, h2⟩
    ·omega
    ·rcases h1 with h1 | h1
     ·omega
     ·rw [hpi, show (n0 + j * 8 + t - n0) / 8 = j by omega] at h1
      have := reach_closed hc _ k j (fun z hz p hp => hc.pre k z hz hne p hp) h1
      rw [hjl] at this; cases this
   rw [this, foldO_none es 0 o0 (fun _ _ => rfl)]
   exact hok _ (by omega)
  have hstep := step_frame (ops := ops) rfl row.step hg ho row.plain.frz row.plain.clr
  have hxm : x ∈ ops.toList := List.mem_of_getElem? hx'
  rcases step_sound (F := F) (n := n) hP hF hE m (hd x hxm) (hnid 0 (by omega)) (fun k hk => hnid k hk) (by omega) hstep with ⟨e', rfl, hdo⟩ | ⟨_, e', rfl, i, v, hm, hdo⟩
  rotate_left
  ·unfold wpOpIn
   simp only [hx]
   have hmem := List.mem_of_getElem? he
   exact hdo _ _ fun w' G' I' hmod => hQP v ⟨_, hmem, i, hm⟩ a w' G' I' _ fun os hos => hmod os fun j hj p hp => hos j hj _ hmem p hp
  unfold wpOpIn
  simp only [hx]
  refine hdo _ _ fun a' w' G' I' m' => ih (listed.setIfInBounds j true) a' w' G' I' ⟨by simp [hc.size], fun k y hy hk p hp => ?_⟩ (by have := unl_set hjn hjl; omega) ?_
  ·by_cases e1 : j = k
   ·subst e1; exact set_true (hpre y hy p hp)
   ·rw [getD_set_ne true e1] at hk; exact set_true (hc.pre k y hy hk p hp)
  ·rw [foldG_add es 0 j e' g0 hplain he (by simpa using hjl) (by simp only [Nat.zero_add]; exact set_self) (fun i hi => getD_set_ne true (by omega)) ?_,
    foldO_add es 0 j e' o0 hplain he (by simpa using hjl) (by simp only [Nat.zero_add]; exact set_self) (fun i hi => getD_set_ne true (by omega)) ?_]
   ·exact m'
   ·intro k ek hek hjk hkl p hp q hq heq
    simp only [Nat.zero_add] at hkl
    obtain ⟨z, hz, rz⟩ := rowOf k ek hek
    obtain ⟨_, hm⟩ := sep k z hz (by omega) (by rw [hkl]; simp; omega)
    rcases hm ek hek with ⟨h, _⟩ | ⟨_, hf, hnr⟩
    ·omega
    ·rcases hf with hf | hf
     ·exact disj_spec hf.1 (List.mem_map.2 ⟨p, hp, rfl⟩) (by rw [heq]; exact List.mem_map.2 ⟨q, hq, rfl⟩)
     ·exact hnr hf
   ·intro k ek hek hjk hkl d y d' y' hs hs' heq
    simp only [Nat.zero_add] at hkl
    obtain ⟨z, hz, rz⟩ := rowOf k ek hek
    obtain ⟨hap, _⟩ := sep k z hz (by omega) (by rw [hkl]; simp; omega)
    have h1 := row.slot d y hs
    have h2 := rz.slot d' y' hs'
    rcases hap with hap | hap
    ·exact (Oper.apart_spec hap).2.1 d h1 (by rw [h2, heq])
    ·exact (Oper.apart_spec hap).2.1 d' h2 (by rw [h1, heq])
def dstL : List Oper → List Nat
 | [] => []
 | x :: r => match x.dst with
  | some d => d :: dstL r
  | none => dstL r
theorem dstL_cons (y : Oper) (r : List Oper) : dstL (y :: r) = match y.dst with
  | some d => d :: dstL r
  | none => dstL r := rfl
theorem dstL_mem {x : Oper} {d : Nat} (hd : x.dst = some d) : ∀ {l : List Oper}, x ∈ l → d ∈ dstL l := by
 intro l
 induction l with
 | nil => intro h; cases h
 | cons y r ih =>
  intro h
  rw [dstL_cons]
  rcases List.mem_cons.1 h with e | h
  ·rw [← e, hd]; exact List.mem_cons_self
  ·split
   ·exact List.mem_cons_of_mem _ (ih h)
   ·exact ih h
def killS (ds : List Nat) : List (Nat × A) → (List (Nat × A) → Prop) → Prop
 | [], K => K []
 | (k, x) :: r, K => bif memN ds k then killS ds r K else killS ds r fun r => K ((k, x) :: r)
theorem killS_eq (ds : List Nat) : ∀ (l : List (Nat × A)) (K : List (Nat × A) → Prop), killS ds l K = K (l.filter fun p => !memN ds p.1)
 | [], K => rfl
 | (k, x) :: r, K => by
  rw [killS]
  cases h : memN ds k with
  | true => rw [cond_true, killS_eq ds r, List.filter_cons_of_neg (by simp [h])]
  | false => rw [cond_false, killS_eq ds r, List.filter_cons_of_pos (by simp [h])]
theorem foldG_not {p : Nat → Bool} {t : Nat} : ∀ (es : List Eff) (k : Nat) (g : Nat → A), (∀ e ∈ es, ∀ y, e.slot = some (t, y) → False) → (∀ e ∈ es, Plain e) → foldG p k es g t = g t
 | [], k, g, _, _ => rfl
 | e :: es, k, g, h, hp => by
  rw [foldG, foldG_not es (k + 1) _ (fun e' he => h e' (List.mem_cons_of_mem _ he)) (fun e' he => hp e' (List.mem_cons_of_mem _ he))]
  cases p k with
  | false => rfl
  | true => exact appG_at (hp e List.mem_cons_self) fun d x hs hd => h e List.mem_cons_self x (hd ▸ hs)
theorem lookA_kill (ds : List Nat) : ∀ (l : List (Nat × A)) (t : Nat), lookA (l.filter fun p => !memN ds p.1) t = bif memN ds t then .unk else lookA l t
 | [], t => by
  show A.unk = _
  cases memN ds t <;> rfl
 | (k, x) :: r, t => by
  have ih := lookA_kill ds r t
  by_cases hk : memN ds k = true
  ·rw [List.filter_cons_of_neg (by simp [hk]), ih]
   cases ht : memN ds t with
   | true => rfl
   | false =>
    have : Nat.beq k t = false := by
     cases e : Nat.beq k t with
     | false => rfl
     | true => have := Nat.eq_of_beq_eq_true e; subst this; rw [hk] at ht; cases ht
    rw [cond_false, cond_false, lookA, this, cond_false]
  ·rw [Bool.not_eq_true] at hk
   rw [List.filter_cons_of_pos (by simp [hk]), lookA, lookA, ih]
   cases e : Nat.beq k t with
   | true =>
    have := Nat.eq_of_beq_eq_true e
    subst this
    rw [hk]; rfl
   | false => cases memN ds t <;> rfl
def endR (acc : List (Nat × List Nat × List Nat)) (ds : List Nat) (s : St) (KN : St → Prop) (KP : Value → St → Prop) : Prop :=
 match s with
 | ⟨sl, ob, n⟩ => bif panB ob then bif panIn ob ob then ∃ (v : Value) (os : List Nat), panAll v ob ∧ (acc.all fun q => disj q.2.1 os) = true ∧ killS ds sl fun sl => killO os ob fun ob => KP v ⟨sl, ob, n⟩ else False
  else KN ⟨sl, ob, n⟩
theorem endR_def (acc : List (Nat × List Nat × List Nat)) (ds : List Nat) (s : St) (KN : St → Prop) (KP : Value → St → Prop) : endR acc ds s KN KP =
  (bif panB s.ob then bif panIn s.ob s.ob then ∃ (v : Value) (os : List Nat), panAll v s.ob ∧ (acc.all fun q => disj q.2.1 os) = true ∧ killS ds s.sl fun sl => killO os s.ob fun ob => KP v ⟨sl, ob, s.n⟩ else False
  else KN s) := by
 obtain ⟨sl, ob, n⟩ := s; rfl
theorem accOf_mem : ∀ (es : List Eff) (k : Nat) (acc : List (Nat × List Nat × List Nat)) {e : Eff}, e ∈ es → e.obs ≠ [] → ∃ q ∈ accOf k es acc, q.2.1 = e.obs.map (·.1)
 | e0 :: es, k, acc, e, he, hne => by
  have keep : ∀ (es : List Eff) (k : Nat) (acc : List (Nat × List Nat × List Nat)) q, q ∈ acc → q ∈ accOf k es acc := by
   intro es
   induction es with
   | nil => intro k acc q h; exact h
   | cons e es ih =>
    intro k acc q h
    rw [accOf]
    refine ih _ _ _ ?_
    cases (e.obs.isEmpty && e.rd.isEmpty) <;> simp [h]
  rw [accOf]
  rcases List.mem_cons.1 he with rfl | he
  ·refine ⟨(k, e.obs.map (·.1), e.rd), keep _ _ _ _ ?_, rfl⟩
   have : (e.obs.isEmpty && e.rd.isEmpty) = false := by
    cases h : e.obs with
    | nil => exact absurd h hne
    | cons p r => rfl
   rw [this]; simp
  ·exact accOf_mem es (k + 1) _ he hne
theorem foldO_up {p : Nat → Bool} {i : Nat} : ∀ (es : List Eff) (k : Nat) (o o' : Nat → Option Ob), ((o i).isSome = true → (o' i).isSome = true) → (foldO p k es o i).isSome = true → (foldO (fun _ => true) k es o' i).isSome = true
 | [], _, _, _, h, h' => h h'
 | e :: es, k, o, o', h, h' => by
  rw [foldO] at h' ⊢
  refine foldO_up es (k + 1) _ _ (fun hh => ?_) h'
  rw [cond_true]
  have up : (o' i).isSome = true → (appO e o' i).isSome = true := fun h => by
   unfold appO
   cases lookO e.obs i with
   | some x => rfl
   | none => simpa using h
  cases hp : p k with
  | true =>
   rw [hp, cond_true] at hh
   unfold appO at hh ⊢
   cases hl : lookO e.obs i with
   | some x => rfl
   | none => rw [hl] at hh; simpa using h (by simpa using hh)
  | false => rw [hp, cond_false] at hh; exact up (h hh)
theorem draw_sound (hP : PG P tb) (hF : Wide F) (hE : EnvOK P X.E Y) {id : Nat} {a : Act} {w : World} {s : St} {G : Nat → Option GR} {I : Nat → Prop} {KN : St → Prop} {KP : Value → St → Prop} (hd : ∀ y ∈ ops.toList, ∀ d, y.dst = some d → d < X.nt) (hnb : X.nb ≤ s.n) (hok : s.ok)
  (hB : drawB ops.toList = true) (m : Mod tb X s.get s.obj a w G I) (h : evDraw tb (Con P tb 8 Y) ops.toList ops.toList.length s.n 0 ops.toList s [] fun acc s' => endR acc (dstL ops.toList) s' KN KP)
  (hQ : ∀ a' w' s' G' I', Mod tb X s'.get s'.obj a' w' G' I' → s'.ok → s.n ≤ s'.n → KN s' → Q .normal a' w')
  (hQ2 : ∀ v a' w' s' G' I', Mod tb X s'.get s'.obj a' w' G' I' → s'.ok → s.n ≤ s'.n → KP v s' → Q (.panic [{ v := v, recovered := false }]) a' w') : (Code.region id ops true).wpIn F n P Q a w := by
 obtain ⟨es, s', h1, h2, h3, h4, h5, h6, ⟨mm, h8, h9⟩, h7⟩ := draw_rows (S := Con P tb 8 Y) rfl (g0 := s.get) (o0 := s.obj) ops.toList 0 s [] [] rfl rfl rfl h
 obtain ⟨_, _, hm⟩ := memB_acc es 0 [] h1
 simp only [List.nil_append, Nat.zero_add] at h2 h3 h7 hm
 have hlen : es.length = ops.size := by simpa using h6
 have hok' : s'.ok := fun i hi => by
  rw [h3]
  have hpl : ∀ e ∈ es, Plain e := by
   intro e he
   obtain ⟨i, hi⟩ := List.mem_iff_getElem?.1 he
   have hil : i < ops.size := by rw [← hlen]; exact (List.getElem?_eq_some_iff.1 hi).1
   obtain ⟨e', he', hr⟩ := h7 i ops[i] (by rw [Array.getElem?_toList]; simp [hil])
   rw [hi] at he'
   cases he'
   exact hr.plain
  have : foldO (fun _ => true) 0 es s.obj i = foldO (fun _ => false) 0 es s.obj i := by
   refine foldO_congr es 0 _ _ hpl rfl fun k ek hek _ p hp hpi => ?_
   have hkl : k < ops.size := by rw [← hlen]; exact (List.getElem?_eq_some_iff.1 hek).1
   obtain ⟨e', he', hr⟩ := h7 k ops[k] (by rw [Array.getElem?_toList]; simp [hkl])
   rw [hek] at he'
   cases he'
   have hkk : ops.toList.length = ops.size := by simp
   rcases hr.ids p hp with h | ⟨_, h⟩ <;> omega
  rw [this, foldO_none es 0 _ (fun _ _ => rfl)]
  exact hok i (by omega)
 refine wpIn_region_any hP.mixed (draw_main hP hF hE hd hnb hok h7 hlen hm hB (fun a' w' G' I' m' => ?_) (fun v hv a' w' G' I' p hmod => ?_) ops.size _ a _ G I ⟨by simp, fun j x hx hl => ?_⟩ ?_ ?_)
 ·rw [← h2, ← h3] at m'
  rw [endR_def] at h5
  cases hp : panB s'.ob with
  | true =>
   rw [hp, cond_true] at h5
   cases hp2 : panIn s'.ob s'.ob with
   | true =>
    obtain ⟨i, v, hi⟩ := panIn_spec hp2
    exact (m'.objs i _ hi).elim
   | false => rw [hp2] at h5; exact h5.elim
  | false =>
   rw [hp, cond_false] at h5
   exact hQ a' w' s' G' I' m' hok' (by omega) h5
 ·obtain ⟨e, he, i, hi⟩ := hv
  have hin : (i, Ob.pan v) ∈ s'.ob := by rw [h8]; exact List.mem_append_left _ (h9 e he _ hi)
  rw [endR_def] at h5
  rw [panB_mem hin, cond_true] at h5
  cases hp2 : panIn s'.ob s'.ob with
  | false => rw [hp2] at h5; exact h5.elim
  | true =>
   rw [hp2, cond_true] at h5
   obtain ⟨v0, os, k1, k2, k3⟩ := h5
   have hv0 := panAll_mem k1 hin
   subst hv0
   rw [killS_eq, killO_eq] at k3
   have hdis : ∀ j ∈ os, ∀ e ∈ es, ∀ q ∈ e.obs, q.1 ≠ j := by
    intro j hj e he q hq hqj
    obtain ⟨z, hz1, hz2⟩ := accOf_mem es 0 [] he (fun h0 => by rw [h0] at hq; cases hq)
    have := List.all_eq_true.1 k2 z hz1
    refine disj_spec this (x := j) ?_ hj
    rw [hz2]
    exact List.mem_map.2 ⟨q, hq, hqj⟩
   have m' := hmod os hdis
   have hpl : ∀ e ∈ es, Plain e := by
    intro e he
    obtain ⟨i, hi⟩ := List.mem_iff_getElem?.1 he
    have hil : i < ops.size := by rw [← hlen]; exact (List.getElem?_eq_some_iff.1 hi).1
    obtain ⟨e', he', hr⟩ := h7 i ops[i] (by rw [Array.getElem?_toList]; simp [hil])
    rw [hi] at he'
    cases he'
    exact hr.plain
   refine hQ2 _ a' w' ⟨_, _, s'.n⟩ G' I' ?_ (fun i hi => ?_) (by show s.n ≤ s'.n; omega) k3
   ·have hds : ∀ t, memN (dstL ops.toList) t = false → ∀ e ∈ es, ∀ y, e.slot = some (t, y) → False := fun t ht e he y hy => by
     obtain ⟨i, hi⟩ := List.mem_iff_getElem?.1 he
     have hil : i < ops.size := by rw [← hlen]; exact (List.getElem?_eq_some_iff.1 hi).1
     have hx : ops.toList[i]? = some ops[i] := by rw [Array.getElem?_toList]; simp [hil]
     obtain ⟨e', he', hr⟩ := h7 i ops[i] hx
     rw [hi] at he'
     cases he'
     rw [memN_iff.2 (dstL_mem (hr.slot t y hy) (List.mem_of_getElem? hx))] at ht
     cases ht
    have hsl : ∀ t, RepA G' I' w'.heap (lookA (s'.sl.filter fun p => !memN (dstL ops.toList) p.1) t) (a'.tmps.getD t undef) := fun t => by
     rw [lookA_kill]
     cases ht : memN (dstL ops.toList) t with
     | true => rw [cond_true, RepA]; trivial
     | false =>
      rw [cond_false]
      have e1 : lookA s'.sl t = s.get t := by
       have : lookA s'.sl t = s'.get t := rfl
       rw [this, h2]
       exact foldG_not es 0 _ (hds t ht) hpl
      have e2 := m'.slots t
      rw [foldG_not es 0 _ (hds t ht) hpl] at e2
      rw [e1]; exact e2
    have m' : Mod tb X (St.get ⟨s'.sl.filter fun p => !memN (dstL ops.toList) p.1, s'.ob.map fun p => (p.1, bif memN os p.1 then p.2 else .dead), s'.n⟩) (deadO os (foldO p 0 es s.obj)) a' w' G' I' := { m' with slots := hsl }
    refine Mod.deads (o := deadO os (foldO p 0 es s.obj)) m' fun i => ?_
    have hs3 : lookO s'.ob = foldO (fun _ => true) 0 es s.obj := h3
    have hob : St.obj ⟨s'.sl.filter fun p => !memN (dstL ops.toList) p.1, s'.ob.map fun p => (p.1, bif memN os p.1 then p.2 else .dead), s'.n⟩ i = deadO os (foldO (fun _ => true) 0 es s.obj) i := by
     rw [← hs3, ← lookO_kill]; rfl
    rw [hob]
    unfold deadO
    cases hmi : memN os i with
    | true =>
     left
     simp only [cond_true]
     refine foldO_congr es 0 _ _ hpl rfl fun k ek hek _ q hq => hdis i (memN_iff.1 hmi) ek (List.mem_of_getElem? hek) q hq
    | false =>
     simp only [cond_false]
     cases hf : foldO p 0 es s.obj i with
     | some x =>
      left
      have := foldO_up (p := p) (i := i) es 0 s.obj s.obj (fun h => h) (by rw [hf]; rfl)
      obtain ⟨y, hy⟩ := Option.isSome_iff_exists.1 this
      rw [hy]; rfl
     | none =>
      cases hf2 : foldO (fun _ => true) 0 es s.obj i with
      | none => left; rfl
      | some y =>
       exact Or.inr ⟨rfl, rfl⟩
   ·show lookO (s'.ob.map _) i = none
    rw [lookO_kill]
    have : lookO s'.ob i = none := hok' i hi
    unfold deadO
    rw [this]
    cases memN os i <;> rfl
 ·exfalso
  have hj : j < ops.size := by have := (List.getElem?_eq_some_iff.1 hx).1; simpa using this
  simp [hj] at hl
 ·unfold unl
  exact Nat.le_trans List.countP_le_length (by simp)
 ·have e1 : ∀ i, 0 ≤ i → i < 0 + es.length → (Array.replicate ops.size false).getD i true = (fun _ => false) i := fun i _ hi => by
   have : i < ops.size := by omega
   simp [this]
  rw [foldG_same es 0 _ e1, foldO_same es 0 _ e1, foldG_none es 0 _ (fun _ _ => rfl), foldO_none es 0 _ (fun _ _ => rfl)]
  exact m.world rfl rfl rfl rfl
end
end Go.Ev


namespace Go.Ev
section
variable {P : Program} {F : Fence} {n : Nat} {b : Frame} {a : Act} {k : List Item} {cs : List Frame} {w : World} {Q : Exit → Act → World → Prop}
theorem stepR_scope {c : Code} : step P (lone (b.atR a (.code (.scope c) :: k)) cs w) = .next (lone (b.atR a (.code c :: .inScope c :: k)) cs w) :=
 step_lone_go (by simp [stepG, stepG.exec, Frame.atR])
theorem stepR_inScope {c : Code} : step P (lone (b.atR a (.inScope c :: k)) cs w) = .next (lone (b.atR a k) cs w) :=
 step_lone_go (by simp [stepG, stepG.exec, Frame.atR])
def noGoto (Q : Exit → Act → World → Prop) : Exit → Act → World → Prop
 | .goto _, _, _ => False
 | e, a, w => Q e a w
theorem wpIn_scope {c : Code} (h : c.wpIn F n P (noGoto Q) a w) : (Code.scope c).wpIn F n P Q a w := by
 intro b k cs hro hb hr
 have h0 : (lone (b.atR a (.code (.scope c) :: k)) cs w).fenced P F := fenced_calm hb hr rfl
 obtain ⟨e, a₁, w₁, hq, harr⟩ := h b (.inScope c :: k) cs hro hb hr
 cases e with
 | normal => exact ⟨.normal, a₁, w₁, hq, .head h0 stepR_scope (StepsIn.trans harr (.one (fenced_calm hb hr rfl) stepR_inScope))⟩
 | exit id =>
  have hx : exitTo id (.inScope c :: k) = exitTo id k := by simp [exitTo]
  exact ⟨.exit id, a₁, w₁, hq, fun k' hk => .head h0 stepR_scope (harr.1 k' (by rw [hx]; exact hk)),
   fun hr' hk => let ⟨k₁, h1, h2⟩ := harr.2 hr' (by rw [hx]; exact hk); ⟨k₁, h1, .head h0 stepR_scope h2⟩⟩
 | goto l => exact hq.elim
 | ret => exact ⟨_, a₁, w₁, hq, .of_steps (.one h0 stepR_scope) harr⟩
 | panic ch => exact ⟨_, a₁, w₁, hq, .of_steps (.one h0 stepR_scope) harr⟩
 | outgrown => exact ⟨_, a₁, w₁, hq, .of_steps (.one h0 stepR_scope) harr⟩
end
end Go.Ev


namespace Go.Ev
open RowKit
inductive Cv where
 | seq (t : Nat)
 | own (t : Nat) (e : TypeId)
 | cseq (i k : Nat)
 | cown (i k : Nat) (e : TypeId)
 | ren (ρ : List Nat)
 | rex
 | frz (i : Nat)
 | ownw (t : Nat) (e : TypeId)
 | toArr (i : Nat)
 | frx
 | pad (e : TypeId)
def cvS (tb : TB) (nb : Nat) : List Cv → St → (St → Prop) → Prop
 | [], s, K => K s
 | .ren _ :: r, s, K => cvS tb nb r s K
 | .rex :: r, s, K => cvS tb nb r s K
 | .frx :: r, s, K => cvS tb nb r s K
 | .pad e :: r, ⟨sl, ob, n⟩, K => match tb e with
  | some _ => fN (n + 1) fun n1 => cvS tb nb r ⟨sl, (n, .arr e []) :: ob, n1⟩ K
  | none => False
 | .frz i :: r, ⟨sl, ob, n⟩, K => match lookO ob i with
  | some (.arr _ es) => mapSl (frzA [(i, .seq es)]) sl fun sl => mapOb (frzO [(i, .seq es)]) ob fun ob => cvS tb nb r ⟨sl, (i, .dead) :: ob, n⟩ K
  | _ => False
 | .ownw t e :: r, ⟨sl, ob, n⟩, K => match lookA sl t with
  | .d (.v (.slice none 0 0)) => match tb e with
   | some _ => fN (n + 1) fun n1 => cvS tb nb r ⟨(t, .own n) :: sl, (n, .arw e []) :: ob, n1⟩ K
   | none => False
  | _ => False
 | .toArr i :: r, ⟨sl, ob, n⟩, K => bif Nat.ble nb i then (match lookO ob i with
  | some (.arw T cs) => ∃ ds : List D, cs = ds.map A.d ∧ cvS tb nb r ⟨sl, (i, .arr T (ds.map fun d => [d])) :: ob, n⟩ K
  | _ => False) else False
 | .seq t :: r, ⟨sl, ob, n⟩, K => match lookA sl t with
  | .d (.v (.slice none 0 0)) => cvS tb nb r ⟨(t, .d (.seq [])) :: sl, ob, n⟩ K
  | _ => False
 | .own t e :: r, ⟨sl, ob, n⟩, K => match lookA sl t with
  | .d (.v (.slice none 0 0)) => match tb e with
   | some _ => fN (n + 1) fun n1 => cvS tb nb r ⟨(t, .own n) :: sl, (n, .arr e []) :: ob, n1⟩ K
   | none => False
  | _ => False
 | .cseq i k :: r, ⟨sl, ob, n⟩, K => match lookO ob i with
  | some (.var false T cs) => match cs[k]? with
   | some (.d (.v (.slice none 0 0))) => fL (cs.set k (.d (.seq []))) fun cs => cvS tb nb r ⟨sl, (i, .var false T cs) :: ob, n⟩ K
   | _ => False
  | _ => False
 | .cown i k e :: r, ⟨sl, ob, n⟩, K => match lookO ob i with
  | some (.var false T cs) => match cs[k]? with
   | some (.d (.v (.slice none 0 0))) => match tb e with
    | some _ => fL (cs.set k (.own n)) fun cs => fN (n + 1) fun n1 => cvS tb nb r ⟨sl, (i, .var false T cs) :: (n, .arr e []) :: ob, n1⟩ K
    | none => False
   | _ => False
  | _ => False
section
variable {tb : TB} {X : Ctx} {g : Nat → A} {o : Nat → Option Ob} {a : Act} {w : World} {G : Nat → Option GR} {I : Nat → Prop}
theorem Mod.resay (m : Mod tb X g o a w G I) {t : Nat} {x : A} (h : RepA G I w.heap x (a.tmps.getD t undef)) {g' : Nat → A} (hg : ∀ j, g' j = bif Nat.beq t j then x else g j) : Mod tb X g' o a w G I :=
 have hs : ∀ j, RepA G I w.heap (g' j) (a.tmps.getD j undef) := fun j => by
  rw [hg]
  by_cases e : t = j
  ·subst e; rw [beq_self, cond_true]; exact h
  ·rw [beq_ne e, cond_false]; exact m.slots j
 { m with slots := hs }
theorem Mod.recell (m : Mod tb X g o a w G I) {i : Nat} {T : TypeId} {cs cs' : List A} (hi : o i = some (.var false T cs)) (h : ∀ c : Array Value, RepAL G I w.heap cs c.toList → RepAL G I w.heap cs' c.toList)
  {o' : Nat → Option Ob} (ho : ∀ j, o' j = bif Nat.beq i j then some (.var false T cs') else o j) : Mod tb X g o' a w G I := by
 have hoi : o' i = some (.var false T cs') := by rw [ho, beq_self]; rfl
 have hoj : ∀ j, i ≠ j → o' j = o j := fun j e => by rw [ho, beq_ne e]; rfl
 have live : ∀ j oj, o' j = some oj → oj.live = true → ∃ oj', o j = some oj' ∧ oj'.live = true := fun j oj hj hl => by
  by_cases e : i = j
  ·subst e; exact ⟨_, hi, rfl⟩
  ·rw [hoj j e] at hj; exact ⟨oj, hj, hl⟩
 refine { m with objs := ?_, dom := ?_, sep := ?_, own := ?_, barr := ?_, env := ?_ }
 ·intro j oj hj
  by_cases e : i = j
  ·subst e
   rw [hoi] at hj; cases hj
   obtain ⟨b, c, h1, h2, h3, h4⟩ := m.objs i _ hi
   exact ⟨b, c, h1, h2, h c h3, h4⟩
  ·rw [hoj j e] at hj; exact m.objs j oj hj
 ·intro j gr hj
  by_cases e : i = j
  ·subst e; rw [hoi]; rfl
  ·rw [hoj j e]; exact m.dom j gr hj
 ·intro j k oj ok gj gk b hj hk hlj hlk
  obtain ⟨oj', hj', hlj'⟩ := live j oj hj hlj
  obtain ⟨ok', hk', hlk'⟩ := live k ok hk hlk
  exact m.sep j k oj' ok' gj gk b hj' hk' hlj' hlk'
 ·intro j oj gj b hj hlj
  obtain ⟨oj', hj', hlj'⟩ := live j oj hj hlj
  exact m.own j oj' gj b hj' hlj'
 ·intro j T' es hj hba e
  by_cases e' : i = j
  ·subst e'; rw [hoi] at e; cases e
  ·rw [hoj j e'] at e; exact m.barr j T' es hj hba e
 ·obtain ⟨k, Ft, h1, h2, h3, h4⟩ := m.env
  refine ⟨k, Ft, h1, h2, fun j oj gj b hj hlj => ?_, fun j k' e => ?_⟩
  ·obtain ⟨oj', hj', hlj'⟩ := live j oj hj hlj
   exact h3 j oj' gj b hj' hlj'
  ·by_cases e' : i = j
   ·subst e'; rw [hoi] at e; cases e
   ·rw [hoj j e'] at e; exact h4 j k' e
theorem nil_rep {G : Nat → Option GR} {h : Array Obj} {v : Value} (r : RepA G I h (.d (.v (.slice none 0 0))) v) : v = .slice none 0 0 := by
 rw [RepA, RepD] at r; exact r
theorem nil_seq {G : Nat → Option GR} {h : Array Obj} : RepA G I h (.d (.seq [])) (.slice none 0 0) := by
 rw [RepA, RepD]; exact ⟨none, 0, 0, rfl, rfl, Nat.le_refl _, .inl rfl⟩
theorem RepAL.resay {h : Array Obj} : ∀ {cs : List A} {vs : List Value} {k : Nat} {x : A}, cs[k]? = some (.d (.v (.slice none 0 0))) → (∀ v, v = .slice none 0 0 → RepA G I h x v) → RepAL G I h cs vs → RepAL G I h (cs.set k x) vs
 | [], vs, k, x, hk, _, r => by simp at hk
 | c :: cs, vs, 0, x, hk, hx, r => by
  obtain ⟨v, q, rfl, r1, r2⟩ := r.uncons
  cases hk
  exact RepAL.cons (hx v (nil_rep r1)) r2
 | c :: cs, vs, k + 1, x, hk, hx, r => by
  obtain ⟨v, q, rfl, r1, r2⟩ := r.uncons
  exact RepAL.cons r1 (RepAL.resay (by simpa using hk) hx r2)
theorem Mod.mkNil (m : Mod tb X g o a w G I) {i : Nat} (hi : o i = none) (hn : X.nb ≤ i) {e : TypeId} {y : Ty} (hy : tb e = some y) :
  Mod tb X g (updO o i (.arr e [])) a w (updG G i ⟨.slice none 0 0, none⟩) I :=
 m.mk' hi hn (Below.refl _ _) (fun b h => by cases h) ⟨y, hy, .inl ⟨rfl, updG_self⟩⟩
theorem Mod.toArr (m : Mod tb X g o a w G I) {i : Nat} {T : TypeId} {ds : List D} (hi : o i = some (.arw T (ds.map A.d))) (hn : X.nb ≤ i) : Mod tb X g (updO o i (.arr T (ds.map fun d => [d]))) a w G I := by
 obtain ⟨us, r1, y, hy, hob⟩ := m.objs i _ hi
 have r1 := RepAL.of_d.1 r1
 have hrow : ∀ (us : List Value) (ds : List D) (vs : List Value), RepL I w.heap ds us → RepR I w.heap y.size (rawE us) vs → RepR I w.heap y.size (ds.map fun d => [d]) vs := by
  intro us
  induction us with
  | nil =>
   intro ds vs r _
   cases ds with
   | nil => simp [RepR]
   | cons d ds => rw [RepL] at r; obtain ⟨v, q, h, _⟩ := r; cases h
  | cons u us ih =>
   intro ds vs r rr
   cases ds with
   | nil => rw [RepL] at r; cases r
   | cons d ds =>
    rw [RepL] at r
    obtain ⟨v, q, h, ra, rb⟩ := r
    cases h
    have rr : RepR I w.heap y.size ([D.v u] :: rawE us) vs := rr
    rw [RepR] at rr
    obtain ⟨p1, p2, p3, p4⟩ := rr
    rw [RepL] at p2
    obtain ⟨v', q', h1, h2, h3⟩ := p2
    rw [RepD] at h2
    rw [RepL] at h3
    subst h2 h3
    rw [List.map_cons, RepR]
    exact ⟨p1, by rw [h1]; exact RepL.cons ra RepL.nil, p3, ih ds _ rb p4⟩
 have hl : (ds.map fun d => [d]).length = (rawE us).length := by unfold rawE; simp [RepL.length r1]
 have hob2 : ObOK tb G I w.heap i (.arr T (ds.map fun d => [d])) := by
  refine ⟨y, hy, ?_⟩
  rcases hob with ⟨h1, h2⟩ | ⟨b, z, cap, c, q1, q2, q3, q4, q5, q6⟩
  ·refine .inl ⟨List.eq_nil_of_length_eq_zero (by rw [hl, h1]; rfl), h2⟩
  ·exact .inr ⟨b, z, cap, c, by rw [hl]; exact q1, q2, by rw [hl]; exact q3, q4, q5, hrow _ _ _ r1 q6⟩
 have hlv : ∀ j x, updO o i (.arr T (ds.map fun d => [d])) j = some x → x.live = true → ∃ y, o j = some y ∧ y.live = true := by
  intro j x hx hl
  by_cases e : i = j
  ·subst e; exact ⟨_, hi, rfl⟩
  ·rw [updO_ne e] at hx; exact ⟨x, hx, hl⟩
 exact { m with
  objs := fun j x hx => by
   by_cases e : i = j
   ·subst e; rw [updO_self] at hx; cases hx; exact hob2
   ·rw [updO_ne e] at hx; exact m.objs j x hx
  dom := fun j gr hg => by
   by_cases e : i = j
   ·subst e; rw [updO_self]; rfl
   ·rw [updO_ne e]; exact m.dom j gr hg
  sep := fun j k oj ok gj gk b h1 h2 h3 h4 => by
   obtain ⟨y1, q1, q2⟩ := hlv j oj h1 h3
   obtain ⟨y2, p1, p2⟩ := hlv k ok h2 h4
   exact m.sep j k y1 y2 gj gk b q1 p1 q2 p2
  own := fun j oj gj b h1 h2 => by
   obtain ⟨y1, q1, q2⟩ := hlv j oj h1 h2
   exact m.own j y1 gj b q1 q2
  barr := fun j T' es hj hba hx => by
   rw [updO_ne (by omega)] at hx
   exact m.barr j T' es hj hba hx
  env := by
   obtain ⟨k, Ft, f1, f2, f3, f4⟩ := m.env
   refine ⟨k, Ft, f1, f2, fun j oj gj b h1 h2 => ?_, fun j k' hx => ?_⟩
   ·obtain ⟨y1, q1, q2⟩ := hlv j oj h1 h2
    exact f3 j y1 gj b q1 q2
   ·by_cases e : i = j
    ·subst e; rw [updO_self] at hx; cases hx
    ·rw [updO_ne e] at hx; exact f4 j k' hx }
theorem cvS_sound {nb : Nat} (hnb : X.nb ≤ nb) : ∀ (l : List Cv) {s : St} {K : St → Prop} {G : Nat → Option GR} {I : Nat → Prop}, cvS tb nb l s K → Mod tb X s.get s.obj a w G I → s.ok → X.nb ≤ s.n → ∃ s' G' I', K s' ∧ s'.ok ∧ s.n ≤ s'.n ∧ Mod tb X s'.get s'.obj a w G' I'
 | [], s, K, G, I, h, m, ok, hn => ⟨s, G, I, h, ok, Nat.le_refl _, m⟩
 | .ren _ :: r, s, K, G, I, h, m, ok, hn => by
  rw [cvS] at h
  exact cvS_sound hnb r h m ok hn
 | .rex :: r, s, K, G, I, h, m, ok, hn => by
  rw [cvS] at h
  exact cvS_sound hnb r h m ok hn
 | .frx :: r, s, K, G, I, h, m, ok, hn => by
  rw [cvS] at h
  exact cvS_sound hnb r h m ok hn
 | .pad e :: r, ⟨sl, ob, n⟩, K, G, I, h, m, ok, hn => by
  rw [cvS] at h
  split at h
  ·rename_i y hy
   rw [fN_eq] at h
   have hn0 : St.obj ⟨sl, ob, n⟩ n = none := ok n (Nat.le_refl _)
   have m1 := m.mkNil hn0 hn hy
   obtain ⟨s', G', I', h1, h2, h3, h4⟩ := cvS_sound hnb r (s := ⟨sl, (n, .arr e []) :: ob, n + 1⟩) h (show Mod tb X _ (St.obj ⟨sl, (n, .arr e []) :: ob, n + 1⟩) a w _ I from m1) (fun i hi => by
    have hi : n + 1 ≤ i := hi
    show lookO ((n, Ob.arr e []) :: ob) i = none
    rw [lookO, beq_ne (by omega), cond_false]
    exact ok i (by show n ≤ i; omega)) (by show X.nb ≤ n + 1; have : X.nb ≤ n := hn; omega)
   exact ⟨s', G', I', h1, h2, Nat.le_trans (Nat.le_succ n) h3, h4⟩
  ·exact h.elim
 | .frz i :: r, ⟨sl, ob, n⟩, K, G, I, h, m, ok, hn => by
  rw [cvS] at h
  split at h
  ·rename_i T es hi
   simp only [mapSl_eq, mapOb_eq] at h
   have hi' : St.obj ⟨sl, ob, n⟩ i = some (.arr T es) := hi
   have hz : FrzOK (St.obj ⟨sl, ob, n⟩) [(i, .seq es)] := fun j d hd => by
    unfold lookD at hd
    cases e : Nat.beq i j with
    | false => rw [e] at hd; cases hd
    | true =>
     rw [e] at hd
     have e := Nat.eq_of_beq_eq_true e
     subst e
     rw [cond_true, Option.some.injEq] at hd
     exact ⟨T, es, hi', hd.symm⟩
   have m2 := m.freeze hz
   have e1 : (fun t => frzA [(i, .seq es)] (St.get ⟨sl, ob, n⟩ t)) = St.get ⟨sl.map fun p => (p.1, frzA [(i, .seq es)] p.2), (i, .dead) :: ob.map fun p => (p.1, frzO [(i, .seq es)] p.2), n⟩ := by
    funext t
    simp only [St.get]
    rw [lookA_map (frzA [(i, .seq es)]) (by rw [frzA])]
   have e2 : frzObs (St.obj ⟨sl, ob, n⟩) [(i, .seq es)] = St.obj ⟨sl.map fun p => (p.1, frzA [(i, .seq es)] p.2), (i, .dead) :: ob.map fun p => (p.1, frzO [(i, .seq es)] p.2), n⟩ := by
    funext j
    simp only [St.obj, frzObs, lookO, lookD]
    cases Nat.beq i j with
    | true => rfl
    | false => simp only [cond_false]; rw [lookO_map]
   rw [e1, e2] at m2
   exact cvS_sound hnb r (s := ⟨sl.map fun p => (p.1, frzA [(i, .seq es)] p.2), (i, .dead) :: ob.map fun p => (p.1, frzO [(i, .seq es)] p.2), n⟩) h m2 (fun j hj => by
    have hj' := ok j hj
    have hne : i ≠ j := by rintro rfl; rw [hi'] at hj'; cases hj'
    show lookO ((i, Ob.dead) :: _) j = none
    rw [lookO, beq_ne hne, cond_false, lookO_map]
    show (St.obj ⟨sl, ob, n⟩ j).map _ = none
    rw [hj']; rfl) hn
  ·exact h.elim
 | .seq t :: r, ⟨sl, ob, n⟩, K, G, I, h, m, ok, hn => by
  rw [cvS] at h
  split at h
  ·rename_i hx
   have hx' : St.get ⟨sl, ob, n⟩ t = .d (.v (.slice none 0 0)) := hx
   have hv := m.slots t
   rw [hx'] at hv
   have hv := nil_rep hv
   exact cvS_sound hnb r (s := ⟨(t, .d (.seq [])) :: sl, ob, n⟩) h (m.resay (t := t) (x := .d (.seq [])) (by rw [hv]; exact nil_seq) (fun j => rfl)) ok hn
  ·exact h.elim
 | .own t e :: r, ⟨sl, ob, n⟩, K, G, I, h, m, ok, hn => by
  rw [cvS] at h
  split at h
  ·rename_i hx
   have hx' : St.get ⟨sl, ob, n⟩ t = .d (.v (.slice none 0 0)) := hx
   have hv := m.slots t
   rw [hx'] at hv
   have hv := nil_rep hv
   split at h
   ·rename_i y hy
    rw [fN_eq] at h
    have hn0 : St.obj ⟨sl, ob, n⟩ n = none := ok n (Nat.le_refl _)
    have m1 := m.mkNil hn0 hn hy
    have m2 := m1.resay (t := t) (x := .own n) (by rw [hv, RepA]; exact ⟨⟨_, updG_self, rfl⟩, rfl⟩) (g' := St.get ⟨(t, .own n) :: sl, (n, .arr e []) :: ob, n + 1⟩) (fun j => rfl)
    obtain ⟨s', G', I', h1, h2, h3, h4⟩ := cvS_sound hnb r (s := ⟨(t, .own n) :: sl, (n, .arr e []) :: ob, n + 1⟩) h (show Mod tb X _ (St.obj ⟨(t, .own n) :: sl, (n, .arr e []) :: ob, n + 1⟩) a w _ I from m2) (fun i hi => by
     have hi : n + 1 ≤ i := hi
     show lookO ((n, Ob.arr e []) :: ob) i = none
     rw [lookO, beq_ne (by omega), cond_false]
     exact ok i (by show n ≤ i; omega)) (by show X.nb ≤ n + 1; have : X.nb ≤ n := hn; omega)
    exact ⟨s', G', I', h1, h2, Nat.le_trans (Nat.le_succ n) h3, h4⟩
   ·exact h.elim
  ·exact h.elim
 | .ownw t e :: r, ⟨sl, ob, n⟩, K, G, I, h, m, ok, hn => by
  rw [cvS] at h
  split at h
  ·rename_i hx
   have hx' : St.get ⟨sl, ob, n⟩ t = .d (.v (.slice none 0 0)) := hx
   have hv := m.slots t
   rw [hx'] at hv
   have hv := nil_rep hv
   split at h
   ·rename_i y hy
    rw [fN_eq] at h
    have hn0 : St.obj ⟨sl, ob, n⟩ n = none := ok n (Nat.le_refl _)
    have m1 := m.mk' hn0 hn (gr := ⟨.slice none 0 0, none⟩) (ob := .arw e []) (Below.refl _ _) (fun b h => by cases h) ⟨[], RepAL.nil, y, hy, .inl ⟨rfl, updG_self⟩⟩
    have m2 := m1.resay (t := t) (x := .own n) (by rw [hv, RepA]; exact ⟨⟨_, updG_self, rfl⟩, rfl⟩) (g' := St.get ⟨(t, .own n) :: sl, (n, .arw e []) :: ob, n + 1⟩) (fun j => rfl)
    obtain ⟨s', G', I', h1, h2, h3, h4⟩ := cvS_sound hnb r (s := ⟨(t, .own n) :: sl, (n, .arw e []) :: ob, n + 1⟩) h (show Mod tb X _ (St.obj ⟨(t, .own n) :: sl, (n, .arw e []) :: ob, n + 1⟩) a w _ I from m2) (fun i hi => by
     have hi : n + 1 ≤ i := hi
     show lookO ((n, Ob.arw e []) :: ob) i = none
     rw [lookO, beq_ne (by omega), cond_false]
     exact ok i (by show n ≤ i; omega)) (by show X.nb ≤ n + 1; have : X.nb ≤ n := hn; omega)
    exact ⟨s', G', I', h1, h2, Nat.le_trans (Nat.le_succ n) h3, h4⟩
   ·exact h.elim
  ·exact h.elim
 | .toArr i :: r, ⟨sl, ob, n⟩, K, G, I, h, m, ok, hn => by
  rw [cvS] at h
  cases hb : Nat.ble nb i with
  | false => rw [hb] at h; exact h.elim
  | true =>
  rw [hb, cond_true] at h
  split at h
  ·rename_i T cs hi
   obtain ⟨ds, rfl, h⟩ := h
   have hi' : St.obj ⟨sl, ob, n⟩ i = some (.arw T (ds.map A.d)) := hi
   have m2 := m.toArr hi' (Nat.le_trans hnb (Nat.le_of_ble_eq_true hb))
   have e2 : updO (St.obj ⟨sl, ob, n⟩) i (.arr T (ds.map fun d => [d])) = St.obj ⟨sl, (i, .arr T (ds.map fun d => [d])) :: ob, n⟩ := by
    funext j; rfl
   rw [e2] at m2
   exact cvS_sound hnb r (s := ⟨sl, (i, .arr T (ds.map fun d => [d])) :: ob, n⟩) h m2 (fun j hj => by
    have hj' := ok j hj
    show lookO ((i, Ob.arr T _) :: ob) j = none
    have hne : i ≠ j := by rintro rfl; rw [hi'] at hj'; cases hj'
    rw [lookO, beq_ne hne, cond_false]
    exact hj') hn
  ·exact h.elim
 | .cseq i k :: r, ⟨sl, ob, n⟩, K, G, I, h, m, ok, hn => by
  rw [cvS] at h
  split at h
  ·rename_i T cs hi
   split at h
   ·rename_i hk
    rw [fL_eq] at h
    have hi' : St.obj ⟨sl, ob, n⟩ i = some (.var false T cs) := hi
    have m2 := m.recell hi' (cs' := cs.set k (.d (.seq []))) (fun c rc => RepAL.resay hk (fun v e => by rw [e]; exact nil_seq) rc) (o' := St.obj ⟨sl, (i, .var false T (cs.set k (.d (.seq [])))) :: ob, n⟩) (fun j => rfl)
    exact cvS_sound hnb r (s := ⟨sl, (i, .var false T (cs.set k (.d (.seq [])))) :: ob, n⟩) h m2 (fun j hj => by
     have hj' := ok j hj
     show lookO ((i, Ob.var false T _) :: ob) j = none
     have hne : i ≠ j := by rintro rfl; rw [hi'] at hj'; cases hj'
     rw [lookO, beq_ne hne, cond_false]
     exact hj') hn
   ·exact h.elim
  ·exact h.elim
 | .cown i k e :: r, ⟨sl, ob, n⟩, K, G, I, h, m, ok, hn => by
  rw [cvS] at h
  split at h
  ·rename_i T cs hi
   split at h
   ·rename_i hk
    split at h
    ·rename_i y hy
     rw [fL_eq, fN_eq] at h
     have hi' : St.obj ⟨sl, ob, n⟩ i = some (.var false T cs) := hi
     have hn0 : St.obj ⟨sl, ob, n⟩ n = none := ok n (Nat.le_refl _)
     have hne : n ≠ i := by rintro rfl; rw [hi'] at hn0; cases hn0
     have m1 := m.mkNil hn0 hn hy
     have hi2 : updO (St.obj ⟨sl, ob, n⟩) n (.arr e []) i = some (.var false T cs) := by rw [updO_ne hne]; exact hi'
     have m2 := m1.recell hi2 (cs' := cs.set k (.own n)) (fun c rc => RepAL.resay hk (fun v e => by rw [e, RepA]; exact ⟨⟨_, updG_self, rfl⟩, rfl⟩) rc) (o' := St.obj ⟨sl, (i, .var false T (cs.set k (.own n))) :: (n, .arr e []) :: ob, n + 1⟩) (fun j => rfl)
     obtain ⟨s', G', I', h1, h2, h3, h4⟩ := cvS_sound hnb r (s := ⟨sl, (i, .var false T (cs.set k (.own n))) :: (n, .arr e []) :: ob, n + 1⟩) h m2 (fun j hj => by
      have hj : n + 1 ≤ j := hj
      have hj' := ok j (by show n ≤ j; omega)
      have hne : i ≠ j := by rintro rfl; rw [hi'] at hj'; cases hj'
      show lookO ((i, Ob.var false T _) :: (n, Ob.arr e []) :: ob) j = none
      rw [lookO, beq_ne hne, cond_false, lookO, beq_ne (by omega), cond_false]
      exact hj') (by show X.nb ≤ n + 1; have : X.nb ≤ n := hn; omega)
     exact ⟨s', G', I', h1, h2, Nat.le_trans (Nat.le_succ n) h3, h4⟩
    ·exact h.elim
   ·exact h.elim
  ·exact h.elim
def firstB : Nat → Nat → List Nat → Bool
 | 0, _, _ => true
 | n + 1, k, x :: r => Nat.beq x k && firstB n (k + 1) r
 | _ + 1, _, [] => false
theorem firstB_spec : ∀ {n k : Nat} {l : List Nat}, firstB n k l = true → ∀ i, i < n → l[i]? = some (k + i)
 | 0, _, _, _, i, hi => by omega
 | n + 1, k, x :: r, h, i, hi => by
  rw [firstB, Bool.and_eq_true] at h
  cases i with
  | zero => simp [Nat.eq_of_beq_eq_true h.1]
  | succ i =>
   have := firstB_spec h.2 i (by omega)
   simpa [Nat.add_assoc, Nat.add_comm 1 i] using this
 | n + 1, k, [], h, _, _ => by cases h
def renP (ρ : List Nat) (o : Nat → Option Ob) : Nat → List Nat → List (Nat × Ob)
 | _, [] => []
 | k, j :: r => (k, invO ρ (o j)) :: renP ρ o (k + 1) r
theorem lookO_renP {ρ : List Nat} {o : Nat → Option Ob} : ∀ (l : List Nat) (k i : Nat), lookO (renP ρ o k l) (k + i) = (l[i]?).map fun j => invO ρ (o j)
 | [], _, _ => by simp [renP, lookO]
 | j :: r, k, i => by
  rw [renP, lookO]
  cases i with
  | zero => simp
  | succ i =>
   rw [beq_ne (by omega), cond_false]
   have := lookO_renP (ρ := ρ) (o := o) r (k + 1) i
   rw [show k + (i + 1) = k + 1 + i by omega, this]
   simp
def renS (ρ : List Nat) (s : St) (K : St → Prop) : Prop :=
 match s with
 | ⟨sl, ob, _⟩ => mapSl (invA ρ) sl fun sl' => K ⟨sl', renP ρ (lookO ob) 0 ρ, ρ.length⟩
def mvS (nb : Nat) : List Cv → St → (St → Prop) → Prop
 | [], s, K => K s
 | .ren ρ :: r, s, K => bif nodupB ρ && firstB nb 0 ρ && Nat.ble nb ρ.length then renS ρ s fun s => mvS nb r s K else False
 | .rex :: r, s, K => ∃ ρ, bif nodupB ρ && firstB nb 0 ρ && Nat.ble nb ρ.length then renS ρ s fun s => mvS nb r s K else False
 | .frx :: r, ⟨sl, ob, n⟩, K => ∃ q : Option Nat, match q with
  | none => mvS nb r ⟨sl, ob, n⟩ K
  | some i => match lookO ob i with
   | some (.arr _ es) => mapSl (frzA [(i, .seq es)]) sl fun sl => mapOb (frzO [(i, .seq es)]) ob fun ob => mvS nb r ⟨sl, (i, .dead) :: ob, n⟩ K
   | _ => False
 | .pad _ :: r, s, K => mvS nb r s K
 | .frz _ :: r, s, K => mvS nb r s K
 | .ownw _ _ :: r, s, K => mvS nb r s K
 | .toArr _ :: r, s, K => mvS nb r s K
 | .seq _ :: r, s, K => mvS nb r s K
 | .own _ _ :: r, s, K => mvS nb r s K
 | .cseq _ _ :: r, s, K => mvS nb r s K
 | .cown _ _ _ :: r, s, K => mvS nb r s K
theorem Mod.ren (m : Mod tb X g o a w G I) {ρ : List Nat} (hn : nodupB ρ = true) (hp : ∀ i, i < X.nb → ρ[i]? = some i) :
  Mod tb X (fun t => invA ρ (g t)) (fun i => (ρ[i]?).map fun j => invO ρ (o j)) a w (subG ρ G) I := by
 have hlive : ∀ (i : Nat) (x : Ob), (ρ[i]?).map (fun j => invO ρ (o j)) = some x → x.live = true → ∃ (j : Nat) (y : Ob), ρ[i]? = some j ∧ o j = some y ∧ y.live = true := fun i x hx hli => by
  obtain ⟨j, hj, rfl⟩ := Option.map_eq_some_iff.1 hx
  cases e : o j with
  | none => rw [e] at hli; simp [invO, Ob.live] at hli
  | some y =>
   refine ⟨j, y, hj, e, ?_⟩
   rw [e] at hli
   cases y <;> first | rfl | (simp [invO, Ob.live] at hli)
 have hG : ∀ (i j : Nat), ρ[i]? = some j → subG ρ G i = G j := fun i j hj => by simp [subG, hj]
 refine { m with slots := fun t => RepA.inv _ _ (m.slots t), objs := ?_, dom := ?_, sep := ?_, own := ?_, bor := ?_, barr := ?_, env := ?_ }
 ·intro i ob hi
  obtain ⟨j, hj, rfl⟩ := Option.map_eq_some_iff.1 hi
  exact ObOK.invO m.objs hj
 ·intro i gr hi
  cases e : ρ[i]? with
  | none => simp [subG, e] at hi
  | some j => rfl
 ·intro i j oi oj gi gj b h1 h2 h3 h4 h5 h6 h7 h8
  obtain ⟨i', y, q1, q2, q3⟩ := hlive i oi h1 h3
  obtain ⟨j', z, p1, p2, p3⟩ := hlive j oj h2 h4
  rw [hG i i' q1] at h5
  rw [hG j j' p1] at h6
  have := m.sep i' j' y z gi gj b q2 p2 q3 p3 h5 h6 h7 h8
  subst this
  exact nodupB_spec hn q1 p1
 ·intro i oi gi b h1 h2 h3 h4
  obtain ⟨i', y, q1, q2, q3⟩ := hlive i oi h1 h2
  rw [hG i i' q1] at h3
  exact m.own i' y gi b q2 q3 h3 h4
 ·intro i hi hba
  rw [hG i i (hp i hi)]
  exact m.bor i hi hba
 ·intro i T es hi hba hx
  rw [hp i hi] at hx
  simp only [Option.map_some, Option.some.injEq] at hx
  refine m.barr i T es hi hba ?_
  cases e : o i with
  | none => rw [e] at hx; cases hx
  | some y =>
   rw [e] at hx
   cases y with
   | iter q1 q2 q3 => simp only [invO] at hx; split at hx <;> cases hx
   | _ => first | (exact congrArg some hx) | (cases hx)
 ·obtain ⟨k, Ft, f1, f2, f3, f4⟩ := m.env
  refine ⟨k, Ft, f1, f2, fun j oj gj b h1 h2 h3 h4 => ?_, fun i k' hx => ?_⟩
  ·obtain ⟨j', y, q1, q2, q3⟩ := hlive j oj h1 h2
   rw [hG j j' q1] at h3
   exact f3 j' y gj b q2 q3 h3 h4
  ·obtain ⟨j, hj, e⟩ := Option.map_eq_some_iff.1 hx
   cases e' : o j with
   | none => rw [e'] at e; cases e
   | some y =>
    rw [e'] at e
    cases y with
    | iter q1 q2 q3 => simp only [invO] at e; split at e <;> cases e
    | _ => cases e
theorem mvS_sound {nb : Nat} (hnb : X.nb ≤ nb) : ∀ (l : List Cv) {s : St} {K : St → Prop} {G : Nat → Option GR} {I : Nat → Prop}, mvS nb l s K → Mod tb X s.get s.obj a w G I → s.ok → nb ≤ s.n → ∃ s' G' I', K s' ∧ s'.ok ∧ nb ≤ s'.n ∧ Mod tb X s'.get s'.obj a w G' I'
 | [], s, K, G, I, h, m, ok, hn => ⟨s, G, I, h, ok, hn, m⟩
 | .ren ρ :: r, ⟨sl, ob, n⟩, K, G, I, h, m, ok, hn => by
  rw [mvS] at h
  cases hb : (nodupB ρ && firstB nb 0 ρ && Nat.ble nb ρ.length) with
  | false => rw [hb] at h; exact h.elim
  | true =>
   rw [hb, cond_true] at h
   rw [Bool.and_eq_true, Bool.and_eq_true] at hb
   simp only [renS, mapSl_eq] at h
   have hp : ∀ i, i < X.nb → ρ[i]? = some i := fun i hi => by have := firstB_spec hb.1.2 i (by omega); rwa [Nat.zero_add] at this
   have m2 := m.ren hb.1.1 hp
   have hl : ∀ i, lookO (renP ρ (lookO ob) 0 ρ) i = (ρ[i]?).map fun j => invO ρ (lookO ob j) := fun i => by
    have := lookO_renP (ρ := ρ) (o := lookO ob) ρ 0 i
    rwa [Nat.zero_add] at this
   have e1 : (fun t => invA ρ (St.get ⟨sl, ob, n⟩ t)) = St.get ⟨sl.map fun p => (p.1, invA ρ p.2), renP ρ (lookO ob) 0 ρ, ρ.length⟩ := by
    funext t
    simp only [St.get]
    rw [lookA_map (invA ρ) (by rw [invA])]
   have e2 : (fun i => (ρ[i]?).map fun j => invO ρ (St.obj ⟨sl, ob, n⟩ j)) = St.obj ⟨sl.map fun p => (p.1, invA ρ p.2), renP ρ (lookO ob) 0 ρ, ρ.length⟩ := by
    funext i
    simp only [St.obj]
    rw [hl]
   rw [e1, e2] at m2
   exact mvS_sound hnb r h m2 (fun i hi => by
    show lookO (renP ρ (lookO ob) 0 ρ) i = none
    rw [hl, List.getElem?_eq_none hi]; rfl) (Nat.le_of_ble_eq_true hb.2)
 | .rex :: r, ⟨sl, ob, n⟩, K, G, I, h, m, ok, hn => by
  rw [mvS] at h
  obtain ⟨ρ, h⟩ := h
  cases hb : (nodupB ρ && firstB nb 0 ρ && Nat.ble nb ρ.length) with
  | false => rw [hb] at h; exact h.elim
  | true =>
   rw [hb, cond_true] at h
   rw [Bool.and_eq_true, Bool.and_eq_true] at hb
   simp only [renS, mapSl_eq] at h
   have hp : ∀ i, i < X.nb → ρ[i]? = some i := fun i hi => by have := firstB_spec hb.1.2 i (by omega); rwa [Nat.zero_add] at this
   have m2 := m.ren hb.1.1 hp
   have hl : ∀ i, lookO (renP ρ (lookO ob) 0 ρ) i = (ρ[i]?).map fun j => invO ρ (lookO ob j) := fun i => by
    have := lookO_renP (ρ := ρ) (o := lookO ob) ρ 0 i
    rwa [Nat.zero_add] at this
   have e1 : (fun t => invA ρ (St.get ⟨sl, ob, n⟩ t)) = St.get ⟨sl.map fun p => (p.1, invA ρ p.2), renP ρ (lookO ob) 0 ρ, ρ.length⟩ := by
    funext t
    simp only [St.get]
    rw [lookA_map (invA ρ) (by rw [invA])]
   have e2 : (fun i => (ρ[i]?).map fun j => invO ρ (St.obj ⟨sl, ob, n⟩ j)) = St.obj ⟨sl.map fun p => (p.1, invA ρ p.2), renP ρ (lookO ob) 0 ρ, ρ.length⟩ := by
    funext i
    simp only [St.obj]
    rw [hl]
   rw [e1, e2] at m2
   exact mvS_sound hnb r h m2 (fun i hi => by
    show lookO (renP ρ (lookO ob) 0 ρ) i = none
    rw [hl, List.getElem?_eq_none hi]; rfl) (Nat.le_of_ble_eq_true hb.2)
 | .frx :: r, ⟨sl, ob, n⟩, K, G, I, h, m, ok, hn => by
  rw [mvS] at h
  obtain ⟨q, h⟩ := h
  cases q with
  | none => exact mvS_sound hnb r h m ok hn
  | some i =>
  have h : (match lookO ob i with
   | some (.arr _ es) => mapSl (frzA [(i, .seq es)]) sl fun sl => mapOb (frzO [(i, .seq es)]) ob fun ob => mvS nb r ⟨sl, (i, .dead) :: ob, n⟩ K
   | _ => False) := h
  split at h
  ·rename_i T es hi
   simp only [mapSl_eq, mapOb_eq] at h
   have hi' : St.obj ⟨sl, ob, n⟩ i = some (.arr T es) := hi
   have hz : FrzOK (St.obj ⟨sl, ob, n⟩) [(i, .seq es)] := fun j d hd => by
    unfold lookD at hd
    cases e : Nat.beq i j with
    | false => rw [e] at hd; cases hd
    | true =>
     rw [e] at hd
     have e := Nat.eq_of_beq_eq_true e
     subst e
     rw [cond_true, Option.some.injEq] at hd
     exact ⟨T, es, hi', hd.symm⟩
   have m2 := m.freeze hz
   have e1 : (fun t => frzA [(i, .seq es)] (St.get ⟨sl, ob, n⟩ t)) = St.get ⟨sl.map fun p => (p.1, frzA [(i, .seq es)] p.2), (i, .dead) :: ob.map fun p => (p.1, frzO [(i, .seq es)] p.2), n⟩ := by
    funext t
    simp only [St.get]
    rw [lookA_map (frzA [(i, .seq es)]) (by rw [frzA])]
   have e2 : frzObs (St.obj ⟨sl, ob, n⟩) [(i, .seq es)] = St.obj ⟨sl.map fun p => (p.1, frzA [(i, .seq es)] p.2), (i, .dead) :: ob.map fun p => (p.1, frzO [(i, .seq es)] p.2), n⟩ := by
    funext j
    simp only [St.obj, frzObs, lookO, lookD]
    cases Nat.beq i j with
    | true => rfl
    | false => simp only [cond_false]; rw [lookO_map]
   rw [e1, e2] at m2
   exact mvS_sound hnb r (s := ⟨sl.map fun p => (p.1, frzA [(i, .seq es)] p.2), (i, .dead) :: ob.map fun p => (p.1, frzO [(i, .seq es)] p.2), n⟩) h m2 (fun j hj => by
    have hj' := ok j hj
    have hne : i ≠ j := by rintro rfl; rw [hi'] at hj'; cases hj'
    show lookO ((i, Ob.dead) :: _) j = none
    rw [lookO, beq_ne hne, cond_false, lookO_map]
    show (St.obj ⟨sl, ob, n⟩ j).map _ = none
    rw [hj']; rfl) hn
  ·exact h.elim
 | .pad _ :: r, s, K, G, I, h, m, ok, hn => by rw [mvS] at h; exact mvS_sound hnb r h m ok hn
 | .frz _ :: r, s, K, G, I, h, m, ok, hn => by rw [mvS] at h; exact mvS_sound hnb r h m ok hn
 | .ownw _ _ :: r, s, K, G, I, h, m, ok, hn => by rw [mvS] at h; exact mvS_sound hnb r h m ok hn
 | .toArr _ :: r, s, K, G, I, h, m, ok, hn => by rw [mvS] at h; exact mvS_sound hnb r h m ok hn
 | .seq _ :: r, s, K, G, I, h, m, ok, hn => by rw [mvS] at h; exact mvS_sound hnb r h m ok hn
 | .own _ _ :: r, s, K, G, I, h, m, ok, hn => by rw [mvS] at h; exact mvS_sound hnb r h m ok hn
 | .cseq _ _ :: r, s, K, G, I, h, m, ok, hn => by rw [mvS] at h; exact mvS_sound hnb r h m ok hn
 | .cown _ _ _ :: r, s, K, G, I, h, m, ok, hn => by rw [mvS] at h; exact mvS_sound hnb r h m ok hn
end
end Go.Ev

