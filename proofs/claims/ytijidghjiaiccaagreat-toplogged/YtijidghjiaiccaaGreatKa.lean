/-
  A part of an evaluator of the model on abstract data, and of its proof. Written by an agent.
-/
import Derived.RangeFuncIn
import Derived.OrdersIn
import Derived.Below
import Derived.WalkKit
import Derived.Laws.StructEq
import Derived.ChangeKeysEq
import Derived.Laws.CopyRow
import Derived.Laws.AppendOwn
import Derived.RangeFuncRecord
set_option linter.unusedVariables false
set_option linter.unusedSimpArgs false
set_option linter.unusedSectionVars false
set_option maxRecDepth 100000
namespace Go.Ev
inductive D where
 | v (x : Value)
 | seq (es : List (List D))
 | iptr (cs : List D)
 | bptr (cs : List D) (n : Nat)
 | fn (f : Fn) (first caps : List D)
 | agg (cs : List D)
 | tup (xs : List D)
inductive A where
 | d (x : D)
 | ref (i off : Nat)
 | own (i : Nat)
 | eref (i k sz off : Nat)
 | pre (i hi : Nat)
 | sub (i ysz off sz n : Nat)
 | fn (f : Fn) (first caps : List A)
 | agg (cs : List A)
 | tup (xs : List A)
 | lst (cs : List A)
 | lptr (x : A)
 | unk
inductive Ob where
 | var (bulk : Bool) (T : TypeId) (cs : List A)
 | arr (T : TypeId) (es : List (List D))
 | map (kT eT : TypeId) (es : List (D × D))
 | ro (T : TypeId) (cs : List A)
 | env (k : Nat)
 | dead
 | arw (T : TypeId) (cs : List A)
 | iter (m n : Nat) (seen : List Nat)
 | pan (v : Value)
structure GR where
 val : Value
 blk : Option Nat
mutual
def RepD (I : Nat → Prop) (h : Array Obj) : D → Value → Prop
 | .v x, u => u = x
 | .seq es, u => ∃ a len cap, u = .slice a len cap ∧ es.length = len ∧ len ≤ cap ∧
   (len = 0 ∨ ∃ sz b off c T fr, a = some ⟨b, off, none⟩ ∧ I b ∧ h[b]? = some (.cells c T fr) ∧ RepR I h sz es (c.toList.drop off))
 | .iptr cs, u => ∃ b off c T fr, u = .pointer (some ⟨b, off, none⟩) ∧ I b ∧ h[b]? = some (.cells c T fr) ∧ RepL I h cs ((c.toList.drop off).take cs.length)
 | .bptr cs n, u => ∃ b off c T fr, u = .pointer (some ⟨b, off + n, none⟩) ∧ I b ∧ h[b]? = some (.cells c T fr) ∧ RepL I h cs ((c.toList.drop off).take cs.length)
 | .fn f first caps, u => ∃ x y, u = .func f x y ∧ RepL I h first x.toList ∧ RepL I h caps y.toList
 | .agg cs, u => ∃ x, u = .agg x ∧ RepL I h cs x.toList
 | .tup xs, u => ∃ x, u = .tuple x ∧ RepL I h xs x.toList
def RepL (I : Nat → Prop) (h : Array Obj) : List D → List Value → Prop
 | [], vs => vs = []
 | d :: ds, vs => ∃ v r, vs = v :: r ∧ RepD I h d v ∧ RepL I h ds r
def RepR (I : Nat → Prop) (h : Array Obj) (sz : Nat) : List (List D) → List Value → Prop
 | [], _ => True
 | e :: es, vs => e.length = sz ∧ RepL I h e (vs.take sz) ∧ (∀ v ∈ vs.take sz, v.oneCell' = true) ∧ RepR I h sz es (vs.drop sz)
end
mutual
theorem RepD.mono {I I' : Nat → Prop} {h h' : Array Obj} (hI : ∀ b, I b → I' b) (hh : ∀ b, I b → h'[b]? = h[b]?) : ∀ (d : D) (u : Value), RepD I h d u → RepD I' h' d u
 | .v x, u, r => by simpa [RepD] using r
 | .seq es, u, r => by
  rw [RepD] at r ⊢
  obtain ⟨a, len, cap, h1, h2, h3, h4⟩ := r
  refine ⟨a, len, cap, h1, h2, h3, h4.imp id ?_⟩
  rintro ⟨sz, b, off, c, T, fr, g1, g2, g3, g4⟩
  exact ⟨sz, b, off, c, T, fr, g1, hI _ g2, (hh b g2).trans g3, RepR.mono hI hh sz es _ g4⟩
 | .iptr cs, u, r => by
  rw [RepD] at r ⊢
  obtain ⟨b, off, c, T, fr, g1, g2, g3, g4⟩ := r
  exact ⟨b, off, c, T, fr, g1, hI _ g2, (hh b g2).trans g3, RepL.mono hI hh cs _ g4⟩
 | .bptr cs n, u, r => by
  rw [RepD] at r ⊢
  obtain ⟨b, off, c, T, fr, g1, g2, g3, g4⟩ := r
  exact ⟨b, off, c, T, fr, g1, hI _ g2, (hh b g2).trans g3, RepL.mono hI hh cs _ g4⟩
 | .fn f first caps, u, r => by
  rw [RepD] at r ⊢
  obtain ⟨x, y, g1, g2, g3⟩ := r
  exact ⟨x, y, g1, RepL.mono hI hh _ _ g2, RepL.mono hI hh _ _ g3⟩
 | .agg cs, u, r => by
  rw [RepD] at r ⊢
  obtain ⟨x, g1, g2⟩ := r
  exact ⟨x, g1, RepL.mono hI hh _ _ g2⟩
 | .tup cs, u, r => by
  rw [RepD] at r ⊢
  obtain ⟨x, g1, g2⟩ := r
  exact ⟨x, g1, RepL.mono hI hh _ _ g2⟩
theorem RepL.mono {I I' : Nat → Prop} {h h' : Array Obj} (hI : ∀ b, I b → I' b) (hh : ∀ b, I b → h'[b]? = h[b]?) : ∀ (d : List D) (u : List Value), RepL I h d u → RepL I' h' d u
 | [], u, r => by simpa [RepL] using r
 | d :: ds, u, r => by
  rw [RepL] at r ⊢
  obtain ⟨v, q, g1, g2, g3⟩ := r
  exact ⟨v, q, g1, RepD.mono hI hh d v g2, RepL.mono hI hh ds q g3⟩
theorem RepR.mono {I I' : Nat → Prop} {h h' : Array Obj} (hI : ∀ b, I b → I' b) (hh : ∀ b, I b → h'[b]? = h[b]?) : ∀ (sz : Nat) (d : List (List D)) (u : List Value), RepR I h sz d u → RepR I' h' sz d u
 | _, [], u, r => by simp [RepR]
 | sz, d :: ds, u, r => by
  rw [RepR] at r ⊢
  obtain ⟨g1, g2, g3, g4⟩ := r
  exact ⟨g1, RepL.mono hI hh d _ g2, g3, RepR.mono hI hh sz ds _ g4⟩
end
section
variable (G : Nat → Option GR) (I : Nat → Prop) (h : Array Obj)
mutual
def RepA : A → Value → Prop
 | .d x, u => RepD I h x u
 | .ref i off, u => ∃ b, G i = some ⟨.pointer (some ⟨b, 0, none⟩), some b⟩ ∧ u = .pointer (some ⟨b, off, none⟩)
 | .own i, u => (∃ g, G i = some g ∧ u = g.val) ∧ u.oneCell' = true
 | .eref i k sz off, u => ∃ b z len cap, G i = some ⟨.slice (some ⟨b, z, none⟩) len cap, some b⟩ ∧ u = .pointer (some ⟨b, z + k * sz + off, none⟩)
 | .pre i hi, u => ∃ gr a len cap, G i = some gr ∧ gr.val = .slice a len cap ∧ hi ≤ len ∧ u = .slice a hi cap
 | .sub i ysz off sz n, u => ∃ a cp, u = .slice a n cp ∧ n ≤ cp ∧ (n = 0 ∨ (∃ b z len cap, G i = some ⟨.slice (some ⟨b, z, none⟩) len cap, some b⟩ ∧ a = some ⟨b, z + off, none⟩ ∧ off + n * sz ≤ len * ysz) ∨
   ∃ b, ysz = 0 ∧ G i = some ⟨.pointer (some ⟨b, 0, none⟩), some b⟩ ∧ a = some ⟨b, off, none⟩)
 | .fn f first caps, u => ∃ x y, u = .func f x y ∧ RepAL first x.toList ∧ RepAL caps y.toList
 | .agg cs, u => ∃ x, u = .agg x ∧ RepAL cs x.toList
 | .tup xs, u => ∃ x, u = .tuple x ∧ RepAL xs x.toList
 | .lst cs, u => ∃ b c T fr, u = .slice (some ⟨b, 0, none⟩) cs.length cs.length ∧ I b ∧ h[b]? = some (.cells c T fr) ∧ RepAL cs c.toList
 | .lptr x, u => ∃ b off c T fr v, u = .pointer (some ⟨b, off, none⟩) ∧ I b ∧ h[b]? = some (.cells c T fr) ∧ c[off]? = some v ∧ RepA x v
 | .unk, _ => True
def RepAL : List A → List Value → Prop
 | [], vs => vs = []
 | d :: ds, vs => ∃ v r, vs = v :: r ∧ RepA d v ∧ RepAL ds r
end
end
section
variable {G G' : Nat → Option GR} {I I' : Nat → Prop} {h h' : Array Obj}
mutual
theorem RepA.mono (hG : ∀ i g, G i = some g → G' i = some g) (hI : ∀ b, I b → I' b) (hh : ∀ b, I b → h'[b]? = h[b]?) : ∀ (d : A) (u : Value), RepA G I h d u → RepA G' I' h' d u
 | .d x, u, r => by rw [RepA] at r ⊢; exact RepD.mono hI hh x u r
 | .ref i off, u, r => by
  rw [RepA] at r ⊢
  obtain ⟨b, g1, g2⟩ := r
  exact ⟨b, hG _ _ g1, g2⟩
 | .own i, u, r => by
  rw [RepA] at r ⊢
  obtain ⟨⟨b, g1, g2⟩, g3⟩ := r
  exact ⟨⟨b, hG _ _ g1, g2⟩, g3⟩
 | .eref i k sz off, u, r => by
  rw [RepA] at r ⊢
  obtain ⟨b, z, len, cap, g1, g2⟩ := r
  exact ⟨b, z, len, cap, hG _ _ g1, g2⟩
 | .pre i hi, u, r => by
  rw [RepA] at r ⊢
  obtain ⟨gr, a, len, cap, g1, g2⟩ := r
  exact ⟨gr, a, len, cap, hG _ _ g1, g2⟩
 | .sub i ysz off sz n, u, r => by
  rw [RepA] at r ⊢
  obtain ⟨a, cp, g1, g2, g3⟩ := r
  exact ⟨a, cp, g1, g2, g3.imp id fun g3 => g3.imp (fun ⟨b, z, len, cap, q1, q2⟩ => ⟨b, z, len, cap, hG _ _ q1, q2⟩) fun ⟨b, q0, q1, q2⟩ => ⟨b, q0, hG _ _ q1, q2⟩⟩
 | .fn f first caps, u, r => by
  rw [RepA] at r ⊢
  obtain ⟨x, y, g1, g2, g3⟩ := r
  exact ⟨x, y, g1, RepAL.mono hG hI hh _ _ g2, RepAL.mono hG hI hh _ _ g3⟩
 | .agg cs, u, r => by
  rw [RepA] at r ⊢
  obtain ⟨x, g1, g2⟩ := r
  exact ⟨x, g1, RepAL.mono hG hI hh _ _ g2⟩
 | .tup cs, u, r => by
  rw [RepA] at r ⊢
  obtain ⟨x, g1, g2⟩ := r
  exact ⟨x, g1, RepAL.mono hG hI hh _ _ g2⟩
 | .lst cs, u, r => by
  rw [RepA] at r ⊢
  obtain ⟨b, c, T, fr, g1, g2, g3, g4⟩ := r
  exact ⟨b, c, T, fr, g1, hI _ g2, (hh b g2).trans g3, RepAL.mono hG hI hh _ _ g4⟩
 | .lptr x, u, r => by
  rw [RepA] at r ⊢
  obtain ⟨b, off, c, T, fr, v, g1, g2, g3, g4, g5⟩ := r
  exact ⟨b, off, c, T, fr, v, g1, hI _ g2, (hh b g2).trans g3, g4, RepA.mono hG hI hh _ _ g5⟩
 | .unk, u, r => by rw [RepA]; trivial
theorem RepAL.mono (hG : ∀ i g, G i = some g → G' i = some g) (hI : ∀ b, I b → I' b) (hh : ∀ b, I b → h'[b]? = h[b]?) : ∀ (d : List A) (u : List Value), RepAL G I h d u → RepAL G' I' h' d u
 | [], u, r => by simpa [RepAL] using r
 | d :: ds, u, r => by
  rw [RepAL] at r ⊢
  obtain ⟨v, q, g1, g2, g3⟩ := r
  exact ⟨v, q, g1, RepA.mono hG hI hh d v g2, RepAL.mono hG hI hh ds q g3⟩
end
end
end Go.Ev


namespace Go.Ev
inductive TK where
 | int (k : IntKind)
 | bool
 | str
 | ptr (e : TypeId)
 | slice (e : TypeId)
 | arr (n : Nat) (e : TypeId)
 | struct (fs : List (Nat × TypeId))
 | map (k e : TypeId)
 | other
structure Ty where
 k : TK
 size : Nat
 bytes : Nat
 zero : List Value
 fl : Bool × Bool
def Ty.bulk (y : Ty) : Bool := y.fl.1
def Ty.eqB (y : Ty) : Bool := y.fl.2
abbrev TB := TypeId → Option Ty
def TK.fnB : TK → Bool
 | .other => true
 | _ => false
def TK.agg : TK → Bool
 | .arr _ _ | .struct _ => true
 | _ => false
structure St where
 sl : List (Nat × A)
 ob : List (Nat × Ob)
 n : Nat
def lookA : List (Nat × A) → Nat → A
 | [], _ => .unk
 | (k, x) :: r, t => bif Nat.beq k t then x else lookA r t
def lookO : List (Nat × Ob) → Nat → Option Ob
 | [], _ => none
 | (k, x) :: r, t => bif Nat.beq k t then some x else lookO r t
def lookD : List (Nat × D) → Nat → Option D
 | [], _ => none
 | (k, x) :: r, t => bif Nat.beq k t then some x else lookD r t
def St.get (s : St) (t : Nat) : A := lookA s.sl t
def St.obj (s : St) (i : Nat) : Option Ob := lookO s.ob i
def opA (g : Nat → A) : Operand → A
 | .tmp t => g t
 | .const v => .d (.v v)
 | .func f => .d (.fn (.func f) [] [])
 | .global _ => .unk
def fA (x : A) (K : A → Prop) : Prop :=
 match x with
 | .d y => (match y with
  | .v u => (match u with
   | .int k n => K (.d (.v (.int k n)))
   | .bool b => K (.d (.v (.bool b)))
   | u => K (.d (.v u)))
  | .seq es => K (.d (.seq es))
  | .iptr cs => K (.d (.iptr cs))
  | .bptr cs n => K (.d (.bptr cs n))
  | .fn f a b => K (.d (.fn f a b))
  | .agg cs => K (.d (.agg cs))
  | .tup xs => K (.d (.tup xs)))
 | .ref i off => K (.ref i off)
 | .own i => K (.own i)
 | .eref i k sz off => K (.eref i k sz off)
 | .pre i hi => K (.pre i hi)
 | .sub i ysz off sz n => K (.sub i ysz off sz n)
 | .fn f a b => K (.fn f a b)
 | .agg cs => K (.agg cs)
 | .tup xs => K (.tup xs)
 | .lst cs => K (.lst cs)
 | .lptr x => K (.lptr x)
 | .unk => K .unk
def fL : List A → (List A → Prop) → Prop
 | [], K => K []
 | x :: r, K => fA x fun x => fL r fun r => K (x :: r)
def fD (sz : Nat) (l : List D) (K : List D → Prop) : Prop :=
 bif Nat.ble 16 sz then ∃ ds, l = ds ∧ ds.length = sz ∧ K ds else bif Nat.beq l.length sz then K l else False
theorem fD_eq {sz : Nat} {l : List D} {K : List D → Prop} : fD sz l K ↔ l.length = sz ∧ K l := by
 unfold fD
 cases Nat.ble 16 sz with
 | true =>
  rw [cond_true]
  exact ⟨fun ⟨ds, h1, h2, h3⟩ => by rw [h1]; exact ⟨h2, h3⟩, fun ⟨h1, h2⟩ => ⟨l, rfl, h1, h2⟩⟩
 | false =>
  rw [cond_false]
  cases h : Nat.beq l.length sz with
  | true => exact ⟨fun h1 => ⟨Nat.eq_of_beq_eq_true h, h1⟩, fun h1 => h1.2⟩
  | false => exact ⟨fun h1 => h1.elim, fun h1 => by rw [h1.1, Nat.beq_refl] at h; cases h⟩
def A.fnB : A → Bool
 | .fn _ _ _ => true
 | _ => false
def toDs : List A → Option (List D)
 | [] => some []
 | .d x :: r => match toDs r with
  | some l => some (x :: l)
  | none => none
 | _ :: _ => none
def aggA (cs : List A) : A :=
 match toDs cs with
 | some ds => .d (.agg ds)
 | none => .agg cs
def tupA (cs : List A) : A :=
 match toDs cs with
 | some ds => .d (.tup ds)
 | none => .tup cs
def intV : Value → Bool
 | .int _ _ => true
 | _ => false
def cellsOf (x : A) : Option (List A) :=
 match x with
 | .agg cs => some cs
 | .d (.agg ds) => some (ds.map .d)
 | .tup _ | .d (.tup _) | .unk | .d (.v (.agg _)) | .d (.v (.tuple _)) => none
 | x => some [x]
def withCells (x : A) (K : List A → Prop) : Prop :=
 match cellsOf x with
 | some cs => fL cs K
 | none => False
def A.one : A → Bool
 | .d (.v (.agg _)) | .d (.v (.tuple _)) | .d (.agg _) | .d (.tup _) | .agg _ | .tup _ | .unk => false
 | _ => true
inductive Ch (a b : Prop) : Prop where
 | l (h : a) : Ch a b
 | r (h : b) : Ch a b
inductive ChL (a b : Prop) : Prop where
 | l (h : a) : ChL a b
 | r (h : b) : ChL a b
inductive ChC (a b : Prop) : Prop where
 | l (h : a) : ChC a b
 | r (h : b) : ChC a b
inductive Ch3 (a b c d : Prop) : Prop where
 | inl (h : a) : Ch3 a b c d
 | inr (h : b) : Ch3 a b c d
 | pan (h : c) : Ch3 a b c d
 | inp (h : d) : Ch3 a b c d
theorem Ch3.iff {a b c d : Prop} : Ch3 a b c d ↔ d ∨ c ∨ a ∨ b := by
 constructor
 ·intro h
  cases h with
  | inl h => exact .inr (.inr (.inl h))
  | inr h => exact .inr (.inr (.inr h))
  | pan h => exact .inr (.inl h)
  | inp h => exact .inl h
 ·intro h
  cases h with
  | inl h => exact .inp h
  | inr h => cases h with
   | inl h => exact .pan h
   | inr h => cases h with
    | inl h => exact .inl h
    | inr h => exact .inr h
def A.ownB : A → Bool
 | .own _ => true
 | .pre _ _ => true
 | .agg cs => cs.any fun c => match c with
  | .own _ => true
  | .pre _ _ => true
  | _ => false
 | _ => false
structure Eff where
 slot : Option (Nat × A)
 obs : List (Nat × Ob)
 rd : List Nat
 new : Nat
 frz : List (Nat × D)
 clr : List Nat
def effPut (dst : Option Tmp) (x : A) (rd : List Nat) (K : Eff → Prop) : Prop :=
 match dst with
 | some d => fA x fun x => K ⟨some (d, x), [], rd, 0, [], []⟩
 | none => K ⟨none, [], rd, 0, [], []⟩
def effNew (dst : Option Tmp) (x : A) (nid : Nat) (o : Ob) (K : Eff → Prop) : Prop :=
 match dst with
 | some d => K ⟨some (d, x), [(nid, o)], [], 1, [], []⟩
 | none => False
def effSet (dst : Option Tmp) (i : Nat) (o : Ob) (K : Eff → Prop) : Prop :=
 match dst with
 | some d => K ⟨some (d, .d (.v undef)), [(i, o)], [i], 0, [], []⟩
 | none => K ⟨none, [(i, o)], [i], 0, [], []⟩
def effFz (dst : Option Tmp) (x : A) (frz : List (Nat × D)) (K : Eff → Prop) : Prop :=
 match dst with
 | some d => fA x fun x => K ⟨some (d, x), frz.map fun p => (p.1, .dead), frz.map (·.1), 0, frz, []⟩
 | none => K ⟨none, frz.map fun p => (p.1, .dead), frz.map (·.1), 0, frz, []⟩
def intRes (k : IntKind) (n : Int) : A := .d (.v (.int k n))
def boolRes (b : Bool) : A := .d (.v (.bool b))
def intE (op : BinOp) (k : IntKind) (a b : Int) (K : A → Prop) : Prop :=
 match op with
 | .add => K (intRes k (k.wrap (a + b)))
 | .sub => K (intRes k (k.wrap (a - b)))
 | .mul => K (intRes k (k.wrap (a * b)))
 | .quo => b ≠ 0 ∧ K (intRes k (k.wrap (a.tdiv b)))
 | .rem => b ≠ 0 ∧ K (intRes k (a.tmod b))
 | .eql => K (boolRes (a == b))
 | .neq => K (boolRes (a != b))
 | .lss => K (boolRes (decide (a < b)))
 | .leq => K (boolRes (decide (a ≤ b)))
 | .gtr => K (boolRes (decide (a > b)))
 | .geq => K (boolRes (decide (a ≥ b)))
 | .and => K (intRes k (k.wrap (BitVec.ofInt k.bits a &&& BitVec.ofInt k.bits b).toNat))
 | .or => K (intRes k (k.wrap (BitVec.ofInt k.bits a ||| BitVec.ofInt k.bits b).toNat))
 | _ => False
def shiftE (op : BinOp) (k : IntKind) (a b : Int) (K : A → Prop) : Prop :=
 match op with
 | .shl => 0 ≤ b ∧ K (intRes k (k.wrap (a * 2 ^ (min b.toNat k.bits))))
 | .shr => 0 ≤ b ∧ K (intRes k (a.fdiv (2 ^ (min b.toNat k.bits))))
 | _ => False
def eqC : List D → List D → Option Bool
 | [], [] => some true
 | .v (.int k a) :: r, .v (.int k' b) :: s => bif decide (k = k') then (match eqC r s with
  | some q => some (a == b && q)
  | none => none) else none
 | .v (.bool a) :: r, .v (.bool b) :: s => (match eqC r s with
  | some q => some (a == b && q)
  | none => none)
 | _, _ => none
def fitC : List Value → List D → Bool
 | [], [] => true
 | .int _ _ :: z, .v (.int _ _) :: r => fitC z r
 | .bool _ :: z, .v (.bool _) :: r => fitC z r
 | _, _ => false
def fitK : List Value → List D → Bool
 | [], [] => true
 | .int k _ :: z, .v (.int k' _) :: r => decide (k = k') && fitK z r
 | .bool _ :: z, .v (.bool _) :: r => fitK z r
 | _, _ => false
def keyB (tb : TB) (kT : TypeId) : D → Bool
 | .v (.int k _) => match tb kT with
  | some ⟨.int k', _, _, _, _⟩ => decide (k = k')
  | _ => false
 | .agg ds => match tb kT with
  | some y => y.eqB && fitK y.zero ds
  | none => false
 | _ => false
def keyEq : D → D → Bool
 | .v (.int k a), .v (.int k' b) => decide (k = k') && a == b
 | .agg xs, .agg ys => match eqC xs ys with
  | some q => q
  | none => false
 | _, _ => false
def mapGet (es : List (D × D)) (key : D) : Option D :=
 match es with
 | [] => none
 | p :: r => bif keyEq key p.1 then some p.2 else mapGet r key
def mapSet (es : List (D × D)) (key v : D) : List (D × D) :=
 match es with
 | [] => [(key, v)]
 | p :: r => bif keyEq key p.1 then (key, v) :: r else p :: mapSet r key v
def zeroD (y : Ty) : D :=
 bif y.k.agg then .agg (y.zero.map .v) else match y.zero with
  | v :: _ => .v v
  | [] => .v undef
def binE (tb : TB) (op : BinOp) (T : TypeId) (x y : A) (K : A → Prop) : Prop :=
 match x, y with
 | .d (.v (.int k a)), .d (.v (.int k' b)) =>
  match op with
  | .shl | .shr => shiftE op k a b K
  | op => bif decide (k = k') then intE op k a b K else False
 | .d (.v (.bool a)), .d (.v (.bool b)) =>
  match tb T with
  | some ⟨.bool, _, _, _, _⟩ => (match op with
   | .eql => K (boolRes (a == b))
   | .neq => K (boolRes (a != b))
   | _ => False)
  | _ => False
 | .d (.agg xs), .d (.agg ys) =>
  match tb T with
  | some y => bif y.bulk then (y.eqB = true ∧ fitC y.zero xs = true ∧ ∃ q, eqC xs ys = some q ∧ (match op with
    | .eql => K (boolRes q)
    | .neq => K (boolRes (!q))
    | _ => False))
   else bif y.eqB && fitC y.zero xs then (match eqC xs ys with
   | some q => (match op with
    | .eql => K (boolRes q)
    | .neq => K (boolRes (!q))
    | _ => False)
   | none => False) else False
  | none => False
 | .d (.v (.string a)), .d (.v (.string b)) =>
  match tb T with
  | some ⟨.str, _, _, _, _⟩ => ∃ q, (a.toList == b.toList) = q ∧ (match op with
   | .eql => K (boolRes q)
   | .neq => K (boolRes (!q))
   | _ => False)
  | _ => False
 | .d (.seq es), .d (.v (.slice none 0 0)) =>
  match tb T with
  | some ⟨.slice _, _, _, _, _⟩ => (match op with
   | .eql => es ≠ [] ∧ K (boolRes false)
   | .neq => es ≠ [] ∧ K (boolRes true)
   | _ => False)
  | _ => False
 | .d (.v (.slice none 0 0)), .d (.v (.slice none 0 0)) =>
  match tb T with
  | some ⟨.slice _, _, _, _, _⟩ => (match op with
   | .eql => K (boolRes true)
   | .neq => K (boolRes false)
   | _ => False)
  | _ => False
 | _, _ => False
def isInt (x : A) (K : IntKind → Int → Prop) : Prop :=
 match x with
 | .d (.v (.int k n)) => K k n
 | _ => False
def putAt (cs : List A) (off : Nat) (vs : List A) : List A := cs.take off ++ vs ++ cs.drop (off + vs.length)
def fillA (tb : TB) (fs : List (Nat × TypeId)) (cells : List A) : List (Nat × A) → (List A → Prop) → Prop
 | [], K => K cells
 | (i, x) :: r, K =>
  match fs[i]? with
  | some (off, t) =>
   match tb t with
   | some y => withCells x fun vs => bif Nat.beq vs.length y.size && Nat.ble (off + vs.length) cells.length then fL (putAt cells off vs) fun cs => fillA tb fs cs r K else False
   | none => False
  | none => False
def arrFs (sz : Nat) (e : TypeId) : Nat → Nat → List (Nat × TypeId)
 | 0, _ => []
 | n + 1, off => (off, e) :: arrFs sz e n (off + sz)
def partD (agg : Bool) (sz off : Nat) (ds : List D) (K : D → Prop) : Prop :=
 match agg with
 | true => bif Nat.beq ((ds.drop off).take sz).length sz then K (.agg ((ds.drop off).take sz)) else False
 | false => match ds[off]? with
  | some c => K c
  | none => False
def elemsOf (o : Nat → Option Ob) (x : A) : Option (List (List D) × List Nat) :=
 match x with
 | .d (.seq es) => some (es, [])
 | .d (.v (.slice none 0 0)) => some ([], [])
 | .own i => match o i with
  | some (.arr _ es) => some (es, [i])
  | _ => none
 | .pre i hi => match o i with
  | some (.arr _ es) => some (es.take hi, [i])
  | _ => none
 | _ => none
def handA (cv : Bool) (o : Nat → Option Ob) (x : A) : A × List (Nat × D) :=
 match x with
 | .own i => match o i with
  | some (.arr _ es) => (.d (.seq es), [(i, .seq es)])
  | _ => (.own i, [])
 | .pre i hi => match o i with
  | some (.arr _ es) => (.d (.seq (es.take hi)), [(i, .seq es)])
  | _ => (.pre i hi, [])
 | .d (.v (.slice none 0 0)) => (match cv with
  | true => (.d (.seq []), [])
  | false => (.d (.v (.slice none 0 0)), []))
 | x => (x, [])
def handL (cv : Bool) (o : Nat → Option Ob) : List A → List A × List (Nat × D)
 | [] => ([], [])
 | .agg cs :: r => (aggA ((cs.map fun x => (handA cv o x).1)) :: (handL cv o r).1, (cs.flatMap fun x => (handA cv o x).2) ++ (handL cv o r).2)
 | .d (.agg cs) :: r => (.d (.agg cs) :: (handL cv o r).1, (handL cv o r).2)
 | x :: r => ((handA cv o x).1 :: (handL cv o r).1, (handA cv o x).2 ++ (handL cv o r).2)
def getFn : A → Option (FuncId × List A × List A)
 | .d (.fn (.func f) a b) => some (f, a.map .d, b.map .d)
 | .fn (.func f) a b => some (f, a, b)
 | _ => none
structure Sums where
 p : FuncId → List D → D → Prop
 b : FuncId → List A → List Ob → Nat → A → List (Nat × Ob) → Prop
 w : Nat
 y : Nat → List D → Bool → Prop
 it : FuncId → List A → List Ob → List (List D) → Nat → List (Nat × Ob) → Prop
 x : FuncId → List A → List Ob → Value → Prop
 so : FuncId → List D → TypeId → List (List D) → List (List D) → Prop
 s : FuncId → List A → List Ob → Nat → A → Nat → List (Nat × Ob) → Prop
def idx (ρ : List Nat) (i : Nat) (k : Nat) : Option Nat :=
 match ρ with
 | [] => none
 | j :: r => bif Nat.beq j i then some k else idx r i (k + 1)
mutual
def invA (ρ : List Nat) : A → A
 | .ref i off => match idx ρ i 0 with
  | some k => .ref k off
  | none => .unk
 | .own i => match idx ρ i 0 with
  | some k => .own k
  | none => .unk
 | .eref _ _ _ _ => .unk
 | .pre _ _ => .unk
 | .sub _ _ _ _ _ => .unk
 | .fn f a b => .fn f (invAL ρ a) (invAL ρ b)
 | .agg cs => .agg (invAL ρ cs)
 | .tup cs => .tup (invAL ρ cs)
 | .lst cs => .lst (invAL ρ cs)
 | .lptr x => .lptr (invA ρ x)
 | .d x => .d x
 | .unk => .unk
def invAL (ρ : List Nat) : List A → List A
 | [] => []
 | x :: r => invA ρ x :: invAL ρ r
end
def invO (ρ : List Nat) : Option Ob → Ob
 | some (.var b T cs) => .var b T (invAL ρ cs)
 | some (.ro T cs) => .ro T (invAL ρ cs)
 | some (.map k e es) => .map k e es
 | some (.arr T es) => .arr T es
 | some (.arw T cs) => .arw T (invAL ρ cs)
 | some (.iter m n seen) => (match idx ρ m 0 with
  | some k => .iter k n seen
  | none => .dead)
 | _ => .dead
def outI (ρ : List Nat) (nid i : Nat) : Nat :=
 match ρ[i]? with
 | some j => j
 | none => nid + (i - ρ.length)
mutual
def outA (ρ : List Nat) (nid : Nat) : A → A
 | .ref i off => .ref (outI ρ nid i) off
 | .own i => .own (outI ρ nid i)
 | .eref i k sz off => .eref (outI ρ nid i) k sz off
 | .pre i hi => .pre (outI ρ nid i) hi
 | .sub i ysz off sz n => .sub (outI ρ nid i) ysz off sz n
 | .fn f a b => .fn f (outAL ρ nid a) (outAL ρ nid b)
 | .agg cs => .agg (outAL ρ nid cs)
 | .tup cs => .tup (outAL ρ nid cs)
 | .lst cs => .lst (outAL ρ nid cs)
 | .lptr x => .lptr (outA ρ nid x)
 | .d x => .d x
 | .unk => .unk
def outAL (ρ : List Nat) (nid : Nat) : List A → List A
 | [] => []
 | x :: r => outA ρ nid x :: outAL ρ nid r
end
def outO (ρ : List Nat) (nid : Nat) : Ob → Ob
 | .var b T cs => .var b T (outAL ρ nid cs)
 | .ro T cs => .ro T (outAL ρ nid cs)
 | .arw T cs => .arw T (outAL ρ nid cs)
 | .iter m n seen => .iter (outI ρ nid m) n seen
 | x => x
def nodupB : List Nat → Bool
 | [] => true
 | x :: r => !(r.any fun y => Nat.beq y x) && nodupB r
def Ob.arrB : Ob → Bool
 | .arr _ _ => true
 | .arw _ _ => true
 | _ => false
def pres (o : Nat → Option Ob) (frz : List (Nat × D)) (ρ : List Nat) : List Ob :=
 match frz with
 | [] => ρ.map fun j => invO ρ (o j)
 | z => ρ.map fun j => invO ρ (match lookD z j with | some _ => some .dead | none => o j)
def fN (n : Nat) (K : Nat → Prop) : Prop :=
 match n with
 | 0 => K 0
 | m + 1 => K (m + 1)
def forceA (x : A) (K : A → Prop) : Prop :=
 match x with
 | .agg cs => fL cs fun cs => K (.agg cs)
 | .tup cs => fL cs fun cs => K (.tup cs)
 | .lst cs => fL cs fun cs => K (.lst cs)
 | .fn f a b => fL a fun a => fL b fun b => K (.fn f a b)
 | x => fA x K
def fO (x : Ob) (K : Ob → Prop) : Prop :=
 match x with
 | .var true T cs => K (.var true T cs)
 | .var false T cs => fL cs fun cs => K (.var false T cs)
 | .arr T es => K (.arr T es)
 | .map k e es => K (.map k e es)
 | .ro T cs => K (.ro T cs)
 | .env k => K (.env k)
 | .dead => K .dead
 | .arw T cs => ∃ cs', cs = cs' ∧ K (.arw T cs')
 | .iter m n seen => K (.iter m n seen)
 | .pan v => K (.pan v)
def outObs (ρ : List Nat) (nid : Nat) : List (Nat × Ob) → (List (Nat × Ob) → Prop) → Prop
 | [], K => K []
 | (i, ob) :: r, K => fN (outI ρ nid i) fun j => fO (outO ρ nid ob) fun ob => outObs ρ nid r fun r => K ((j, ob) :: r)
def Ob.sure : Ob → Bool
 | .var _ _ _ | .map _ _ _ | .ro _ _ | .arr _ _ | .arw _ _ => true
 | _ => false
def Ob.envB : Ob → Bool
 | .env _ | .iter _ _ _ | .pan _ => true
 | _ => false
def hideO (ρ : List Nat) (o : Nat → Option Ob) : Nat → Option Ob := fun i => bif ρ.any (fun j => Nat.beq j i) then none else o i
def deadIn (post : List (Nat × Ob)) (k : Nat) : Bool :=
 match lookO post k with
 | some .dead => true
 | _ => false
def arrIds (post : List (Nat × Ob)) : Nat → List Nat → List Ob → List Nat
 | k, j :: r, .arr _ _ :: s => bif deadIn post k then arrIds post (k + 1) r s else j :: arrIds post (k + 1) r s
 | k, _ :: r, _ :: s => arrIds post (k + 1) r s
 | _, _, _ => []
def memK (i : Nat) : List (Nat × Ob) → Bool
 | [] => false
 | (j, _) :: r => Nat.beq j i || memK i r
def postB (m N : Nat) : List (Nat × Ob) → Bool
 | [] => true
 | (j, x) :: r => Nat.ble m j && Nat.blt j N && !x.envB && postB m N r
def ltB (n : Nat) : List (Nat × Ob) → Bool
 | [] => true
 | (i, _) :: r => Nat.blt i n && ltB n r
def keysO : List (Nat × Ob) → List Nat
 | [] => []
 | (i, _) :: r => i :: keysO r
theorem memK_eq (i : Nat) : ∀ l : List (Nat × Ob), memK i l = l.any fun p => Nat.beq p.1 i
 | [] => rfl
 | (j, x) :: r => by rw [memK, List.any_cons, memK_eq i r]
theorem postB_eq (m N : Nat) : ∀ l : List (Nat × Ob), postB m N l = l.all fun p => Nat.ble m p.1 && Nat.blt p.1 N && !p.2.envB
 | [] => rfl
 | (j, x) :: r => by rw [postB, List.all_cons, postB_eq m N r]
theorem ltB_eq (n : Nat) : ∀ l : List (Nat × Ob), ltB n l = l.all fun p => Nat.blt p.1 n
 | [] => rfl
 | (j, x) :: r => by rw [ltB, List.all_cons, ltB_eq n r]
theorem keysO_eq : ∀ l : List (Nat × Ob), keysO l = l.map (·.1)
 | [] => rfl
 | (j, x) :: r => by rw [keysO, List.map_cons, keysO_eq r]
def coverB (n : Nat) (post : List (Nat × Ob)) : Bool := (List.range n).all fun i => memK i post
def borB (ρ : List Nat) (nid N W : Nat) (pre : List Ob) (post : List (Nat × Ob)) : Bool :=
 coverB ρ.length post && nodupB ρ && (ρ.all fun j => Nat.blt j nid) && Nat.ble ρ.length N && Nat.ble N (ρ.length + W) && pre.all Ob.sure && postB 0 N post
def ownTop : List A → List Nat
 | [] => []
 | .own i :: r => i :: ownTop r
 | .pre i _ :: r => i :: ownTop r
 | .sub i _ _ _ _ :: r => i :: ownTop r
 | _ :: r => ownTop r
def ownIds : List A → List Nat
 | [] => []
 | .own i :: r => i :: ownIds r
 | .pre i _ :: r => i :: ownIds r
 | .sub i _ _ _ _ :: r => i :: ownIds r
 | .agg cs :: r => ownTop cs ++ ownIds r
 | _ :: r => ownIds r
def roB (pre : List Ob) (i : Nat) : Bool :=
 match pre[i]? with
 | some (.ro _ _) => true
 | _ => false
def dropRo (pre : List Ob) : List (Nat × Ob) → List (Nat × Ob)
 | [] => []
 | (i, x) :: r => bif roB pre i then dropRo pre r else (i, x) :: dropRo pre r
def effBor (dst : Option Tmp) (ρ : List Nat) (nid N : Nat) (frz : List (Nat × D)) (rd js : List Nat) (r : A) (post : List (Nat × Ob)) (K : Eff → Prop) : Prop :=
 match dst with
 | some d => forceA (outA ρ nid r) fun x => outObs ρ nid post fun obs => K ⟨some (d, x), obs ++ frz.map fun p => (p.1, .dead), rd, N - ρ.length, frz, js⟩
 | none => outObs ρ nid post fun obs => K ⟨none, obs ++ frz.map fun p => (p.1, .dead), rd, N - ρ.length, frz, js⟩
def D.intB : D → Bool
 | .v (.int _ _) => true
 | _ => false
def flatD : D → Bool
 | .v _ => true
 | _ => false
def flatR : D → Bool
 | .v _ => true
 | .agg xs => xs.all flatD
 | .tup xs => xs.all fun y => match y with
  | .v _ => true
  | .agg zs => zs.all flatD
  | _ => false
 | _ => false
def effPure (w : Nat) (dst : Option Tmp) (frz : List (Nat × D)) (r : D) (K : Eff → Prop) : Prop :=
 match frz with
 | [] => (match dst with
  | some d => fA (.d r) fun x => K ⟨some (d, x), [], [], 0, [], []⟩
  | none => K ⟨none, [], [], 0, [], []⟩)
 | p :: q => ChC (flatR r = true ∧ (match dst with
   | some d => fA (.d r) fun x => K ⟨some (d, x), [], (p :: q).map (·.1), 0, [], []⟩
   | none => K ⟨none, [], (p :: q).map (·.1), 0, [], []⟩))
  (match dst with
   | some d => fA (.d r) fun x => K ⟨some (d, x), (p :: q).map fun p => (p.1, .dead), (p :: q).map (·.1), 0, bif Nat.beq w 8 then [] else p :: q, []⟩
   | none => K ⟨none, (p :: q).map fun p => (p.1, .dead), (p :: q).map (·.1), 0, bif Nat.beq w 8 then [] else p :: q, []⟩)
def lendA (tb : TB) (o : Nat → Option Ob) : A → D → Prop
 | .d x, y => y = x
 | .own i, y => match o i with
  | some (.arr _ es) => y = .seq es
  | _ => False
 | .pre i hi, y => match o i with
  | some (.arr _ es) => y = .seq (es.take hi)
  | _ => False
 | .sub i ysz off sz n, y => match o i with
  | some (.arr T es) => (match tb T with
   | some t => t.size = ysz ∧ ∃ rows, y = .seq rows ∧ (es.flatten.drop off).take (n * sz) = rows.flatten ∧ rows.length = n ∧ ∀ el ∈ rows, el.length = sz
   | none => False)
  | _ => False
 | _, _ => False
def lendL (tb : TB) (o : Nat → Option Ob) : List A → List D → Prop
 | [], ds => ds = []
 | x :: r, ds => ∃ d q, ds = d :: q ∧ lendA tb o x d ∧ lendL tb o r q
def lendC (o : Nat → Option Ob) : List A → List D → Prop
 | [], ds => ds = []
 | .d x :: r, ds => ∃ q, ds = x :: q ∧ lendC o r q
 | .own j :: r, ds => match o j with
  | some (.arr _ es) => ∃ q, ds = .seq es :: q ∧ lendC o r q
  | _ => False
 | _ :: _, _ => False
def lendV (o : Nat → Option Ob) : List A → List D → Prop
 | [], ds => ds = []
 | .d x :: r, ds => ∃ q, ds = x :: q ∧ lendV o r q
 | .ref i 0 :: r, ds => match o i with
  | some (.var _ _ cs) => ∃ c q, ds = .iptr c :: q ∧ lendC o cs c ∧ lendV o r q
  | _ => False
 | _ :: _, _ => False
def viewIds (o : Nat → Option Ob) : List A → List Nat
 | [] => []
 | .ref i _ :: r => match o i with
  | some (.var _ _ cs) => i :: (ownIds cs ++ viewIds o r)
  | _ => i :: viewIds o r
 | _ :: r => viewIds o r
def effLend (dst : Option Tmp) (rd : List Nat) (r : D) (K : Eff → Prop) : Prop :=
 flatR r = true ∧ (match dst with
  | some d => fA (.d r) fun x => K ⟨some (d, x), [], rd, 0, [], []⟩
  | none => K ⟨none, [], rd, 0, [], []⟩)
def effFr (dst : Option Tmp) (ρ : List Nat) (nid : Nat) (rd : List Nat) (r : A) (post : List (Nat × Ob)) (K : Eff → Prop) : Prop :=
 match ρ, r, post with
 | [], .own 0, [(0, .arr T es)] => (∀ el ∈ es, ∀ d ∈ el, flatD d = true) ∧ (match dst with
  | some d => K ⟨some (d, .own nid), [(nid, .arr T es)], rd, 1, [], []⟩
  | none => K ⟨none, [(nid, .arr T es)], rd, 1, [], []⟩)
 | _, _, _ => False
def frB (w : Nat) (frz : List (Nat × D)) : Bool := Nat.beq w 8 && !frz.isEmpty
def effArg (S : Sums) (fid : FuncId) (dst : Option Tmp) (o : Nat → Option Ob) (nid : Nat) (all : List A) (K : Eff → Prop) : Prop :=
 ∃ (ρ : List Nat) (N : Nat) (r : A) (post : List (Nat × Ob)) (pre : List Ob), pres o (handL false (hideO ρ o) all).2 ρ = pre ∧
  S.b fid (invAL ρ (handL false (hideO ρ o) all).1) pre N r post ∧
  bif borB ρ nid N S.w pre post then
   bif frB S.w (handL false (hideO ρ o) all).2 then
    effFr dst ρ nid (ρ ++ (handL false (hideO ρ o) all).2.map (·.1) ++ ownIds all) r post K
   else
   effBor dst ρ nid N (handL false (hideO ρ o) all).2
    (ρ ++ (handL false (hideO ρ o) all).2.map (·.1) ++ ownIds all)
    (arrIds post 0 ρ pre) r (dropRo pre post) K
  else False
def dropO (i : Nat) : List (Nat × Ob) → List (Nat × Ob)
 | [] => []
 | (j, x) :: r => bif Nat.beq j i then dropO i r else (j, x) :: dropO i r
def effPin (S : Sums) (fid : FuncId) (dst : Option Tmp) (o : Nat → Option Ob) (nid : Nat) (all : List A) (K : Eff → Prop) : Prop :=
 ∃ (i : Nat) (T : TypeId) (es : List (List D)) (ds : List D), o i = some (.arr T es) ∧ es = ds.map (fun d => [d]) ∧
  effArg S fid dst (fun j => bif Nat.beq i j then some (.arw T (ds.map A.d)) else o j) nid all fun e =>
   lookO e.obs i = some (.arw T (ds.map A.d)) ∧ K ⟨e.slot, (i, .arr T es) :: dropO i e.obs, e.rd, e.new, e.frz, e.clr⟩
def Ob.vmB : Ob → Bool
 | .var _ _ _ | .map _ _ _ => true
 | _ => false
def subB (ρ : List Nat) (nid N W : Nat) (pre : List Ob) (post : List (Nat × Ob)) : Bool :=
 coverB ρ.length post && nodupB ρ && (ρ.all fun j => Nat.blt j nid) && Nat.ble ρ.length N && Nat.ble N (ρ.length + W) && pre.all Ob.vmB && postB 0 N (post.drop 1)
def effSub (S : Sums) (fid : FuncId) (dst : Option Tmp) (o : Nat → Option Ob) (nid : Nat) (all : List A) (K : Eff → Prop) : Prop :=
 match o 0 with
 | some (.env k) => ∃ (ρ : List Nat) (N : Nat) (r : A) (k' : Nat) (post : List (Nat × Ob)) (pre : List Ob), (ρ.map fun j => invO (0 :: ρ) (o j)) = pre ∧
   S.s fid (invAL (0 :: ρ) all) pre k r k' post ∧
   bif subB (0 :: ρ) nid N S.w pre ((0, .env k') :: post) then
    (match dst with
    | some d => forceA (outA (0 :: ρ) nid r) fun x => outObs (0 :: ρ) nid post fun obs => K ⟨some (d, x), (0, .env k') :: obs, 0 :: ρ, N - (0 :: ρ).length, [], []⟩
    | none => outObs (0 :: ρ) nid post fun obs => K ⟨none, (0, .env k') :: obs, 0 :: ρ, N - (0 :: ρ).length, [], []⟩)
   else False
 | _ => False
def effInp (S : Sums) (fid : FuncId) (dst : Option Tmp) (o : Nat → Option Ob) (nid : Nat) (all : List A) (K : Eff → Prop) : Prop :=
 bif Nat.beq S.w 8 then False else
 (match all with
 | .own i :: r => (match toDs r, o i with
  | some ds, some (.arr T es) => ∃ es', S.so fid ds T es es' ∧ (match dst with
   | some d => K ⟨some (d, .d (.tup [])), [(i, .arr T es')], [i], 0, [], []⟩
   | none => K ⟨none, [(i, .arr T es')], [i], 0, [], []⟩)
  | _, _ => False)
 | _ => False) ∨ effPin S fid dst o nid all K ∨ effSub S fid dst o nid all K
def fnA (f : Fn) (a b : List A) : A :=
 match toDs a, toDs b with
 | some x, some y => .d (.fn f x y)
 | _, _ => .fn f a b
def bnd (g : Nat → A) (x : Option Operand) (dflt : Nat) (K : Nat → Prop) : Prop :=
 match x with
 | none => K dflt
 | some op => isInt (opA g op) fun _ n => ∃ k : Nat, n = k ∧ K k
mutual
def frzA (z : List (Nat × D)) : A → A
 | .own i => match lookD z i with
  | some d => .d d
  | none => .own i
 | .fn f a b => .fn f (frzAL z a) (frzAL z b)
 | .agg cs => .agg (frzAL z cs)
 | .tup xs => .tup (frzAL z xs)
 | .lst xs => .lst (frzAL z xs)
 | .lptr x => .lptr (frzA z x)
 | .eref i k sz off => match lookD z i with
  | some _ => .unk
  | none => .eref i k sz off
 | .pre i hi => match lookD z i with
  | some _ => .unk
  | none => .pre i hi
 | .sub i ysz off sz n => match lookD z i with
  | some _ => .unk
  | none => .sub i ysz off sz n
 | .d x => .d x
 | .ref i off => .ref i off
 | .unk => .unk
def frzAL (z : List (Nat × D)) : List A → List A
 | [] => []
 | x :: r => frzA z x :: frzAL z r
end
def memN (js : List Nat) (j : Nat) : Bool := js.any fun i => Nat.beq i j
mutual
def clrA (js : List Nat) : A → A
 | .own j => bif memN js j then .unk else .own j
 | .fn f a b => .fn f (clrAL js a) (clrAL js b)
 | .agg cs => .agg (clrAL js cs)
 | .tup xs => .tup (clrAL js xs)
 | .lst xs => .lst (clrAL js xs)
 | .lptr x => .lptr (clrA js x)
 | .eref j k sz off => bif memN js j then .unk else .eref j k sz off
 | .pre j hi => bif memN js j then .unk else .pre j hi
 | .sub j ysz off sz n => bif memN js j then .unk else .sub j ysz off sz n
 | .d x => .d x
 | .ref j off => bif memN js j then .unk else .ref j off
 | .unk => .unk
def clrAL (js : List Nat) : List A → List A
 | [] => []
 | x :: r => clrA js x :: clrAL js r
end
def bytesD (s : ByteArray) : List (List D) := s.data.toList.map fun b => [.v (.int .u8 b.toNat)]
def frzOf (o : Nat → Option Ob) : List Nat → (List (Nat × D) → Prop) → Prop
 | [], K => K []
 | j :: r, K => match o j with
  | some (.arr _ es) => frzOf o r fun z => K ((j, .seq es) :: z)
  | _ => False
def sameO (o : Nat → Option Ob) : List Nat → List (Nat × Ob)
 | [] => []
 | j :: r => match o j with
  | some x => (j, x) :: sameO o r
  | none => sameO o r
def effOp (tb : TB) (S : Sums) (op : Op) (dst : Option Tmp) (g : Nat → A) (o : Nat → Option Ob) (nid : Nat) (K : Eff → Prop) : Prop :=
 match op with
 | .move x | .assign x => effPut dst (opA g x) [] K
 | .pick c a b =>
  match opA g c with
  | .d (.v (.bool t)) => (t = true → effPut dst (opA g a) [] K) ∧ (t = false → effPut dst (opA g b) [] K)
  | _ => False
 | .alloc T =>
  match tb T with
  | some y => bif y.bulk then effNew dst (.ref nid 0) nid (.var true T (y.zero.map fun v => .d (.v v))) K
   else fL (y.zero.map fun v => .d (.v v)) fun cs => effNew dst (.ref nid 0) nid (.var false T cs) K
  | none => False
 | .box T x =>
  match tb T with
  | some y => bif y.bulk then (match cellsOf (opA g x) with
    | some cs => cs.all A.one = true ∧ effNew dst (.ref nid 0) nid (.var true T cs) K
    | none => False)
   else withCells (opA g x) fun cs => bif cs.all A.one then effNew dst (.ref nid 0) nid (.var false T cs) K else False
  | none => False
 | .load T x =>
  match tb T with
  | some y =>
   match opA g x with
   | .ref i off =>
    match o i with
    | some (.var true _ cs) =>
     bif y.k.agg then
      ∃ ds, (cs.drop off).take y.size = ds.map A.d ∧ ds.length = y.size ∧ effPut dst (.d (.agg ds)) [i] K
     else ∃ c, cs[off]? = some c ∧ effPut dst c [i] K
    | some (.var false _ cs) =>
     bif y.k.agg then
      fL ((cs.drop off).take y.size) fun l => bif Nat.beq l.length y.size then effPut dst (aggA l) [i] K else False
     else match cs[off]? with
      | some c => effPut dst c [i] K
      | none => False
    | some (.ro _ cs) =>
     bif y.k.agg then
      ∃ ds, (cs.drop off).take y.size = ds.map A.d ∧ ds.length = y.size ∧ effPut dst (.d (.agg ds)) [i] K
     else ∃ c, cs[off]? = some c ∧ effPut dst c [i] K
    | _ => False
   | .d (.iptr cs) =>
    bif y.k.agg then
     fD y.size (cs.take y.size) fun ds => effPut dst (.d (.agg ds)) [] K
    else match cs[0]? with
     | some c => effPut dst (.d c) [] K
     | none => False
   | .d (.bptr cs n) =>
    bif y.k.agg then ((cs.drop n).take y.size).length = y.size ∧ effPut dst (.d (.agg ((cs.drop n).take y.size))) [] K
    else ∃ c, cs[n]? = some c ∧ effPut dst (.d c) [] K
   | .eref i k sz off =>
    match o i with
    | some (.arr _ es) =>
     ∃ el, es[k]? = some el ∧
     bif Nat.beq sz el.length then
     (bif y.k.agg then ((el.drop off).take y.size).length = y.size ∧ effPut dst (.d (.agg ((el.drop off).take y.size))) [i] K
     else ∃ c, el[off]? = some c ∧ effPut dst (.d c) [i] K) else False
    | some (.arw _ cs) => bif Nat.beq off 0 && Nat.beq sz 1 && !y.k.agg then ∃ c, cs[k]? = some c ∧ effPut dst c [i] K else False
    | _ => False
   | .lptr c => bif y.k.agg then False else effPut dst c [] K
   | _ => False
  | none => False
 | .store T x v =>
  match tb T with
  | some y =>
   match opA g x with
   | .ref i off =>
    match o i with
    | some (.var true T' cs) =>
     bif y.k.agg then
      ∃ vs, cellsOf (opA g v) = some vs ∧ vs.length = y.size ∧ off + vs.length ≤ cs.length ∧ vs.all A.one = true ∧ effSet dst i (.var true T' (putAt cs off vs)) K
     else off < cs.length ∧ fA (opA g v) fun v => bif v.one && Nat.beq y.size 1 then effSet dst i (.var true T' (cs.set off v)) K else False
    | some (.var false T' cs) =>
     withCells (opA g v) fun vs =>
      bif Nat.beq vs.length y.size && Nat.ble (off + vs.length) cs.length && vs.all A.one then
       fL (putAt cs off vs) fun cs' => effSet dst i (.var false T' cs') K
      else False
    | _ => False
   | .eref i k sz off =>
    match o i with
    | some (.arr e es) =>
     withCells (opA g v) fun vs =>
      (match toDs vs with
      | some ds => bif Nat.beq ds.length y.size && vs.all A.one then
        ∃ el, es[k]? = some el ∧ el.length = sz ∧ off + ds.length ≤ sz ∧
         ∃ es', es.set k (el.take off ++ ds ++ el.drop (off + ds.length)) = es' ∧ effSet dst i (.arr e es') K
       else False
      | none => False)
    | some (.arw e cs) => bif Nat.beq off 0 && Nat.beq sz 1 && Nat.beq y.size 1 then
      fA (opA g v) fun v => bif v.one then k < cs.length ∧ ∃ cs', cs.set k v = cs' ∧ effSet dst i (.arw e cs') K else False else False
    | _ => False
   | _ => False
  | none => False
 | .nilCheck x =>
  match opA g x with
  | .ref i off => effPut dst (.ref i off) [] K
  | .d (.iptr cs) => effPut dst (.d (.iptr cs)) [] K
  | .eref i k sz off => effPut dst (.eref i k sz off) [] K
  | _ => False
 | .binOp op T x y _ => binE tb op T (opA g x) (opA g y) fun r => effPut dst r [] K
 | .unOp op _ x =>
  match op with
  | .not => (match opA g x with
   | .d (.v (.bool b)) => effPut dst (boolRes (!b)) [] K
   | _ => False)
  | .neg => isInt (opA g x) fun k n => effPut dst (intRes k (k.wrap (0 - n))) [] K
  | _ => False
 | .convert s d x =>
  match tb s, tb d with
  | some ⟨.int _, _, _, _, _⟩, some ⟨.int k, _, _, _, _⟩ => isInt (opA g x) fun _ n => effPut dst (intRes k (k.wrap n)) [] K
  | some ⟨.slice e, _, _, _, _⟩, some ⟨.str, _, _, _, _⟩ =>
   match tb e, elemsOf o (opA g x) with
   | some ⟨.int .u8, _, _, _, _⟩, some (es, rd) => ∃ s, es = bytesD s ∧ effPut dst (.d (.v (.string s))) rd K
   | _, _ => False
  | _, _ => False
 | .fieldAddr T x f =>
  match tb T with
  | some ⟨.struct fs, _, _, _, _⟩ =>
   match fs[f]? with
   | some (off, ft) =>
    match tb ft with
    | some y =>
     bif Nat.beq y.size 0 then False else
     (match opA g x with
     | .ref i a => effPut dst (.ref i (a + off)) [] K
     | .d (.iptr cs) => effPut dst (.d (.iptr (cs.drop off))) [] K
     | .d (.bptr cs n) => effPut dst (.d (.bptr cs (n + off))) [] K
     | .eref i k sz a => effPut dst (.eref i k sz (a + off)) [] K
     | _ => False)
    | none => False
   | none => False
  | _ => False
 | .indexAddr T x ix =>
  match tb T with
  | some ⟨.slice e, _, _, _, _⟩ =>
   match tb e with
   | some y =>
    match opA g x with
    | .d (.seq es) =>
     isInt (opA g ix) fun _ k => ∃ (n : Nat) (el : List D), k = n ∧ es[n]? = some el ∧ el.length = y.size ∧ effPut dst (.d (.iptr el)) [] K
    | .own i =>
     match o i with
     | some (.arr _ es) => isInt (opA g ix) fun _ k => ∃ n : Nat, k = n ∧ n < es.length ∧ effPut dst (.eref i n y.size 0) [i] K
     | some (.arw _ cs) => isInt (opA g ix) fun _ k => ∃ n : Nat, k = n ∧ n < cs.length ∧ effPut dst (.eref i n y.size 0) [i] K
     | _ => False
    | .lst cs => isInt (opA g ix) fun _ k => ∃ (n : Nat) (c : A), k = n ∧ cs[n]? = some c ∧ y.size = 1 ∧ effPut dst (.lptr c) [] K
    | _ => False
   | none => False
  | some ⟨.arr len e, _, _, _, _⟩ =>
   match tb e with
   | some y =>
    match opA g x with
    | .ref i off => isInt (opA g ix) fun _ k => ∃ n : Nat, k = n ∧ n < len ∧ effPut dst (.ref i (off + n * y.size)) [] K
    | .d (.iptr cs) => isInt (opA g ix) fun _ k => ∃ n : Nat, k = n ∧ n < len ∧ effPut dst (.d (.bptr cs (n * y.size))) [] K
    | .d (.bptr cs q) => isInt (opA g ix) fun _ k => ∃ n : Nat, k = n ∧ n < len ∧ effPut dst (.d (.bptr cs (q + n * y.size))) [] K
    | .eref i j sz q => isInt (opA g ix) fun _ k => ∃ n : Nat, k = n ∧ n < len ∧ effPut dst (.eref i j sz (q + n * y.size)) [] K
    | _ => False
   | none => False
  | _ => False
 | .build T ps =>
  match tb T with
  | some ⟨.struct fs, _, _, z, bk⟩ =>
   bif fs.all fun p => (tb p.2).isSome then
    bif bk.1 && z.all intV then ∃ ds : List D, (fillA tb fs (z.map fun v => .d (.v v)) (ps.toList.map fun p => (p.1, opA g p.2)) fun cs' => cs' = ds.map A.d) ∧ effPut dst (.d (.agg ds)) [] K
    else bif bk.1 then ∃ cs, (fillA tb fs (z.map fun v => .d (.v v)) (ps.toList.map fun p => (p.1, opA g p.2)) fun cs' => cs' = cs) ∧ effPut dst (.agg cs) [] K
    else fL (z.map fun v => .d (.v v)) fun z => fillA tb fs z (ps.toList.map fun p => (p.1, opA g p.2)) fun cs => effPut dst (aggA cs) [] K
   else False
  | some ⟨.arr len e, _, _, z, _⟩ =>
   match tb e with
   | some y => fL (z.map fun v => .d (.v v)) fun z => fillA tb (arrFs y.size e len 0) z (ps.toList.map fun p => (p.1, opA g p.2)) fun cs => effPut dst (aggA cs) [] K
   | none => False
  | _ => False
 | .field T x f =>
  match tb T with
  | some ⟨.struct fs, _, _, _, _⟩ =>
   match fs[f]? with
   | some (off, ft) =>
    match tb ft with
    | some y =>
     match opA g x with
     | .d (.agg ds) => partD y.k.agg y.size off ds fun r => effPut dst (.d r) [] K
     | .agg cs => bif y.k.agg then fL ((cs.drop off).take y.size) fun l => bif Nat.beq l.length y.size then effPut dst (aggA l) [] K else False
      else (match cs[off]? with
       | some c => effPut dst c [] K
       | none => False)
     | _ => False
    | none => False
   | none => False
  | _ => False
 | .index T x ix =>
  match tb T with
  | some ⟨.arr len e, _, _, _, _⟩ =>
   match tb e with
   | some y =>
    match opA g x with
    | .d (.agg ds) => isInt (opA g ix) fun _ k => ∃ n : Nat, k = n ∧ n < len ∧
     (bif y.k.agg then ((ds.drop (n * y.size)).take y.size).length = y.size ∧ effPut dst (.d (.agg ((ds.drop (n * y.size)).take y.size))) [] K
     else ∃ c, ds[n * y.size]? = some c ∧ effPut dst (.d c) [] K)
    | _ => False
   | none => False
  | _ => False
 | .extract t i =>
  match opA g t with
  | .tup xs => (match xs[i]? with
   | some x => effPut dst x [] K
   | none => False)
  | .d (.tup xs) => (match xs[i]? with
   | some x => effPut dst (.d x) [] K
   | none => False)
  | _ => False
 | .call c =>
  match c.callee with
  | .value f =>
   match getFn (opA g f) with
   | some (fid, first, caps) =>
    Ch3
    (match handL true o (first ++ (c.args.toList.map (opA g)) ++ caps) with
    | (as, frz) =>
     (match toDs as with
     | some ds => ∃ r, S.p fid ds r ∧ effPure S.w dst frz r K
     | none => (∃ (ds : List D) (r : D), lendL tb o (first ++ (c.args.toList.map (opA g)) ++ caps) ds ∧ S.p fid ds r ∧ effLend dst (ownIds (first ++ (c.args.toList.map (opA g)) ++ caps)) r K) ∨
       (∃ (ds : List D) (T : TypeId) (es : List (List D)), Nat.blt 0 S.w = true ∧ lendV o (first ++ (c.args.toList.map (opA g)) ++ caps) ds ∧ S.b fid (ds.map A.d) [] 1 (.own 0) [(0, .arr T es)] ∧ (∀ el ∈ es, ∀ d ∈ el, flatD d = true) ∧
        (match dst with
        | some d => K ⟨some (d, .own nid), [(nid, .arr T es)], viewIds o (first ++ (c.args.toList.map (opA g)) ++ caps), 1, [], []⟩
        | none => False))))
     (∃ (ρ : List Nat) (N : Nat) (r : A) (post : List (Nat × Ob)),
      S.b fid (invAL ρ (handL false (hideO ρ o) (first ++ (c.args.toList.map (opA g)) ++ caps)).1) (pres o (handL false (hideO ρ o) (first ++ (c.args.toList.map (opA g)) ++ caps)).2 ρ) N r post ∧
      bif borB ρ nid N S.w (pres o (handL false (hideO ρ o) (first ++ (c.args.toList.map (opA g)) ++ caps)).2 ρ) post then
       bif frB S.w (handL false (hideO ρ o) (first ++ (c.args.toList.map (opA g)) ++ caps)).2 then
        effFr dst ρ nid (ρ ++ (handL false (hideO ρ o) (first ++ (c.args.toList.map (opA g)) ++ caps)).2.map (·.1) ++ ownIds (first ++ (c.args.toList.map (opA g)) ++ caps)) r post K
       else
       effBor dst ρ nid N (handL false (hideO ρ o) (first ++ (c.args.toList.map (opA g)) ++ caps)).2
        (ρ ++ (handL false (hideO ρ o) (first ++ (c.args.toList.map (opA g)) ++ caps)).2.map (·.1) ++ ownIds (first ++ (c.args.toList.map (opA g)) ++ caps))
        (arrIds post 0 ρ (pres o (handL false (hideO ρ o) (first ++ (c.args.toList.map (opA g)) ++ caps)).2 ρ)) r (dropRo (pres o (handL false (hideO ρ o) (first ++ (c.args.toList.map (opA g)) ++ caps)).2 ρ) post) K
      else False)
    (True ∧ ∃ (ρ : List Nat) (v : Value), S.x fid (invAL ρ (first ++ (c.args.toList.map (opA g)) ++ caps)) (pres o [] ρ) v ∧
     (match dst with
     | some d => bif nodupB ρ && (ρ.all fun j => Nat.blt j nid) && (pres o [] ρ).all Ob.sure then
       K ⟨some (d, .d (.v (.int .i64 0))), (nid, .pan v) :: sameO o ρ, ρ, 1, [], []⟩ else False
     | none => False))
    (effInp S fid dst o nid (first ++ (c.args.toList.map (opA g)) ++ caps) K)
   | none => match opA g f with
    | .own i => match o i with
     | some (.env k) => match handL true o (c.args.toList.map (opA g)) with
      | (as, frz) => match toDs as with
       | some ds => ∃ b, S.y k ds b ∧
        (match dst with
        | some d => K ⟨some (d, boolRes b), (i, .env (k + 1)) :: frz.map fun p => (p.1, .dead), i :: frz.map (·.1), 0, frz, []⟩
        | none => K ⟨none, (i, .env (k + 1)) :: frz.map fun p => (p.1, .dead), i :: frz.map (·.1), 0, frz, []⟩)
       | none => False
     | _ => False
    | _ => False
  | .builtin .len =>
   match c.args.toList, c.argTypes.toList with
   | [x], [T] =>
    match tb T with
    | some ⟨.map _ _, _, _, _, _⟩ => (match opA g x with
     | .own i => (match o i with
      | some (.map _ _ es) => effPut dst (intRes .i64 es.length) [i] K
      | _ => False)
     | _ => False)
    | some ⟨.slice _, _, _, _, _⟩ => (match elemsOf o (opA g x) with
     | some (es, rd) => effPut dst (intRes .i64 es.length) rd K
     | none => (match opA g x with
      | .own i => (match o i with
       | some (.arw _ cs) => effPut dst (intRes .i64 cs.length) [i] K
       | _ => False)
      | _ => False))
    | _ => False
   | _, _ => False
  | .builtin .cap =>
   match c.args.toList, c.argTypes.toList with
   | [x], [T] =>
    match tb T, opA g x with
    | some ⟨.slice _, _, _, _, _⟩, .d (.v (.slice none 0 0)) => effPut dst (intRes .i64 0) [] K
    | _, _ => False
   | _, _ => False
  | .builtin .copy =>
   match c.args.toList, c.argTypes.toList with
   | [x, v], [T, T'] =>
    match tb T, elemsOf o (opA g v) with
    | some ⟨.slice e, _, _, _, _⟩, some (ys, rd) =>
     match tb e with
     | some y =>
      bif Nat.beq T T' then
       match opA g x with
       | .sub i 0 off sz n => (match o i with
        | some (.var b T0 cs) => bif Nat.beq sz y.size && !rd.contains i then
          (∀ el ∈ ys, el.length = y.size) ∧ off + n * sz ≤ cs.length ∧ ∃ cs' : List A, putAt cs off ((ys.take n).flatten.map A.d) = cs' ∧
           (match dst with
           | some d => K ⟨some (d, intRes .i64 (min n ys.length : Nat)), [(i, .var b T0 cs')], i :: rd, 0, [], []⟩
           | none => K ⟨none, [(i, .var b T0 cs')], i :: rd, 0, [], []⟩)
         else False
        | _ => False)
       | .sub i ysz off sz n => (match o i with
        | some (.arr e' es) => bif Nat.beq e e' && Nat.beq sz y.size && Nat.beq ysz y.size then
          ∃ l : Nat, off = l * y.size ∧ l + n ≤ es.length ∧ (∀ el ∈ ys, el.length = y.size) ∧ ∃ es' : List (List D), es.take l ++ ys.take n ++ es.drop (l + (ys.take n).length) = es' ∧
           (match dst with
           | some d => K ⟨some (d, intRes .i64 (min n ys.length : Nat)), [(i, .arr e es')], i :: rd, 0, [], []⟩
           | none => K ⟨none, [(i, .arr e es')], i :: rd, 0, [], []⟩)
         else False
        | _ => False)
       | .own i => (match o i with
        | some (.arr e' es) => bif Nat.beq e e' && !rd.contains i then
          (∀ el ∈ ys, el.length = y.size) ∧ ∃ es' : List (List D), ys.take es.length ++ es.drop ys.length = es' ∧
           (match dst with
           | some d => K ⟨some (d, intRes .i64 (min es.length ys.length : Nat)), [(i, .arr e es')], i :: rd, 0, [], []⟩
           | none => K ⟨none, [(i, .arr e es')], i :: rd, 0, [], []⟩)
         else False
        | _ => False)
       | _ => False
      else False
     | none => False
    | _, _ => False
   | _, _ => False
  | .builtin .clear =>
   bif Nat.beq S.w 8 then False else
   match c.args.toList, c.argTypes.toList, dst with
   | [x], [T], none =>
    match tb T with
    | some ⟨.slice e, _, _, _, _⟩ =>
     match tb e, opA g x with
     | some y, .sub i ysz off sz n => (match o i with
      | some (.arr e' es) => bif Nat.beq e e' && Nat.beq sz y.size && Nat.beq ysz y.size then
        ∃ l : Nat, off = l * y.size ∧ l + n ≤ es.length ∧ ∃ es' : List (List D), es.take l ++ List.replicate n (y.zero.map D.v) ++ es.drop (l + n) = es' ∧ K ⟨none, [(i, .arr e es')], [i], 0, [], []⟩
       else False
      | _ => False)
     | _, _ => False
    | _ => False
   | _, _, _ => False
  | .builtin .append =>
   match c.args.toList, c.argTypes.toList, dst with
   | [s, x], [T, T'], some d =>
    match tb T with
    | some ⟨.slice e, _, _, _, _⟩ =>
     match tb e, elemsOf o (opA g x) with
     | some y, some (ys, rd) =>
      bif Nat.beq T T' && Nat.blt 0 y.size && Nat.blt 0 y.bytes then
       match opA g s with
       | .d (.v (.slice none 0 0)) => (∀ el ∈ ys, el.length = y.size) ∧ ys.length * y.bytes ≤ 140737488355328 ∧ K ⟨some (d, .own nid), [(nid, .arr e ys)], rd, 1, [], []⟩
       | .own i => (match o i with
        | some (.arr e' es) =>
         bif Nat.beq e e' && !rd.contains i then
          (∀ el ∈ ys, el.length = y.size) ∧ (es.length + ys.length) * y.bytes ≤ 140737488355328 ∧
           bif Nat.beq S.w 8 then K ⟨some (d, .own nid), [(nid, .arr e (es ++ ys)), (i, .dead)], i :: rd, 1, [], []⟩
           else K ⟨some (d, .own i), [(i, .arr e (es ++ ys))], i :: rd, 0, [], [i]⟩
         else False
        | some (.arw e' cs) =>
         bif Nat.beq e e' && Nat.beq y.size 1 && !rd.contains i && !Nat.beq S.w 8 then
          (∀ el ∈ ys, el.length = y.size) ∧ (cs.length + ys.length) * y.bytes ≤ 140737488355328 ∧ ∃ cs', cs ++ ys.flatten.map A.d = cs' ∧
           K ⟨some (d, .own nid), [(nid, .arw e cs'), (i, .dead)], i :: rd, 1, [], []⟩
         else False
        | _ => False)
       | _ => False
      else False
     | some y, none => (match opA g x with
      | .d (.v (.int _ k)) => (match opA g s, tb T' with
       | .d (.v (.slice none 0 0)), some ⟨.int _, _, _, _, _⟩ => bif Nat.blt 0 y.size && Nat.blt 0 y.bytes && !Nat.beq S.w 8 then
         ∃ n : Nat, k = n ∧ n * y.bytes ≤ 140737488355328 ∧ ∃ es, List.replicate n (y.zero.map D.v) = es ∧ K ⟨some (d, .own nid), [(nid, .arr e es)], [], 1, [], []⟩ else False
       | _, _ => False)
      | .own q => (match o q with
       | some (.arw e2 ys) => bif Nat.beq T T' && Nat.beq e e2 && Nat.beq y.size 1 && Nat.blt 0 y.bytes && !Nat.beq S.w 8 then
         (match opA g s with
         | .d (.v (.slice none 0 0)) => ys.length * y.bytes ≤ 140737488355328 ∧ K ⟨some (d, .own nid), [(nid, .arw e ys)], [q], 1, [], []⟩
         | .own i => (match o i with
          | some (.arw e' cs) => bif Nat.beq e e' && !Nat.beq q i then
            (cs.length + ys.length) * y.bytes ≤ 140737488355328 ∧ ∃ cs', cs ++ ys = cs' ∧ K ⟨some (d, .own nid), [(nid, .arw e cs'), (i, .dead)], [i, q], 1, [], []⟩
           else False
          | _ => False)
         | _ => False)
        else False
       | _ => False)
      | .d (.v (.string str)) => (match opA g s, tb T' with
       | .own i, some ⟨.str, _, _, _, _⟩ => (match o i with
        | some (.arr e' es) => bif Nat.beq e e' && Nat.beq y.size 1 && Nat.blt 0 y.bytes && !Nat.beq S.w 8 then
          (es.length + str.size) * y.bytes ≤ 140737488355328 ∧ ∃ es', es ++ bytesD str = es' ∧ K ⟨some (d, .own nid), [(nid, .arr e es'), (i, .dead)], [i], 1, [], []⟩ else False
        | _ => False)
       | _, _ => False)
      | _ => False)
     | _, _ => False
    | _ => False
   | _, _, _ => False
  | .builtin .max =>
   match c.args.toList with
   | [x, y] => isInt (opA g x) fun k a => isInt (opA g y) fun _ b => effPut dst (intRes k (max a b)) [] K
   | _ => False
  | .builtin .min =>
   match c.args.toList with
   | [x, y] => isInt (opA g x) fun k a => isInt (opA g y) fun _ b => effPut dst (intRes k (min a b)) [] K
   | _ => False
  | _ => False
 | .makeMap T r =>
  match r, tb T with
  | none, some ⟨.map k e, _, _, _, _⟩ => effNew dst (.own nid) nid (.map k e []) K
  | _, _ => False
 | .makeSlice T l c =>
  match tb T with
  | some ⟨.slice e, _, _, _, _⟩ =>
   match tb e with
   | some y => isInt (opA g l) fun _ n => isInt (opA g c) fun _ q =>
    ∃ k : Nat, n = k ∧ q = k ∧ k * y.bytes ≤ 140737488355328 ∧ k ≤ 140737488355328 ∧ ∃ es, List.replicate k (y.zero.map D.v) = es ∧ effNew dst (.own nid) nid (.arr e es) K
   | none => False
  | _ => False
 | .lookup T x ix ok =>
  match tb T, opA g x, opA g ix with
  | some ⟨.map k e, _, _, _, _⟩, .own i, .d key =>
   match o i, tb e with
   | some (.map k' e' es), some y =>
    bif Nat.beq k k' && Nat.beq e e' && keyB tb k key then
     ∃ r : Option D, mapGet es key = r ∧
     (match r with
     | some v => (match ok with
      | true => effPut dst (.tup [.d v, boolRes true]) [i] K
      | false => effPut dst (.d v) [i] K)
     | none => (match ok with
      | true => effPut dst (.tup [.d (zeroD y), boolRes false]) [i] K
      | false => effPut dst (.d (zeroD y)) [i] K))
    else False
   | _, _ => False
  | _, _, _ => False
 | .mapUpdate T m ix x =>
  match tb T, opA g m, opA g ix, opA g x with
  | some ⟨.map k e, _, _, _, _⟩, .own i, .d key, .d v =>
   match o i with
   | some (.map k' e' es) =>
    bif Nat.beq k k' && Nat.beq e e' && keyB tb k key then
     ∃ es', mapSet es key v = es' ∧ effSet dst i (.map k e es') K
    else False
   | _ => False
  | _, _, _, _ => False
 | .insert T m ix x =>
  bif Nat.beq S.w 8 then False else
  match tb T, opA g m, opA g ix, opA g x with
  | some ⟨.map k e, _, _, _, _⟩, .own i, .d key, .d v =>
   match o i with
   | some (.map k' e' es) =>
    bif Nat.beq k k' && Nat.beq e e' && keyB tb k key then
     ∃ es', mapSet es key v = es' ∧ effSet dst i (.map k e es') K
    else False
   | _ => False
  | _, _, _, _ => False
 | .makeFunc fn first caps => fL (first.toList.map (opA g)) fun a => fL (caps.toList.map (opA g)) fun b => effPut dst (fnA fn a b) [] K
 | .slice T x lo hi mx =>
  match mx with
  | none =>
   match tb T with
   | some ⟨.slice e, _, _, _, _⟩ =>
    match tb e with
    | some y =>
     match opA g x with
     | .d (.v (.slice none 0 0)) => bnd g lo 0 fun l => bnd g hi 0 fun h => l = 0 ∧ h = 0 ∧ effPut dst (.d (.v (.slice none 0 0))) [] K
     | .d (.seq es) => bnd g lo 0 fun l => bnd g hi es.length fun h => l ≤ h ∧ h ≤ es.length ∧ (∀ el ∈ es, el.length = y.size) ∧ effPut dst (.d (.seq ((es.take h).drop l))) [] K
     | .own i =>
      match lo, dst, o i with
      | none, some d, some (.arr e' es) =>
       bif Nat.beq e e' then bnd g hi es.length fun h => h ≤ es.length ∧ Ch (∃ es', es.take h = es' ∧ K ⟨some (d, .own i), [(i, .arr e es')], [i], 0, [], [i]⟩) (K ⟨some (d, .pre i h), [], [i], 0, [], []⟩) else False
      | some l0, some d, some (.arr e' es) =>
       bif Nat.beq e e' && hi.isNone then bnd g (some l0) 0 fun l => l ≤ es.length ∧ Ch (∃ es', es.drop l = es' ∧ K ⟨some (d, .own i), [(i, .arr e es')], [i], 0, [], [i]⟩) (K ⟨some (d, .sub i y.size (l * y.size) y.size (es.length - l)), [], [i], 0, [], []⟩) else False
      | _, _, _ => False
     | _ => False
    | none => False
   | some ⟨.arr len e, _, _, _, _⟩ =>
    match tb e with
    | some y =>
     match lo, opA g x, dst with
     | none, .ref i 0, some d =>
      (match o i with
      | some (.var _ T' cs) => ChL (bnd g hi len fun h => h ≤ len ∧ ∃ es : List (List D), cs.take (h * y.size) = es.flatten.map A.d ∧ (∀ el ∈ es, el.length = y.size) ∧ es.length = h ∧ K ⟨some (d, .d (.seq es)), [(i, .ro T' cs)], [i], 0, [], []⟩)
        (bnd g hi len fun h => h ≤ len ∧ K ⟨some (d, .sub i 0 0 y.size h), [], [i], 0, [], []⟩)
      | some (.ro T' cs) => bnd g hi len fun h => h ≤ len ∧ ∃ es : List (List D), cs.take (h * y.size) = es.flatten.map A.d ∧ (∀ el ∈ es, el.length = y.size) ∧ es.length = h ∧ K ⟨some (d, .d (.seq es)), [], [i], 0, [], []⟩
      | _ => False)
     | some l0, .ref i 0, some d =>
      (match o i, hi with
      | some (.var _ T' cs), none => bnd g (some l0) 0 fun l => l ≤ len ∧ K ⟨some (d, .sub i 0 (l * y.size) y.size (len - l)), [], [i], 0, [], []⟩
      | _, _ => False)
     | none, .eref i k sz q, some d =>
      (match o i with
      | some (.arr _ es) => bnd g hi len fun h => h ≤ len ∧ k < es.length ∧ q + h * y.size ≤ sz ∧ K ⟨some (d, .sub i sz (k * sz + q) y.size h), [], [i], 0, [], []⟩
      | _ => False)
     | none, .d (.iptr cs), some d => bif Nat.beq S.w 8 then False else bnd g hi len fun h => h ≤ len ∧ ∃ es : List (List D), cs.take (h * y.size) = es.flatten ∧ (∀ el ∈ es, el.length = y.size) ∧ es.length = h ∧ (es.flatten.all D.intB = true) ∧ h * y.size ≤ cs.length ∧ K ⟨some (d, .d (.seq es)), [], [], 0, [], []⟩
     | _, _, _ => False
    | none => False
   | _ => False
  | some m0 =>
   bif Nat.beq S.w 8 then False else
   match tb T, hi with
   | some ⟨.slice e, _, _, _, _⟩, some h0 =>
    match tb e with
    | some y =>
     match opA g x with
     | .d (.seq es) => bnd g lo 0 fun l => bnd g (some h0) 0 fun h => bnd g (some m0) 0 fun q => l ≤ h ∧ h ≤ q ∧ q ≤ es.length ∧ (∀ el ∈ es, el.length = y.size) ∧ ∃ es', (es.take h).drop l = es' ∧ effPut dst (.d (.seq es')) [] K
     | _ => False
    | none => False
   | _, _ => False
 | .range T x =>
  bif Nat.beq S.w 8 then False else
  match tb T, opA g x with
  | some ⟨.map _ _, _, _, _, _⟩, .own i => (match o i with
   | some (.map _ _ es) => ∃ q, es.length = q ∧ effNew dst (.ref nid 0) nid (.iter i q []) K
   | _ => False)
  | _, _ => False
 | .next it str =>
  bif Nat.beq S.w 8 || str then False else
  match opA g it, dst with
  | .ref j 0, some d => (match o j with
   | some (.iter i q seen) => (match o i with
    | some (.map _ _ es) => es.length = q ∧ (seen.length = q → K ⟨some (d, .d (.tup [.v (.bool false)])), [], [j, i], 0, [], []⟩) ∧
      (∀ r p, seen.length < q → r ∉ seen → es[r]? = some p → K ⟨some (d, .d (.tup [.v (.bool true), p.1, p.2])), [(j, .iter i q (r :: seen))], [j, i], 0, [], []⟩)
    | _ => False)
   | _ => False)
  | _, _ => False
 | .entry it =>
  bif Nat.beq S.w 8 then False else
  match opA g it with
  | .ref j 0 => (match o j with
   | some (.iter i q (r :: _)) => (match o i with
    | some (.map _ _ es) => es.length = q ∧ ∃ p, es[r]? = some p ∧ effPut dst (.d (.tup [p.1, p.2])) [j, i] K
    | _ => False)
   | _ => False)
  | _ => False
 | .buildSlice T len ps =>
  match tb T with
  | some ⟨.slice e, _, _, _, _⟩ =>
   match tb e with
   | some y =>
    bif Nat.beq len 0 then (bif Nat.beq ps.size 0 then effNew dst (.own nid) nid (.arr e []) K else False) else
    bif Nat.beq ps.size len && Nat.ble (len * y.size) 16777216 then
     (bif y.k.fnB && Nat.beq y.size 1 && (ps.toList.map fun p => opA g p.2).any A.fnB then buildLst (ps.toList.map fun p => (p.1, opA g p.2)) 0 fun cs => effPut dst (.lst cs) [] K
     else bif (ps.toList.map fun p => opA g p.2).any A.ownB then
      Ch (match handL true o (ps.toList.map fun p => opA g p.2) with
      | (as, frz) => bif !frz.isEmpty then buildRows y.size ((ps.toList.map (·.1)).zip as) 0 fun es => effFz dst (.d (.seq es)) frz K else False)
      (bif Nat.beq y.size 1 && !y.k.agg && !Nat.beq S.w 8 then buildLst (ps.toList.map fun p => (p.1, opA g p.2)) 0 fun cs => ∃ js : List Nat, frzOf o js fun z => ∃ cs', frzAL z cs = cs' ∧
       (match dst with
       | some d => K ⟨some (d, .own nid), (nid, .arw e cs') :: z.map fun p => (p.1, .dead), z.map (·.1), 1, z, []⟩
       | none => False) else False)
     else buildRows y.size (ps.toList.map fun p => (p.1, opA g p.2)) 0 fun es => ChL (effPut dst (.d (.seq es)) [] K) (0 < y.size ∧ effNew dst (.own nid) nid (.arr e es) K))
    else False
   | none => False
  | _ => False
 | .makeInterface T x => bif Nat.beq S.w 8 then False else
  match tb T, opA g x with
  | some ⟨.struct _, _, _, _, _⟩, .d (.agg []) => effPut dst (.d (.v (.iface T (.agg #[])))) [] K
  | _, _ => False
 | .typeAssert x _ T true => bif Nat.beq S.w 8 then False else
  match tb T, opA g x with
  | some ⟨.struct _, _, _, _, _⟩, .d (.v (.iface t (.agg ⟨[]⟩))) => bif Nat.beq t T then effPut dst (.tup [.d (.agg []), boolRes true]) [] K else False
  | _, _ => False
 | .panic x => bif Nat.beq S.w 8 then False else
  match opA g x, dst with
  | .d (.v (.iface T u)), none => K ⟨none, [(nid, .pan (.iface T u))], [], 1, [], []⟩
  | _, _ => False
 | _ => False
where
 buildRows (sz : Nat) : List (Nat × A) → Nat → (List (List D) → Prop) → Prop
  | [], _, K => K []
  | (i, x) :: r, k, K =>
   bif Nat.beq i k then (bif Nat.ble 16 sz then (match x with
    | .d (.agg ds) => ds.length = sz ∧ (ds.map A.d).all A.one = true ∧ buildRows sz r (k + 1) fun es => K (ds :: es)
    | _ => False)
   else withCells x fun cs =>
    (match toDs cs with
    | some ds => bif Nat.beq ds.length sz && cs.all A.one then buildRows sz r (k + 1) fun es => K (ds :: es) else False
    | none => False))
   else False
 buildLst : List (Nat × A) → Nat → (List A → Prop) → Prop
  | [], _, K => K []
  | (i, x) :: r, k, K => bif Nat.beq i k && x.one then fA x fun x => buildLst r (k + 1) fun cs => K (x :: cs) else False
def frzO (z : List (Nat × D)) : Ob → Ob
 | .var b T cs => .var b T (frzAL z cs)
 | .ro T cs => .ro T (frzAL z cs)
 | .arw T cs => .arw T (frzAL z cs)
 | x => x
def clrO (js : List Nat) : Ob → Ob
 | .var b T cs => .var b T (clrAL js cs)
 | .ro T cs => .ro T (clrAL js cs)
 | .arw T cs => .arw T (clrAL js cs)
 | .iter m n seen => bif memN js m then .dead else .iter m n seen
 | x => x
def mapSl (f : A → A) : List (Nat × A) → (List (Nat × A) → Prop) → Prop
 | [], K => K []
 | (k, x) :: r, K => forceA (f x) fun x => mapSl f r fun r => K ((k, x) :: r)
def mapOb (f : Ob → Ob) : List (Nat × Ob) → (List (Nat × Ob) → Prop) → Prop
 | [], K => K []
 | (k, x) :: r, K => fO (f x) fun x => mapOb f r fun r => K ((k, x) :: r)
def catO : List (Nat × Ob) → List (Nat × Ob) → (List (Nat × Ob) → Prop) → Prop
 | [], m, K => K m
 | p :: r, m, K => catO r m fun q => K (p :: q)
def fS (s : St) (K : St → Prop) : Prop :=
 match s with
 | ⟨sl, ob, n⟩ => fN n fun n => K ⟨sl, ob, n⟩
def gN (s : St) (K : Nat → Prop) : Prop :=
 match s with
 | ⟨_, _, n⟩ => fN n K
def fLit : Nat → (Nat → Prop) → Prop
 | 0, K => K 0
 | n + 1, K => fLit n fun m => K (m + 1)
def St.app (s : St) (e : Eff) (K : St → Prop) : Prop :=
 match s, e with
 | ⟨sl, ob, n⟩, ⟨slot, obs, _, new, frz, clr⟩ =>
  match frz, clr with
  | [], [] => (match slot with
   | some p => catO obs ob fun ob => K ⟨p :: sl, ob, n + new⟩
   | none => catO obs ob fun ob => K ⟨sl, ob, n + new⟩)
  | frz, [] => mapSl (frzA frz) sl fun sl => mapOb (frzO frz) ob fun ob => (match slot with
   | some p => catO obs ob fun ob => K ⟨p :: sl, ob, n + new⟩
   | none => catO obs ob fun ob => K ⟨sl, ob, n + new⟩)
  | [], js => mapSl (clrA js) sl fun sl => mapOb (clrO js) ob fun ob => (match slot with
   | some p => catO obs ob fun ob => K ⟨p :: sl, ob, n + new⟩
   | none => catO obs ob fun ob => K ⟨sl, ob, n + new⟩)
  | frz, js => mapSl (frzA frz) sl fun sl => mapOb (frzO frz) ob fun ob => mapSl (clrA js) sl fun sl => mapOb (clrO js) ob fun ob => (match slot with
   | some p => catO obs ob fun ob => K ⟨p :: sl, ob, n + new⟩
   | none => catO obs ob fun ob => K ⟨sl, ob, n + new⟩)
end Go.Ev


namespace Go.Ev
def eqFieldsK (sz : TypeId → Option (List Bool)) : List Field → Nat → Option (List Bool)
 | [], _ => some []
 | f :: r, off => bif f.name != "_" && Nat.beq f.offset off then (match sz f.type with
  | some k => (match eqFieldsK sz r (off + k.length) with
   | some l => some (k ++ l)
   | none => none)
  | none => none) else none
def aggT (P : Program) (t : TypeId) : Bool :=
 match P.underlying t with
 | some (.struct _) | some (.array _ _) => true
 | _ => false
def eqKinds (P : Program) : Nat → TypeId → Option (List Bool)
 | 0, _ => none
 | d + 1, t =>
  match P.underlying t with
  | some .bool => some [true]
  | some (.int _) => some [false]
  | some (.struct fs) => bif P.stoodInHeld t then none else (match eqFieldsK (eqKinds P d) fs.toList 0, P.info? t with
   | some k, some i => bif Nat.beq i.size k.length then some k else none
   | _, _ => none)
  | some (.array len e) => (match eqKinds P d e, P.info? t, P.info? e with
   | some k, some i, some j => bif Nat.beq i.size (len * k.length) && Nat.beq j.size k.length then some (List.replicate len k).flatten else none
   | _, _, _ => none)
  | _ => none
def fitsB : List Bool → List Value → Bool
 | [], [] => true
 | true :: k, .bool _ :: r => fitsB k r
 | false :: k, .int _ _ :: r => fitsB k r
 | _, _ => false
def sameV : Value → Value → Option Bool
 | .int k a, .int k' b => if k = k' then some (a == b) else none
 | .bool a, .bool b => some (a == b)
 | _, _ => none
def eqVs : List Value → List Value → Option Bool
 | [], [] => some true
 | x :: r, y :: s => match sameV x y, eqVs r s with
  | some p, some q => some (p && q)
  | _, _ => none
 | _, _ => none
theorem fitsB_cons {b : Bool} {k : List Bool} {xs : List Value} (h : fitsB (b :: k) xs = true) : ∃ x r, xs = x :: r ∧ fitsB k r = true ∧ ((b = true ∧ ∃ c, x = .bool c) ∨ (b = false ∧ ∃ q n, x = .int q n)) := by
 cases xs with
 | nil => cases b <;> simp [fitsB] at h
 | cons x r =>
  cases b <;> cases x <;> simp only [fitsB, Bool.false_eq_true] at h <;>
   first
    | exact ⟨_, _, rfl, h, .inl ⟨rfl, _, rfl⟩⟩
    | exact ⟨_, _, rfl, h, .inr ⟨rfl, _, _, rfl⟩⟩
theorem fitsB_length : ∀ {k : List Bool} {xs : List Value}, fitsB k xs = true → xs.length = k.length
 | [], [], _ => rfl
 | [], _ :: _, h => by simp [fitsB] at h
 | b :: k, xs, h => by
  obtain ⟨x, r, rfl, h1, _⟩ := fitsB_cons h
  simp [fitsB_length h1]
theorem fitsB_append : ∀ {k l : List Bool} {xs : List Value}, fitsB (k ++ l) xs = true → fitsB k (xs.take k.length) = true ∧ fitsB l (xs.drop k.length) = true
 | [], l, xs, h => by simpa [fitsB] using h
 | b :: k, l, xs, h => by
  rw [List.cons_append] at h
  obtain ⟨x, r, rfl, h1, h2⟩ := fitsB_cons h
  obtain ⟨i1, i2⟩ := fitsB_append h1
  refine ⟨?_, by simpa using i2⟩
  simp only [List.length_cons, List.take_succ_cons]
  rcases h2 with ⟨rfl, c, rfl⟩ | ⟨rfl, q, n, rfl⟩ <;> simpa [fitsB] using i1
theorem eqVs_length : ∀ {xs ys : List Value} {q : Bool}, eqVs xs ys = some q → ys.length = xs.length
 | [], [], _, _ => rfl
 | [], _ :: _, _, h => by simp [eqVs] at h
 | _ :: _, [], _, h => by simp [eqVs] at h
 | x :: r, y :: s, q, h => by
  rw [eqVs] at h
  split at h
  ·rename_i h2; simp [eqVs_length h2]
  ·cases h
theorem eqVs_split : ∀ (n : Nat) {xs ys : List Value} {q : Bool}, eqVs xs ys = some q → ∃ p r, eqVs (xs.take n) (ys.take n) = some p ∧ eqVs (xs.drop n) (ys.drop n) = some r ∧ q = (p && r)
 | 0, xs, ys, q, h => ⟨true, q, by simp [eqVs], by simpa using h, by simp⟩
 | n + 1, [], [], q, h => by simp [eqVs] at h; subst h; exact ⟨true, true, by simp [eqVs], by simp [eqVs], rfl⟩
 | n + 1, [], _ :: _, q, h => by simp [eqVs] at h
 | n + 1, _ :: _, [], q, h => by simp [eqVs] at h
 | n + 1, x :: r, y :: s, q, h => by
  rw [eqVs] at h
  split at h
  ·rename_i p q' h1 h2
   cases h
   obtain ⟨p', r', e1, e2, e3⟩ := eqVs_split n h2
   refine ⟨p && p', r', ?_, by simpa using e2, by rw [e3, Bool.and_assoc]⟩
   simp [eqVs, h1, e1]
  ·cases h
section
variable {P : Program}
def packV (b : Bool) (vs : List Value) : Value := if b then .agg vs.toArray else vs.getD 0 undef
theorem run_isAggT {t : TypeId} (h : (P.underlying t).isSome = true) (w : World) : (isAgg t).run P w = .ok (aggT P t) w := by
 obtain ⟨d, hd⟩ := Option.isSome_iff_exists.1 h
 unfold aggT
 cases d <;> simp [Go.isAgg, run_underlying hd, hd]
theorem eqKinds_info {d : Nat} {t : TypeId} {k : List Bool} (h : eqKinds P d t = some k) : (P.underlying t).isSome = true ∧ (aggT P t = true → ∃ i, P.info? t = some i ∧ i.size = k.length) ∧ (aggT P t = false → k.length = 1) := by
 cases d with
 | zero => simp [eqKinds] at h
 | succ d =>
  unfold eqKinds at h
  split at h
  ·rename_i hu; cases h; simp [aggT, hu]
  ·rename_i hu; cases h; simp [aggT, hu]
  ·rename_i fs hu
   cases hs : P.stoodInHeld t with
   | true => simp [hs] at h
   | false =>
    simp only [hs, cond_false] at h
    split at h
    ·rename_i k' i hk hi
     cases hb : Nat.beq i.size k'.length with
     | false => simp [hb] at h
     | true => simp only [hb, cond_true, Option.some.injEq] at h; subst h; exact ⟨by simp [hu], fun _ => ⟨i, hi, Nat.eq_of_beq_eq_true hb⟩, fun e => by simp [aggT, hu] at e⟩
    ·cases h
  ·rename_i len e hu
   split at h
   ·rename_i k' i j hk hi hj
    cases hb : (Nat.beq i.size (len * k'.length) && Nat.beq j.size k'.length) with
    | false => simp [hb] at h
    | true =>
     simp only [hb, cond_true, Option.some.injEq] at h; subst h
     simp only [Bool.and_eq_true] at hb
     exact ⟨by simp [hu], fun _ => ⟨i, hi, by rw [Nat.eq_of_beq_eq_true hb.1]; simp⟩, fun e => by simp [aggT, hu] at e⟩
   ·cases h
  ·cases h
theorem run_part {d : Nat} {t : TypeId} {k : List Bool} (h : eqKinds P d t = some k) {xs : List Value} {off : Nat} (hl : off + k.length ≤ xs.length) (w : World) :
  (part t xs.toArray off).run P w = .ok (packV (aggT P t) ((xs.drop off).take k.length)) w := by
 obtain ⟨h1, h2, h3⟩ := eqKinds_info h
 unfold part
 rw [Sem.run_bind, run_isAggT h1, Result.andThen_ok]
 cases ha : aggT P t with
 | true =>
  obtain ⟨i, hi, hn⟩ := h2 ha
  have : (sizeOf t).run P w = .ok k.length w := by simp [sizeOf, typeInfo, hi, hn]
  simp only [if_true, Sem.run_bind, this, Result.andThen_ok, packV]
  simp [List.extract_eq_take_drop]
 | false =>
  have := h3 ha
  have hlt : off < xs.length := by omega
  simp [packV, hlt, this]
def EqOK (P : Program) (D : Nat) (t : TypeId) (k : List Bool) : Prop :=
 ∀ (w : World) (xs ys : List Value) (q : Bool), fitsB k xs = true → eqVs xs ys = some q → (Op.equalIn D t (packV (aggT P t) xs) (packV (aggT P t) ys)).run P w = .ok q w
theorem eqFields_ok {D d : Nat} (ih : ∀ t k, eqKinds P d t = some k → EqOK P D t k) : ∀ (fs : List Field) (off : Nat) (k : List Bool) (w : World) (xs ys : List Value) (q : Bool), eqFieldsK (eqKinds P d) fs off = some k → fitsB k (xs.drop off) = true → off ≤ xs.length →
  ys.length = xs.length → eqVs (xs.drop off) (ys.drop off) = some q → (Op.eqFields D xs.toArray ys.toArray fs).run P w = .ok q w
 | [], off, k, w, xs, ys, q, hs, h1, h2, h3, hq => by
  simp [eqFieldsK] at hs
  subst hs
  have := fitsB_length h1
  rw [List.length_drop] at this
  simp only [List.length_nil] at this
  rw [List.drop_eq_nil_of_le (by omega), List.drop_eq_nil_of_le (by omega)] at hq
  simp [eqVs] at hq
  subst hq
  simp [Op.eqFields]
 | f :: fs, off, k, w, xs, ys, q, hs, h1, h2, h3, hq => by
  rw [eqFieldsK] at hs
  cases hb : (f.name != "_" && Nat.beq f.offset off) with
  | false => simp [hb] at hs
  | true =>
   rw [hb, cond_true] at hs
   simp only [Bool.and_eq_true, bne_iff_ne, ne_eq] at hb
   split at hs
   ·rename_i k1 hk
    split at hs
    ·rename_i l hl
     cases hs
     obtain ⟨f1, f2⟩ := fitsB_append h1
     obtain ⟨p, r, e1, e2, e3⟩ := eqVs_split k1.length hq
     rw [List.drop_drop] at f2
     rw [List.drop_drop, List.drop_drop] at e2
     have hlen := fitsB_length h1
     rw [List.length_drop, List.length_append] at hlen
     have i1 := eqFields_ok ih fs (off + k1.length) l w xs ys r hl f2 (by omega) h3 e2
     have ho : f.offset = off := Nat.eq_of_beq_eq_true hb.2
     simp only [Op.eqFields, hb.1, not_false_eq_true, if_true, ne_eq, Sem.run_bind, ho]
     rw [run_part hk (by omega), Result.andThen_ok, run_part hk (by omega), Result.andThen_ok, ih f.type k1 hk w _ _ p f1 e1, Result.andThen_ok]
     cases p with
     | true => simp only [Bool.not_true, Bool.false_eq_true, if_false]; rw [i1, e3, Bool.true_and]
     | false => simp [e3]
    ·cases hs
   ·cases hs
theorem eqItems_ok {D d : Nat} {e : TypeId} {k : List Bool} (he : eqKinds P d e = some k) (ih : EqOK P D e k) : ∀ (m j : Nat) (w : World) (xs ys : List Value) (q : Bool), fitsB (List.replicate m k).flatten (xs.drop (j * k.length)) = true → j * k.length ≤ xs.length →
  ys.length = xs.length → eqVs (xs.drop (j * k.length)) (ys.drop (j * k.length)) = some q → (Op.eqItems D e k.length xs.toArray ys.toArray (List.range' j m)).run P w = .ok q w
 | 0, j, w, xs, ys, q, h1, h2, h3, hq => by
  have := fitsB_length h1
  rw [List.length_drop] at this
  simp at this
  rw [List.drop_eq_nil_of_le (by omega), List.drop_eq_nil_of_le (by omega)] at hq
  simp [eqVs] at hq
  subst hq
  simp [Op.eqItems]
 | m + 1, j, w, xs, ys, q, h1, h2, h3, hq => by
  rw [List.replicate_succ, List.flatten_cons] at h1
  obtain ⟨f1, f2⟩ := fitsB_append h1
  have hlen := fitsB_length h1
  rw [List.length_drop, List.length_append] at hlen
  have e0 : j * k.length + k.length = (j + 1) * k.length := by rw [Nat.add_mul]; omega
  obtain ⟨p, r, e1, e2, e3⟩ := eqVs_split k.length hq
  rw [List.drop_drop, e0] at f2
  rw [List.drop_drop, List.drop_drop, e0] at e2
  have i1 := eqItems_ok he ih m (j + 1) w xs ys r f2 (by omega) h3 e2
  rw [List.range'_succ]
  simp only [Op.eqItems, Sem.run_bind]
  rw [run_part he (by omega), Result.andThen_ok, run_part he (by omega), Result.andThen_ok, ih w _ _ p f1 e1, Result.andThen_ok]
  cases p with
  | true => simp only [Bool.not_true, Bool.false_eq_true, if_false]; rw [i1, e3, Bool.true_and]
  | false => simp [e3]
theorem eq_ok : ∀ (d : Nat) (t : TypeId) (k : List Bool), eqKinds P d t = some k → ∀ c, EqOK P (d + c) t k
 | 0, _, _, h, _ => by simp [eqKinds] at h
 | d + 1, t, k, h, c => by
  intro w xs ys q hf hq
  rw [show d + 1 + c = d + c + 1 by omega]
  unfold eqKinds at h
  split at h
  ·rename_i hu
   cases h
   obtain ⟨x, r, rfl, h1, h2⟩ := fitsB_cons hf
   have : r = [] := by cases r with | nil => rfl | cons _ _ => simp [fitsB] at h1
   subst this
   rcases h2 with ⟨_, b, rfl⟩ | ⟨e, _⟩
   ·cases ys with
    | nil => simp [eqVs] at hq
    | cons y s =>
     have hl := eqVs_length hq
     have : s = [] := by cases s with | nil => rfl | cons _ _ => simp at hl
     subst this
     cases y <;> simp [eqVs, sameV] at hq
     subst hq
     simp [packV, aggT, hu, Op.equalIn, run_underlying hu]
   ·cases e
  ·rename_i ik hu
   cases h
   obtain ⟨x, r, rfl, h1, h2⟩ := fitsB_cons hf
   have : r = [] := by cases r with | nil => rfl | cons _ _ => simp [fitsB] at h1
   subst this
   rcases h2 with ⟨e, _⟩ | ⟨_, qk, n, rfl⟩
   ·cases e
   ·cases ys with
    | nil => simp [eqVs] at hq
    | cons y s =>
     have hl := eqVs_length hq
     have : s = [] := by cases s with | nil => rfl | cons _ _ => simp at hl
     subst this
     cases y <;> simp [eqVs, sameV] at hq
     rename_i k' n'
     by_cases hk : qk = k'
     ·subst hk
      simp at hq
      subst hq
      simp [packV, aggT, hu, Op.equalIn, run_underlying hu]
     ·simp [hk] at hq
  ·rename_i fs hu
   have hagg : aggT P t = true := by simp [aggT, hu]
   cases hs : P.stoodInHeld t with
   | true => simp [hs] at h
   | false =>
    simp only [hs, cond_false] at h
    split at h
    ·rename_i k' i hk hi
     cases hb : Nat.beq i.size k'.length with
     | false => simp [hb] at h
     | true =>
      simp only [hb, cond_true, Option.some.injEq] at h; subst h
      have hfo : P.fieldsOf t = fs := by simp [Program.fieldsOf, hu]
      simp only [hagg, packV, if_true]
      rw [run_equalIn_struct w (d + c) t xs.toArray ys.toArray (by rw [hfo]; exact hu) hs, hfo]
      exact eqFields_ok (d := d) (fun t k h => eq_ok d t k h c) fs.toList 0 k' w xs ys q hk (by simpa using hf) (Nat.zero_le _) (eqVs_length hq) (by simpa using hq)
    ·cases h
  ·rename_i len e hu
   have hagg : aggT P t = true := by simp [aggT, hu]
   split at h
   ·rename_i k' i j hk hi hj
    cases hb : (Nat.beq i.size (len * k'.length) && Nat.beq j.size k'.length) with
    | false => simp [hb] at h
    | true =>
     simp only [hb, cond_true, Option.some.injEq] at h; subst h
     simp only [Bool.and_eq_true] at hb
     simp only [hagg, packV, if_true]
     rw [run_equalIn_array w (d + c) xs.toArray ys.toArray hu hj]
     have hc : P.cellsOf e = k'.length := by simp [Program.cellsOf, hj, Nat.eq_of_beq_eq_true hb.2]
     rw [hc, List.range_eq_range']
     exact eqItems_ok hk (eq_ok d e k' hk c) len 0 w xs ys q (by simpa using hf) (by simp) (eqVs_length hq) (by simpa using hq)
   ·cases h
  ·cases h
end
end Go.Ev


namespace Go.Ev
theorem fA_eq (x : A) (K : A → Prop) : fA x K = K x := by
 cases x with
 | d y => cases y with
  | v u => cases u <;> rfl
  | _ => rfl
 | _ => rfl
theorem fL_eq (l : List A) (K : List A → Prop) : fL l K = K l := by
 induction l generalizing K with
 | nil => rfl
 | cons x r ih => simp only [fL, fA_eq, ih]
theorem catO_eq (l m : List (Nat × Ob)) (K : List (Nat × Ob) → Prop) : catO l m K = K (l ++ m) := by
 induction l generalizing K with
 | nil => rfl
 | cons x r ih => simp only [catO, ih, List.cons_append]
theorem fN_eq (n : Nat) (K : Nat → Prop) : fN n K = K n := by cases n <;> rfl
theorem fS_eq (s : St) (K : St → Prop) : fS s K = K s := by obtain ⟨sl, ob, n⟩ := s; simp only [fS, fN_eq]
theorem gN_eq (s : St) (K : Nat → Prop) : gN s K = K s.n := by obtain ⟨sl, ob, n⟩ := s; simp only [gN, fN_eq]
theorem fLit_eq : ∀ (n : Nat) (K : Nat → Prop), fLit n K = K n
 | 0, _ => rfl
 | n + 1, K => by rw [fLit, fLit_eq n]
theorem forceA_eq (x : A) (K : A → Prop) : forceA x K = K x := by
 cases x <;> simp only [forceA, fL_eq, fA_eq]
theorem fO_eq (x : Ob) (K : Ob → Prop) : fO x K = K x := by
 cases x with
 | var b T cs => cases b <;> simp [fO, fL_eq]
 | arw T cs => simp [fO]
 | _ => rfl
theorem outObs_eq (ρ : List Nat) (nid : Nat) (l : List (Nat × Ob)) (K : List (Nat × Ob) → Prop) : outObs ρ nid l K = K (l.map fun p => (outI ρ nid p.1, outO ρ nid p.2)) := by
 induction l generalizing K with
 | nil => rfl
 | cons x r ih => obtain ⟨k, x⟩ := x; simp only [outObs, fN_eq, fO_eq, ih, List.map_cons]
theorem mapSl_eq (f : A → A) (l : List (Nat × A)) (K : List (Nat × A) → Prop) : mapSl f l K = K (l.map fun p => (p.1, f p.2)) := by
 induction l generalizing K with
 | nil => rfl
 | cons x r ih => obtain ⟨k, x⟩ := x; simp only [mapSl, forceA_eq, ih, List.map_cons]
theorem mapOb_eq (f : Ob → Ob) (l : List (Nat × Ob)) (K : List (Nat × Ob) → Prop) : mapOb f l K = K (l.map fun p => (p.1, f p.2)) := by
 induction l generalizing K with
 | nil => rfl
 | cons x r ih => obtain ⟨k, x⟩ := x; simp only [mapOb, fO_eq, ih, List.map_cons]
def TKOK (u : Option TypeDesc) : TK → Prop
 | .int k => u = some (.int k)
 | .bool => u = some .bool
 | .str => u = some .string
 | .ptr e => u = some (.pointer e)
 | .slice e => u = some (.slice e)
 | .arr n e => u = some (.array n e)
 | .struct fs => ∃ fields, u = some (.struct fields) ∧ fields.toList.map (fun f => (f.offset, f.type)) = fs
 | .map k e => u = some (.map k e)
 | .other => ∃ d, u = some d ∧ (∀ fs, d ≠ .struct fs) ∧ (∀ n e, d ≠ .array n e)
structure TyOK (P : Program) (t : TypeId) (y : Ty) : Prop where
 info : ∃ i z, P.info? t = some i ∧ i.size = y.size ∧ i.bytes = y.bytes ∧ i.zero = some z ∧ z.cells.toList = y.zero
 len : y.zero.length = y.size
 one : ∀ v ∈ y.zero, v.oneCell' = true
 scal : y.k.agg = false → y.size = 1
 kind : TKOK (P.underlying t) y.k
 zagg : ∀ i z, P.info? t = some i → i.zero = some z → (y.k.agg = true → ∃ cs, z = .agg cs) ∧ (y.k.agg = false → ∀ cs, z ≠ .agg cs)
 eq : y.eqB = true → ∃ k, eqKinds P 10 t = some k ∧ fitsB k y.zero = true ∧ aggT P t = true ∧ P.eqGuardType P.depth t = false
structure PG (P : Program) (tb : TB) : Prop where
 ty : ∀ t y, tb t = some y → TyOK P t y
 mixed : P.follows .mixedOrders = true
def valB : Value → Value → Bool
 | .int k n, .int k' n' => decide (k = k') && decide (n = n')
 | .bool a, .bool b => a == b
 | .string a, .string b => decide (a.data = b.data)
 | .pointer none, .pointer none | .map none, .map none | .chan none, .chan none | .nilFunc, .nilFunc | .nilIface, .nilIface => true
 | .slice none 0 0, .slice none 0 0 => true
 | _, _ => false
theorem valB_eq {a b : Value} (h : valB a b = true) : a = b := by
 unfold valB at h
 split at h <;> simp_all
 exact ByteArray.ext h
def valsB : List Value → List Value → Bool
 | [], [] => true
 | a :: r, b :: s => valB a b && valsB r s
 | _, _ => false
theorem valsB_eq : ∀ {a b : List Value}, valsB a b = true → a = b
 | [], [], _ => rfl
 | [], _ :: _, h => by simp [valsB] at h
 | _ :: _, [], h => by simp [valsB] at h
 | a :: r, b :: s, h => by
  simp only [valsB, Bool.and_eq_true] at h
  rw [valB_eq h.1, valsB_eq h.2]
def pairsB : List (Nat × Nat) → List (Nat × Nat) → Bool
 | [], [] => true
 | (a, b) :: r, (c, d) :: s => Nat.beq a c && Nat.beq b d && pairsB r s
 | _, _ => false
theorem pairsB_eq : ∀ {a b : List (Nat × Nat)}, pairsB a b = true → a = b
 | [], [], _ => rfl
 | [], _ :: _, h => by simp [pairsB] at h
 | _ :: _, [], h => by simp [pairsB] at h
 | (a, b) :: r, (c, d) :: s, h => by
  simp only [pairsB, Bool.and_eq_true, Nat.beq_eq] at h
  rw [h.1.1, h.1.2, pairsB_eq h.2]
def tkB (u : Option TypeDesc) (k : TK) : Bool :=
 match k, u with
 | .int k, some (.int k') => decide (k = k')
 | .bool, some .bool | .str, some .string => true
 | .ptr e, some (.pointer e') | .slice e, some (.slice e') => Nat.beq e e'
 | .arr n e, some (.array n' e') | .map n e, some (.map n' e') => Nat.beq n n' && Nat.beq e e'
 | .struct fs, some (.struct fields) => pairsB (fields.toList.map fun f => (f.offset, f.type)) fs
 | .other, some (.struct _) | .other, some (.array _ _) => false
 | .other, some _ => true
 | _, _ => false
theorem tkB_ok {u : Option TypeDesc} {k : TK} (h : tkB u k = true) : TKOK u k := by
 unfold tkB at h
 split at h <;> simp_all [TKOK]
 ·exact pairsB_eq h
def eqTyB (P : Program) (t : TypeId) (y : Ty) : Bool :=
 (match eqKinds P 10 t with
 | some k => fitsB k y.zero
 | none => false) && aggT P t && !P.eqGuardType P.depth t
def aggV : Value → Bool
 | .agg _ => true
 | _ => false
def tyB (P : Program) (t : TypeId) (y : Ty) : Bool :=
 match P.info? t with
 | some i => Nat.beq i.size y.size && Nat.beq i.bytes y.bytes && (match i.zero with | some z => valsB z.cells.toList y.zero && aggV z == y.k.agg | none => false)
   && Nat.beq y.zero.length y.size && y.zero.all Value.oneCell' && (y.k.agg || Nat.beq y.size 1) && tkB (P.underlying t) y.k && (!y.eqB || eqTyB P t y)
 | none => false
theorem tyB_ok {P : Program} {t : TypeId} {y : Ty} (h : tyB P t y = true) : TyOK P t y := by
 unfold tyB at h
 split at h
 ·rename_i i hi
  split at h
  ·rename_i z hz
   simp only [Bool.and_eq_true, Nat.beq_eq, List.all_eq_true, Bool.or_eq_true] at h
   obtain ⟨⟨⟨⟨⟨⟨⟨h1, h2⟩, h3, h3'⟩, h4⟩, h5⟩, h7⟩, h6⟩, h8⟩ := h
   exact ⟨⟨i, z, hi, h1, h2, hz, valsB_eq h3⟩, h4, h5, fun ha => by rw [ha] at h7; simpa using h7, tkB_ok h6, fun i' z' hi' hz' => by
    rw [hi] at hi'; cases hi'
    rw [hz] at hz'; cases hz'
    have h3' := eq_of_beq h3'
    constructor
    ·intro ha; rw [ha] at h3'; cases z <;> simp [aggV] at h3'; exact ⟨_, rfl⟩
    ·intro ha cs e; subst e; rw [ha] at h3'; simp [aggV] at h3', fun he => by
    rw [he] at h8
    simp only [Bool.not_true, Bool.false_eq_true, false_or, eqTyB, Bool.and_eq_true, Bool.not_eq_true'] at h8
    obtain ⟨⟨q1, q2⟩, q3⟩ := h8
    split at q1
    ·rename_i k hk; exact ⟨k, hk, q1, q2, q3⟩
    ·cases q1⟩
  ·simp at h
 ·simp at h
def tyTableFrom (P : Program) : Nat → List (Option Ty) → Bool
 | _, [] => true
 | t, none :: r => tyTableFrom P (t + 1) r
 | t, some y :: r => tyB P t y && tyTableFrom P (t + 1) r
def tyTable (P : Program) (tys : List (Option Ty)) : Bool := tyTableFrom P 0 tys
theorem tyTableFrom_ok {P : Program} : ∀ (l : List (Option Ty)) (k : Nat), tyTableFrom P k l = true → ∀ t y, l[t]? = some (some y) → TyOK P (k + t) y
 | [], _, _, t, y, h => by simp at h
 | none :: r, k, hb, t, y, h => by
  cases t with
  | zero => simp at h
  | succ t =>
   have := tyTableFrom_ok r (k + 1) (by simpa [tyTableFrom] using hb) t y (by simpa using h)
   rwa [show k + (t + 1) = k + 1 + t by omega]
 | some z :: r, k, hb, t, y, h => by
  simp only [tyTableFrom, Bool.and_eq_true] at hb
  cases t with
  | zero => simp at h; subst h; exact tyB_ok hb.1
  | succ t =>
   have := tyTableFrom_ok r (k + 1) hb.2 t y (by simpa using h)
   rwa [show k + (t + 1) = k + 1 + t by omega]
theorem tyTable_ok {P : Program} {tys : List (Option Ty)} (h : tyTable P tys = true) (t : Nat) (y : Ty) (hy : tys[t]? = some (some y)) : TyOK P t y := by
 simpa using tyTableFrom_ok tys 0 h t y hy
def Ob.live : Ob → Bool
 | .dead | .ro _ _ | .env _ | .pan _ => false
 | _ => true
def RepE (I : Nat → Prop) (h : Array Obj) : List (D × D) → List MapEntry → Prop
 | [], es => es = []
 | (k, v) :: r, es => ∃ e s, es = e :: s ∧ RepD I h k e.key ∧ RepD I h v e.val ∧ RepE I h r s
def BornOK (ents : Array MapEntry) (clock : Nat) : Prop := clock = ents.size ∧ ∀ (i : Nat) e, ents[i]? = some e → e.born = i
def ArrOK (tb : TB) (G : Nat → Option GR) (I : Nat → Prop) (h : Array Obj) (i : Nat) (T : TypeId) (es : List (List D)) : Prop := ∃ y, tb T = some y ∧ ((es = [] ∧ G i = some ⟨.slice none 0 0, none⟩) ∨
   ∃ b z cap c, G i = some ⟨.slice (some ⟨b, z, none⟩) es.length cap, some b⟩ ∧ h[b]? = some (.cells c T (0, 0)) ∧ es.length ≤ cap ∧ cap ≤ maxLen ∧ z + cap * y.size ≤ c.size ∧ RepR I h y.size es (c.toList.drop z))
def rawE (us : List Value) : List (List D) := us.map fun u => [.v u]
def ObOK (tb : TB) (G : Nat → Option GR) (I : Nat → Prop) (h : Array Obj) (i : Nat) : Ob → Prop
 | .var _ T cs => ∃ b c, G i = some ⟨.pointer (some ⟨b, 0, none⟩), some b⟩ ∧ h[b]? = some (.cells c T (0, 0)) ∧ RepAL G I h cs c.toList ∧ ∀ v ∈ c.toList, v.oneCell' = true
 | .arr T es => ArrOK tb G I h i T es
 | .map k _ es => ∃ b ents clock, G i = some ⟨.map (some b), some b⟩ ∧ h[b]? = some (.map ents clock) ∧ RepE I h es ents.toList ∧ (∀ p ∈ es, keyB tb k p.1 = true) ∧ BornOK ents clock
 | .ro T cs => ∃ b c, G i = some ⟨.pointer (some ⟨b, 0, none⟩), some b⟩ ∧ I b ∧ h[b]? = some (.cells c T (0, 0)) ∧ RepAL G I h cs c.toList ∧ ∀ v ∈ c.toList, v.oneCell' = true
 | .env _ => True
 | .dead => True
 | .arw T cs => ∃ us, RepAL G I h cs us ∧ ArrOK tb G I h i T (rawE us)
 | .iter m q seen => ∃ b bm sn, G i = some ⟨.pointer (some ⟨b, 0, none⟩), some b⟩ ∧ h[b]? = some (.mapIter (some bm) q sn q) ∧ G m = some ⟨.map (some bm), some bm⟩ ∧ sn.toList = seen.reverse ∧ seen.Nodup ∧ ∀ j ∈ seen, j < q
 | .pan _ => False
structure Env where
 v : Value
 P : Nat → (Nat → Prop) → (Nat → Prop) → World → Prop
 st : ∀ k Ft I I' w w', P k Ft I w → (∀ b, Ft b → b < w.heap.size → w'.heap[b]? = w.heap[b]?) → (∀ b, I b → w'.heap[b]? = w.heap[b]?) → (∀ b, I b → I' b) → (∀ b, Ft b → I' b → I b) → (∀ b, I' b → b < w'.heap.size) →
  w'.os = w.os → w'.tape = w.tape → w'.output = w.output → w.heap.size ≤ w'.heap.size → P k Ft I' w'
 base : List Deferred
def markD (r : Nat) : Deferred := ⟨.collected r, #[]⟩
def MarksP (m0 : Nat) (E : Env) (df : List Deferred) (k : Nat) (Ft I : Nat → Prop) (w : World) : Prop :=
 ∃ (ds : List Nat) (F1 : Nat → Prop), df = ds.map markD ++ E.base ∧ ds.Nodup ∧ (∀ r ∈ ds, w.heap[r]? = some (.deferred (some [])) ∧ ¬ I r ∧ m0 ≤ r ∧ ¬ F1 r) ∧ (∀ b, Ft b ↔ F1 b ∨ b ∈ ds) ∧ E.P k F1 I w
theorem MarksP.st {m0 : Nat} {E : Env} {df : List Deferred} {k : Nat} {Ft I I' : Nat → Prop} {w w' : World} (h : MarksP m0 E df k Ft I w)
  (h1 : ∀ b, Ft b → b < w.heap.size → w'.heap[b]? = w.heap[b]?) (h2 : ∀ b, I b → w'.heap[b]? = w.heap[b]?) (h3 : ∀ b, I b → I' b) (h4 : ∀ b, Ft b → I' b → I b) (h5 : ∀ b, I' b → b < w'.heap.size)
  (h6 : w'.os = w.os) (h7 : w'.tape = w.tape) (h8 : w'.output = w.output) (h9 : w.heap.size ≤ w'.heap.size) : MarksP m0 E df k Ft I' w' := by
 obtain ⟨ds, F1, e1, e2, e3, e4, e5⟩ := h
 refine ⟨ds, F1, e1, e2, fun r hr => ?_, e4, E.st k F1 I I' w w' e5 (fun b hb => h1 b ((e4 b).2 (.inl hb))) h2 h3 (fun b hb => h4 b ((e4 b).2 (.inl hb))) h5 h6 h7 h8 h9⟩
 obtain ⟨q1, q2, q3, q4⟩ := e3 r hr
 have hf := (e4 r).2 (.inr hr)
 refine ⟨?_, fun hi => q2 (h4 r hf hi), q3, q4⟩
 rw [h1 r hf (Array.getElem?_eq_some_iff.1 q1).1]; exact q1
structure Ctx where
 w0 : World
 I0 : Nat → Prop
 nb : Nat
 ba : Nat → Bool
 G0 : Nat → Option GR
 nt : Nat
 E : Env
 lent : Nat → Prop
 mine : Nat → Prop
 nd : Bool
structure Mod (tb : TB) (X : Ctx) (g : Nat → A) (o : Nat → Option Ob) (a : Act) (w : World) (G : Nat → Option GR) (I : Nat → Prop) : Prop where
 tsize : a.tmps.size = X.nt
 slots : ∀ t, RepA G I w.heap (g t) (a.tmps.getD t undef)
 objs : ∀ i ob, o i = some ob → ObOK tb G I w.heap i ob
 dom : ∀ i gr, G i = some gr → (o i).isSome = true
 sep : ∀ i j oi oj gi gj b, o i = some oi → o j = some oj → oi.live = true → oj.live = true → G i = some gi → G j = some gj → gi.blk = some b → gj.blk = some b → i = j
 own : ∀ i oi gi b, o i = some oi → oi.live = true → G i = some gi → gi.blk = some b → ¬ I b ∧ b < w.heap.size ∧ (X.w0.heap.size ≤ b ∨ X.mine b)
 bor : ∀ i, i < X.nb → X.ba i = false → G i = X.G0 i
 isz : ∀ b, I b → b < w.heap.size
 i0 : ∀ b, X.I0 b → I b
 inew : ∀ b, I b → X.I0 b ∨ X.lent b ∨ X.mine b ∨ X.w0.heap.size ≤ b
 frame : ∀ b, b < X.w0.heap.size → (X.I0 b ∨ (¬ X.lent b ∧ ¬ X.mine b)) → w.heap[b]? = X.w0.heap[b]?
 os : w.os = X.w0.os
 tape : w.tape = X.w0.tape
 output : w.output = X.w0.output
 wsz : X.w0.heap.size ≤ w.heap.size
 barr : ∀ i T es, i < X.nb → X.ba i = false → o i ≠ some (.arr T es)
 env : ∃ (k : Nat) (Ft : Nat → Prop), MarksP X.w0.heap.size X.E a.defers k Ft I w ∧ (∀ b, Ft b → b < w.heap.size ∧ (X.lent b ∨ X.w0.heap.size ≤ b)) ∧
  (∀ j oj gj b, o j = some oj → oj.live = true → G j = some gj → gj.blk = some b → ¬ Ft b) ∧ ∀ i k', o i = some (.env k') → i = 0 ∧ k' = k ∧ G 0 = some ⟨X.E.v, none⟩
 nd : X.nd = true → a.defers = []
end Go.Ev


namespace Go.Ev
section
variable {G : Nat → Option GR} {I : Nat → Prop} {h : Array Obj}
theorem RepL.length : ∀ {ds : List D} {vs : List Value}, RepL I h ds vs → vs.length = ds.length
 | [], vs, r => by rw [RepL] at r; simp [r]
 | d :: ds, vs, r => by
  rw [RepL] at r
  obtain ⟨v, q, rfl, _, r⟩ := r
  simp [RepL.length r]
theorem RepAL.length : ∀ {ds : List A} {vs : List Value}, RepAL G I h ds vs → vs.length = ds.length
 | [], vs, r => by rw [RepAL] at r; simp [r]
 | d :: ds, vs, r => by
  rw [RepAL] at r
  obtain ⟨v, q, rfl, _, r⟩ := r
  simp [RepAL.length r]
theorem RepL.nil : RepL I h [] [] := by rw [RepL]
theorem RepAL.nil : RepAL G I h [] [] := by rw [RepAL]
theorem RepL.cons {d : D} {ds : List D} {v : Value} {vs : List Value} (a : RepD I h d v) (b : RepL I h ds vs) : RepL I h (d :: ds) (v :: vs) := by rw [RepL]; exact ⟨v, vs, rfl, a, b⟩
theorem RepAL.cons {d : A} {ds : List A} {v : Value} {vs : List Value} (a : RepA G I h d v) (b : RepAL G I h ds vs) : RepAL G I h (d :: ds) (v :: vs) := by rw [RepAL]; exact ⟨v, vs, rfl, a, b⟩
theorem RepAL.uncons {d : A} {ds : List A} {vs : List Value} (r : RepAL G I h (d :: ds) vs) : ∃ v q, vs = v :: q ∧ RepA G I h d v ∧ RepAL G I h ds q := by rwa [RepAL] at r
theorem RepL.uncons {d : D} {ds : List D} {vs : List Value} (r : RepL I h (d :: ds) vs) : ∃ v q, vs = v :: q ∧ RepD I h d v ∧ RepL I h ds q := by rwa [RepL] at r
theorem RepAL.at : ∀ {ds : List A} {vs : List Value}, RepAL G I h ds vs → ∀ {j : Nat} {d : A}, ds[j]? = some d → ∃ v, vs[j]? = some v ∧ RepA G I h d v
 | [], _, _, j, d, hj => by simp at hj
 | x :: ds, vs, r, j, d, hj => by
  obtain ⟨v, q, rfl, a, b⟩ := r.uncons
  cases j with
  | zero => simp at hj; subst hj; exact ⟨v, rfl, a⟩
  | succ j => simpa using RepAL.at b (j := j) (by simpa using hj)
theorem RepL.at : ∀ {ds : List D} {vs : List Value}, RepL I h ds vs → ∀ {j : Nat} {d : D}, ds[j]? = some d → ∃ v, vs[j]? = some v ∧ RepD I h d v
 | [], _, _, j, d, hj => by simp at hj
 | x :: ds, vs, r, j, d, hj => by
  obtain ⟨v, q, rfl, a, b⟩ := r.uncons
  cases j with
  | zero => simp at hj; subst hj; exact ⟨v, rfl, a⟩
  | succ j => simpa using RepL.at b (j := j) (by simpa using hj)
theorem RepAL.drop : ∀ {ds : List A} {vs : List Value}, RepAL G I h ds vs → ∀ (k : Nat), RepAL G I h (ds.drop k) (vs.drop k)
 | [], vs, r, k => by rw [RepAL] at r; subst r; simpa using RepAL.nil
 | x :: ds, vs, r, k => by
  obtain ⟨v, q, rfl, a, b⟩ := r.uncons
  cases k with
  | zero => simpa using r
  | succ k => simpa using RepAL.drop b k
theorem RepAL.take : ∀ {ds : List A} {vs : List Value}, RepAL G I h ds vs → ∀ (k : Nat), RepAL G I h (ds.take k) (vs.take k)
 | [], vs, r, k => by rw [RepAL] at r; subst r; simpa using RepAL.nil
 | x :: ds, vs, r, k => by
  obtain ⟨v, q, rfl, a, b⟩ := r.uncons
  cases k with
  | zero => simpa using RepAL.nil
  | succ k => simpa using RepAL.cons a (RepAL.take b k)
theorem RepL.drop : ∀ {ds : List D} {vs : List Value}, RepL I h ds vs → ∀ (k : Nat), RepL I h (ds.drop k) (vs.drop k)
 | [], vs, r, k => by rw [RepL] at r; subst r; simpa using RepL.nil
 | x :: ds, vs, r, k => by
  obtain ⟨v, q, rfl, a, b⟩ := r.uncons
  cases k with
  | zero => simpa using r
  | succ k => simpa using RepL.drop b k
theorem RepL.take : ∀ {ds : List D} {vs : List Value}, RepL I h ds vs → ∀ (k : Nat), RepL I h (ds.take k) (vs.take k)
 | [], vs, r, k => by rw [RepL] at r; subst r; simpa using RepL.nil
 | x :: ds, vs, r, k => by
  obtain ⟨v, q, rfl, a, b⟩ := r.uncons
  cases k with
  | zero => simpa using RepL.nil
  | succ k => simpa using RepL.cons a (RepL.take b k)
theorem RepAL.append : ∀ {ds es : List A} {vs us : List Value}, RepAL G I h ds vs → RepAL G I h es us → RepAL G I h (ds ++ es) (vs ++ us)
 | [], es, vs, us, r, s => by rw [RepAL] at r; subst r; simpa using s
 | x :: ds, es, vs, us, r, s => by
  obtain ⟨v, q, rfl, a, b⟩ := r.uncons
  exact RepAL.cons a (RepAL.append b s)
theorem RepL.append : ∀ {ds es : List D} {vs us : List Value}, RepL I h ds vs → RepL I h es us → RepL I h (ds ++ es) (vs ++ us)
 | [], es, vs, us, r, s => by rw [RepL] at r; subst r; simpa using s
 | x :: ds, es, vs, us, r, s => by
  obtain ⟨v, q, rfl, a, b⟩ := r.uncons
  exact RepL.cons a (RepL.append b s)
theorem RepAL.set : ∀ {ds : List A} {vs : List Value}, RepAL G I h ds vs → ∀ (k : Nat) {x : A} {v : Value}, RepA G I h x v → RepAL G I h (ds.set k x) (vs.set k v)
 | [], vs, r, k, x, v, a => by rw [RepAL] at r; subst r; simpa using RepAL.nil
 | y :: ds, vs, r, k, x, v, a => by
  obtain ⟨u, q, rfl, b, c⟩ := r.uncons
  cases k with
  | zero => exact RepAL.cons a c
  | succ k => exact RepAL.cons b (RepAL.set c k a)
theorem RepAL.of_d : ∀ {ds : List D} {vs : List Value}, RepAL G I h (ds.map A.d) vs ↔ RepL I h ds vs
 | [], vs => by simp only [List.map_nil]; rw [RepAL, RepL]
 | x :: ds, vs => by
  simp only [List.map_cons]
  rw [RepAL, RepL]
  simp only [RepAL.of_d (ds := ds), RepA]
theorem toDs_eq : ∀ {cs : List A} {ds : List D}, toDs cs = some ds → cs = ds.map A.d
 | [], ds, e => by simp only [toDs, Option.some.injEq] at e; subst e; rfl
 | .d x :: r, ds, e => by
  simp only [toDs] at e
  split at e
  ·rename_i l hl
   simp only [Option.some.injEq] at e
   subst e
   rw [toDs_eq hl]; rfl
  ·cases e
 | .ref _ _ :: _, _, e | .own _ :: _, _, e | .eref _ _ _ _ :: _, _, e | .pre _ _ :: _, _, e | .sub _ _ _ _ _ :: _, _, e | .fn _ _ _ :: _, _, e | .agg _ :: _, _, e | .tup _ :: _, _, e | .lst _ :: _, _, e | .lptr _ :: _, _, e | .unk :: _, _, e => by simp [toDs] at e
theorem RepA.aggA {cs : List A} {vs : List Value} (r : RepAL G I h cs vs) : RepA G I h (aggA cs) (.agg vs.toArray) := by
 unfold Ev.aggA
 split
 ·rename_i ds hd
  rw [toDs_eq hd] at r
  rw [RepA, RepD]
  exact ⟨_, rfl, by simpa using RepAL.of_d.1 r⟩
 ·rw [RepA]
  exact ⟨_, rfl, by simpa using r⟩
theorem RepA.tupA {cs : List A} {vs : List Value} (r : RepAL G I h cs vs) : RepA G I h (tupA cs) (.tuple vs.toArray) := by
 unfold Ev.tupA
 split
 ·rename_i ds hd
  rw [toDs_eq hd] at r
  rw [RepA, RepD]
  exact ⟨_, rfl, by simpa using RepAL.of_d.1 r⟩
 ·rw [RepA]
  exact ⟨_, rfl, by simpa using r⟩
theorem RepA.one {x : A} {u : Value} (r : RepA G I h x u) (ho : x.one = true) : u.oneCell' = true := by
 cases x with
 | d y =>
  rw [RepA] at r
  cases y with
  | v z => rw [RepD] at r; rw [r]; cases z <;> first | rfl | simp [A.one] at ho
  | seq es => rw [RepD] at r; obtain ⟨a, l, c, rfl, _⟩ := r; rfl
  | iptr cs => rw [RepD] at r; obtain ⟨b, off, c, T, fr, rfl, _⟩ := r; rfl
  | bptr cs n => rw [RepD] at r; obtain ⟨b, off, c, T, fr, rfl, _⟩ := r; rfl
  | fn f a b => rw [RepD] at r; obtain ⟨x, y, rfl, _⟩ := r; rfl
  | agg cs => simp [A.one] at ho
  | tup cs => simp [A.one] at ho
 | ref i off => rw [RepA] at r; obtain ⟨b, _, rfl⟩ := r; rfl
 | own i => rw [RepA] at r; exact r.2
 | eref i k sz off => rw [RepA] at r; obtain ⟨b, z, l, c, _, rfl⟩ := r; rfl
 | pre i hi => rw [RepA] at r; obtain ⟨_, _, _, _, _, _, _, rfl⟩ := r; rfl
 | sub i ysz off sz n => rw [RepA] at r; obtain ⟨_, _, rfl, _⟩ := r; rfl
 | fn f a b => rw [RepA] at r; obtain ⟨x, y, rfl, _⟩ := r; rfl
 | agg cs => simp [A.one] at ho
 | tup cs => simp [A.one] at ho
 | lst cs => rw [RepA] at r; obtain ⟨b, c, T, fr, rfl, _⟩ := r; rfl
 | lptr x => rw [RepA] at r; obtain ⟨b, off, c, T, fr, v, rfl, _⟩ := r; rfl
 | unk => simp [A.one] at ho
end
end Go.Ev


namespace Go.Ev
section
variable {G G' : Nat → Option GR} {I I' : Nat → Prop} {h h' : Array Obj}
theorem RepR.at : ∀ {sz : Nat} {es : List (List D)} {vs : List Value}, RepR I h sz es vs → ∀ {k : Nat} {e : List D}, es[k]? = some e →
  e.length = sz ∧ RepL I h e ((vs.drop (k * sz)).take sz) ∧ (∀ v ∈ (vs.drop (k * sz)).take sz, v.oneCell' = true)
 | _, [], _, _, k, e, hk => by simp at hk
 | sz, x :: es, vs, r, k, e, hk => by
  rw [RepR] at r
  obtain ⟨r1, r2, r3, r4⟩ := r
  cases k with
  | zero => simp at hk; subst hk; simpa using ⟨r1, r2, r3⟩
  | succ k =>
   have := RepR.at r4 (k := k) (by simpa using hk)
   rw [List.drop_drop] at this
   rwa [show sz + k * sz = (k + 1) * sz by rw [Nat.add_mul]; omega] at this
theorem RepR.flat : ∀ {sz : Nat} {es : List (List D)} {vs : List Value}, RepR I h sz es vs → es.length * sz ≤ vs.length →
  RepL I h es.flatten (vs.take (es.length * sz)) ∧ ∀ v ∈ vs.take (es.length * sz), v.oneCell' = true
 | sz, [], vs, _, _ => by simpa using RepL.nil
 | sz, e :: es, vs, r, hl => by
  rw [RepR] at r
  obtain ⟨r1, r2, r3, r4⟩ := r
  have hl' : es.length * sz ≤ (vs.drop sz).length := by
   simp only [List.length_cons, Nat.add_mul, Nat.one_mul] at hl; simp; omega
  have ih := RepR.flat r4 hl'
  have e1 : vs.take ((e :: es).length * sz) = vs.take sz ++ (vs.drop sz).take (es.length * sz) := by
   rw [List.length_cons, Nat.add_mul, Nat.one_mul, Nat.add_comm, List.take_add]
  rw [e1]
  refine ⟨by simpa using RepL.append r2 ih.1, fun v hv => ?_⟩
  rcases List.mem_append.1 hv with h1 | h1
  ·exact r3 v h1
  ·exact ih.2 v h1
theorem RepR.mk : ∀ {sz : Nat} {es : List (List D)} {vs ws : List Value}, (∀ e ∈ es, e.length = sz) → RepL I h es.flatten vs → (∀ v ∈ vs, v.oneCell' = true) →
  RepR I h sz es (vs ++ ws)
 | sz, [], vs, ws, _, _, _ => by rw [RepR]; trivial
 | sz, e :: es, vs, ws, hs, r, ho => by
  have he := hs e (by simp)
  have hlen := RepL.length r
  simp only [List.flatten_cons, List.length_append] at hlen
  have r1 := RepL.take r sz
  have r2 := RepL.drop r sz
  simp only [List.flatten_cons] at r1 r2
  rw [← he, List.take_left] at r1
  rw [← he, List.drop_left] at r2
  have e1 : (vs ++ ws).take sz = vs.take sz := by rw [List.take_append_of_le_length (by omega)]
  have e2 : (vs ++ ws).drop sz = vs.drop sz ++ ws := by rw [List.drop_append_of_le_length (by omega)]
  rw [RepR, e1, e2]
  refine ⟨he, by rw [← he]; exact r1, fun v hv => ho v (List.mem_of_mem_take hv), ?_⟩
  rw [← he]
  exact RepR.mk (by rw [he]; exact fun x hx => hs x (by simp [hx])) r2 (fun v hv => ho v (List.mem_of_mem_drop hv))
theorem RepR.append : ∀ {sz : Nat} {es fs : List (List D)} {vs ws : List Value}, RepR I h sz es vs → vs.length = es.length * sz → RepR I h sz fs ws → RepR I h sz (es ++ fs) (vs ++ ws)
 | sz, [], fs, vs, ws, _, hl, r => by
  simp at hl; subst hl; simpa using r
 | sz, e :: es, fs, vs, ws, r, hl, s => by
  rw [RepR] at r
  obtain ⟨r1, r2, r3, r4⟩ := r
  have hv : sz ≤ vs.length := by simp only [List.length_cons, Nat.add_mul, Nat.one_mul] at hl; omega
  rw [List.cons_append, RepR]
  have e1 : (vs ++ ws).take sz = vs.take sz := by rw [List.take_append_of_le_length hv]
  have e2 : (vs ++ ws).drop sz = vs.drop sz ++ ws := by rw [List.drop_append_of_le_length hv]
  rw [e1, e2]
  exact ⟨r1, r2, r3, RepR.append r4 (by simp only [List.length_cons, Nat.add_mul, Nat.one_mul] at hl; simp; omega) s⟩
theorem RepR.pref : ∀ {sz : Nat} {es : List (List D)} {vs : List Value} (n : Nat), RepR I h sz es vs → es.length * sz ≤ n → RepR I h sz es (vs.take n)
 | _, [], _, _, _, _ => by rw [RepR]; trivial
 | sz, e :: es, vs, n, r, hl => by
  rw [RepR] at r ⊢
  obtain ⟨r1, r2, r3, r4⟩ := r
  simp only [List.length_cons, Nat.add_mul, Nat.one_mul] at hl
  have e1 : (vs.take n).take sz = vs.take sz := by rw [List.take_take, Nat.min_eq_left (by omega)]
  have e2 : (vs.take n).drop sz = (vs.drop sz).take (n - sz) := by rw [List.drop_take]
  rw [e1, e2]
  exact ⟨r1, r2, r3, RepR.pref (n - sz) r4 (by omega)⟩
theorem RepR.sub {sz : Nat} : ∀ {es : List (List D)} {vs : List Value}, RepR I h sz es vs → ∀ (k : Nat), RepR I h sz (es.drop k) (vs.drop (k * sz))
 | [], vs, r, k => by simp; rw [RepR]; trivial
 | e :: es, vs, r, k => by
  cases k with
  | zero => simpa using r
  | succ k =>
   rw [RepR] at r
   have := RepR.sub r.2.2.2 k
   rw [List.drop_drop] at this
   simpa [Nat.add_mul, Nat.add_comm] using this
theorem RepR.takes {sz : Nat} : ∀ {es : List (List D)} {vs : List Value}, RepR I h sz es vs → ∀ (k : Nat), RepR I h sz (es.take k) vs
 | [], vs, r, k => by simp; rw [RepR]; trivial
 | e :: es, vs, r, k => by
  cases k with
  | zero => simp; rw [RepR]; trivial
  | succ k =>
   rw [List.take_succ_cons]
   rw [RepR] at r ⊢
   exact ⟨r.1, r.2.1, r.2.2.1, RepR.takes r.2.2.2 k⟩
theorem RepR.lens {sz : Nat} : ∀ {es : List (List D)} {vs : List Value}, RepR I h sz es vs → ∀ e ∈ es, e.length = sz
 | [], _, _, e, he => by simp at he
 | x :: es, vs, r, e, he => by
  rw [RepR] at r
  rcases List.mem_cons.1 he with rfl | he
  ·exact r.1
  ·exact RepR.lens r.2.2.2 e he
theorem RepR.setAt {sz : Nat} : ∀ {es : List (List D)} {vs : List Value}, RepR I h sz es vs → ∀ {k off : Nat} {el ds : List D} {ws : List Value}, es[k]? = some el → RepL I h ds ws → (∀ v ∈ ws, v.oneCell' = true) → off + ds.length ≤ sz → es.length * sz ≤ vs.length →
  RepR I h sz (es.set k (el.take off ++ ds ++ el.drop (off + ds.length))) (vs.take (k * sz + off) ++ ws ++ vs.drop (k * sz + off + ws.length))
 | [], vs, r, k, off, el, ds, ws, hk, rc, h1, hf, hl => by simp at hk
 | e :: es, vs, r, k, off, el, ds, ws, hk, rc, h1, hf, hl => by
  rw [RepR] at r
  obtain ⟨r1, r2, r3, r4⟩ := r
  have hw := RepL.length rc
  have hl1 : sz ≤ vs.length := by simp only [List.length_cons, Nat.add_mul, Nat.one_mul] at hl; omega
  have hl2 : es.length * sz ≤ (vs.drop sz).length := by simp only [List.length_cons, Nat.add_mul, Nat.one_mul] at hl; simp; omega
  cases k with
  | zero =>
   simp only [List.getElem?_cons_zero, Option.some.injEq] at hk
   subst hk
   simp only [Nat.zero_mul, Nat.zero_add, List.set_cons_zero]
   have hlen : (vs.take off ++ ws ++ vs.drop (off + ws.length)).length = vs.length := by simp; omega
   have e1 : (vs.take off ++ ws ++ vs.drop (off + ws.length)).take sz = (vs.take sz).take off ++ ws ++ (vs.take sz).drop (off + ws.length) := by
    rw [List.take_take, Nat.min_eq_left (by omega), List.drop_take, List.take_append, List.take_of_length_le (by simp; omega)]
    congr 2
    simp only [List.length_append, List.length_take]
    omega
   have e2 : (vs.take off ++ ws ++ vs.drop (off + ws.length)).drop sz = vs.drop sz := by
    rw [List.drop_append, List.drop_eq_nil_of_le (by simp; omega), List.nil_append, List.drop_drop]
    congr 1
    simp only [List.length_append, List.length_take]
    omega
   rw [RepR, e1, e2]
   refine ⟨by simp; omega, RepL.append (RepL.append (r2.take off) rc) (by rw [hw]; exact r2.drop _), fun v hv => ?_, r4⟩
   rcases List.mem_append.1 hv with hv | hv
   ·rcases List.mem_append.1 hv with hv | hv
    ·exact r3 v (List.mem_of_mem_take hv)
    ·exact h1 v hv
   ·exact r3 v (List.mem_of_mem_drop hv)
  | succ k =>
   have ih := RepR.setAt r4 (k := k) (off := off) (by simpa using hk) rc h1 hf hl2
   rw [List.set_cons_succ, RepR]
   have e0 : (k + 1) * sz + off = sz + (k * sz + off) := by rw [Nat.add_mul]; omega
   have e1 : (vs.take ((k + 1) * sz + off) ++ ws ++ vs.drop ((k + 1) * sz + off + ws.length)).take sz = vs.take sz := by
    rw [List.append_assoc, List.take_append_of_le_length (by simp; omega), List.take_take, Nat.min_eq_left (by omega)]
   have e2 : (vs.take ((k + 1) * sz + off) ++ ws ++ vs.drop ((k + 1) * sz + off + ws.length)).drop sz = (vs.drop sz).take (k * sz + off) ++ ws ++ (vs.drop sz).drop (k * sz + off + ws.length) := by
    rw [List.append_assoc, List.drop_append_of_le_length (by simp; omega), List.drop_take, ← List.append_assoc, List.drop_drop]
    congr 2
    ·congr 2
     ·omega
    ·omega
   rw [e1, e2]
   exact ⟨r1, r2, r3, ih⟩
theorem cellsOf_rep {x : A} {u : Value} {cs : List A} (hc : cellsOf x = some cs) (r : RepA G I h x u) : RepAL G I h cs u.cells.toList := by
 cases x with
 | d y =>
  have r0 := r
  rw [RepA] at r
  cases y with
  | v z =>
   rw [RepD] at r
   cases z <;> first | (simp [cellsOf] at hc; done) | (simp only [cellsOf, Option.some.injEq] at hc; subst hc; rw [r] at r0 ⊢; simpa [Value.cells] using RepAL.cons r0 RepAL.nil)
  | agg ds =>
   simp only [cellsOf, Option.some.injEq] at hc; subst hc
   rw [RepD] at r
   obtain ⟨z, rfl, r⟩ := r
   simpa [Value.cells] using RepAL.of_d.2 r
  | tup ds => simp [cellsOf] at hc
  | seq es => simp only [cellsOf, Option.some.injEq] at hc; subst hc; rw [RepD] at r; obtain ⟨a, l, c, rfl, _⟩ := r; simpa [Value.cells] using RepAL.cons r0 RepAL.nil
  | iptr es => simp only [cellsOf, Option.some.injEq] at hc; subst hc; rw [RepD] at r; obtain ⟨b, off, c, T, fr, rfl, _⟩ := r; simpa [Value.cells] using RepAL.cons r0 RepAL.nil
  | bptr es n => simp only [cellsOf, Option.some.injEq] at hc; subst hc; rw [RepD] at r; obtain ⟨b, off, c, T, fr, rfl, _⟩ := r; simpa [Value.cells] using RepAL.cons r0 RepAL.nil
  | fn f a b => simp only [cellsOf, Option.some.injEq] at hc; subst hc; rw [RepD] at r; obtain ⟨x, y, rfl, _⟩ := r; simpa [Value.cells] using RepAL.cons r0 RepAL.nil
 | ref i off => have r0 := r; simp only [cellsOf, Option.some.injEq] at hc; subst hc; rw [RepA] at r; obtain ⟨b, _, rfl⟩ := r; simpa [Value.cells] using RepAL.cons r0 RepAL.nil
 | own i =>
  have r0 := r
  simp only [cellsOf, Option.some.injEq] at hc; subst hc; rw [RepA] at r
  have h1 := r.2
  cases u <;> first | (simp [Value.oneCell'] at h1; done) | simpa [Value.cells] using RepAL.cons r0 RepAL.nil
 | eref i k sz off => have r0 := r; simp only [cellsOf, Option.some.injEq] at hc; subst hc; rw [RepA] at r; obtain ⟨b, z, l, c, _, rfl⟩ := r; simpa [Value.cells] using RepAL.cons r0 RepAL.nil
 | pre i hi => have r0 := r; simp only [cellsOf, Option.some.injEq] at hc; subst hc; rw [RepA] at r; obtain ⟨_, _, _, _, _, _, _, rfl⟩ := r; simpa [Value.cells] using RepAL.cons r0 RepAL.nil
 | sub i ysz off sz n => have r0 := r; simp only [cellsOf, Option.some.injEq] at hc; subst hc; rw [RepA] at r; obtain ⟨_, _, rfl, _⟩ := r; simpa [Value.cells] using RepAL.cons r0 RepAL.nil
 | fn f a b => have r0 := r; simp only [cellsOf, Option.some.injEq] at hc; subst hc; rw [RepA] at r; obtain ⟨x, y, rfl, _⟩ := r; simpa [Value.cells] using RepAL.cons r0 RepAL.nil
 | agg cs' => simp only [cellsOf, Option.some.injEq] at hc; subst hc; rw [RepA] at r; obtain ⟨z, rfl, r⟩ := r; simpa [Value.cells] using r
 | tup cs' => simp [cellsOf] at hc
 | lst cs => have r0 := r; simp only [cellsOf, Option.some.injEq] at hc; subst hc; rw [RepA] at r; obtain ⟨b, c, T, fr, rfl, _⟩ := r; simpa [Value.cells] using RepAL.cons r0 RepAL.nil
 | lptr x => have r0 := r; simp only [cellsOf, Option.some.injEq] at hc; subst hc; rw [RepA] at r; obtain ⟨b, off, c, T, fr, v, rfl, _⟩ := r; simpa [Value.cells] using RepAL.cons r0 RepAL.nil
 | unk => simp [cellsOf] at hc
end
theorem withCells_eq (x : A) (K : List A → Prop) : withCells x K ↔ ∃ cs, cellsOf x = some cs ∧ K cs := by
 unfold withCells
 split
 ·rename_i cs hc; simp [fL_eq, hc]
 ·rename_i hc; simp [hc]
def trA (e : Eff) : A → A :=
 match e.frz, e.clr with
 | [], [] => id
 | z, [] => frzA z
 | [], js => clrA js
 | z, js => fun x => clrA js (frzA z x)
def trO (e : Eff) : Ob → Ob :=
 match e.frz, e.clr with
 | [], [] => id
 | z, [] => frzO z
 | [], js => clrO js
 | z, js => fun x => clrO js (frzO z x)
theorem trA_unk (e : Eff) : trA e .unk = .unk := by
 unfold trA
 cases e.frz <;> cases e.clr <;> simp [frzA, clrA]
def appG (e : Eff) (g : Nat → A) : Nat → A := fun t =>
 match e.slot with
 | some (d, x) => bif Nat.beq d t then x else trA e (g t)
 | none => trA e (g t)
def appO (e : Eff) (o : Nat → Option Ob) : Nat → Option Ob := fun i =>
 match lookO e.obs i with
 | some x => some x
 | none => (o i).map (trO e)
theorem lookA_map (f : A → A) (hf : f .unk = .unk) : ∀ (l : List (Nat × A)) (t : Nat), lookA (l.map fun p => (p.1, f p.2)) t = f (lookA l t)
 | [], t => by simp [lookA, hf]
 | (k, x) :: r, t => by
  simp only [List.map_cons, lookA, lookA_map f hf r t]
  cases Nat.beq k t <;> rfl
theorem lookO_map (f : Ob → Ob) : ∀ (l : List (Nat × Ob)) (t : Nat), lookO (l.map fun p => (p.1, f p.2)) t = (lookO l t).map f
 | [], t => by simp [lookO]
 | (k, x) :: r, t => by
  simp only [List.map_cons, lookO, lookO_map f r t]
  cases Nat.beq k t <;> rfl
theorem lookO_append : ∀ (l m : List (Nat × Ob)) (t : Nat), lookO (l ++ m) t = match lookO l t with | some x => some x | none => lookO m t
 | [], m, t => by simp [lookO]
 | (k, x) :: r, m, t => by
  simp only [List.cons_append, lookO, lookO_append r m t]
  cases Nat.beq k t <;> rfl
theorem St.app_iff {s : St} {e : Eff} {K : St → Prop} (h : s.app e K) : ∃ s', s'.get = appG e s.get ∧ s'.obj = appO e s.obj ∧ s'.n = s.n + e.new ∧ K s' ∧ (e.frz = [] → e.clr = [] → s'.ob = e.obs ++ s.ob) := by
 obtain ⟨sl, ob, n⟩ := s
 obtain ⟨slot, obs, rd, new, frz, clr⟩ := e
 have main : ∀ (f : A → A) (q : Ob → Ob), trA ⟨slot, obs, rd, new, frz, clr⟩ = f → trO ⟨slot, obs, rd, new, frz, clr⟩ = q →
   K ⟨slot.toList ++ sl.map fun p => (p.1, f p.2), obs ++ ob.map fun p => (p.1, q p.2), n + new⟩ →
   ∃ s', s'.get = appG ⟨slot, obs, rd, new, frz, clr⟩ (St.get ⟨sl, ob, n⟩) ∧ s'.obj = appO ⟨slot, obs, rd, new, frz, clr⟩ (St.obj ⟨sl, ob, n⟩) ∧ s'.n = n + new ∧ K s' ∧ (frz = [] → clr = [] → s'.ob = obs ++ ob) := by
  intro f q hf hq hk
  have hu : f .unk = .unk := by rw [← hf]; exact trA_unk _
  refine ⟨_, funext fun t => ?_, funext fun i => ?_, rfl, hk, fun hz hc => by { subst hz; subst hc; simp only [trO] at hq; subst hq; simp }⟩
  ·cases slot with
   | some p => simp only [St.get, appG, hf, Option.toList, List.singleton_append, List.cons_append, List.nil_append, lookA, lookA_map _ hu]
   | none => simp only [St.get, appG, hf, Option.toList, List.nil_append, lookA_map _ hu]
  ·simp only [St.obj, appO, hq, lookO_append, lookO_map]
 have fin : ∀ (l : List (Nat × A)) (m : List (Nat × Ob)), (match slot with | some p => K ⟨p :: l, obs ++ m, n + new⟩ | none => K ⟨l, obs ++ m, n + new⟩) → K ⟨slot.toList ++ l, obs ++ m, n + new⟩ := by
  intro l m
  cases slot <;> exact id
 unfold St.app at h
 simp only [catO_eq, mapSl_eq, mapOb_eq] at h
 cases frz with
 | nil => cases clr with
  | nil => exact main id id rfl rfl (by simpa using fin sl ob h)
  | cons c clr => exact main _ _ rfl rfl (fin _ _ h)
 | cons z frz => cases clr with
  | nil => exact main _ _ rfl rfl (fin _ _ h)
  | cons c clr =>
   simp only [List.map_map] at h
   exact main _ _ rfl rfl (fin _ _ h)
end Go.Ev


namespace Go.Ev
section
variable {tb : TB} {X : Ctx} {g : Nat → A} {o : Nat → Option Ob} {a : Act} {w : World} {G : Nat → Option GR} {I : Nat → Prop}
theorem beq_self (i : Nat) : Nat.beq i i = true := Nat.beq_refl i
theorem beq_ne {i j : Nat} (h : i ≠ j) : Nat.beq i j = false := by
 cases e : Nat.beq i j with
 | false => rfl
 | true => exact absurd (Nat.eq_of_beq_eq_true e) h
theorem RepE.mono {I I' : Nat → Prop} {h h' : Array Obj} (hI : ∀ b, I b → I' b) (hh : ∀ b, I b → h'[b]? = h[b]?) : ∀ {l : List (D × D)} {es : List MapEntry}, RepE I h l es → RepE I' h' l es
 | [], _, r => r
 | (k, v) :: l, es, r => by
  obtain ⟨e, s, r1, r2, r3, r4⟩ := r
  exact ⟨e, s, r1, RepD.mono hI hh _ _ r2, RepD.mono hI hh _ _ r3, RepE.mono hI hh r4⟩
theorem ArrOK.mono {G G' : Nat → Option GR} {I I' : Nat → Prop} {h h' : Array Obj} {i : Nat} {T : TypeId} {es : List (List D)} (hG : ∀ i g, G i = some g → G' i = some g) (hI : ∀ b, I b → I' b) (hh : ∀ b, I b → h'[b]? = h[b]?)
  (hb : ∀ gr b, G i = some gr → gr.blk = some b → h'[b]? = h[b]?) (r : ArrOK tb G I h i T es) : ArrOK tb G' I' h' i T es := by
 obtain ⟨y, hy, r⟩ := r
 refine ⟨y, hy, r.imp (fun ⟨r1, r2⟩ => ⟨r1, hG _ _ r2⟩) ?_⟩
 rintro ⟨b, z, cap, c, r1, r2, r3, r4, r5, r6⟩
 exact ⟨b, z, cap, c, hG _ _ r1, (hb _ _ r1 rfl).trans r2, r3, r4, r5, RepR.mono hI hh _ _ _ r6⟩
theorem ArrOK.rec {G : Nat → Option GR} {I : Nat → Prop} {h : Array Obj} {i : Nat} {T : TypeId} {es : List (List D)} (r : ArrOK tb G I h i T es) : ∃ gr, G i = some gr ∧ ∀ b, gr.blk = some b → b < h.size := by
 obtain ⟨y, hy, r⟩ := r
 rcases r with ⟨_, r2⟩ | ⟨b, z, cap, c, r1, r2, _⟩
 ·exact ⟨_, r2, fun b' e => by cases e⟩
 ·exact ⟨_, r1, fun b' e => by cases e; exact (Array.getElem?_eq_some_iff.1 r2).1⟩
theorem ObOK.mono {G G' : Nat → Option GR} {I I' : Nat → Prop} {h h' : Array Obj} {i : Nat} {ob : Ob} (hG : ∀ i g, G i = some g → G' i = some g) (hI : ∀ b, I b → I' b) (hh : ∀ b, I b → h'[b]? = h[b]?)
  (hb : ob.live = true → ∀ gr b, G i = some gr → gr.blk = some b → h'[b]? = h[b]?) (r : ObOK tb G I h i ob) : ObOK tb G' I' h' i ob := by
 cases ob with
 | var bulk T cs =>
  obtain ⟨b, c, r1, r2, r3, r4⟩ := r
  exact ⟨b, c, hG _ _ r1, (hb rfl _ _ r1 rfl).trans r2, RepAL.mono hG hI hh _ _ r3, r4⟩
 | arr T es =>
  obtain ⟨y, hy, r⟩ := r
  refine ⟨y, hy, r.imp (fun ⟨r1, r2⟩ => ⟨r1, hG _ _ r2⟩) ?_⟩
  rintro ⟨b, z, cap, c, r1, r2, r3, r4, r5, r6⟩
  exact ⟨b, z, cap, c, hG _ _ r1, (hb rfl _ _ r1 rfl).trans r2, r3, r4, r5, RepR.mono hI hh _ _ _ r6⟩
 | map k e es =>
  obtain ⟨b, ents, clock, r1, r2, r3⟩ := r
  exact ⟨b, ents, clock, hG _ _ r1, (hb rfl _ _ r1 rfl).trans r2, RepE.mono hI hh r3.1, r3.2⟩
 | ro T cs =>
  obtain ⟨b, c, r1, r0, r2, r3, r4⟩ := r
  exact ⟨b, c, hG _ _ r1, hI _ r0, (hh b r0).trans r2, RepAL.mono hG hI hh _ _ r3, r4⟩
 | env k => trivial
 | dead => trivial
 | arw T cs =>
  obtain ⟨us, r1, r2⟩ := r
  exact ⟨us, RepAL.mono hG hI hh _ _ r1, ArrOK.mono hG hI hh (hb rfl) r2⟩
 | iter m q seen =>
  obtain ⟨b, bm, sn, r1, r2, r3, r4⟩ := r
  exact ⟨b, bm, sn, hG _ _ r1, (hb rfl _ _ r1 rfl).trans r2, hG _ _ r3, r4⟩
 | pan v => exact r.elim
theorem ObOK.rec {G : Nat → Option GR} {I : Nat → Prop} {h : Array Obj} {i : Nat} {ob : Ob} (r : ObOK tb G I h i ob) (hl : ob.live = true) : ∃ gr, G i = some gr ∧ ∀ b, gr.blk = some b → b < h.size := by
 cases ob with
 | var bulk T cs => obtain ⟨b, c, r1, r2, _⟩ := r; exact ⟨_, r1, fun b' e => by cases e; exact (Array.getElem?_eq_some_iff.1 r2).1⟩
 | arr T es =>
  obtain ⟨y, hy, r⟩ := r
  rcases r with ⟨_, r2⟩ | ⟨b, z, cap, c, r1, r2, _⟩
  ·exact ⟨_, r2, fun b' e => by cases e⟩
  ·exact ⟨_, r1, fun b' e => by cases e; exact (Array.getElem?_eq_some_iff.1 r2).1⟩
 | map k e es => obtain ⟨b, ents, clock, r1, r2, _⟩ := r; exact ⟨_, r1, fun b' e => by cases e; exact (Array.getElem?_eq_some_iff.1 r2).1⟩
 | ro T cs => simp [Ob.live] at hl
 | env k => simp [Ob.live] at hl
 | dead => simp [Ob.live] at hl
 | arw T cs => obtain ⟨us, _, r2⟩ := r; exact r2.rec
 | iter m q seen => obtain ⟨b, bm, sn, r1, r2, _⟩ := r; exact ⟨_, r1, fun b' e => by cases e; exact (Array.getElem?_eq_some_iff.1 r2).1⟩
 | pan v => exact r.elim
theorem getD_put {a : Act} {d t : Nat} {v : Value} (hd : d < a.tmps.size) : (a.put (some d) v).tmps.getD t undef = bif Nat.beq d t then v else a.tmps.getD t undef := by
 by_cases h : d = t
 ·subst h
  simp [Act.put, Array.getD, hd]
 ·simp only [beq_ne h, Act.put, cond_false]
  simp [Array.getD_eq_getD_getElem?, Array.getElem?_setIfInBounds_ne h]
theorem Mod.put (m : Mod tb X g o a w G I) {d : Nat} {x : A} {v : Value} (hd : d < X.nt) (r : RepA G I w.heap x v) :
  Mod tb X (fun t => bif Nat.beq d t then x else g t) o (a.put (some d) v) w G I :=
 { m with
  tsize := by simpa [Act.put] using m.tsize
  slots := fun t => by
   rw [getD_put (by rw [m.tsize]; exact hd)]
   cases h : Nat.beq d t
   ·simpa using m.slots t
   ·simpa using r }
theorem Mod.world (m : Mod tb X g o a w G I) {w' : World} (hh : w'.heap = w.heap) (ho : w'.os = w.os) (ht : w'.tape = w.tape) (hu : w'.output = w.output) : Mod tb X g o a w' G I :=
 { m with
  slots := by rw [hh]; exact m.slots
  objs := by rw [hh]; exact m.objs
  own := by rw [hh]; exact m.own
  isz := by rw [hh]; exact m.isz
  frame := by rw [hh]; exact m.frame
  os := ho.trans m.os
  tape := ht.trans m.tape
  output := hu.trans m.output
  wsz := by rw [hh]; exact m.wsz
  env := by
   obtain ⟨k, Ft, h1, h2, h3⟩ := m.env
   exact ⟨k, Ft, h1.st (fun b _ _ => by rw [hh]) (fun b _ => by rw [hh]) (fun _ h => h) (fun _ _ h => h) (by rw [hh]; exact m.isz) ho ht hu (by rw [hh]; exact Nat.le_refl _), by rw [hh]; exact h2, h3⟩ }
theorem Mod.grow (m : Mod tb X g o a w G I) {w' : World} {I' : Nat → Prop} (hb : RowKit.Below w.heap.size w w') (hI : ∀ b, I b → I' b) (hI' : ∀ b, I' b → I b ∨ w.heap.size ≤ b) (hz : ∀ b, I' b → b < w'.heap.size) :
  Mod tb X g o a w' G I' := by
 have hh : ∀ b, I b → w'.heap[b]? = w.heap[b]? := fun b hb' => hb.block b (m.isz b hb')
 refine { m with slots := ?_, objs := ?_, own := ?_, isz := hz, i0 := fun b h => hI b (m.i0 b h), inew := ?_, frame := ?_, env := ?_, os := hb.os.trans m.os, tape := hb.tape.trans m.tape, output := hb.output.trans m.output, wsz := Nat.le_trans m.wsz hb.size }
 ·exact fun t => RepA.mono (fun _ _ h => h) hI hh _ _ (m.slots t)
 ·intro i ob hi
  refine ObOK.mono (fun _ _ h => h) hI hh (fun hl gr b hg hbk => ?_) (m.objs i ob hi)
  exact hb.block b (m.own i ob gr b hi hl hg hbk).2.1
 ·intro i oi gi b hi hl hg hbk
  obtain ⟨h1, h2, h3⟩ := m.own i oi gi b hi hl hg hbk
  refine ⟨fun h => ?_, Nat.lt_of_lt_of_le h2 hb.size, h3⟩
  rcases hI' b h with h | h
  ·exact h1 h
  ·omega
 ·intro b h
  rcases hI' b h with h | h
  ·exact m.inew b h
  ·exact .inr (.inr (.inr (Nat.le_trans m.wsz h)))
 ·intro b hb' hn
  rw [hb.block b (Nat.lt_of_lt_of_le hb' m.wsz)]
  exact m.frame b hb' hn
 ·obtain ⟨k, Ft, h1, h2, h3⟩ := m.env
  refine ⟨k, Ft, h1.st (fun b _ hlt => hb.block b hlt) hh hI (fun b hf hi => ?_) hz hb.os hb.tape hb.output hb.size, fun b hf => ⟨Nat.lt_of_lt_of_le (h2 b hf).1 hb.size, (h2 b hf).2⟩, h3⟩
  rcases hI' b hi with h | h
  ·exact h
  ·have := (h2 b hf).1; omega
def updO (o : Nat → Option Ob) (i : Nat) (x : Ob) : Nat → Option Ob := fun j => bif Nat.beq i j then some x else o j
def updG (G : Nat → Option GR) (i : Nat) (x : GR) : Nat → Option GR := fun j => bif Nat.beq i j then some x else G j
theorem updO_self {o : Nat → Option Ob} {i : Nat} {x : Ob} : updO o i x i = some x := by simp [updO]
theorem updO_ne {o : Nat → Option Ob} {i j : Nat} {x : Ob} (h : i ≠ j) : updO o i x j = o j := by simp [updO, beq_ne h]
theorem updG_self {G : Nat → Option GR} {i : Nat} {x : GR} : updG G i x i = some x := by simp [updG]
theorem updG_ne {G : Nat → Option GR} {i j : Nat} {x : GR} (h : i ≠ j) : updG G i x j = G j := by simp [updG, beq_ne h]
theorem Mod.mk' (m : Mod tb X g o a w G I) {i : Nat} (hi : o i = none) (hn : X.nb ≤ i) {w' : World} {gr : GR} {ob : Ob} (hb : RowKit.Below w.heap.size w w')
  (hbk : ∀ b, gr.blk = some b → w.heap.size ≤ b ∧ b < w'.heap.size) (hob : ObOK tb (updG G i gr) I w'.heap i ob) (hne : ∀ k, ob ≠ .env k := by intro k h; cases h) : Mod tb X g (updO o i ob) a w' (updG G i gr) I := by
 have hG0 : G i = none := by
  cases h : G i with
  | none => rfl
  | some x => have := m.dom i x h; rw [hi] at this; cases this
 have hG : ∀ j x, G j = some x → updG G i gr j = some x := fun j x h => by
  by_cases e : i = j
  ·subst e; rw [hG0] at h; cases h
  ·rw [updG_ne e]; exact h
 have hh : ∀ b, I b → w'.heap[b]? = w.heap[b]? := fun b hb' => hb.block b (m.isz b hb')
 refine { m with slots := ?_, objs := ?_, dom := ?_, sep := ?_, own := ?_, bor := ?_, isz := fun b h => Nat.lt_of_lt_of_le (m.isz b h) hb.size, frame := ?_, env := ?_, barr := fun j T es hj hba => by { rw [updO_ne (by omega)]; exact m.barr j T es hj hba }, os := hb.os.trans m.os, tape := hb.tape.trans m.tape, output := hb.output.trans m.output, wsz := Nat.le_trans m.wsz hb.size }
 ·exact fun t => RepA.mono hG (fun _ h => h) hh _ _ (m.slots t)
 ·intro j oj hj
  by_cases e : i = j
  ·subst e; rw [updO_self] at hj; cases hj; exact hob
  ·rw [updO_ne e] at hj
   refine ObOK.mono hG (fun _ h => h) hh (fun hl' gr' b hg hbk' => ?_) (m.objs j oj hj)
   exact hb.block b (m.own j oj gr' b hj hl' hg hbk').2.1
 ·intro j x hx
  by_cases e : i = j
  ·subst e; rw [updO_self]; rfl
  ·rw [updG_ne e] at hx; rw [updO_ne e]; exact m.dom j x hx
 ·intro j k oj ok gj gk b hj hk hlj hlk hgj hgk hbj hbk'
  by_cases e : i = j
  ·by_cases e' : i = k
   ·omega
   ·subst e
    rw [updG_self] at hgj; cases hgj
    rw [updG_ne e'] at hgk; rw [updO_ne e'] at hk
    have h1 := (hbk b hbj).1
    have h2 := (m.own k ok gk b hk hlk hgk hbk').2.1
    omega
  ·by_cases e' : i = k
   ·subst e'
    rw [updG_self] at hgk; cases hgk
    rw [updG_ne e] at hgj; rw [updO_ne e] at hj
    have h1 := (hbk b hbk').1
    have h2 := (m.own j oj gj b hj hlj hgj hbj).2.1
    omega
   ·rw [updG_ne e] at hgj; rw [updO_ne e] at hj
    rw [updG_ne e'] at hgk; rw [updO_ne e'] at hk
    exact m.sep j k oj ok gj gk b hj hk hlj hlk hgj hgk hbj hbk'
 ·intro j oj gj b hj hlj hgj hbj
  by_cases e : i = j
  ·subst e
   rw [updG_self] at hgj; cases hgj
   obtain ⟨h1, h2⟩ := hbk b hbj
   exact ⟨fun h => by have := m.isz b h; omega, h2, .inl (Nat.le_trans m.wsz h1)⟩
  ·rw [updG_ne e] at hgj; rw [updO_ne e] at hj
   obtain ⟨h1, h2, h3⟩ := m.own j oj gj b hj hlj hgj hbj
   exact ⟨h1, Nat.lt_of_lt_of_le h2 hb.size, h3⟩
 ·intro j hj hba
  rw [updG_ne (by omega)]
  exact m.bor j hj hba
 ·intro b hb' hn'
  rw [hb.block b (Nat.lt_of_lt_of_le hb' m.wsz)]
  exact m.frame b hb' hn'
 ·obtain ⟨k, Ft, h1, h2, h3, h4⟩ := m.env
  refine ⟨k, Ft, h1.st (fun b _ hlt => hb.block b hlt) hh (fun _ h => h) (fun _ _ h => h) (fun b h => Nat.lt_of_lt_of_le (m.isz b h) hb.size) hb.os hb.tape hb.output hb.size, fun b hf => ⟨Nat.lt_of_lt_of_le (h2 b hf).1 hb.size, (h2 b hf).2⟩, fun j' oj gj b hj hlj hgj hbj hf => ?_, fun j k' h => ?_⟩
  ·by_cases e' : i = j'
   ·subst e'; rw [updG_self] at hgj; cases hgj; have := (h2 b hf).1; have := (hbk b hbj).1; omega
   ·rw [updO_ne e'] at hj; rw [updG_ne e'] at hgj; exact h3 j' oj gj b hj hlj hgj hbj hf
  ·by_cases e : i = j
   ·subst e; rw [updO_self] at h; cases h; exact absurd rfl (hne k')
   ·rw [updO_ne e] at h
    obtain ⟨q1, q2, q3⟩ := h4 j k' h
    refine ⟨q1, q2, ?_⟩
    subst q1
    rw [updG_ne e]; exact q3
theorem Mod.set' (m : Mod tb X g o a w G I) {i : Nat} {old ob : Ob} (hi : o i = some old) (hlo : old.live = true) {gr : GR} {b : Nat} (hgr : G i = some gr) (hbk : gr.blk = some b) {w' : World}
  (hsz : w'.heap.size = w.heap.size) (hoth : ∀ k, k ≠ b → w'.heap[k]? = w.heap[k]?) (hos : w'.os = w.os) (ht : w'.tape = w.tape) (hu : w'.output = w.output)
  (hob : ObOK tb G I w'.heap i ob) (harr : ∀ T es, ob = .arr T es → ∃ T es, old = .arr T es) (hne : ∀ k, ob ≠ .env k := by intro k h; cases h) : Mod tb X g (updO o i ob) a w' G I := by
 obtain ⟨hnI, hbs, hfr⟩ := m.own i old gr b hi hlo hgr hbk
 have hh : ∀ k, I k → w'.heap[k]? = w.heap[k]? := fun k hk => hoth k (fun e => hnI (e ▸ hk))
 refine { m with slots := ?_, objs := ?_, dom := ?_, sep := ?_, own := ?_, isz := by rw [hsz]; exact m.isz, frame := ?_, barr := ?_, env := ?_, os := hos.trans m.os, tape := ht.trans m.tape, output := hu.trans m.output, wsz := by rw [hsz]; exact m.wsz }
 ·exact fun t => RepA.mono (fun _ _ h => h) (fun _ h => h) hh _ _ (m.slots t)
 ·intro j oj hj
  by_cases e : i = j
  ·subst e; rw [updO_self] at hj; cases hj; exact hob
  ·rw [updO_ne e] at hj
   refine ObOK.mono (fun _ _ h => h) (fun _ h => h) hh (fun hl' gr' b' hg hbk' => ?_) (m.objs j oj hj)
   exact hoth b' (fun e' => e (m.sep i j old oj gr gr' b hi hj hlo hl' hgr hg hbk (e' ▸ hbk')))
 ·intro j x hx
  by_cases e : i = j
  ·subst e; rw [updO_self]; rfl
  ·rw [updO_ne e]; exact m.dom j x hx
 ·intro j k oj ok gj gk b' hj hk hlj hlk hgj hgk hbj hbk'
  by_cases e : i = j
  ·subst e
   by_cases e' : i = k
   ·exact e'
   ·rw [updO_ne e'] at hk
    exact m.sep i k old ok gj gk b' hi hk hlo hlk hgj hgk hbj hbk'
  ·rw [updO_ne e] at hj
   by_cases e' : i = k
   ·subst e'
    exact m.sep j i oj old gj gk b' hj hi hlj hlo hgj hgk hbj hbk'
   ·rw [updO_ne e'] at hk
    exact m.sep j k oj ok gj gk b' hj hk hlj hlk hgj hgk hbj hbk'
 ·intro j oj gj b' hj hlj hgj hbj
  rw [hsz]
  by_cases e : i = j
  ·subst e; exact m.own i old gj b' hi hlo hgj hbj
  ·rw [updO_ne e] at hj; exact m.own j oj gj b' hj hlj hgj hbj
 ·intro k hk hn
  by_cases e : k = b
  ·subst e
   rcases hfr with h1 | h1
   ·omega
   ·rcases hn with hn | hn
    ·exact absurd (m.i0 k hn) hnI
    ·exact absurd h1 hn.2
  ·rw [hoth k e]; exact m.frame k hk hn
 ·intro j T es hj hba
  by_cases e : i = j
  ·subst e; rw [updO_self]; intro h; cases h; obtain ⟨T', es', h⟩ := harr _ _ rfl; subst h; exact m.barr i _ _ hj hba hi
  ·rw [updO_ne e]; exact m.barr j T es hj hba
 ·obtain ⟨k, Ft, h1, h2, h3, h4⟩ := m.env
  refine ⟨k, Ft, h1.st (fun b' hf _ => hoth b' (fun e' => h3 i old gr b hi hlo hgr hbk (e' ▸ hf))) hh (fun _ h => h) (fun _ _ h => h) (by rw [hsz]; exact m.isz) hos ht hu (by rw [hsz]; exact Nat.le_refl _), by rw [hsz]; exact h2, fun j' oj gj b' hj hlj hgj hbj hf => ?_, fun j k' h => ?_⟩
  ·by_cases e' : i = j'
   ·subst e'; exact h3 i old gj b' hi hlo hgj hbj hf
   ·rw [updO_ne e'] at hj; exact h3 j' oj gj b' hj hlj hgj hbj hf
  ·by_cases e : i = j
   ·subst e; rw [updO_self] at h; cases h; exact absurd rfl (hne k')
   ·rw [updO_ne e] at h; exact h4 j k' h
end
end Go.Ev


namespace Go.Ev
section
variable {tb : TB} {X : Ctx} {g : Nat → A} {o : Nat → Option Ob} {a : Act} {w : World} {G : Nat → Option GR} {I : Nat → Prop} {h : Array Obj}
mutual
theorem RepA.clr {js : List Nat} {G' : Nat → Option GR} (hG : ∀ j, memN js j = false → G' j = G j) : ∀ (x : A) (v : Value), RepA G I h x v → RepA G' I h (clrA js x) v
 | .d x, v, r => by rw [RepA] at r; rw [clrA, RepA]; exact r
 | .ref j off, v, r => by
  rw [RepA] at r
  rw [clrA]
  cases e : memN js j with
  | true => rw [cond_true, RepA]; trivial
  | false => rw [cond_false, RepA, hG j e]; exact r
 | .own j, v, r => by
  rw [RepA] at r
  rw [clrA]
  cases e : memN js j with
  | true => rw [cond_true, RepA]; trivial
  | false => rw [cond_false, RepA, hG j e]; exact r
 | .eref j k sz off, v, r => by
  rw [RepA] at r
  rw [clrA]
  cases e : memN js j with
  | true => rw [cond_true, RepA]; trivial
  | false => rw [cond_false, RepA, hG j e]; exact r
 | .pre j hi, v, r => by
  rw [RepA] at r
  rw [clrA]
  cases e : memN js j with
  | true => rw [cond_true, RepA]; trivial
  | false => rw [cond_false, RepA, hG j e]; exact r
 | .sub j ysz off sz n, v, r => by
  rw [RepA] at r
  rw [clrA]
  cases e : memN js j with
  | true => rw [cond_true, RepA]; trivial
  | false => rw [cond_false, RepA, hG j e]; exact r
 | .fn f c d, v, r => by
  rw [RepA] at r
  obtain ⟨x, y, r1, r2, r3⟩ := r
  rw [clrA, RepA]
  exact ⟨x, y, r1, RepAL.clr hG _ _ r2, RepAL.clr hG _ _ r3⟩
 | .agg c, v, r => by
  rw [RepA] at r
  obtain ⟨x, r1, r2⟩ := r
  rw [clrA, RepA]
  exact ⟨x, r1, RepAL.clr hG _ _ r2⟩
 | .tup c, v, r => by
  rw [RepA] at r
  obtain ⟨x, r1, r2⟩ := r
  rw [clrA, RepA]
  exact ⟨x, r1, RepAL.clr hG _ _ r2⟩
 | .lst c, v, r => by
  rw [RepA] at r
  obtain ⟨b, q, T, fr, r1, r2, r3, r4⟩ := r
  have r5 := RepAL.clr hG _ _ r4
  rw [clrA, RepA]
  exact ⟨b, q, T, fr, by rw [← RepAL.length r5, RepAL.length r4]; exact r1, r2, r3, r5⟩
 | .lptr x, v, r => by
  rw [RepA] at r
  obtain ⟨b, off, q, T, fr, u, r1, r2, r3, r4, r5⟩ := r
  rw [clrA, RepA]
  exact ⟨b, off, q, T, fr, u, r1, r2, r3, r4, RepA.clr hG _ _ r5⟩
 | .unk, v, r => by rw [clrA, RepA]; trivial
theorem RepAL.clr {js : List Nat} {G' : Nat → Option GR} (hG : ∀ j, memN js j = false → G' j = G j) : ∀ (x : List A) (v : List Value), RepAL G I h x v → RepAL G' I h (clrAL js x) v
 | [], v, r => by rw [RepAL] at r; rw [clrAL, RepAL]; exact r
 | x :: l, v, r => by
  obtain ⟨u, q, rfl, r1, r2⟩ := r.uncons
  rw [clrAL]
  exact RepAL.cons (RepA.clr hG _ _ r1) (RepAL.clr hG _ _ r2)
end
theorem memN_one {i j : Nat} : memN [i] j = Nat.beq i j := by simp [memN]
theorem memN_iff {js : List Nat} {j : Nat} : memN js j = true ↔ j ∈ js := by
 unfold memN
 rw [List.any_eq_true]
 constructor
 ·rintro ⟨i, hi, e⟩; rw [← Nat.eq_of_beq_eq_true e]; exact hi
 ·intro hj; exact ⟨j, hj, by simp⟩
theorem memN_ne {i j : Nat} (h : memN [i] j = false) : i ≠ j := by
 intro e; subst e; rw [memN_one] at h; simp at h
theorem updG_clr {i : Nat} {gr : GR} : ∀ j, memN [i] j = false → updG G i gr j = G j := fun j hj => updG_ne (memN_ne hj)
theorem clrO_live {js : List Nat} {x : Ob} (h : (clrO js x).live = true) : x.live = true := by cases x <;> first | exact h | rfl
theorem clrO_arr {js : List Nat} {x : Ob} {T : TypeId} {es : List (List D)} (h : clrO js x = .arr T es) : x = .arr T es := by
 cases x with
 | iter m q seen => rw [clrO] at h; cases e : memN js m <;> rw [e] at h <;> cases h
 | _ => first | exact h | cases h
theorem clrO_env {js : List Nat} {x : Ob} {k : Nat} (h : clrO js x = .env k) : x = .env k := by
 cases x with
 | iter m q seen => rw [clrO] at h; cases e : memN js m <;> rw [e] at h <;> cases h
 | _ => first | exact h | cases h
theorem frzO_live {z : List (Nat × D)} {x : Ob} : (frzO z x).live = x.live := by cases x <;> rfl
theorem ObOK.clr {js : List Nat} {G' : Nat → Option GR} (hG : ∀ j, memN js j = false → G' j = G j) {j : Nat} {x : Ob} (hj : memN js j = false) (r : ObOK tb G I h j x) : ObOK tb G' I h j (clrO js x) := by
 cases x with
 | var bulk T cs =>
  obtain ⟨b, c, r1, r2, r3, r4⟩ := r
  exact ⟨b, c, by rw [hG j hj]; exact r1, r2, RepAL.clr hG _ _ r3, r4⟩
 | arr T es =>
  obtain ⟨y, hy, r⟩ := r
  exact ⟨y, hy, by rw [hG j hj]; exact r⟩
 | map k e es =>
  obtain ⟨b, ents, clock, r1, r2⟩ := r
  exact ⟨b, ents, clock, by rw [hG j hj]; exact r1, r2⟩
 | ro T cs =>
  obtain ⟨b, c, r1, r0, r2, r3, r4⟩ := r
  exact ⟨b, c, by rw [hG j hj]; exact r1, r0, r2, RepAL.clr hG _ _ r3, r4⟩
 | env k => trivial
 | dead => trivial
 | arw T cs =>
  obtain ⟨us, r1, y, hy, r⟩ := r
  exact ⟨us, RepAL.clr hG _ _ r1, y, hy, by rw [hG j hj]; exact r⟩
 | iter m q seen =>
  rw [clrO]
  cases e : memN js m with
  | true => trivial
  | false =>
   rw [cond_false]
   obtain ⟨b, bm, sn, r1, r2, r3, r4⟩ := r
   exact ⟨b, bm, sn, by rw [hG j hj]; exact r1, r2, by rw [hG m e]; exact r3, r4⟩
 | pan v => exact r.elim
theorem Mod.turn (m : Mod tb X g o a w G I) {i : Nat} {old ob : Ob} (hi : o i = some old) (hlo : old.live = true) (hn : X.nb ≤ i ∨ X.ba i = true) {gr gr' : GR} (hgr : G i = some gr) {w' : World}
  (hsz : w.heap.size ≤ w'.heap.size) (hoth : ∀ k, k < w.heap.size → gr.blk ≠ some k → w'.heap[k]? = w.heap[k]?) (hos : w'.os = w.os) (ht : w'.tape = w.tape) (hu : w'.output = w.output)
  (hbk : ∀ b, gr'.blk = some b → gr.blk = some b ∨ (w.heap.size ≤ b ∧ b < w'.heap.size)) (hob : ObOK tb (updG G i gr') I w'.heap i ob) (hne : ∀ k, ob ≠ .env k := by intro k h; cases h) :
  Mod tb X (fun t => clrA [i] (g t)) (updO (fun j => (o j).map (clrO [i])) i ob) a w' (updG G i gr') I := by
 have hh : ∀ k, I k → w'.heap[k]? = w.heap[k]? := fun k hk => hoth k (m.isz k hk) (fun e => (m.own i old gr k hi hlo hgr e).1 hk)
 refine { m with slots := ?_, objs := ?_, dom := ?_, sep := ?_, own := ?_, bor := ?_, isz := fun b hb => Nat.lt_of_lt_of_le (m.isz b hb) hsz, frame := ?_, barr := ?_, env := ?_, os := hos.trans m.os, tape := ht.trans m.tape, output := hu.trans m.output, wsz := Nat.le_trans m.wsz hsz }
 ·exact fun t => RepA.clr updG_clr _ _ (RepA.mono (fun _ _ h => h) (fun _ h => h) hh _ _ (m.slots t))
 ·intro j oj hj
  by_cases e : i = j
  ·subst e; rw [updO_self] at hj; cases hj; exact hob
  ·rw [updO_ne e] at hj
   obtain ⟨oj', hj', rfl⟩ := Option.map_eq_some_iff.1 hj
   refine ObOK.clr updG_clr (by rw [memN_one]; exact beq_ne e) (ObOK.mono (fun _ _ h => h) (fun _ h => h) hh (fun hl' gr'' b' hg hbk' => ?_) (m.objs j oj' hj'))
   refine hoth b' (m.own j oj' gr'' b' hj' hl' hg hbk').2.1 (fun e' => e (m.sep i j old oj' gr gr'' b' hi hj' hlo hl' hgr hg e' hbk'))
 ·intro j x hx
  by_cases e : i = j
  ·subst e; rw [updO_self]; rfl
  ·rw [updG_ne e] at hx; rw [updO_ne e]
   have := m.dom j x hx
   simpa using this
 ·have key : ∀ k ok gk b, i ≠ k → o k = some ok → ok.live = true → G k = some gk → gk.blk = some b → gr'.blk ≠ some b := by
   intro k ok gk b hne hk hl hgk hbk' e
   rcases hbk b e with h1 | h1
   ·exact hne (m.sep i k old ok gr gk b hi hk hlo hl hgr hgk h1 hbk')
   ·have := (m.own k ok gk b hk hl hgk hbk').2.1; omega
  intro j k oj ok gj gk b hj hk hlj hlk hgj hgk hbj hbk'
  by_cases e : i = j
  ·by_cases e' : i = k
   ·omega
   ·subst e
    rw [updG_self] at hgj; cases hgj
    rw [updG_ne e'] at hgk; rw [updO_ne e'] at hk
    obtain ⟨ok', hk', rfl⟩ := Option.map_eq_some_iff.1 hk
    exact absurd hbj (key k ok' gk b e' hk' (clrO_live hlk) hgk hbk')
  ·rw [updG_ne e] at hgj; rw [updO_ne e] at hj
   obtain ⟨oj', hj', rfl⟩ := Option.map_eq_some_iff.1 hj
   by_cases e' : i = k
   ·subst e'
    rw [updG_self] at hgk; cases hgk
    exact absurd hbk' (key j oj' gj b e hj' (clrO_live hlj) hgj hbj)
   ·rw [updG_ne e'] at hgk; rw [updO_ne e'] at hk
    obtain ⟨ok', hk', rfl⟩ := Option.map_eq_some_iff.1 hk
    exact m.sep j k oj' ok' gj gk b hj' hk' (clrO_live hlj) (clrO_live hlk) hgj hgk hbj hbk'
 ·intro j oj gj b hj hlj hgj hbj
  by_cases e : i = j
  ·subst e
   rw [updG_self] at hgj; cases hgj
   rcases hbk b hbj with h1 | h1
   ·obtain ⟨h2, h3, h4⟩ := m.own i old gr b hi hlo hgr h1
    exact ⟨h2, by omega, h4⟩
   ·exact ⟨fun h => by have := m.isz b h; omega, h1.2, .inl (Nat.le_trans m.wsz h1.1)⟩
  ·rw [updG_ne e] at hgj; rw [updO_ne e] at hj
   obtain ⟨oj', hj', rfl⟩ := Option.map_eq_some_iff.1 hj
   obtain ⟨h1, h2, h3⟩ := m.own j oj' gj b hj' (clrO_live hlj) hgj hbj
   exact ⟨h1, by omega, h3⟩
 ·have hne' : ∀ j, j < X.nb → X.ba j = false → i ≠ j := fun j hj hba e => by
   subst e
   rcases hn with hn | hn
   ·omega
   ·rw [hba] at hn; cases hn
  intro j hj hba
  rw [updG_ne (hne' j hj hba)]; exact m.bor j hj hba
 ·intro k hk hkn
  by_cases e : gr.blk = some k
  ·obtain ⟨h1, _, h2⟩ := m.own i old gr k hi hlo hgr e
   rcases h2 with h2 | h2
   ·omega
   ·rcases hkn with h3 | h3
    ·exact absurd (m.i0 k h3) h1
    ·exact absurd h2 h3.2
  ·rw [hoth k (Nat.lt_of_lt_of_le hk m.wsz) e]; exact m.frame k hk hkn
 ·intro j T es hj hba
  have hne' : i ≠ j := fun e => by
   subst e
   rcases hn with hn | hn
   ·omega
   ·rw [hba] at hn; cases hn
  rw [updO_ne hne']
  intro h
  obtain ⟨oj, h1, h2⟩ := Option.map_eq_some_iff.1 h
  rw [clrO_arr h2] at h1
  exact m.barr j _ _ hj hba h1
 ·obtain ⟨k, Ft, h1, h2, h3, h4⟩ := m.env
  refine ⟨k, Ft, h1.st (fun b hf hlt => hoth b hlt (fun e' => h3 i old gr b hi hlo hgr e' hf)) hh (fun _ h => h) (fun _ _ h => h) (fun b hb => Nat.lt_of_lt_of_le (m.isz b hb) hsz) hos ht hu hsz, fun b hf => ⟨Nat.lt_of_lt_of_le (h2 b hf).1 hsz, (h2 b hf).2⟩, fun j' oj gj b hj hlj hgj hbj hf => ?_, fun j k' h => ?_⟩
  ·by_cases e' : i = j'
   ·subst e'
    rw [updG_self] at hgj; cases hgj
    rcases hbk b hbj with h4 | h4
    ·exact h3 i old gr b hi hlo hgr h4 hf
    ·have := (h2 b hf).1; omega
   ·rw [updO_ne e'] at hj; rw [updG_ne e'] at hgj
    obtain ⟨oj', hj', rfl⟩ := Option.map_eq_some_iff.1 hj
    exact h3 j' oj' gj b hj' (clrO_live hlj) hgj hbj hf
  ·by_cases e : i = j
   ·subst e; rw [updO_self] at h; cases h; exact absurd rfl (hne k')
   ·rw [updO_ne e] at h
    obtain ⟨oj, h0, h2'⟩ := Option.map_eq_some_iff.1 h
    have h0' : o j = some (.env k') := by
     rw [← clrO_env h2']; exact h0
    obtain ⟨q1, q2, q3⟩ := h4 j k' h0'
    refine ⟨q1, q2, ?_⟩
    subst q1
    rw [updG_ne e]; exact q3
theorem Mod.move (m : Mod tb X g o a w G I) {i nid : Nat} {old ob : Ob} (hi : o i = some old) (hlo : old.live = true) (hn : o nid = none) (hnb : X.nb ≤ nid) {gr gr' : GR} (hgr : G i = some gr) {w' : World}
  (hsz : w.heap.size ≤ w'.heap.size) (hoth : ∀ k, k < w.heap.size → gr.blk ≠ some k → w'.heap[k]? = w.heap[k]?) (hos : w'.os = w.os) (ht : w'.tape = w.tape) (hu : w'.output = w.output)
  (hbk : ∀ b, gr'.blk = some b → gr.blk = some b ∨ (w.heap.size ≤ b ∧ b < w'.heap.size)) (hob : ObOK tb (updG G nid gr') I w'.heap nid ob) (hne : ∀ k, ob ≠ .env k := by intro k h; cases h) :
  Mod tb X g (updO (updO o i .dead) nid ob) a w' (updG G nid gr') I := by
 have hin : i ≠ nid := fun e => by subst e; rw [hi] at hn; cases hn
 have hG0 : G nid = none := by
  cases h : G nid with
  | none => rfl
  | some x => have := m.dom nid x h; rw [hn] at this; cases this
 have hG : ∀ j x, G j = some x → updG G nid gr' j = some x := fun j x h => by
  by_cases e : nid = j
  ·subst e; rw [hG0] at h; cases h
  ·rw [updG_ne e]; exact h
 have hh : ∀ k, I k → w'.heap[k]? = w.heap[k]? := fun k hk => hoth k (m.isz k hk) (fun e => (m.own i old gr k hi hlo hgr e).1 hk)
 have oth : ∀ j oj, updO (updO o i .dead) nid ob j = some oj → j ≠ nid → oj.live = true → o j = some oj ∧ i ≠ j := fun j oj h hj hl => by
  rw [updO_ne (Ne.symm hj)] at h
  by_cases e : i = j
  ·subst e; rw [updO_self] at h; cases h; simp [Ob.live] at hl
  ·rw [updO_ne e] at h; exact ⟨h, e⟩
 have key : ∀ k ok gk b, i ≠ k → o k = some ok → ok.live = true → G k = some gk → gk.blk = some b → gr'.blk ≠ some b := by
  intro k ok gk b hne' hk hl hgk hbk' e
  rcases hbk b e with h1 | h1
  ·exact hne' (m.sep i k old ok gr gk b hi hk hlo hl hgr hgk h1 hbk')
  ·have := (m.own k ok gk b hk hl hgk hbk').2.1; omega
 refine { m with slots := ?_, objs := ?_, dom := ?_, sep := ?_, own := ?_, bor := ?_, isz := fun b hb => Nat.lt_of_lt_of_le (m.isz b hb) hsz, frame := ?_, barr := ?_, env := ?_, os := hos.trans m.os, tape := ht.trans m.tape, output := hu.trans m.output, wsz := Nat.le_trans m.wsz hsz }
 ·exact fun t => RepA.mono hG (fun _ h => h) hh _ _ (m.slots t)
 ·intro j oj hj
  by_cases e : nid = j
  ·subst e; rw [updO_self] at hj; cases hj; exact hob
  ·rw [updO_ne e] at hj
   by_cases e' : i = j
   ·subst e'; rw [updO_self] at hj; cases hj; trivial
   ·rw [updO_ne e'] at hj
    refine ObOK.mono hG (fun _ h => h) hh (fun hl' gr'' b' hg hbk' => ?_) (m.objs j oj hj)
    exact hoth b' (m.own j oj gr'' b' hj hl' hg hbk').2.1 (fun e2 => e' (m.sep i j old oj gr gr'' b' hi hj hlo hl' hgr hg e2 hbk'))
 ·intro j x hx
  by_cases e : nid = j
  ·subst e; rw [updO_self]; rfl
  ·rw [updG_ne e] at hx; rw [updO_ne e]
   by_cases e' : i = j
   ·subst e'; rw [updO_self]; rfl
   ·rw [updO_ne e']; exact m.dom j x hx
 ·intro j k oj ok gj gk b hj hk hlj hlk hgj hgk hbj hbk'
  by_cases e : j = nid
  ·by_cases e' : k = nid
   ·omega
   ·subst e
    rw [updG_self] at hgj; cases hgj
    rw [updG_ne (Ne.symm e')] at hgk
    obtain ⟨q1, q2⟩ := oth k ok hk e' hlk
    exact absurd hbj (key k ok gk b q2 q1 hlk hgk hbk')
  ·rw [updG_ne (Ne.symm e)] at hgj
   obtain ⟨p1, p2⟩ := oth j oj hj e hlj
   by_cases e' : k = nid
   ·subst e'
    rw [updG_self] at hgk; cases hgk
    exact absurd hbk' (key j oj gj b p2 p1 hlj hgj hbj)
   ·rw [updG_ne (Ne.symm e')] at hgk
    obtain ⟨q1, q2⟩ := oth k ok hk e' hlk
    exact m.sep j k oj ok gj gk b p1 q1 hlj hlk hgj hgk hbj hbk'
 ·intro j oj gj b hj hlj hgj hbj
  by_cases e : j = nid
  ·subst e
   rw [updG_self] at hgj; cases hgj
   rcases hbk b hbj with h1 | h1
   ·obtain ⟨h2, h3, h4⟩ := m.own i old gr b hi hlo hgr h1
    exact ⟨h2, by omega, h4⟩
   ·exact ⟨fun h => by have := m.isz b h; omega, h1.2, .inl (Nat.le_trans m.wsz h1.1)⟩
  ·rw [updG_ne (Ne.symm e)] at hgj
   obtain ⟨p1, p2⟩ := oth j oj hj e hlj
   obtain ⟨h1, h2, h3⟩ := m.own j oj gj b p1 hlj hgj hbj
   exact ⟨h1, by omega, h3⟩
 ·intro j hj hba
  rw [updG_ne (by omega)]; exact m.bor j hj hba
 ·intro k hk hkn
  by_cases e : gr.blk = some k
  ·obtain ⟨h1, _, h2⟩ := m.own i old gr k hi hlo hgr e
   rcases h2 with h2 | h2
   ·omega
   ·rcases hkn with h3 | h3
    ·exact absurd (m.i0 k h3) h1
    ·exact absurd h2 h3.2
  ·rw [hoth k (Nat.lt_of_lt_of_le hk m.wsz) e]; exact m.frame k hk hkn
 ·intro j T es hj hba
  rw [updO_ne (by omega)]
  by_cases e : i = j
  ·subst e; rw [updO_self]; simp
  ·rw [updO_ne e]; exact m.barr j T es hj hba
 ·obtain ⟨k, Ft, h1, h2, h3, h4⟩ := m.env
  refine ⟨k, Ft, h1.st (fun b hf hlt => hoth b hlt (fun e' => h3 i old gr b hi hlo hgr e' hf)) hh (fun _ h => h) (fun _ _ h => h) (fun b hb => Nat.lt_of_lt_of_le (m.isz b hb) hsz) hos ht hu hsz, fun b hf => ⟨Nat.lt_of_lt_of_le (h2 b hf).1 hsz, (h2 b hf).2⟩, fun j' oj gj b hj hlj hgj hbj hf => ?_, fun j k' h => ?_⟩
  ·by_cases e' : j' = nid
   ·subst e'
    rw [updG_self] at hgj; cases hgj
    rcases hbk b hbj with h4 | h4
    ·exact h3 i old gr b hi hlo hgr h4 hf
    ·have := (h2 b hf).1; omega
   ·rw [updG_ne (Ne.symm e')] at hgj
    obtain ⟨p1, p2⟩ := oth j' oj hj e' hlj
    exact h3 j' oj gj b p1 hlj hgj hbj hf
  ·by_cases e : nid = j
   ·subst e; rw [updO_self] at h; cases h; exact absurd rfl (hne k')
   ·rw [updO_ne e] at h
    by_cases e' : i = j
    ·subst e'; rw [updO_self] at h; cases h
    ·rw [updO_ne e'] at h
     obtain ⟨q1, q2, q3⟩ := h4 j k' h
     refine ⟨q1, q2, ?_⟩
     subst q1
     rw [updG_ne e]; exact q3
def FrzOK (o : Nat → Option Ob) (z : List (Nat × D)) : Prop := ∀ i d, lookD z i = some d → ∃ T es, o i = some (.arr T es) ∧ d = .seq es
def frzI (G : Nat → Option GR) (I : Nat → Prop) (z : List (Nat × D)) : Nat → Prop := fun b => I b ∨ ∃ i d gr, lookD z i = some d ∧ G i = some gr ∧ gr.blk = some b
theorem frz_seq {z : List (Nat × D)} (hz : FrzOK o z) (hob : ∀ i ob, o i = some ob → ObOK tb G I h i ob) {i : Nat} {d : D} (hd : lookD z i = some d) {u : Value} (r : RepA G I h (.own i) u) : RepD (frzI G I z) h d u := by
 obtain ⟨T, es, ho, rfl⟩ := hz i d hd
 have h1 := hob i _ ho
 rw [RepA] at r
 obtain ⟨⟨gr, hgr, rfl⟩, _⟩ := r
 obtain ⟨y, hy, h1⟩ := h1
 rw [RepD]
 rcases h1 with ⟨rfl, h2⟩ | ⟨b, z0, cap, c, h2, h3, h4, h5, h6, h7⟩
 ·rw [hgr] at h2; cases h2
  exact ⟨none, 0, 0, rfl, rfl, Nat.le_refl _, .inl rfl⟩
 ·rw [hgr] at h2; cases h2
  exact ⟨_, _, _, rfl, rfl, h4, .inr ⟨y.size, b, z0, c, T, (0, 0), rfl, .inr ⟨i, _, _, hd, hgr, rfl⟩, h3, RepR.mono (fun _ h => .inl h) (fun _ _ => rfl) _ _ _ h7⟩⟩
mutual
theorem RepA.frz {z : List (Nat × D)} (hz : FrzOK o z) (hob : ∀ i ob, o i = some ob → ObOK tb G I h i ob) : ∀ (x : A) (v : Value), RepA G I h x v → RepA G (frzI G I z) h (frzA z x) v
 | .d x, v, r => by rw [RepA] at r; rw [frzA, RepA]; exact RepD.mono (fun _ h => .inl h) (fun _ _ => rfl) _ _ r
 | .ref j off, v, r => by rw [frzA]; exact RepA.mono (fun _ _ h => h) (fun _ h => .inl h) (fun _ _ => rfl) _ _ r
 | .own j, v, r => by
  rw [frzA]
  cases e : lookD z j with
  | none => exact RepA.mono (fun _ _ h => h) (fun _ h => .inl h) (fun _ _ => rfl) _ _ r
  | some d => simp only; rw [RepA]; exact frz_seq hz hob e r
 | .eref j k sz off, v, r => by
  rw [frzA]
  cases e : lookD z j with
  | none => exact RepA.mono (fun _ _ h => h) (fun _ h => .inl h) (fun _ _ => rfl) _ _ r
  | some d => simp only; rw [RepA]; trivial
 | .pre j hi, v, r => by
  rw [frzA]
  cases e : lookD z j with
  | none => exact RepA.mono (fun _ _ h => h) (fun _ h => .inl h) (fun _ _ => rfl) _ _ r
  | some d => simp only; rw [RepA]; trivial
 | .sub j ysz off sz n, v, r => by
  rw [frzA]
  cases e : lookD z j with
  | none => exact RepA.mono (fun _ _ h => h) (fun _ h => .inl h) (fun _ _ => rfl) _ _ r
  | some d => simp only; rw [RepA]; trivial
 | .fn f c d, v, r => by
  rw [RepA] at r
  obtain ⟨x, y, r1, r2, r3⟩ := r
  rw [frzA, RepA]
  exact ⟨x, y, r1, RepAL.frz hz hob _ _ r2, RepAL.frz hz hob _ _ r3⟩
 | .agg c, v, r => by
  rw [RepA] at r
  obtain ⟨x, r1, r2⟩ := r
  rw [frzA, RepA]
  exact ⟨x, r1, RepAL.frz hz hob _ _ r2⟩
 | .tup c, v, r => by
  rw [RepA] at r
  obtain ⟨x, r1, r2⟩ := r
  rw [frzA, RepA]
  exact ⟨x, r1, RepAL.frz hz hob _ _ r2⟩
 | .lst c, v, r => by
  rw [RepA] at r
  obtain ⟨b, q, T, fr, r1, r2, r3, r4⟩ := r
  have r5 := RepAL.frz hz hob _ _ r4
  rw [frzA, RepA]
  exact ⟨b, q, T, fr, by rw [← RepAL.length r5, RepAL.length r4]; exact r1, .inl r2, r3, r5⟩
 | .lptr x, v, r => by
  rw [RepA] at r
  obtain ⟨b, off, q, T, fr, u, r1, r2, r3, r4, r5⟩ := r
  rw [frzA, RepA]
  exact ⟨b, off, q, T, fr, u, r1, .inl r2, r3, r4, RepA.frz hz hob _ _ r5⟩
 | .unk, v, r => by rw [frzA, RepA]; trivial
theorem RepAL.frz {z : List (Nat × D)} (hz : FrzOK o z) (hob : ∀ i ob, o i = some ob → ObOK tb G I h i ob) : ∀ (x : List A) (v : List Value), RepAL G I h x v → RepAL G (frzI G I z) h (frzAL z x) v
 | [], v, r => by rw [RepAL] at r; rw [frzAL, RepAL]; exact r
 | x :: l, v, r => by
  obtain ⟨u, q, rfl, r1, r2⟩ := r.uncons
  rw [frzAL]
  exact RepAL.cons (RepA.frz hz hob _ _ r1) (RepAL.frz hz hob _ _ r2)
end
def frzObs (o : Nat → Option Ob) (z : List (Nat × D)) : Nat → Option Ob := fun i =>
 match lookD z i with
 | some _ => some .dead
 | none => (o i).map (frzO z)
theorem Mod.freeze (m : Mod tb X g o a w G I) {z : List (Nat × D)} (hz : FrzOK o z) :
  Mod tb X (fun t => frzA z (g t)) (frzObs o z) a w G (frzI G I z) := by
 have keep : ∀ j oj, frzObs o z j = some oj → oj.live = true → ∃ oj', o j = some oj' ∧ oj = frzO z oj' ∧ oj'.live = true ∧ lookD z j = none := by
  intro j oj hj hl
  unfold frzObs at hj
  cases e : lookD z j with
  | some d => simp only [e, Option.some.injEq] at hj; subst hj; simp [Ob.live] at hl
  | none =>
   simp only [e] at hj
   obtain ⟨oj', h1, rfl⟩ := Option.map_eq_some_iff.1 hj
   exact ⟨oj', h1, rfl, by rwa [frzO_live] at hl, rfl⟩
 refine { m with slots := fun t => RepA.frz hz m.objs _ _ (m.slots t), objs := ?_, dom := ?_, sep := ?_, own := ?_, isz := ?_, i0 := fun b hb => .inl (m.i0 b hb), inew := ?_, barr := ?_, env := ?_ }
 ·intro j oj hj
  unfold frzObs at hj
  cases e : lookD z j with
  | some d => simp only [e, Option.some.injEq] at hj; subst hj; trivial
  | none =>
   simp only [e] at hj
   obtain ⟨oj', h1, rfl⟩ := Option.map_eq_some_iff.1 hj
   have r := m.objs j oj' h1
   cases oj' with
   | var bulk T cs =>
    obtain ⟨b, c, r1, r2, r3, r4⟩ := r
    exact ⟨b, c, r1, r2, RepAL.frz hz m.objs _ _ r3, r4⟩
   | arr T es => exact ObOK.mono (fun _ _ h => h) (fun _ h => .inl h) (fun _ _ => rfl) (fun _ _ _ _ _ => rfl) r
   | map k e es => exact ObOK.mono (fun _ _ h => h) (fun _ h => .inl h) (fun _ _ => rfl) (fun _ _ _ _ _ => rfl) r
   | ro T cs =>
    obtain ⟨b, c, r1, r0, r2, r3, r4⟩ := r
    exact ⟨b, c, r1, .inl r0, r2, RepAL.frz hz m.objs _ _ r3, r4⟩
   | env k => trivial
   | dead => trivial
   | arw T cs =>
    obtain ⟨us, r1, r2⟩ := r
    exact ⟨us, RepAL.frz hz m.objs _ _ r1, ArrOK.mono (fun _ _ h => h) (fun _ h => .inl h) (fun _ _ => rfl) (fun _ _ _ _ => rfl) r2⟩
   | iter m q seen => exact r
   | pan v => exact r.elim
 ·intro j x hx
  unfold frzObs
  cases e : lookD z j with
  | some d => rfl
  | none => simpa using m.dom j x hx
 ·intro j k oj ok gj gk b hj hk hlj hlk
  obtain ⟨oj', h1, _, h2, _⟩ := keep j oj hj hlj
  obtain ⟨ok', h3, _, h4, _⟩ := keep k ok hk hlk
  exact m.sep j k oj' ok' gj gk b h1 h3 h2 h4
 ·intro j oj gj b hj hlj hgj hbj
  obtain ⟨oj', h1, _, h2, h5⟩ := keep j oj hj hlj
  obtain ⟨h6, h7, h8⟩ := m.own j oj' gj b h1 h2 hgj hbj
  refine ⟨fun h => ?_, h7, h8⟩
  rcases h with h | ⟨i, d, gr, hd, hg, hb⟩
  ·exact h6 h
  ·obtain ⟨T, es, hoi, _⟩ := hz i d hd
   have := m.sep i j _ oj' gr gj b hoi h1 rfl h2 hg hgj hb hbj
   subst this
   rw [h5] at hd; cases hd
 ·rintro b (h | ⟨i, d, gr, hd, hg, hb⟩)
  ·exact m.isz b h
  ·obtain ⟨T, es, hoi, _⟩ := hz i d hd
   exact (m.own i _ gr b hoi rfl hg hb).2.1
 ·rintro b (h | ⟨i, d, gr, hd, hg, hb⟩)
  ·exact m.inew b h
  ·obtain ⟨T, es, hoi, _⟩ := hz i d hd
   rcases (m.own i _ gr b hoi rfl hg hb).2.2 with h | h
   ·exact .inr (.inr (.inr h))
   ·exact .inr (.inr (.inl h))
 ·intro j T es hj hba h
  unfold frzObs at h
  cases e : lookD z j with
  | some d => simp [e] at h
  | none =>
   simp only [e] at h
   obtain ⟨oj, h1, h2⟩ := Option.map_eq_some_iff.1 h
   cases oj <;> simp [frzO] at h2
   obtain ⟨rfl, rfl⟩ := h2
   exact m.barr j _ _ hj hba h1
 ·obtain ⟨k, Ft, h1, h2, h3, h4⟩ := m.env
  refine ⟨k, Ft, h1.st (fun _ _ _ => rfl) (fun _ _ => rfl) (fun _ h => .inl h) (fun b hf hb => ?_) ?_ rfl rfl rfl (Nat.le_refl _), h2, fun j' oj gj b hj hlj hgj hbj hf => ?_, fun j k' h => ?_⟩
  ·rcases hb with hb | ⟨i, d, gr, hd, hg, hb⟩
   ·exact hb
   ·obtain ⟨T, es, hoi, _⟩ := hz i d hd
    exact absurd hf (h3 i _ gr b hoi rfl hg hb)
  ·rintro b (h | ⟨i, d, gr, hd, hg, hb⟩)
   ·exact m.isz b h
   ·obtain ⟨T, es, hoi, _⟩ := hz i d hd
    exact (m.own i _ gr b hoi rfl hg hb).2.1
  ·obtain ⟨oj', h4, _, h5, _⟩ := keep j' oj hj hlj
   exact h3 j' oj' gj b h4 h5 hgj hbj hf
  ·refine h4 j k' ?_
   unfold frzObs at h
   cases e : lookD z j with
   | some d => simp [e] at h
   | none =>
    simp only [e] at h
    obtain ⟨oj, h1, h2⟩ := Option.map_eq_some_iff.1 h
    cases oj <;> simp [frzO] at h2
    rw [← h2]; exact h1
def killObs (o : Nat → Option Ob) (z : List (Nat × D)) : Nat → Option Ob := fun i =>
 match lookD z i with
 | some _ => some .dead
 | none => o i
theorem Mod.kill (m : Mod tb X g o a w G I) {z : List (Nat × D)} (hz : FrzOK o z) :
  Mod tb X g (killObs o z) a w G (frzI G I z) := by
 have keep : ∀ j oj, killObs o z j = some oj → oj.live = true → ∃ oj', o j = some oj' ∧ oj = oj' ∧ oj'.live = true ∧ lookD z j = none := by
  intro j oj hj hl
  unfold killObs at hj
  cases e : lookD z j with
  | some d => simp only [e, Option.some.injEq] at hj; subst hj; simp [Ob.live] at hl
  | none =>
   simp only [e] at hj
   exact ⟨oj, hj, rfl, hl, rfl⟩
 refine { m with slots := fun t => RepA.mono (fun _ _ h => h) (fun _ h => .inl h) (fun _ _ => rfl) _ _ (m.slots t), objs := ?_, dom := ?_, sep := ?_, own := ?_, isz := ?_, i0 := fun b hb => .inl (m.i0 b hb), inew := ?_, barr := ?_, env := ?_ }
 ·intro j oj hj
  unfold killObs at hj
  cases e : lookD z j with
  | some d => simp only [e, Option.some.injEq] at hj; subst hj; trivial
  | none =>
   simp only [e] at hj
   exact ObOK.mono (fun _ _ h => h) (fun _ h => .inl h) (fun _ _ => rfl) (fun _ _ _ _ _ => rfl) (m.objs j oj hj)
 ·intro j x hx
  unfold killObs
  cases e : lookD z j with
  | some d => rfl
  | none => simpa using m.dom j x hx
 ·intro j k oj ok gj gk b hj hk hlj hlk
  obtain ⟨oj', h1, _, h2, _⟩ := keep j oj hj hlj
  obtain ⟨ok', h3, _, h4, _⟩ := keep k ok hk hlk
  exact m.sep j k oj' ok' gj gk b h1 h3 h2 h4
 ·intro j oj gj b hj hlj hgj hbj
  obtain ⟨oj', h1, _, h2, h5⟩ := keep j oj hj hlj
  obtain ⟨h6, h7, h8⟩ := m.own j oj' gj b h1 h2 hgj hbj
  refine ⟨fun h => ?_, h7, h8⟩
  rcases h with h | ⟨i, d, gr, hd, hg, hb⟩
  ·exact h6 h
  ·obtain ⟨T, es, hoi, _⟩ := hz i d hd
   have := m.sep i j _ oj' gr gj b hoi h1 rfl h2 hg hgj hb hbj
   subst this
   rw [h5] at hd; cases hd
 ·rintro b (h | ⟨i, d, gr, hd, hg, hb⟩)
  ·exact m.isz b h
  ·obtain ⟨T, es, hoi, _⟩ := hz i d hd
   exact (m.own i _ gr b hoi rfl hg hb).2.1
 ·rintro b (h | ⟨i, d, gr, hd, hg, hb⟩)
  ·exact m.inew b h
  ·obtain ⟨T, es, hoi, _⟩ := hz i d hd
   rcases (m.own i _ gr b hoi rfl hg hb).2.2 with h | h
   ·exact .inr (.inr (.inr h))
   ·exact .inr (.inr (.inl h))
 ·intro j T es hj hba h
  unfold killObs at h
  cases e : lookD z j with
  | some d => simp [e] at h
  | none =>
   simp only [e] at h
   exact m.barr j _ _ hj hba h
 ·obtain ⟨k, Ft, h1, h2, h3, h4⟩ := m.env
  refine ⟨k, Ft, h1.st (fun _ _ _ => rfl) (fun _ _ => rfl) (fun _ h => .inl h) (fun b hf hb => ?_) ?_ rfl rfl rfl (Nat.le_refl _), h2, fun j' oj gj b hj hlj hgj hbj hf => ?_, fun j k' h => ?_⟩
  ·rcases hb with hb | ⟨i, d, gr, hd, hg, hb⟩
   ·exact hb
   ·obtain ⟨T, es, hoi, _⟩ := hz i d hd
    exact absurd hf (h3 i _ gr b hoi rfl hg hb)
  ·rintro b (h | ⟨i, d, gr, hd, hg, hb⟩)
   ·exact m.isz b h
   ·obtain ⟨T, es, hoi, _⟩ := hz i d hd
    exact (m.own i _ gr b hoi rfl hg hb).2.1
  ·obtain ⟨oj', h4, _, h5, _⟩ := keep j' oj hj hlj
   exact h3 j' oj' gj b h4 h5 hgj hbj hf
  ·refine h4 j k' ?_
   unfold killObs at h
   cases e : lookD z j with
   | some d => simp [e] at h
   | none =>
    simp only [e] at h
    exact h
end
end Go.Ev


namespace Go.Ev
structure Wide (F : Fence) : Prop where
 fn : ∀ f, F.fn f
 depth : F.depth = none
 alive : F.alive = false
theorem Wide.room {F : Fence} (hF : Wide F) (k : Nat) : F.room k := fun d hd => by rw [hF.depth] at hd; cases hd
theorem Wide.fenced {F : Fence} (hF : Wide F) (P : Program) (m : Machine) : m.fenced P F := by
 intro g _
 refine ⟨fun h => ?_, .inl (hF.fn _), fun f _ => hF.fn f, hF.room _⟩
 rw [hF.alive] at h; cases h
theorem Wide.calls {F : Fence} (hF : Wide F) {n : Nat} {P : Program} {f : FuncId} {args : Array Value} {w : World} {R : Ending → World → Prop} : CallsIn F n P f args w R ↔ Calls P f args w R := by
 constructor
 ·exact fun h => h.calls hF.room
 ·intro h
  refine ⟨hF.fn f, fun cs _ => ?_⟩
  obtain ⟨e, w', fr, r, s, x⟩ := h cs
  refine ⟨e, w', fr, r, ?_, x⟩
  cases e with
  | returned v => exact StepsIn.mono (fun m _ => hF.fenced P m) (StepsIn.of_steps s)
  | panicked c => exact StepsIn.mono (fun m _ => hF.fenced P m) (StepsIn.of_steps s)
  | outgrown => exact s
section
variable {P : Program} {F : Fence} {n : Nat} {o : Oper} {a : Act} {w w' : World} {next : Act → World → Prop} {Q : Exit → Act → World → Prop}
theorem wpIn_value (hF : Wide F) (hd : ∀ c, o.op ≠ .defer c) {v : Value} (h : (execOp a.eval o).run P w = .ok (.value v) w') (hK : next (a.put o.dst v) w') : o.wpIn F n P a w next Q :=
 ⟨fun _ _ => hF.fn _, by rw [Oper.semAt_eq _ _ _ hd, h]; exact hK⟩
theorem wpIn_unit (hF : Wide F) (hd : ∀ c, o.op ≠ .defer c) (h : (execOp a.eval o).run P w = .ok .skip w') (hK : next (a.put o.dst undef) w') : o.wpIn F n P a w next Q :=
 ⟨fun _ _ => hF.fn _, by rw [Oper.semAt_eq _ _ _ hd, h]; exact hK⟩
theorem wpIn_enter (hF : Wide F) (hd : ∀ c, o.op ≠ .defer c) {f : FuncId} {args : Array Value} (h : (execOp a.eval o).run P w = .ok (.enter f args) w') {R : Value → World → Prop}
  (hc : Calls P f args w' fun e w'' => ∃ v, e = .returned v ∧ R v w'') (hK : ∀ v w'', R v w'' → next (a.put o.dst v) w'') : o.wpIn F n P a w next Q := by
 refine ⟨fun _ _ => hF.fn _, ?_⟩
 rw [Oper.semAt_eq _ _ _ hd, h, Oper.uponIn_enter]
 refine ⟨fun h => by rw [hF.depth] at h; (cases h), hF.calls.2 (hc.mono fun e w'' he => ?_)⟩
 obtain ⟨v, rfl, hr⟩ := he
 exact hK v w'' hr
theorem wpIn_enterP (hF : Wide F) (hd : ∀ c, o.op ≠ .defer c) {f : FuncId} {args : Array Value} (h : (execOp a.eval o).run P w = .ok (.enter f args) w') {ch : List PanicEntry} {R : World → Prop}
  (hc : Calls P f args w' fun e w'' => e = .panicked ch ∧ R w'') (hK : ∀ w'', R w'' → Q (.panic ch) a w'') : o.wpIn F n P a w next Q := by
 refine ⟨fun _ _ => hF.fn _, ?_⟩
 rw [Oper.semAt_eq _ _ _ hd, h, Oper.uponIn_enter]
 refine ⟨fun h => by rw [hF.depth] at h; (cases h), hF.calls.2 (hc.mono fun e w'' he => ?_)⟩
 obtain ⟨rfl, hr⟩ := he
 exact hK w'' hr
end
section
variable {tb : TB} {X : Ctx} {P : Program} {g : Nat → A} {o : Nat → Option Ob} {a : Act} {w : World} {G : Nat → Option GR} {I : Nat → Prop}
theorem Mod.eval (m : Mod tb X g o a w G I) (x : Operand) : RepA G I w.heap (opA g x) (a.eval x) := by
 cases x with
 | tmp t => exact m.slots t
 | const v => simp only [opA, Act.eval]; rw [RepA, RepD]
 | global k => simp only [opA]; rw [RepA]; trivial
 | func f =>
  simp only [opA, Act.eval]; rw [RepA, RepD]
  exact ⟨#[], #[], rfl, RepL.nil, RepL.nil⟩
theorem run_und {t : TypeId} {d : TypeDesc} (h : P.underlying t = some d) : (underlying t).run P w = .ok d w := run_underlying h w
theorem run_info {t : TypeId} {i : TypeInfo} (h : P.info? t = some i) : (typeInfo t).run P w = .ok i w := by simp [typeInfo, h]
theorem run_sizeOf {t : TypeId} {i : TypeInfo} (h : P.info? t = some i) : (sizeOf t).run P w = .ok i.size w := by simp [sizeOf, run_info h]
theorem run_zero {t : TypeId} {i : TypeInfo} {z : Value} (h : P.info? t = some i) (hz : i.zero = some z) : (zeroValue t).run P w = .ok z w := by simp [zeroValue, run_info h, hz]
theorem TyOK.size {t : TypeId} {y : Ty} (h : TyOK P t y) : (sizeOf t).run P w = .ok y.size w := by
 obtain ⟨i, z, h1, h2, _⟩ := h.info
 rw [run_sizeOf h1, h2]
theorem TyOK.isAgg {t : TypeId} {y : Ty} (h : TyOK P t y) : (isAgg t).run P w = .ok y.k.agg w := by
 have hk := h.kind
 cases hy : y.k <;> rw [hy] at hk <;> simp only [TKOK] at hk
 case struct fs => obtain ⟨fields, h1, _⟩ := hk; simp [Go.isAgg, run_und h1, TK.agg]
 case other =>
  obtain ⟨d, h1, h2, h3⟩ := hk
  cases d <;> first | (simp [Go.isAgg, run_und h1, TK.agg]; done) | exact absurd rfl (h2 _) | exact absurd rfl (h3 _ _)
 all_goals simp [Go.isAgg, run_und hk, TK.agg]
theorem cell_at {b off : Nat} {c : Array Value} {T : TypeId} {fr : Nat × Nat} (h : w.heap[b]? = some (.cells c T fr)) : w.cell? ⟨b, off, none⟩ = c[off]? := by simp [World.cell?, h]
theorem addr_add (b off j : Nat) : (⟨b, off, none⟩ : Addr).add j = ⟨b, off + j, none⟩ := by
 unfold Addr.add
 split
 ·subst_vars; rfl
 ·rfl
theorem run_loadVar {t : TypeId} {y : Ty} (h : TyOK P t y) {b off : Nat} {c : Array Value} {T : TypeId} {fr : Nat × Nat} (hc : w.heap[b]? = some (.cells c T fr)) {vs : List Value} (hv : (c.toList.drop off).take y.size = vs) (hl : vs.length = y.size) :
  (loadVar t ⟨b, off, none⟩).run P w = .ok (if y.k.agg then .agg vs.toArray else vs.getD 0 undef) w := by
 have hget : ∀ j v, vs[j]? = some v → w.cell? ((⟨b, off, none⟩ : Addr).add j) = some v := by
  intro j v hj
  rw [addr_add, cell_at hc]
  rw [← hv, List.getElem?_take] at hj
  split at hj
  ·simpa using hj
  ·cases hj
 unfold loadVar
 rw [Sem.run_bind, h.isAgg, Result.andThen_ok]
 cases ha : y.k.agg with
 | true =>
  have hcells := run_loadCells_list (P := P) w _ vs hget
  rw [hl] at hcells
  simp [h.size, hcells]
 | false =>
  have h1 := h.scal ha
  rw [h1] at hl
  match vs, hl with
  | [v], _ =>
   have := hget 0 v rfl
   simp only [Addr.add, if_true] at this
   simp [this]
theorem run_storeVar {t : TypeId} {y : Ty} (h : TyOK P t y) {b off : Nat} {c : Array Value} {T : TypeId} (hc : w.heap[b]? = some (.cells c T (0, 0))) {v : Value} (hl : v.cells.toList.length = y.size) (hfit : off + y.size ≤ c.size)
  (ho : ∀ u ∈ v.cells.toList, u.oneCell' = true) :
  (storeVar t ⟨b, off, none⟩ v).run P w = .ok () (w.setRow b (c.toList.take off ++ v.cells.toList ++ c.toList.drop (off + v.cells.toList.length)).toArray) := by
 have := run_storeCells_at P b off T v.cells.toList 0 c w hc (by omega) ho
 unfold storeVar
 have hl' : v.cells.size = y.size := by simpa using hl
 rw [Sem.run_bind, h.size, Result.andThen_ok, if_neg (by omega)]
 simpa using this
theorem RepAL.eq_of_one {G : Nat → Option GR} {h : Array Obj} : ∀ {cs : List A} {vs : List Value}, RepAL G I h cs vs → cs.all A.one = true → ∀ v ∈ vs, v.oneCell' = true
 | [], _, r, _, v, hv => by rw [RepAL] at r; subst r; simp at hv
 | x :: cs, vs, r, ho, v, hv => by
  obtain ⟨u, q, rfl, r1, r2⟩ := r.uncons
  simp only [List.all_cons, Bool.and_eq_true] at ho
  rcases List.mem_cons.1 hv with rfl | hv
  ·exact r1.one ho.1
  ·exact RepAL.eq_of_one r2 ho.2 v hv
end
end Go.Ev


namespace Go.Ev
def trivE : Env := ⟨.nilFunc, fun _ Ft _ _ => ∀ b, ¬ Ft b, fun _ _ _ _ _ _ h _ _ _ _ _ _ _ _ _ => h, []⟩
theorem trivM (m0 : Nat) (k : Nat) (I : Nat → Prop) (w : World) : MarksP m0 trivE [] k (fun _ => False) I w := ⟨[], fun _ => False, rfl, List.nodup_nil, fun r hr => (nomatch hr), fun b => by simp, fun b h => h⟩
def preBa (pre : List Ob) (i : Nat) : Bool :=
 match pre[i]? with
 | some (.arr _ _) => true
 | _ => false
def Ctx.call (w : World) (I : Nat → Prop) (pre : List Ob) (G : Nat → Option GR) (nt : Nat) : Ctx := ⟨w, I, pre.length, preBa pre, G, nt, trivE, fun _ => False, fun b => ∃ i gr, i < pre.length ∧ G i = some gr ∧ gr.blk = some b, false⟩
def baD (pre : List Ob) (post : List (Nat × Ob)) (i : Nat) : Bool := preBa pre i && !deadIn post i
def Ctx.callD (w : World) (I : Nat → Prop) (pre : List Ob) (post : List (Nat × Ob)) (G : Nat → Option GR) (nt : Nat) : Ctx := ⟨w, I, pre.length, baD pre post, G, nt, trivE, fun _ => False, fun b => ∃ i gr, i < pre.length ∧ G i = some gr ∧ gr.blk = some b, false⟩
def noDead (post : List (Nat × Ob)) : Nat → List Ob → Bool
 | _, [] => true
 | k, .arr _ _ :: r => !deadIn post k && noDead post (k + 1) r
 | k, _ :: r => noDead post (k + 1) r
theorem noDead_spec {post : List (Nat × Ob)} : ∀ (pre : List Ob) (k : Nat), noDead post k pre = true → ∀ i, preBa pre i = true → deadIn post (k + i) = false
 | [], _, _, i, h => by simp [preBa] at h
 | x :: r, k, h, 0, hb => by
  cases x <;> simp [preBa] at hb
  simp only [noDead, Bool.and_eq_true, Bool.not_eq_true'] at h
  exact h.1
 | x :: r, k, h, i + 1, hb => by
  have hr : noDead post (k + 1) r = true := by cases x <;> simp only [noDead, Bool.and_eq_true] at h <;> first | exact h | exact h.2
  have := noDead_spec r (k + 1) hr i (by simpa [preBa] using hb)
  rwa [show k + 1 + i = k + (i + 1) by omega] at this
theorem Ctx.callD_eq {w : World} {I : Nat → Prop} {pre : List Ob} {post : List (Nat × Ob)} {G : Nat → Option GR} {nt : Nat} (h : noDead post 0 pre = true) : Ctx.callD w I pre post G nt = Ctx.call w I pre G nt := by
 have : baD pre post = preBa pre := by
  funext i
  unfold baD
  cases e : preBa pre i with
  | false => rfl
  | true => have := noDead_spec pre 0 h i e; rw [Nat.zero_add] at this; rw [this]; rfl
 unfold Ctx.callD Ctx.call
 rw [this]
abbrev noG : Nat → A := fun _ => .unk
abbrev noAct : Act := { tmps := #[], defers := [] }
theorem idx_spec : ∀ {ρ : List Nat} {i k n : Nat}, idx ρ i n = some k → ∃ q, k = n + q ∧ ρ[q]? = some i
 | [], _, _, _, h => by simp [idx] at h
 | j :: r, i, k, n, h => by
  rw [idx] at h
  cases e : Nat.beq j i with
  | true => rw [e] at h; simp only [cond_true, Option.some.injEq] at h; exact ⟨0, by omega, by rw [← Nat.eq_of_beq_eq_true e]; rfl⟩
  | false =>
   rw [e] at h
   obtain ⟨q, h1, h2⟩ := idx_spec (by simpa using h)
   exact ⟨q + 1, by omega, by simpa using h2⟩
theorem nodupB_spec : ∀ {ρ : List Nat}, nodupB ρ = true → ∀ {i k j : Nat}, ρ[i]? = some j → ρ[k]? = some j → i = k
 | [], _, i, k, j, h, _ => by simp at h
 | x :: r, hn, i, k, j, h1, h2 => by
  rw [nodupB, Bool.and_eq_true, Bool.not_eq_true'] at hn
  have hx : ∀ {q}, r[q]? = some x → False := fun {q} hq => by
   have := List.any_eq_false.1 hn.1 x (List.mem_of_getElem? hq)
   simp at this
  cases i with
  | zero =>
   cases k with
   | zero => rfl
   | succ k => simp at h1 h2; subst h1; exact (hx h2).elim
  | succ i =>
   cases k with
   | zero => simp at h1 h2; subst h2; exact (hx h1).elim
   | succ k => simp at h1 h2; rw [nodupB_spec hn.2 h1 h2]
section
variable {tb : TB} {X : Ctx} {g : Nat → A} {o : Nat → Option Ob} {a : Act} {w : World} {G : Nat → Option GR} {I : Nat → Prop} {h : Array Obj} {ρ : List Nat}
def subG (ρ : List Nat) (G : Nat → Option GR) : Nat → Option GR := fun i => (ρ[i]?).bind G
mutual
theorem RepA.inv : ∀ (x : A) (v : Value), RepA G I h x v → RepA (subG ρ G) I h (invA ρ x) v
 | .d x, v, r => by rw [RepA] at r; rw [invA, RepA]; exact r
 | .ref j off, v, r => by
  rw [RepA] at r
  rw [invA]
  cases e : idx ρ j 0 with
  | none => simp only; rw [RepA]; trivial
  | some k =>
   obtain ⟨q, rfl, hq⟩ := idx_spec e
   simp only; rw [RepA]
   simpa [subG, hq] using r
 | .own j, v, r => by
  rw [RepA] at r
  rw [invA]
  cases e : idx ρ j 0 with
  | none => simp only; rw [RepA]; trivial
  | some k =>
   obtain ⟨q, rfl, hq⟩ := idx_spec e
   simp only; rw [RepA]
   simpa [subG, hq] using r
 | .eref j k sz off, v, r => by rw [invA, RepA]; trivial
 | .pre j hi, v, r => by rw [invA, RepA]; trivial
 | .sub j ysz off sz n, v, r => by rw [invA, RepA]; trivial
 | .fn f c d, v, r => by
  rw [RepA] at r
  obtain ⟨x, y, r1, r2, r3⟩ := r
  rw [invA, RepA]
  exact ⟨x, y, r1, RepAL.inv _ _ r2, RepAL.inv _ _ r3⟩
 | .agg c, v, r => by
  rw [RepA] at r
  obtain ⟨x, r1, r2⟩ := r
  rw [invA, RepA]
  exact ⟨x, r1, RepAL.inv _ _ r2⟩
 | .tup c, v, r => by
  rw [RepA] at r
  obtain ⟨x, r1, r2⟩ := r
  rw [invA, RepA]
  exact ⟨x, r1, RepAL.inv _ _ r2⟩
 | .lst c, v, r => by
  rw [RepA] at r
  obtain ⟨b, q, T, fr, r1, r2, r3, r4⟩ := r
  have r5 := RepAL.inv _ _ r4
  rw [invA, RepA]
  exact ⟨b, q, T, fr, by rw [← RepAL.length r5, RepAL.length r4]; exact r1, r2, r3, r5⟩
 | .lptr x, v, r => by
  rw [RepA] at r
  obtain ⟨b, off, q, T, fr, u, r1, r2, r3, r4, r5⟩ := r
  rw [invA, RepA]
  exact ⟨b, off, q, T, fr, u, r1, r2, r3, r4, RepA.inv _ _ r5⟩
 | .unk, v, r => by rw [invA, RepA]; trivial
theorem RepAL.inv : ∀ (x : List A) (v : List Value), RepAL G I h x v → RepAL (subG ρ G) I h (invAL ρ x) v
 | [], v, r => by rw [RepAL] at r; rw [invAL, RepAL]; exact r
 | x :: l, v, r => by
  obtain ⟨u, q, rfl, r1, r2⟩ := r.uncons
  rw [invAL]
  exact RepAL.cons (RepA.inv _ _ r1) (RepAL.inv _ _ r2)
end
variable {G' G2 : Nat → Option GR} {nid : Nat}
mutual
theorem RepA.out (hG : ∀ i gr, G' i = some gr → G2 (outI ρ nid i) = some gr) : ∀ (x : A) (v : Value), RepA G' I h x v → RepA G2 I h (outA ρ nid x) v
 | .d x, v, r => by rw [RepA] at r; rw [outA, RepA]; exact r
 | .ref j off, v, r => by
  rw [RepA] at r
  rw [outA, RepA]
  obtain ⟨b, r1, r2⟩ := r
  exact ⟨b, hG _ _ r1, r2⟩
 | .own j, v, r => by
  rw [RepA] at r
  rw [outA, RepA]
  obtain ⟨⟨b, r1, r2⟩, r3⟩ := r
  exact ⟨⟨b, hG _ _ r1, r2⟩, r3⟩
 | .eref j k sz off, v, r => by
  rw [RepA] at r
  rw [outA, RepA]
  obtain ⟨b, z, len, cap, r1, r2⟩ := r
  exact ⟨b, z, len, cap, hG _ _ r1, r2⟩
 | .pre j hi, v, r => by
  rw [RepA] at r
  rw [outA, RepA]
  obtain ⟨gr, a, len, cap, r1, r2⟩ := r
  exact ⟨gr, a, len, cap, hG _ _ r1, r2⟩
 | .sub j ysz off sz n, v, r => by
  rw [RepA] at r
  rw [outA, RepA]
  obtain ⟨a, cp, r1, r2, r3⟩ := r
  exact ⟨a, cp, r1, r2, r3.imp id fun r3 => r3.imp (fun ⟨b, z, len, cap, q1, q2⟩ => ⟨b, z, len, cap, hG _ _ q1, q2⟩) fun ⟨b, q0, q1, q2⟩ => ⟨b, q0, hG _ _ q1, q2⟩⟩
 | .fn f c d, v, r => by
  rw [RepA] at r
  obtain ⟨x, y, r1, r2, r3⟩ := r
  rw [outA, RepA]
  exact ⟨x, y, r1, RepAL.out hG _ _ r2, RepAL.out hG _ _ r3⟩
 | .agg c, v, r => by
  rw [RepA] at r
  obtain ⟨x, r1, r2⟩ := r
  rw [outA, RepA]
  exact ⟨x, r1, RepAL.out hG _ _ r2⟩
 | .tup c, v, r => by
  rw [RepA] at r
  obtain ⟨x, r1, r2⟩ := r
  rw [outA, RepA]
  exact ⟨x, r1, RepAL.out hG _ _ r2⟩
 | .lst c, v, r => by
  rw [RepA] at r
  obtain ⟨b, q, T, fr, r1, r2, r3, r4⟩ := r
  have r5 := RepAL.out hG _ _ r4
  rw [outA, RepA]
  exact ⟨b, q, T, fr, by rw [← RepAL.length r5, RepAL.length r4]; exact r1, r2, r3, r5⟩
 | .lptr x, v, r => by
  rw [RepA] at r
  obtain ⟨b, off, q, T, fr, u, r1, r2, r3, r4, r5⟩ := r
  rw [outA, RepA]
  exact ⟨b, off, q, T, fr, u, r1, r2, r3, r4, RepA.out hG _ _ r5⟩
 | .unk, v, r => by rw [outA, RepA]; trivial
theorem RepAL.out (hG : ∀ i gr, G' i = some gr → G2 (outI ρ nid i) = some gr) : ∀ (x : List A) (v : List Value), RepAL G' I h x v → RepAL G2 I h (outAL ρ nid x) v
 | [], v, r => by rw [RepAL] at r; rw [outAL, RepAL]; exact r
 | x :: l, v, r => by
  obtain ⟨u, q, rfl, r1, r2⟩ := r.uncons
  rw [outAL]
  exact RepAL.cons (RepA.out hG _ _ r1) (RepAL.out hG _ _ r2)
end
theorem ObOK.out (hG : ∀ i gr, G' i = some gr → G2 (outI ρ nid i) = some gr) {i : Nat} {ob : Ob} (r : ObOK tb G' I h i ob) : ObOK tb G2 I h (outI ρ nid i) (outO ρ nid ob) := by
 cases ob with
 | var b T cs => obtain ⟨b, c, r1, r2, r3, r4⟩ := r; exact ⟨b, c, hG _ _ r1, r2, RepAL.out hG _ _ r3, r4⟩
 | arr T es =>
  obtain ⟨y, hy, r⟩ := r
  refine ⟨y, hy, r.imp (fun ⟨r1, r2⟩ => ⟨r1, hG _ _ r2⟩) ?_⟩
  rintro ⟨b, z, cap, c, r1, r2⟩
  exact ⟨b, z, cap, c, hG _ _ r1, r2⟩
 | map k e es => obtain ⟨b, ents, clock, r1, r2⟩ := r; exact ⟨b, ents, clock, hG _ _ r1, r2⟩
 | ro T cs => obtain ⟨b, c, r1, r0, r2, r3, r4⟩ := r; exact ⟨b, c, hG _ _ r1, r0, r2, RepAL.out hG _ _ r3, r4⟩
 | env k => trivial
 | dead => trivial
 | arw T cs =>
  obtain ⟨us, r0, y, hy, r⟩ := r
  refine ⟨us, RepAL.out hG _ _ r0, y, hy, r.imp (fun ⟨r1, r2⟩ => ⟨r1, hG _ _ r2⟩) ?_⟩
  rintro ⟨b, z, cap, c, r1, r2⟩
  exact ⟨b, z, cap, c, hG _ _ r1, r2⟩
 | iter m q seen => obtain ⟨b, bm, sn, r1, r2, r3, r4⟩ := r; exact ⟨b, bm, sn, hG _ _ r1, r2, hG _ _ r3, r4⟩
 | pan v => exact r.elim
theorem ObOK.invO (r : ∀ i ob, o i = some ob → ObOK tb G I h i ob) {i j : Nat} (hj : ρ[i]? = some j) : ObOK tb (subG ρ G) I h i (invO ρ (o j)) := by
 have hg : subG ρ G i = G j := by simp [subG, hj]
 cases e : o j with
 | none => trivial
 | some ob =>
  have r := r j ob e
  cases ob with
  | var b T cs => obtain ⟨b, c, r1, r2, r3, r4⟩ := r; exact ⟨b, c, by rw [hg]; exact r1, r2, RepAL.inv _ _ r3, r4⟩
  | arr T es => obtain ⟨y, hy, r⟩ := r; exact ⟨y, hy, by rw [hg]; exact r⟩
  | map k e es => obtain ⟨b, ents, clock, r1, r2⟩ := r; exact ⟨b, ents, clock, by rw [hg]; exact r1, r2⟩
  | ro T cs => obtain ⟨b, c, r1, r0, r2, r3, r4⟩ := r; exact ⟨b, c, by rw [hg]; exact r1, r0, r2, RepAL.inv _ _ r3, r4⟩
  | env k => trivial
  | dead => trivial
  | arw T cs => obtain ⟨us, r0, y, hy, r⟩ := r; exact ⟨us, RepAL.inv _ _ r0, y, hy, by rw [hg]; exact r⟩
  | iter m q seen =>
   obtain ⟨b, bm, sn, r1, r2, r3, r4⟩ := r
   simp only [Ev.invO]
   cases e2 : idx ρ m 0 with
   | none => trivial
   | some k =>
    obtain ⟨p, rfl, hp⟩ := idx_spec e2
    exact ⟨b, bm, sn, by rw [hg]; exact r1, r2, by simpa [subG, hp] using r3, r4⟩
  | pan v => exact r.elim
theorem Mod.lend (m : Mod tb X g o a w G I) {pre : List Ob} (hl : pre.length = ρ.length) (hnd : nodupB ρ = true) (hs : ∀ ob ∈ pre, ob.sure = true)
  (hob : ∀ i ob j, pre[i]? = some ob → ρ[i]? = some j → ObOK tb (subG ρ G) I w.heap i ob ∧ (ob.live = true → ∃ oj, o j = some oj ∧ oj.live = true)) :
  Mod tb (Ctx.call w I pre (subG ρ G) 0) noG (fun i => pre[i]?) noAct w (subG ρ G) I := by
 have hρ : ∀ i ob, pre[i]? = some ob → ∃ j, ρ[i]? = some j := fun i ob hi => by
  have : i < ρ.length := by rw [← hl]; exact (List.getElem?_eq_some_iff.1 hi).1
  exact ⟨_, List.getElem?_eq_getElem this⟩
 have hG : ∀ i j, ρ[i]? = some j → subG ρ G i = G j := fun i j hj => by simp [subG, hj]
 refine ⟨rfl, fun t => by rw [RepA]; trivial, fun i ob hi => ?_, fun i gr hi => ?_, ?_, ?_, fun _ _ _ => rfl, m.isz, fun _ h => h, fun _ h => .inl h, fun _ _ _ => rfl, rfl, rfl, rfl, Nat.le_refl _, ?_, ?_, fun _ => rfl⟩
 ·obtain ⟨j, hj⟩ := hρ i ob hi
  exact (hob i ob j hi hj).1
 ·cases e : ρ[i]? with
  | none => simp [subG, e] at hi
  | some j =>
   have : i < pre.length := by rw [hl]; exact (List.getElem?_eq_some_iff.1 e).1
   show (pre[i]?).isSome = true
   rw [List.getElem?_eq_getElem this]; rfl
 ·intro i k oi ok gi gk b h1 h2 h3 h4 h5 h6 h7 h8
  obtain ⟨j, hj⟩ := hρ i oi h1
  obtain ⟨j', hj'⟩ := hρ k ok h2
  obtain ⟨oj, q1, q2⟩ := (hob i oi j h1 hj).2 h3
  obtain ⟨oj', q3, q4⟩ := (hob k ok j' h2 hj').2 h4
  rw [hG i j hj] at h5
  rw [hG k j' hj'] at h6
  have := m.sep j j' oj oj' gi gk b q1 q3 q2 q4 h5 h6 h7 h8
  subst this
  exact nodupB_spec hnd hj hj'
 ·intro i oi gi b h1 h2 h3 h4
  obtain ⟨j, hj⟩ := hρ i oi h1
  obtain ⟨oj, q1, q2⟩ := (hob i oi j h1 hj).2 h2
  have h3' := h3
  rw [hG i j hj] at h3
  obtain ⟨p1, p2, p3⟩ := m.own j oj gi b q1 q2 h3 h4
  exact ⟨p1, p2, .inr ⟨i, gi, (List.getElem?_eq_some_iff.1 h1).1, h3', h4⟩⟩
 ·intro i T es _ hba hi
  have hi : pre[i]? = some (.arr T es) := hi
  have hba : preBa pre i = false := hba
  simp [preBa, hi] at hba
 ·refine ⟨0, fun _ => False, trivM _ _ _ _, fun b hf => hf.elim, fun _ _ _ _ _ _ _ _ hf => hf, fun i k hi => ?_⟩
  have := hs _ (List.mem_of_getElem? hi)
  simp [Ob.sure] at this
theorem lookO_mem {ob : List (Nat × Ob)} {i : Nat} {z : Ob} (h : lookO ob i = some z) : (i, z) ∈ ob := by
 induction ob with
 | nil => cases h
 | cons q ob ih =>
  obtain ⟨j, x⟩ := q
  rw [lookO] at h
  cases e : Nat.beq j i with
  | true => rw [e] at h; simp only [cond_true, Option.some.injEq] at h; rw [h, Nat.eq_of_beq_eq_true e]; simp
  | false => rw [e] at h; exact List.mem_cons_of_mem _ (ih h)
theorem lookS_of {f : Nat → Nat} {q : Ob → Ob} {j : Nat} {x : Ob} : ∀ {post : List (Nat × Ob)}, lookO (post.map fun p => (f p.1, q p.2)) j = some x → ∃ i ob, lookO post i = some ob ∧ f i = j ∧ x = q ob
 | [], h => (nomatch h)
 | (i', ob') :: post, h => by
  simp only [List.map_cons, lookO] at h
  cases e : Nat.beq (f i') j with
  | true => rw [e] at h; simp only [cond_true, Option.some.injEq] at h; exact ⟨i', ob', by simp [lookO], Nat.eq_of_beq_eq_true e, h.symm⟩
  | false =>
   rw [e] at h
   obtain ⟨i2, ob2, r1, r2, r3⟩ := lookS_of h
   refine ⟨i2, ob2, ?_, r2, r3⟩
   rw [lookO]
   have : Nat.beq i' i2 = false := by
    rw [Bool.eq_false_iff]
    intro e2
    rw [Nat.eq_of_beq_eq_true e2, r2] at e
    simp at e
   rw [this]; exact r1
theorem lookI_of {f : Nat → Nat} {q : Ob → Ob} {i : Nat} {ob : Ob} : ∀ {post : List (Nat × Ob)}, lookO post i = some ob → (lookO (post.map fun p => (f p.1, q p.2)) (f i)).isSome = true
 | [], h => (nomatch h)
 | (i', ob') :: post, h => by
  simp only [List.map_cons, lookO] at h ⊢
  cases e : Nat.beq i' i with
  | true => rw [Nat.eq_of_beq_eq_true e]; simp
  | false =>
   rw [e] at h
   cases Nat.beq (f i') (f i) with
   | true => rfl
   | false => exact lookI_of h
theorem idx_of : ∀ {ρ : List Nat} (n : Nat) {i k : Nat}, nodupB ρ = true → ρ[k]? = some i → idx ρ i n = some (n + k)
 | [], n, i, k, _, h => by simp at h
 | j :: r, n, i, k, hn, h => by
  rw [idx]
  cases k with
  | zero => simp at h; subst h; simp
  | succ k =>
   simp only [nodupB, Bool.and_eq_true, Bool.not_eq_true'] at hn
   have hne : Nat.beq j i = false := by
    rw [Bool.eq_false_iff]
    intro e
    have e := Nat.eq_of_beq_eq_true e
    subst e
    have : (r.any fun y => Nat.beq y j) = true := List.any_eq_true.2 ⟨j, List.mem_of_getElem? (by simpa using h), by simp⟩
    rw [hn.1] at this; cases this
   rw [hne, cond_false, idx_of (n + 1) hn.2 (by simpa using h)]
   congr 1; omega
theorem idx_none : ∀ {ρ : List Nat} (n : Nat) {i : Nat}, i ∉ ρ → idx ρ i n = none
 | [], n, i, _ => rfl
 | j :: r, n, i, h => by
  rw [idx]
  have hne : Nat.beq j i = false := by
   rw [Bool.eq_false_iff]
   intro e
   exact h (by simp [Nat.eq_of_beq_eq_true e])
  rw [hne, cond_false]
  exact idx_none (n + 1) fun hh => h (by simp [hh])
theorem lookO_drop (pre : List Ob) : ∀ (post : List (Nat × Ob)) (k : Nat), lookO (dropRo pre post) k = bif roB pre k then none else lookO post k
 | [], k => by cases roB pre k <;> rfl
 | (j, x) :: r, k => by
  rw [dropRo]
  cases h : roB pre j with
  | true =>
   simp only [h, cond_true]
   rw [lookO_drop pre r k, lookO]
   cases e : Nat.beq j k with
   | true => rw [← Nat.eq_of_beq_eq_true e, h]; rfl
   | false => rfl
  | false =>
   simp only [h, cond_false]
   rw [lookO, lookO, lookO_drop pre r k]
   cases e : Nat.beq j k with
   | true => rw [← Nat.eq_of_beq_eq_true e, h]; rfl
   | false => rfl
theorem Mod.rekeep {tb : TB} {X : Ctx} {g : Nat → A} {o o' : Nat → Option Ob} {a : Act} {w : World} {G : Nat → Option GR} {I : Nat → Prop} (m : Mod tb X g o a w G I)
  (h1 : ∀ i x, o' i = some x → o i = some x ∨ (∃ T cs, x = .ro T cs) ∧ ObOK tb G I w.heap i x) (h2 : ∀ i, (o i).isSome = true → (o' i).isSome = true) : Mod tb X g o' a w G I := by
 have hl : ∀ i x, o' i = some x → x.live = true → o i = some x := fun i x hx hl => by
  rcases h1 i x hx with h | ⟨⟨T, cs, rfl⟩, _⟩
  ·exact h
  ·simp [Ob.live] at hl
 exact { m with
  objs := fun i x hx => by
   rcases h1 i x hx with h | ⟨_, h⟩
   ·exact m.objs i x h
   ·exact h
  dom := fun i gr hg => h2 i (m.dom i gr hg)
  sep := fun i j oi oj gi gj b q1 q2 q3 q4 => m.sep i j oi oj gi gj b (hl i oi q1 q3) (hl j oj q2 q4) q3 q4
  own := fun i oi gi b q1 q2 => m.own i oi gi b (hl i oi q1 q2) q2
  barr := fun i T es hi hba hx => by
   rcases h1 i _ hx with h | ⟨⟨T', cs, h⟩, _⟩
   ·exact m.barr i T es hi hba h
   ·cases h
  env := by
   obtain ⟨k, Ft, f1, f2, f3, f4⟩ := m.env
   refine ⟨k, Ft, f1, f2, fun j oj gj b q1 q2 => f3 j oj gj b (hl j oj q1 q2) q2, fun i k' hx => ?_⟩
   rcases h1 i _ hx with h | ⟨⟨T', cs, h⟩, _⟩
   ·exact f4 i k' h
   ·cases h }
theorem Mod.back (m : Mod tb X g o a w G I) {pre : List Ob} {post : List (Nat × Ob)} {N : Nat} {js : List Nat} (hl : pre.length = ρ.length) (hnd : nodupB ρ = true) (hs : ∀ ob ∈ pre, ob.sure = true)
  (hob : ∀ i ob j, pre[i]? = some ob → ρ[i]? = some j → ObOK tb (subG ρ G) I w.heap i ob ∧ (ob.live = true → ∃ oj, o j = some oj ∧ oj.live = true))
  (hba : ∀ i j, ρ[i]? = some j → baD pre post i = true → memN js j = true ∧ ∃ T es, o j = some (.arr T es)) (hjs : ∀ j, memN js j = true → j ∈ ρ ∧ ∃ T es, o j = some (.arr T es)) (hcov : ∀ i, i < ρ.length → (lookO post i).isSome = true)
  (hρ : ∀ j ∈ ρ, j < nid) (hN : ρ.length ≤ N) (hpost : ∀ p ∈ post, p.1 < N ∧ p.2.envB = false) (hnb : X.nb ≤ nid) (hfree : ∀ k, k < N - ρ.length → o (nid + k) = none)
  {w' : World} {G' : Nat → Option GR} {I' : Nat → Prop} (m' : Mod tb (Ctx.callD w I pre post (subG ρ G) 0) noG (lookO post) noAct w' G' I') :
  ∃ G2, (∀ i gr, G' i = some gr → G2 (outI ρ nid i) = some gr) ∧
   Mod tb X (fun t => clrA js (g t)) (fun i => match lookO (post.map fun p => (outI ρ nid p.1, outO ρ nid p.2)) i with | some x => some x | none => (o i).map (clrO js)) a w' G2 I' ∧
   ∀ j T cs, o j = some (.ro T cs) → ObOK tb G2 I' w'.heap j (clrO js (.ro T cs)) := by
 have hO1 : ∀ i j, ρ[i]? = some j → outI ρ nid i = j := fun i j hj => by simp [outI, hj]
 have hO2 : ∀ i, ρ.length ≤ i → outI ρ nid i = nid + (i - ρ.length) := fun i hi => by simp [outI, List.getElem?_eq_none hi]
 have hnbl : (Ctx.callD w I pre post (subG ρ G) 0).nb = ρ.length := hl
 have hbor : ∀ i j, ρ[i]? = some j → baD pre post i = false → G' i = G j := fun i j hj hb => by
  have h1 : i < ρ.length := (List.getElem?_eq_some_iff.1 hj).1
  have := m'.bor i (by rw [hnbl]; exact h1) hb
  rw [this]
  show subG ρ G i = G j
  simp [subG, hj]
 have hGN : ∀ i gr, G' i = some gr → i < N := fun i gr hg => by
  have := m'.dom i gr hg
  obtain ⟨z, hz⟩ := Option.isSome_iff_exists.1 this
  exact (hpost _ (lookO_mem hz)).1
 have hGnone : ∀ k, k < N - ρ.length → G (nid + k) = none := fun k hk => by
  cases e : G (nid + k) with
  | none => rfl
  | some x => have := m.dom _ x e; rw [hfree k hk] at this; cases this
 obtain ⟨G2, hG2⟩ : ∃ G2 : Nat → Option GR, G2 = fun i => match idx ρ i 0 with | some k => G' k | none => bif Nat.ble nid i && Nat.blt i (nid + (N - ρ.length)) then G' (ρ.length + (i - nid)) else G i := ⟨_, rfl⟩
 have hin : ∀ i j, ρ[i]? = some j → G2 j = G' i := fun i j hj => by
  rw [hG2]
  have := idx_of 0 hnd hj
  simp only [this, Nat.zero_add]
 have hnew : ∀ i, ρ.length ≤ i → i < N → G2 (outI ρ nid i) = G' i := fun i h1 h2 => by
  rw [hG2, hO2 i h1]
  have e0 : idx ρ (nid + (i - ρ.length)) 0 = none := idx_none 0 fun h => by have := hρ _ h; omega
  have e1 : Nat.ble nid (nid + (i - ρ.length)) = true := by rw [Nat.ble_eq]; omega
  have e2 : Nat.blt (nid + (i - ρ.length)) (nid + (N - ρ.length)) = true := by rw [Nat.blt_eq]; omega
  simp only [e0, e1, e2, Bool.and_true, cond_true]
  congr 1; omega
 have hold : ∀ j, j ∉ ρ → ¬ (nid ≤ j ∧ j < nid + (N - ρ.length)) → G2 j = G j := fun j hj hn => by
  rw [hG2]
  have e0 : idx ρ j 0 = none := idx_none 0 hj
  have e1 : (Nat.ble nid j && Nat.blt j (nid + (N - ρ.length))) = false := by
   rw [Bool.eq_false_iff]
   intro h
   simp only [Bool.and_eq_true, Nat.ble_eq, Nat.blt_eq] at h
   omega
  simp only [e0, e1, cond_false]
 have hG : ∀ i gr, G' i = some gr → G2 (outI ρ nid i) = some gr := by
  intro i gr hg
  cases ei : ρ[i]? with
  | some j => rw [hO1 i j ei, hin i j ei]; exact hg
  | none => rw [hnew i (List.getElem?_eq_none_iff.1 ei) (hGN i gr hg)]; exact hg
 have hGm : ∀ j gr, memN js j = false → G j = some gr → G2 j = some gr := by
  intro j gr hj hg
  by_cases hjρ : j ∈ ρ
  ·obtain ⟨i, hi⟩ := List.mem_iff_getElem?.1 hjρ
   rw [hin i j hi]
   cases hb : baD pre post i with
   | true => have := (hba i j hi hb).1; rw [hj] at this; cases this
   | false => rw [hbor i j hi hb]; exact hg
  ·by_cases hn : nid ≤ j ∧ j < nid + (N - ρ.length)
   ·have := hGnone (j - nid) (by omega)
    rw [show nid + (j - nid) = j by omega, hg] at this; cases this
   ·rw [hold j hjρ hn]; exact hg
 have hG2o : ∀ j gr, G2 j = some gr → (∃ i, outI ρ nid i = j ∧ G' i = some gr) ∨ (G j = some gr ∧ j ∉ ρ) := by
  intro j gr hg
  by_cases hjρ : j ∈ ρ
  ·obtain ⟨i, hi⟩ := List.mem_iff_getElem?.1 hjρ
   exact .inl ⟨i, hO1 i j hi, by rw [← hin i j hi]; exact hg⟩
  ·by_cases hn : nid ≤ j ∧ j < nid + (N - ρ.length)
   ·refine .inl ⟨ρ.length + (j - nid), by rw [hO2 _ (by omega)]; omega, ?_⟩
    rw [← hnew _ (by omega) (by omega), hO2 _ (by omega)]
    rw [show nid + (ρ.length + (j - nid) - ρ.length) = j by omega]; exact hg
   ·rw [hold j hjρ hn] at hg
    exact .inr ⟨hg, hjρ⟩
 have hbk : ∀ (i j : Nat), ρ[i]? = some j → ∀ gr b, G j = some gr → gr.blk = some b → I b ∨ ∃ oj, o j = some oj ∧ oj.live = true := by
  intro i j hj gr b hg hb
  have hi : i < pre.length := by rw [hl]; exact (List.getElem?_eq_some_iff.1 hj).1
  have hp : pre[i]? = some pre[i] := by simp [hi]
  have hsure := hs _ (List.mem_of_getElem? hp)
  obtain ⟨q1, q2⟩ := hob i _ j hp hj
  cases e : pre[i] with
  | var b' T cs => rw [e] at q2; exact .inr (q2 rfl)
  | map k' e' es => rw [e] at q2; exact .inr (q2 rfl)
  | arr T es => rw [e] at q2; exact .inr (q2 rfl)
  | ro T cs =>
   rw [e] at q1
   obtain ⟨b', c, r1, r0, _⟩ := q1
   simp only [subG, hj, Option.bind_some] at r1
   rw [hg] at r1; cases r1; cases hb; exact .inl r0
  | env k => rw [e] at hsure; simp [Ob.sure] at hsure
  | dead => rw [e] at hsure; simp [Ob.sure] at hsure
  | arw T cs => rw [e] at q2; exact .inr (q2 rfl)
  | iter m q seen => rw [e] at hsure; simp [Ob.sure] at hsure
  | pan v => rw [e] at hsure; simp [Ob.sure] at hsure
 have hmine : ∀ b, (Ctx.callD w I pre post (subG ρ G) 0).mine b → ∃ (i j : Nat) (gr : GR), ρ[i]? = some j ∧ G j = some gr ∧ gr.blk = some b := by
  rintro b ⟨i, gr, hi, hg, hb⟩
  have hi : i < ρ.length := by rw [← hl]; exact hi
  have hj : ρ[i]? = some ρ[i] := by simp [hi]
  have hg : subG ρ G i = some gr := hg
  simp only [subG, hj, Option.bind_some] at hg
  exact ⟨i, _, gr, hj, hg, hb⟩
 have hkeep : ∀ b, b < w.heap.size → (I b ∨ ∀ (i j : Nat) gr, ρ[i]? = some j → G j = some gr → gr.blk ≠ some b) → w'.heap[b]? = w.heap[b]? := by
  intro b hb hor
  refine m'.frame b hb ?_
  rcases hor with h | h
  ·exact .inl h
  ·refine .inr ⟨fun h => h, ?_⟩
   intro hm
   obtain ⟨i, j, gr, hj, hg, hb⟩ := hmine b hm
   exact h i j gr hj hg hb
 have hkI : ∀ b, I b → w'.heap[b]? = w.heap[b]? := fun b hb => hkeep b (m.isz b hb) (.inl hb)
 have hkO : ∀ j oj gj b, o j = some oj → oj.live = true → G j = some gj → gj.blk = some b → j ∉ ρ → w'.heap[b]? = w.heap[b]? := by
  intro j oj gj b h1 h2 h3 h4 h5
  obtain ⟨p1, p2, _⟩ := m.own j oj gj b h1 h2 h3 h4
  refine hkeep b p2 (.inr fun i j' gr hj' hg' hb' => ?_)
  rcases hbk i j' hj' gr b hg' hb' with h | ⟨oj', q1, q2⟩
  ·exact p1 h
  ·have := m.sep j j' oj oj' gj gr b h1 q1 h2 q2 h3 hg' h4 hb'
   subst this
   exact h5 (List.mem_of_getElem? hj')
 have hsz : w.heap.size ≤ w'.heap.size := m'.wsz
 have hII : ∀ b, I b → I' b := m'.i0
 have hold2 : ∀ b, ¬ I b → (w.heap.size ≤ b ∨ (Ctx.callD w I pre post (subG ρ G) 0).mine b) → w.heap.size ≤ b ∨ ∃ j0 oj gj, j0 ∈ ρ ∧ o j0 = some oj ∧ oj.live = true ∧ G j0 = some gj ∧ gj.blk = some b := by
  intro b hnI h
  rcases h with h | h
  ·exact .inl h
  ·obtain ⟨i, j, gr, hj, hg, hb⟩ := hmine b h
   rcases hbk i j hj gr b hg hb with h | ⟨oj, q1, q2⟩
   ·exact absurd h hnI
   ·exact .inr ⟨j, oj, gr, List.mem_of_getElem? hj, q1, q2, hg, hb⟩
 have hlookS : ∀ j x, lookO (post.map fun p => (outI ρ nid p.1, outO ρ nid p.2)) j = some x → ∃ i ob, lookO post i = some ob ∧ outI ρ nid i = j ∧ x = outO ρ nid ob :=
  fun j x h => lookS_of h
 have hlookI : ∀ i ob, lookO post i = some ob → (lookO (post.map fun p => (outI ρ nid p.1, outO ρ nid p.2)) (outI ρ nid i)).isSome = true :=
  fun i ob h => lookI_of h
 have hold' : ∀ j, lookO (post.map fun p => (outI ρ nid p.1, outO ρ nid p.2)) j = none → ∀ gr, G2 j = some gr → G j = some gr ∧ j ∉ ρ := by
  intro j hn gr hg
  rcases hG2o j gr hg with ⟨i, e, hg'⟩ | h
  ·obtain ⟨z, hz⟩ := Option.isSome_iff_exists.1 (m'.dom i gr hg')
   have := hlookI i z hz
   rw [e, hn] at this; cases this
  ·exact h
 have houtlive : ∀ ob, (outO ρ nid ob).live = ob.live := fun ob => by cases ob <;> rfl
 have hlive : ∀ j x gr b, (match lookO (post.map fun p => (outI ρ nid p.1, outO ρ nid p.2)) j with | some x => some x | none => (o j).map (clrO js)) = some x → x.live = true → G2 j = some gr → gr.blk = some b →
   (∃ i ob, lookO post i = some ob ∧ ob.live = true ∧ G' i = some gr ∧ outI ρ nid i = j ∧ ¬ I' b ∧ b < w'.heap.size ∧ (w.heap.size ≤ b ∨ ∃ j0 oj gj, j0 ∈ ρ ∧ o j0 = some oj ∧ oj.live = true ∧ G j0 = some gj ∧ gj.blk = some b)) ∨
   (∃ x0, o j = some x0 ∧ x = clrO js x0 ∧ x0.live = true ∧ G j = some gr ∧ j ∉ ρ) := by
  intro j x gr b hx hxl hg hb
  split at hx
  ·rename_i x' hlk
   cases hx
   obtain ⟨i, ob, r1, r2, r3⟩ := hlookS j x hlk
   have hobl : ob.live = true := by rw [r3, houtlive] at hxl; exact hxl
   obtain ⟨gr', hg', _⟩ := ObOK.rec (m'.objs i ob r1) hobl
   have hgg : gr' = gr := by have := hG i gr' hg'; rw [r2, hg] at this; cases this; rfl
   subst hgg
   obtain ⟨p1, p2, p3⟩ := m'.own i ob gr' b r1 hobl hg' hb
   exact .inl ⟨i, ob, r1, hobl, hg', r2, p1, p2, hold2 b (fun h => p1 (hII b h)) p3⟩
  ·rename_i hlk
   obtain ⟨h1, h2⟩ := hold' j hlk gr hg
   obtain ⟨x0, h3, rfl⟩ := Option.map_eq_some_iff.1 hx
   exact .inr ⟨x0, h3, rfl, clrO_live hxl, h1, h2⟩
 obtain ⟨G1, hG1⟩ : ∃ G1 : Nat → Option GR, G1 = fun j => bif memN js j then none else G j := ⟨_, rfl⟩
 have hG1e : ∀ j, memN js j = false → G1 j = G j := fun j hj => by rw [hG1]; simp only [hj, cond_false]
 have hG1m : ∀ j gr, G1 j = some gr → G2 j = some gr := fun j gr hg => by
  cases hj : memN js j with
  | true => rw [hG1] at hg; simp [hj] at hg
  | false => exact hGm j gr hj (by rw [← hG1e j hj]; exact hg)
 refine ⟨G2, hG, ?_, fun j T cs h3 => ObOK.mono hG1m hII hkI (fun hlv => by simp [clrO, Ob.live] at hlv) (ObOK.clr hG1e (by
  cases e : memN js j with
  | false => rfl
  | true =>
   obtain ⟨_, T', es, h⟩ := hjs j e
   rw [h3] at h; cases h) (m.objs j _ h3))⟩
 refine { m with slots := ?_, objs := ?_, dom := ?_, sep := ?_, own := ?_, bor := ?_, isz := m'.isz, i0 := fun b hb => hII b (m.i0 b hb), inew := ?_, frame := ?_, os := m'.os.trans m.os, tape := m'.tape.trans m.tape, output := m'.output.trans m.output, wsz := Nat.le_trans m.wsz hsz, barr := ?_, env := ?_ }
 ·exact fun t => RepA.mono hG1m hII hkI _ _ (RepA.clr hG1e _ _ (m.slots t))
 ·intro j x hx
  split at hx
  ·rename_i x' hlk
   cases hx
   obtain ⟨i, ob, r1, r2, r3⟩ := hlookS j x hlk
   subst r3; subst r2
   exact ObOK.out hG (m'.objs i ob r1)
  ·rename_i hlk
   obtain ⟨x0, h3, rfl⟩ := Option.map_eq_some_iff.1 hx
   cases hj : memN js j with
   | false =>
    refine ObOK.mono hG1m hII hkI (fun hlv gr b hg hb => ?_) (ObOK.clr hG1e hj (m.objs j x0 h3))
    have hg2 := hG1m j gr hg
    obtain ⟨h4, h5⟩ := hold' j hlk gr hg2
    exact hkO j x0 gr b h3 (clrO_live hlv) h4 hb h5
   | true =>
    obtain ⟨i, hi⟩ := List.mem_iff_getElem?.1 (hjs j hj).1
    obtain ⟨z, hz⟩ := Option.isSome_iff_exists.1 (hcov i (List.getElem?_eq_some_iff.1 hi).1)
    have := hlookI i z hz
    rw [hO1 i j hi, hlk] at this
    cases this
 ·intro j gr hg
  split
  ·rfl
  ·rename_i hlk
   obtain ⟨h1, h2⟩ := hold' j hlk gr hg
   simpa using m.dom j gr h1
 ·intro j k xj xk gj gk b h1 h2 h3 h4 h5 h6 h7 h8
  rcases hlive j xj gj b h1 h3 h5 h7 with ⟨i, ob, p1, p2, p3, p4, p5, p6, p7⟩ | ⟨x0, p1, p2, p3, p4, p5⟩
  ·rcases hlive k xk gk b h2 h4 h6 h8 with ⟨i', ob', q1, q2, q3, q4, q5, q6, q7⟩ | ⟨y0, q1, q2, q3, q4, q5⟩
   ·have := m'.sep i i' ob ob' gj gk b p1 q1 p2 q2 p3 q3 h7 h8
    rw [← p4, ← q4, this]
   ·have hk := (m.own k y0 gk b q1 q3 q4 h8).2.1
    rcases p7 with p7 | ⟨j0, oj, g0, s1, s2, s3, s4, s5⟩
    ·omega
    ·have := m.sep j0 k oj y0 g0 gk b s2 q1 s3 q3 s4 q4 s5 h8
     subst this
     exact absurd s1 q5
  ·rcases hlive k xk gk b h2 h4 h6 h8 with ⟨i', ob', q1, q2, q3, q4, q5, q6, q7⟩ | ⟨y0, q1, q2, q3, q4, q5⟩
   ·have hj := (m.own j x0 gj b p1 p3 p4 h7).2.1
    rcases q7 with q7 | ⟨j0, oj, g0, s1, s2, s3, s4, s5⟩
    ·omega
    ·have := m.sep j0 j oj x0 g0 gj b s2 p1 s3 p3 s4 p4 s5 h7
     subst this
     exact absurd s1 p5
   ·exact m.sep j k x0 y0 gj gk b p1 q1 p3 q3 p4 q4 h7 h8
 ·intro j x gr b h1 h2 h3 h4
  rcases hlive j x gr b h1 h2 h3 h4 with ⟨i, ob, p1, p2, p3, p4, p5, p6, p7⟩ | ⟨x0, p1, p2, p3, p4, p5⟩
  ·refine ⟨p5, p6, ?_⟩
   rcases p7 with p7 | ⟨j0, oj, g0, s1, s2, s3, s4, s5⟩
   ·exact .inl (Nat.le_trans m.wsz p7)
   ·exact (m.own j0 oj g0 b s2 s3 s4 s5).2.2
  ·obtain ⟨r1, r2, r3⟩ := m.own j x0 gr b p1 p3 p4 h4
   refine ⟨fun h => ?_, by omega, r3⟩
   have hn : w.heap.size ≤ b ∨ (Ctx.callD w I pre post (subG ρ G) 0).mine b := by
    rcases m'.inew b h with h | h | h | h
    ·exact absurd h r1
    ·exact absurd h (fun h => h)
    ·exact .inr h
    ·exact .inl h
   rcases hold2 b r1 hn with h | ⟨j0, oj, g0, s1, s2, s3, s4, s5⟩
   ·omega
   ·have := m.sep j0 j oj x0 g0 gr b s2 p1 s3 p3 s4 p4 s5 h4
    subst this
    exact p5 s1
 ·intro j hj hb
  by_cases hjρ : j ∈ ρ
  ·obtain ⟨i, hi⟩ := List.mem_iff_getElem?.1 hjρ
   rw [hin i j hi]
   cases hbi : baD pre post i with
   | true => obtain ⟨_, T, es, h⟩ := hba i j hi hbi; exact absurd h (m.barr j T es hj hb)
   | false => rw [hbor i j hi hbi]; exact m.bor j hj hb
  ·rw [hold j hjρ (by omega)]; exact m.bor j hj hb
 ·intro b hb
  by_cases hI : I b
  ·exact m.inew b hI
  ·have hn : w.heap.size ≤ b ∨ (Ctx.callD w I pre post (subG ρ G) 0).mine b := by
    rcases m'.inew b hb with h | h | h | h
    ·exact absurd h hI
    ·exact absurd h (fun h => h)
    ·exact .inr h
    ·exact .inl h
   rcases hold2 b hI hn with h | ⟨j0, oj, g0, s1, s2, s3, s4, s5⟩
   ·exact .inr (.inr (.inr (Nat.le_trans m.wsz h)))
   ·rcases (m.own j0 oj g0 b s2 s3 s4 s5).2.2 with h | h
    ·exact .inr (.inr (.inr h))
    ·exact .inr (.inr (.inl h))
 ·intro b hb hor
  rw [hkeep b (Nat.lt_of_lt_of_le hb m.wsz) ?_]
  ·exact m.frame b hb hor
  ·by_cases hI : I b
   ·exact .inl hI
   ·right
    intro i j gr hj hg hbb
    rcases hbk i j hj gr b hg hbb with h | ⟨oj, q1, q2⟩
    ·exact hI h
    ·rcases (m.own j oj gr b q1 q2 hg hbb).2.2 with h3 | h3
     ·omega
     ·rcases hor with h | h
      ·exact hI (m.i0 b h)
      ·exact h.2 h3
 ·intro j T es hj hb hx
  split at hx
  ·rename_i x' hlk
   cases hx
   obtain ⟨i, ob, r1, r2, r3⟩ := hlookS j _ hlk
   have hob' : ob = .arr T es := by cases ob <;> simp [outO] at r3 <;> simp [r3]
   subst hob'
   rcases Nat.lt_or_ge i ρ.length with hi | hi
   ·have hj' : ρ[i]? = some ρ[i] := by simp [hi]
    cases hbi : baD pre post i with
    | true =>
     obtain ⟨_, T', es', h⟩ := hba i _ hj' hbi
     rw [← hO1 i _ hj', r2] at h
     exact m.barr j T' es' hj hb h
    | false => exact m'.barr i T es (by rw [hnbl]; exact hi) hbi r1
   ·rw [hO2 i hi] at r2; omega
  ·obtain ⟨x0, h3, h4⟩ := Option.map_eq_some_iff.1 hx
   rw [clrO_arr h4] at h3
   exact m.barr j _ _ hj hb h3
 ·obtain ⟨k, Ft, f1, f2, f3, f4⟩ := m.env
  have hnF : ∀ b, Ft b → ¬ I b → w.heap.size ≤ b ∨ (Ctx.callD w I pre post (subG ρ G) 0).mine b → False := by
   intro b hf hI hn
   rcases hold2 b hI hn with h | ⟨j0, oj, g0, s1, s2, s3, s4, s5⟩
   ·have := (f2 b hf).1; omega
   ·exact f3 j0 oj g0 b s2 s3 s4 s5 hf
  refine ⟨k, Ft, f1.st (fun b hf hlt => hkeep b hlt ?_) hkI hII (fun b hf hb => ?_) m'.isz m'.os m'.tape m'.output hsz, fun b hf => ⟨Nat.lt_of_lt_of_le (f2 b hf).1 hsz, (f2 b hf).2⟩, fun j' x gr b h1 h2 h3 h4 hf => ?_, fun j k' hx => ?_⟩
  ·by_cases hI : I b
   ·exact .inl hI
   ·right
    intro i j' gr hj' hg hbb
    rcases hbk i j' hj' gr b hg hbb with h | ⟨oj, q1, q2⟩
    ·exact hI h
    ·exact f3 j' oj gr b q1 q2 hg hbb hf
  ·by_cases hI : I b
   ·exact hI
   ·exfalso
    rcases m'.inew b hb with h | h | h | h
    ·exact hI h
    ·exact h
    ·exact hnF b hf hI (.inr h)
    ·exact hnF b hf hI (.inl h)
  ·rcases hlive j' x gr b h1 h2 h3 h4 with ⟨i, ob, p1, p2, p3, p4, p5, p6, p7⟩ | ⟨x0, p1, p2, p3, p4, p5⟩
   ·rcases p7 with p7 | ⟨j0, oj, g0, s1, s2, s3, s4, s5⟩
    ·have := (f2 b hf).1; omega
    ·exact f3 j0 oj g0 b s2 s3 s4 s5 hf
   ·exact f3 j' x0 gr b p1 p3 p4 h4 hf
  ·split at hx
   ·rename_i x' hlk
    cases hx
    obtain ⟨i, ob, r1, r2, r3⟩ := hlookS j _ hlk
    have hob' : ob = .env k' := by cases ob <;> simp [outO] at r3 <;> simp [r3]
    subst hob'
    have := (hpost _ (lookO_mem r1)).2
    simp [Ob.envB] at this
   ·obtain ⟨x0, h3, h4⟩ := Option.map_eq_some_iff.1 hx
    have h5 : o j = some (.env k') := by rw [← clrO_env h4]; exact h3
    obtain ⟨q1, q2, q3⟩ := f4 j k' h5
    refine ⟨q1, q2, hGm 0 _ ?_ q3⟩
    cases hm : memN js 0 with
    | false => rfl
    | true =>
     obtain ⟨_, T, es, h6⟩ := hjs 0 hm
     subst q1
     rw [h5] at h6; cases h6
end
end Go.Ev


namespace Go.Ev
open RowKit
section
variable {tb : TB} {X : Ctx} {P : Program} {F : Fence} {n : Nat} {g : Nat → A} {o : Nat → Option Ob} {a : Act} {w : World} {G : Nat → Option GR} {I : Nat → Prop}
theorem Mod.take (m : Mod tb X g o a w G I) : a.defers = X.E.base ∨
  ∃ r rest, a.defers = markD r :: rest ∧ w.heap[r]? = some (.deferred (some [])) ∧ Mod tb X g o { a with defers := rest } (w.putObj r (.deferred none)) G I := by
 obtain ⟨k, Ft, ⟨ds, F1, e1, e2, e3, e4, e5⟩, f2, f3, f4⟩ := m.env
 cases ds with
 | nil => exact .inl e1
 | cons r ds =>
  right
  have ha0 : a.defers = markD r :: (ds.map markD ++ X.E.base) := e1
  obtain ⟨q1, q2, q3, q4⟩ := e3 r (by simp)
  have hoth : ∀ k, k ≠ r → (w.putObj r (.deferred none)).heap[k]? = w.heap[k]? := fun k hk => World.putObj_heap_other hk
  have hI : ∀ b, I b → (w.putObj r (.deferred none)).heap[b]? = w.heap[b]? := fun b hb => hoth b fun e => q2 (e ▸ hb)
  have hFr : Ft r := (e4 r).2 (.inr (by simp))
  have hl : ∀ j oj gj b, o j = some oj → oj.live = true → G j = some gj → gj.blk = some b → (w.putObj r (.deferred none)).heap[b]? = w.heap[b]? := fun j oj gj b h1 h2 h3 h4 => hoth b fun e => f3 j oj gj b h1 h2 h3 h4 (e ▸ hFr)
  have hsz : (w.putObj r (.deferred none)).heap.size = w.heap.size := World.putObj_size
  refine ⟨r, ds.map markD ++ X.E.base, ha0, q1, { m with tsize := m.tsize, slots := fun t => RepA.mono (fun _ _ h => h) (fun _ h => h) hI _ _ (m.slots t), objs := fun i ob hi => ObOK.mono (fun _ _ h => h) (fun _ h => h) hI (fun h2 gr b h3 h4 => hl i ob gr b hi h2 h3 h4) (m.objs i ob hi), own := by rw [hsz]; exact m.own, isz := by rw [hsz]; exact m.isz, frame := fun b hb h1 => ?_, os := m.os, tape := m.tape, output := m.output, wsz := by rw [hsz]; exact m.wsz, env := ?_, nd := fun h => by { have := m.nd h; rw [ha0] at this; cases this } }⟩
  ·rw [hoth b (by omega)]; exact m.frame b hb h1
  ·refine ⟨k, fun b => F1 b ∨ b ∈ ds, ⟨ds, F1, rfl, (List.nodup_cons.1 e2).2, fun r' hr' => ?_, fun b => Iff.rfl, ?_⟩, fun b hb => ?_, fun j oj gj b h1 h2 h3 h4 hf => ?_, f4⟩
   ·obtain ⟨p1, p2, p3, p4⟩ := e3 r' (by simp [hr'])
    refine ⟨?_, p2, p3, p4⟩
    rw [hoth r' fun e => (List.nodup_cons.1 e2).1 (e ▸ hr')]; exact p1
   ·exact X.E.st k F1 I I _ _ e5 (fun b hb _ => hoth b fun e => q4 (e ▸ hb)) hI (fun _ h => h) (fun _ _ h => h) (by rw [hsz]; exact m.isz) rfl rfl rfl (by rw [hsz]; exact Nat.le_refl _)
   ·rw [hsz]
    refine f2 b ((e4 b).2 ?_)
    rcases hb with hb | hb
    ·exact .inl hb
    ·exact .inr (by simp [hb])
   ·refine f3 j oj gj b h1 h2 h3 h4 ((e4 b).2 ?_)
    rcases hf with hb | hb
    ·exact .inl hb
    ·exact .inr (by simp [hb])
theorem leaves_marks {fn : Func} {R : Ending → World → Prop} {u : FrameMode} (hu : u ≠ .run) : ∀ (q : Nat) (df : List Deferred) {a : Act} {w : World}, df.length ≤ q → a.defers = df → Mod tb X g o a w G I →
  (∀ a' w', Mod tb X g o a' w' G I → a'.tmps = a.tmps → a'.defers = X.E.base → LeavesInM F n P fn a.tmps R X.E.base u w') → LeavesInM F n P fn a.tmps R df u w
 | q, df, a, w, hq, hd, m, h => by
  rcases m.take with e | ⟨r, rest, e, h2, m'⟩
  ·have := h a w m rfl e
   rwa [← hd, e]
  ·rw [hd] at e
   subst e
   cases q with
   | zero => simp at hq
   | succ q =>
    refine ⟨hu, .inl ⟨r, _, rfl, run_takeDeferred h2, ?_⟩⟩
    exact leaves_marks hu q rest (a := { a with defers := rest }) (by simpa using hq) rfl m' h
theorem leaves_of {fn : Func} {R : Ending → World → Prop} (df : List Deferred) {a : Act} {w : World} (hd : a.defers = df) (m : Mod tb X g o a w G I) (hbase : X.E.base = [])
  (h : ∀ a' w', Mod tb X g o a' w' G I → a'.tmps = a.tmps → a'.defers = [] → ∃ v, (results fn a'.tmps).run P w' = .ok v w' ∧ R (.returned v) w') : LeavesInM F n P fn a.tmps R df .returning w :=
 leaves_marks (fun e => by cases e) _ df (Nat.le_refl _) hd m fun a' w' m' ht hb => by
  rw [hbase] at hb ⊢
  have := h a' w' m' ht hb
  rw [ht] at this
  exact this
end
structure Turned (Ft I : Nat → Prop) (w : World) (Ft' I' : Nat → Prop) (w' : World) : Prop where
 up : ∀ q, I q → I' q
 inew : ∀ q, I' q → I q ∨ Ft q ∨ w.heap.size ≤ q
 isz : ∀ q, I' q → q < w'.heap.size
 fnew : ∀ q, Ft' q → (Ft q ∨ w.heap.size ≤ q) ∧ q < w'.heap.size
 keep : ∀ q, q < w.heap.size → (I q ∨ ¬ Ft q) → w'.heap[q]? = w.heap[q]?
 os : w'.os = w.os
 tape : w'.tape = w.tape
 output : w'.output = w.output
 size : w.heap.size ≤ w'.heap.size
def EnvOK (P : Program) (E : Env) (Y : Nat → List D → Bool → Prop) : Prop :=
 ∀ (F : Fence) (n : Nat), Wide F → ∀ (k : Nat) (Ft I : Nat → Prop) (w : World) (ds : List D) (vs : List Value) (b : Bool), E.P k Ft I w → (∀ q, I q → q < w.heap.size) → (∀ q, Ft q → q < w.heap.size) → Y k ds b → RepL I w.heap ds vs →
  ∃ l f tmps assign body, E.v = .func (.yield l) #[] #[] ∧ (Instr.yield l vs.toArray).run P w = .ok (.round l f tmps assign body) w ∧
   RoundIn F n P l f tmps assign body w fun e w' => e = .returned (.bool b) ∧ ∃ Ft' I', E.P (k + 1) Ft' I' w' ∧ Turned Ft I w Ft' I' w'
theorem envOK_no (P : Program) (E : Env) : EnvOK P E fun _ _ _ => False := fun _ _ _ _ _ _ _ _ _ _ _ _ _ h => h.elim
def Ctx.iter (w : World) (I : Nat → Prop) (pre : List Ob) (G : Nat → Option GR) (nt : Nat) (E : Env) (lent : Nat → Prop) : Ctx := ⟨w, I, pre.length, preBa pre, G, nt, E, lent, fun b => ∃ i gr, i < pre.length ∧ G i = some gr ∧ gr.blk = some b, false⟩
def Yt (elems : List (List D)) (t : Nat) (k : Nat) (ds : List D) (b : Bool) : Prop := k ≤ t ∧ elems[k]? = some ds ∧ b = decide (k < t)
end Go.Ev


namespace Go.Ev
open RowKit
section
variable {tb : TB} {X : Ctx} {g : Nat → A} {o : Nat → Option Ob} {a : Act} {w : World} {G : Nat → Option GR} {I : Nat → Prop} {ρ : List Nat} {nid : Nat}
theorem cover_at {n : Nat} {post : List (Nat × Ob)} (h : coverB n post = true) {i : Nat} (hi : i < n) : (lookO post i).isSome = true := by
 unfold coverB at h
 have h1 := List.all_eq_true.1 h i (List.mem_range.2 hi)
 rw [memK_eq] at h1
 clear h
 induction post with
 | nil => simp at h1
 | cons p post ih =>
  obtain ⟨k, x⟩ := p
  rw [lookO]
  cases e : Nat.beq k i with
  | true => rfl
  | false => rw [List.any_cons, e, Bool.false_or] at h1; exact ih h1
theorem vmB_some {ρ : List Nat} {x : Option Ob} (h : (invO ρ x).vmB = true) : ∃ y, x = some y ∧ y.live = true ∧ (∀ T es, y ≠ .arr T es) := by
 cases x with
 | none => simp [invO, Ob.vmB] at h
 | some y =>
  refine ⟨y, rfl, ?_⟩
  cases y with
  | var b T cs => exact ⟨rfl, fun _ _ e => nomatch e⟩
  | map k e es => exact ⟨rfl, fun _ _ e => nomatch e⟩
  | iter q1 q2 q3 => simp only [invO] at h; split at h <;> simp [Ob.vmB] at h
  | _ => simp [invO, Ob.vmB] at h
set_option maxHeartbeats 4000000 in
theorem Mod.sub (m : Mod tb X g o a w G I) {k : Nat} (ho : o 0 = some (.env k)) (hnd : nodupB (0 :: ρ) = true) (hvm : ∀ ob ∈ ρ.map (fun j => invO (0 :: ρ) (o j)), ob.vmB = true)
  (hρ : ∀ j ∈ (0 :: ρ), j < nid) {N : Nat} (hN : (0 :: ρ).length ≤ N) (hnb : X.nb ≤ nid) (hfree : ∀ k, k < N - (0 :: ρ).length → o (nid + k) = none)
  {k' : Nat} {post : List (Nat × Ob)} (hcov : ∀ i, i < (0 :: ρ).length → (lookO ((0, .env k') :: post) i).isSome = true) (hpost : ∀ p ∈ (0, Ob.env k') :: post, p.1 < N) :
  ∃ lent, Mod tb (Ctx.iter w I (.env k :: ρ.map fun j => invO (0 :: ρ) (o j)) (subG (0 :: ρ) G) 0 { X.E with base := [] } lent) noG (fun i => (Ob.env k :: ρ.map fun j => invO (0 :: ρ) (o j))[i]?) noAct w (subG (0 :: ρ) G) I ∧
   ∀ (w' : World) (G' : Nat → Option GR) (I' : Nat → Prop), Mod tb (Ctx.iter w I (.env k :: ρ.map fun j => invO (0 :: ρ) (o j)) (subG (0 :: ρ) G) 0 { X.E with base := [] } lent) noG (lookO ((0, .env k') :: post)) noAct w' G' I' →
    ∃ G2, (∀ i gr, G' i = some gr → G2 (outI (0 :: ρ) nid i) = some gr) ∧ Mod tb X g (fun i => match lookO (((0, .env k') :: post).map fun p => (outI (0 :: ρ) nid p.1, outO (0 :: ρ) nid p.2)) i with | some x => some x | none => o i) a w' G2 I' := by
 obtain ⟨k0, Ft, ⟨ds, F1, e1, e2, e3, e4, e5⟩, f2, f3, f4⟩ := m.env
 obtain ⟨_, hk0, hG0⟩ := f4 0 k ho
 subst hk0
 obtain ⟨R, hR⟩ : ∃ R, R = 0 :: ρ := ⟨_, rfl⟩
 have hR0 : R[0]? = some 0 := by rw [hR]; rfl
 have hRs : ∀ i j, R[i + 1]? = some j ↔ ρ[i]? = some j := fun i j => by rw [hR]; rfl
 have hRl : R.length = ρ.length + 1 := by rw [hR]; rfl
 rw [← hR] at hnd hvm hρ hN hfree hcov ⊢
 obtain ⟨pre, hpre⟩ : ∃ pre, pre = ρ.map fun j => invO R (o j) := ⟨_, rfl⟩
 rw [← hpre] at hvm ⊢
 have hprel : pre.length = ρ.length := by rw [hpre]; simp
 have hlen : (Ob.env k :: pre).length = R.length := by rw [hRl, List.length_cons, hprel]
 have hpreAt : ∀ i ob, pre[i]? = some ob → ∃ j, ρ[i]? = some j ∧ ob = invO R (o j) := fun i ob hi => by
  rw [hpre, List.getElem?_map] at hi
  obtain ⟨j, h1, h2⟩ := Option.map_eq_some_iff.1 hi
  exact ⟨j, h1, h2.symm⟩
 have hlent : ∀ j ∈ ρ, ∃ oj, o j = some oj ∧ oj.live = true ∧ ∀ T es, oj ≠ .arr T es := fun j hj => vmB_some (hvm _ (by rw [hpre]; exact List.mem_map.2 ⟨j, hj, rfl⟩))
 have hpa : ∀ i, preBa (.env k :: pre) i = false := by
  intro i
  unfold preBa
  cases i with
  | zero => rfl
  | succ i =>
   simp only [List.getElem?_cons_succ]
   split
   ·rename_i T es he
    have := hvm _ (List.mem_of_getElem? he)
    simp [Ob.vmB] at this
   ·rfl
 have hsub : ∀ i j, R[i]? = some j → subG R G i = G j := fun i j hj => by simp [subG, hj]
 have hrho : ∀ j, j ∈ R ↔ j = 0 ∨ j ∈ ρ := fun j => by rw [hR]; exact List.mem_cons
 have h0ρ : 0 ∉ ρ := by
  intro h
  rw [hR] at hnd
  simp only [nodupB, Bool.and_eq_true, Bool.not_eq_true'] at hnd
  have := List.any_eq_false.1 hnd.1 0 h
  simp at this
 refine ⟨F1, ?_, ?_⟩
 ·-- what the callee sees
  have hob : ∀ i ob j, (Ob.env k :: pre)[i]? = some ob → R[i]? = some j → ObOK tb (subG R G) I w.heap i ob ∧ (ob.live = true → ∃ oj, o j = some oj ∧ oj.live = true) := by
   intro i ob j hi hj
   cases i with
   | zero => simp only [List.getElem?_cons_zero, Option.some.injEq] at hi; subst hi; exact ⟨trivial, fun h => by simp [Ob.live] at h⟩
   | succ i =>
    simp only [List.getElem?_cons_succ] at hi
    obtain ⟨j', h1, rfl⟩ := hpreAt i ob hi
    have h2 := (hRs i j').2 h1
    rw [hj] at h2; cases h2
    refine ⟨ObOK.invO m.objs hj, fun _ => ?_⟩
    obtain ⟨oj, q1, q2, _⟩ := hlent j (List.mem_of_getElem? h1)
    exact ⟨oj, q1, q2⟩
  have hRe : ∀ i ob, (Ob.env k :: pre)[i]? = some ob → ∃ j, R[i]? = some j := fun i ob hi => by
   have : i < R.length := by rw [← hlen]; exact (List.getElem?_eq_some_iff.1 hi).1
   exact ⟨_, List.getElem?_eq_getElem this⟩
  have hF1 : ∀ b, F1 b → Ft b := fun b hb => (e4 b).2 (.inl hb)
  refine ⟨rfl, fun t => by rw [RepA]; trivial, fun i ob hi => ?_, fun i gr hi => ?_, ?_, ?_, fun _ _ _ => rfl, m.isz, fun _ h => h, fun _ h => .inl h, fun _ _ _ => rfl, rfl, rfl, rfl, Nat.le_refl _, ?_, ?_, fun _ => rfl⟩
  ·obtain ⟨j, hj⟩ := hRe i ob hi
   exact (hob i ob j hi hj).1
  ·cases e : R[i]? with
   | none => simp [subG, e] at hi
   | some j =>
    have : i < (Ob.env k :: pre).length := by rw [hlen]; exact (List.getElem?_eq_some_iff.1 e).1
    show ((Ob.env k :: pre)[i]?).isSome = true
    rw [List.getElem?_eq_getElem this]; rfl
  ·intro i q oi ok gi gk b h1 h2 h3 h4 h5 h6 h7 h8
   obtain ⟨j, hj⟩ := hRe i oi h1
   obtain ⟨j', hj'⟩ := hRe q ok h2
   obtain ⟨oj, q1, q2⟩ := (hob i oi j h1 hj).2 h3
   obtain ⟨oj', q3, q4⟩ := (hob q ok j' h2 hj').2 h4
   rw [hsub i j hj] at h5
   rw [hsub q j' hj'] at h6
   have := m.sep j j' oj oj' gi gk b q1 q3 q2 q4 h5 h6 h7 h8
   subst this
   exact nodupB_spec hnd hj hj'
  ·intro i oi gi b h1 h2 h3 h4
   obtain ⟨j, hj⟩ := hRe i oi h1
   obtain ⟨oj, q1, q2⟩ := (hob i oi j h1 hj).2 h2
   have h3' := h3
   rw [hsub i j hj] at h3
   obtain ⟨p1, p2, p3⟩ := m.own j oj gi b q1 q2 h3 h4
   exact ⟨p1, p2, .inr ⟨i, gi, (List.getElem?_eq_some_iff.1 h1).1, h3', h4⟩⟩
  ·intro i T es _ hba hi
   have hi : (Ob.env k :: pre)[i]? = some (.arr T es) := hi
   cases i with
   | zero => simp at hi
   | succ i =>
    simp only [List.getElem?_cons_succ] at hi
    have := hvm _ (List.mem_of_getElem? hi)
    simp [Ob.vmB] at this
  ·refine ⟨k, F1, ⟨[], F1, rfl, List.nodup_nil, fun r hr => (nomatch hr), fun b => by simp, e5⟩, fun b hf => ⟨(f2 b (hF1 b hf)).1, .inl hf⟩, fun i oi gi b h1 h2 h3 h4 hf => ?_, fun i k2 hi => ?_⟩
   ·obtain ⟨j, hj⟩ := hRe i oi h1
    obtain ⟨oj, q1, q2⟩ := (hob i oi j h1 hj).2 h2
    rw [hsub i j hj] at h3
    exact f3 j oj gi b q1 q2 h3 h4 (hF1 b hf)
   ·cases i with
    | zero =>
     have hi : (Ob.env k :: pre)[0]? = some (.env k2) := hi
     simp only [List.getElem?_cons_zero, Option.some.injEq, Ob.env.injEq] at hi
     exact ⟨rfl, hi.symm, by rw [hsub 0 0 hR0]; exact hG0⟩
    | succ i =>
     have hi : (Ob.env k :: pre)[i + 1]? = some (.env k2) := hi
     simp only [List.getElem?_cons_succ] at hi
     have := hvm _ (List.mem_of_getElem? hi)
     simp [Ob.vmB] at this
 intro w' G' I' m'
 have hO1 : ∀ i j, R[i]? = some j → outI R nid i = j := fun i j hj => by simp [outI, hj]
 have hO2 : ∀ i, R.length ≤ i → outI R nid i = nid + (i - R.length) := fun i hi => by simp [outI, List.getElem?_eq_none hi]
 have hbor : ∀ i j, R[i]? = some j → G' i = G j := fun i j hj => by
  have h1 : i < R.length := (List.getElem?_eq_some_iff.1 hj).1
  have := m'.bor i (by show i < (Ob.env k :: pre).length; rw [hlen]; exact h1) (hpa i)
  rw [this]
  exact hsub i j hj
 have hGN : ∀ i gr, G' i = some gr → i < N := fun i gr hg => by
  have := m'.dom i gr hg
  obtain ⟨z, hz⟩ := Option.isSome_iff_exists.1 this
  exact hpost _ (lookO_mem hz)
 have hGnone : ∀ q, q < N - R.length → G (nid + q) = none := fun q hq => by
  cases e : G (nid + q) with
  | none => rfl
  | some x => have := m.dom _ x e; rw [hfree q hq] at this; cases this
 obtain ⟨G2, hG2⟩ : ∃ G2 : Nat → Option GR, G2 = fun i => match idx R i 0 with | some q => G' q | none => bif Nat.ble nid i && Nat.blt i (nid + (N - R.length)) then G' (R.length + (i - nid)) else G i := ⟨_, rfl⟩
 have hin : ∀ i j, R[i]? = some j → G2 j = G' i := fun i j hj => by
  rw [hG2]
  have := idx_of 0 hnd hj
  simp only [this, Nat.zero_add]
 have hnew : ∀ i, R.length ≤ i → i < N → G2 (outI R nid i) = G' i := fun i h1 h2 => by
  rw [hG2, hO2 i h1]
  have e0 : idx R (nid + (i - R.length)) 0 = none := idx_none 0 fun h => by have := hρ _ h; omega
  have e1 : Nat.ble nid (nid + (i - R.length)) = true := by rw [Nat.ble_eq]; omega
  have e2 : Nat.blt (nid + (i - R.length)) (nid + (N - R.length)) = true := by rw [Nat.blt_eq]; omega
  simp only [e0, e1, e2, Bool.and_true, cond_true]
  congr 1; omega
 have hold : ∀ j, j ∉ R → ¬ (nid ≤ j ∧ j < nid + (N - R.length)) → G2 j = G j := fun j hj hn => by
  rw [hG2]
  have e0 : idx R j 0 = none := idx_none 0 hj
  have e1 : (Nat.ble nid j && Nat.blt j (nid + (N - R.length))) = false := by
   rw [Bool.eq_false_iff]
   intro h
   simp only [Bool.and_eq_true, Nat.ble_eq, Nat.blt_eq] at h
   omega
  simp only [e0, e1, cond_false]
 have hG : ∀ i gr, G' i = some gr → G2 (outI R nid i) = some gr := by
  intro i gr hg
  cases ei : R[i]? with
  | some j => rw [hO1 i j ei, hin i j ei]; exact hg
  | none => rw [hnew i (List.getElem?_eq_none_iff.1 ei) (hGN i gr hg)]; exact hg
 have hGm : ∀ j gr, G j = some gr → G2 j = some gr := by
  intro j gr hg
  by_cases hjρ : j ∈ R
  ·obtain ⟨i, hi⟩ := List.mem_iff_getElem?.1 hjρ
   rw [hin i j hi, hbor i j hi]; exact hg
  ·by_cases hn : nid ≤ j ∧ j < nid + (N - R.length)
   ·have := hGnone (j - nid) (by omega)
    rw [show nid + (j - nid) = j by omega, hg] at this; cases this
   ·rw [hold j hjρ hn]; exact hg
 have hG2o : ∀ j gr, G2 j = some gr → (∃ i, outI R nid i = j ∧ G' i = some gr) ∨ (G j = some gr ∧ j ∉ R) := by
  intro j gr hg
  by_cases hjρ : j ∈ R
  ·obtain ⟨i, hi⟩ := List.mem_iff_getElem?.1 hjρ
   exact .inl ⟨i, hO1 i j hi, by rw [← hin i j hi]; exact hg⟩
  ·by_cases hn : nid ≤ j ∧ j < nid + (N - R.length)
   ·refine .inl ⟨R.length + (j - nid), by rw [hO2 _ (by omega)]; omega, ?_⟩
    rw [← hnew _ (by omega) (by omega), hO2 _ (by omega)]
    rw [show nid + (R.length + (j - nid) - R.length) = j by omega]; exact hg
   ·rw [hold j hjρ hn] at hg
    exact .inr ⟨hg, hjρ⟩
 have hbk : ∀ (i j : Nat), R[i]? = some j → ∀ gr b, G j = some gr → gr.blk = some b → ∃ oj, o j = some oj ∧ oj.live = true := by
  intro i j hj gr b hg hb
  rcases (hrho j).1 (List.mem_of_getElem? hj) with rfl | h
  ·rw [hG0] at hg; cases hg; cases hb
  ·obtain ⟨oj, q1, q2, _⟩ := hlent j h
   exact ⟨oj, q1, q2⟩
 have hmine : ∀ b, (∃ i gr, i < (Ob.env k :: pre).length ∧ subG R G i = some gr ∧ gr.blk = some b) → ∃ (i j : Nat) (gr : GR), R[i]? = some j ∧ G j = some gr ∧ gr.blk = some b := by
  rintro b ⟨i, gr, hi, hg, hb⟩
  have hi : i < R.length := by rw [← hlen]; exact hi
  have hj : R[i]? = some R[i] := by simp [hi]
  simp only [subG, hj, Option.bind_some] at hg
  exact ⟨i, _, gr, hj, hg, hb⟩
 have hkeep : ∀ b, b < w.heap.size → (I b ∨ (¬ F1 b ∧ ∀ (i j : Nat) gr, R[i]? = some j → G j = some gr → gr.blk ≠ some b)) → w'.heap[b]? = w.heap[b]? := by
  intro b hb hor
  refine m'.frame b hb ?_
  rcases hor with h | ⟨h0, h⟩
  ·exact .inl h
  ·refine .inr ⟨h0, ?_⟩
   intro hm
   obtain ⟨i, j, gr, hj, hg, hb⟩ := hmine b hm
   exact h i j gr hj hg hb
 have hkI : ∀ b, I b → w'.heap[b]? = w.heap[b]? := fun b hb => hkeep b (m.isz b hb) (.inl hb)
 have hF1 : ∀ b, F1 b → Ft b := fun b hb => (e4 b).2 (.inl hb)
 have hkO : ∀ j oj gj b, o j = some oj → oj.live = true → G j = some gj → gj.blk = some b → j ∉ R → w'.heap[b]? = w.heap[b]? := by
  intro j oj gj b h1 h2 h3 h4 h5
  obtain ⟨p1, p2, _⟩ := m.own j oj gj b h1 h2 h3 h4
  refine hkeep b p2 (.inr ⟨fun h => f3 j oj gj b h1 h2 h3 h4 (hF1 b h), fun i j' gr hj' hg' hb' => ?_⟩)
  obtain ⟨oj', q1, q2⟩ := hbk i j' hj' gr b hg' hb'
  have := m.sep j j' oj oj' gj gr b h1 q1 h2 q2 h3 hg' h4 hb'
  subst this
  exact h5 (List.mem_of_getElem? hj')
 have hsz : w.heap.size ≤ w'.heap.size := m'.wsz
 have hII : ∀ b, I b → I' b := m'.i0
 have hold2 : ∀ b, (w.heap.size ≤ b ∨ ∃ i gr, i < (Ob.env k :: pre).length ∧ subG R G i = some gr ∧ gr.blk = some b) → w.heap.size ≤ b ∨ ∃ j0 oj gj, j0 ∈ R ∧ o j0 = some oj ∧ oj.live = true ∧ G j0 = some gj ∧ gj.blk = some b := by
  intro b h
  rcases h with h | h
  ·exact .inl h
  ·obtain ⟨i, j, gr, hj, hg, hb⟩ := hmine b h
   obtain ⟨oj, q1, q2⟩ := hbk i j hj gr b hg hb
   exact .inr ⟨j, oj, gr, List.mem_of_getElem? hj, q1, q2, hg, hb⟩
 have hIn : ∀ b, I' b → ¬ I b → F1 b ∨ w.heap.size ≤ b ∨ ∃ j0 oj gj, j0 ∈ R ∧ o j0 = some oj ∧ oj.live = true ∧ G j0 = some gj ∧ gj.blk = some b := by
  intro b hb hI
  rcases m'.inew b hb with h | h | h | h
  ·exact absurd h hI
  ·exact .inl h
  ·exact .inr (hold2 b (.inr h))
  ·exact .inr (.inl h)
 obtain ⟨P0, hP0⟩ : ∃ P0, P0 = (0, Ob.env k') :: post := ⟨_, rfl⟩
 rw [← hP0] at m' hcov hpost ⊢
 have hlookS : ∀ j x, lookO (P0.map fun p => (outI R nid p.1, outO R nid p.2)) j = some x → ∃ i ob, lookO P0 i = some ob ∧ outI R nid i = j ∧ x = outO R nid ob :=
  fun j x h => lookS_of h
 have hlookI : ∀ i ob, lookO P0 i = some ob → (lookO (P0.map fun p => (outI R nid p.1, outO R nid p.2)) (outI R nid i)).isSome = true :=
  fun i ob h => lookI_of h
 have hold' : ∀ j, lookO (P0.map fun p => (outI R nid p.1, outO R nid p.2)) j = none → ∀ gr, G2 j = some gr → G j = some gr ∧ j ∉ R := by
  intro j hn gr hg
  rcases hG2o j gr hg with ⟨i, e, hg'⟩ | h
  ·obtain ⟨z, hz⟩ := Option.isSome_iff_exists.1 (m'.dom i gr hg')
   have := hlookI i z hz
   rw [e, hn] at this; cases this
  ·exact h
 have houtlive : ∀ ob, (outO R nid ob).live = ob.live := fun ob => by cases ob <;> rfl
 have hlive : ∀ j x gr b, (match lookO (P0.map fun p => (outI R nid p.1, outO R nid p.2)) j with | some x => some x | none => o j) = some x → x.live = true → G2 j = some gr → gr.blk = some b →
   (∃ i ob, lookO P0 i = some ob ∧ ob.live = true ∧ G' i = some gr ∧ outI R nid i = j ∧ ¬ I' b ∧ b < w'.heap.size ∧ (w.heap.size ≤ b ∨ ∃ j0 oj gj, j0 ∈ R ∧ o j0 = some oj ∧ oj.live = true ∧ G j0 = some gj ∧ gj.blk = some b)) ∨
   (o j = some x ∧ x.live = true ∧ G j = some gr ∧ j ∉ R) := by
  intro j x gr b hx hxl hg hb
  split at hx
  ·rename_i x' hlk
   cases hx
   obtain ⟨i, ob, r1, r2, r3⟩ := hlookS j x hlk
   have hobl : ob.live = true := by rw [r3, houtlive] at hxl; exact hxl
   obtain ⟨gr', hg', _⟩ := ObOK.rec (m'.objs i ob r1) hobl
   have hgg : gr' = gr := by have := hG i gr' hg'; rw [r2, hg] at this; cases this; rfl
   subst hgg
   obtain ⟨p1, p2, p3⟩ := m'.own i ob gr' b r1 hobl hg' hb
   exact .inl ⟨i, ob, r1, hobl, hg', r2, p1, p2, hold2 b p3⟩
  ·rename_i hlk
   obtain ⟨h1, h2⟩ := hold' j hlk gr hg
   exact .inr ⟨hx, hxl, h1, h2⟩
 refine ⟨G2, hG, ?_⟩
 refine { m with slots := ?_, objs := ?_, dom := ?_, sep := ?_, own := ?_, bor := ?_, isz := m'.isz, i0 := fun b hb => hII b (m.i0 b hb), inew := ?_, frame := ?_, os := m'.os.trans m.os, tape := m'.tape.trans m.tape, output := m'.output.trans m.output, wsz := Nat.le_trans m.wsz hsz, barr := ?_, env := ?_ }
 ·exact fun t => RepA.mono hGm hII hkI _ _ (m.slots t)
 ·intro j x hx
  split at hx
  ·rename_i x' hlk
   cases hx
   obtain ⟨i, ob, r1, r2, r3⟩ := hlookS j x hlk
   subst r3; subst r2
   exact ObOK.out hG (m'.objs i ob r1)
  ·rename_i hlk
   refine ObOK.mono hGm hII hkI (fun hlv gr b hg hb => ?_) (m.objs j x hx)
   have hg2 := hGm j gr hg
   obtain ⟨h4, h5⟩ := hold' j hlk gr hg2
   exact hkO j x gr b hx hlv h4 hb h5
 ·intro j gr hg
  split
  ·rfl
  ·rename_i hlk
   obtain ⟨h1, h2⟩ := hold' j hlk gr hg
   exact m.dom j gr h1
 ·intro j q xj xk gj gk b h1 h2 h3 h4 h5 h6 h7 h8
  rcases hlive j xj gj b h1 h3 h5 h7 with ⟨i, ob, p1, p2, p3, p4, p5, p6, p7⟩ | ⟨p1, p3, p4, p5⟩
  ·rcases hlive q xk gk b h2 h4 h6 h8 with ⟨i', ob', q1, q2, q3, q4, q5, q6, q7⟩ | ⟨q1, q3, q4, q5⟩
   ·have := m'.sep i i' ob ob' gj gk b p1 q1 p2 q2 p3 q3 h7 h8
    rw [← p4, ← q4, this]
   ·have hk := (m.own q xk gk b q1 q3 q4 h8).2.1
    rcases p7 with p7 | ⟨j0, oj, g0, s1, s2, s3, s4, s5⟩
    ·omega
    ·have := m.sep j0 q oj xk g0 gk b s2 q1 s3 q3 s4 q4 s5 h8
     subst this
     exact absurd s1 q5
  ·rcases hlive q xk gk b h2 h4 h6 h8 with ⟨i', ob', q1, q2, q3, q4, q5, q6, q7⟩ | ⟨q1, q3, q4, q5⟩
   ·have hj := (m.own j xj gj b p1 p3 p4 h7).2.1
    rcases q7 with q7 | ⟨j0, oj, g0, s1, s2, s3, s4, s5⟩
    ·omega
    ·have := m.sep j0 j oj xj g0 gj b s2 p1 s3 p3 s4 p4 s5 h7
     subst this
     exact absurd s1 p5
   ·exact m.sep j q xj xk gj gk b p1 q1 p3 q3 p4 q4 h7 h8
 ·intro j x gr b h1 h2 h3 h4
  rcases hlive j x gr b h1 h2 h3 h4 with ⟨i, ob, p1, p2, p3, p4, p5, p6, p7⟩ | ⟨p1, p3, p4, p5⟩
  ·refine ⟨p5, p6, ?_⟩
   rcases p7 with p7 | ⟨j0, oj, g0, s1, s2, s3, s4, s5⟩
   ·exact .inl (Nat.le_trans m.wsz p7)
   ·exact (m.own j0 oj g0 b s2 s3 s4 s5).2.2
  ·obtain ⟨r1, r2, r3⟩ := m.own j x gr b p1 p3 p4 h4
   refine ⟨fun h => ?_, by omega, r3⟩
   rcases hIn b h r1 with h | h | ⟨j0, oj, g0, s1, s2, s3, s4, s5⟩
   ·exact f3 j x gr b p1 p3 p4 h4 (hF1 b h)
   ·omega
   ·have := m.sep j0 j oj x g0 gr b s2 p1 s3 p3 s4 p4 s5 h4
    subst this
    exact p5 s1
 ·intro j hj hb
  by_cases hjρ : j ∈ R
  ·obtain ⟨i, hi⟩ := List.mem_iff_getElem?.1 hjρ
   rw [hin i j hi, hbor i j hi]; exact m.bor j hj hb
  ·rw [hold j hjρ (by omega)]; exact m.bor j hj hb
 ·intro b hb
  by_cases hI : I b
  ·exact m.inew b hI
  ·rcases hIn b hb hI with h | h | ⟨j0, oj, g0, s1, s2, s3, s4, s5⟩
   ·rcases (f2 b (hF1 b h)).2 with h | h
    ·exact .inr (.inl h)
    ·exact .inr (.inr (.inr h))
   ·exact .inr (.inr (.inr (Nat.le_trans m.wsz h)))
   ·rcases (m.own j0 oj g0 b s2 s3 s4 s5).2.2 with h | h
    ·exact .inr (.inr (.inr h))
    ·exact .inr (.inr (.inl h))
 ·intro b hb hor
  rw [hkeep b (Nat.lt_of_lt_of_le hb m.wsz) ?_]
  ·exact m.frame b hb hor
  ·by_cases hI : I b
   ·exact .inl hI
   ·have hnX : ¬ X.I0 b := fun h => hI (m.i0 b h)
    have hor := hor.resolve_left hnX
    refine .inr ⟨fun h => ?_, ?_⟩
    ·rcases (f2 b (hF1 b h)).2 with h | h
     ·exact hor.1 h
     ·omega
    ·intro i j gr hj hg hbb
     obtain ⟨oj, q1, q2⟩ := hbk i j hj gr b hg hbb
     rcases (m.own j oj gr b q1 q2 hg hbb).2.2 with h3 | h3
     ·omega
     ·exact hor.2 h3
 ·intro j T es hj hb hx
  split at hx
  ·rename_i x' hlk
   cases hx
   obtain ⟨i, ob, r1, r2, r3⟩ := hlookS j _ hlk
   have hob' : ob = .arr T es := by cases ob <;> simp [outO] at r3 <;> simp [r3]
   subst hob'
   rcases Nat.lt_or_ge i R.length with hi | hi
   ·exact m'.barr i T es (by show i < (Ob.env k :: pre).length; rw [hlen]; exact hi) (hpa i) r1
   ·rw [hO2 i hi] at r2; omega
  ·exact m.barr j _ _ hj hb hx
 ·obtain ⟨k2, Ft2, ⟨ds2, F2, d1, d2, d3, d4, d5⟩, t2, t3, t4⟩ := m'.env
  have hds2 : ds2 = [] := by
   have d1 : ([] : List Deferred) = ds2.map markD ++ [] := d1
   rw [List.append_nil] at d1
   exact List.map_eq_nil_iff.1 d1.symm
  subst hds2
  have hF2 : ∀ b, F2 b → Ft2 b := fun b hb => (d4 b).2 (.inl hb)
  have hk2 : k2 = k' := by
   have : lookO P0 0 = some (.env k') := by rw [hP0]; rfl
   exact (t4 0 k' this).2.1.symm
  subst hk2
  have hF2n : ∀ b, F2 b → b < w'.heap.size ∧ (F1 b ∨ w.heap.size ≤ b) := fun b hb => t2 b (hF2 b hb)
  have hds : ∀ r ∈ ds, Ft r ∧ r < w.heap.size ∧ ¬ I r ∧ ¬ F1 r := fun r hr => by
   obtain ⟨q1, q2, q3, q4⟩ := e3 r hr
   have := (e4 r).2 (.inr hr)
   exact ⟨this, (f2 r this).1, q2, q4⟩
  have hnl : ∀ r, Ft r → ∀ (i j : Nat) gr, R[i]? = some j → G j = some gr → gr.blk ≠ some r := fun r hr i j gr hj hg hb => by
   obtain ⟨oj, q1, q2⟩ := hbk i j hj gr r hg hb
   exact f3 j oj gr r q1 q2 hg hb hr
  refine ⟨k2, fun b => F2 b ∨ b ∈ ds, ⟨ds, F2, e1, e2, fun r hr => ?_, fun b => Iff.rfl, d5⟩, fun b hf => ?_, fun j x gr b h1 h2 h3 h4 hf => ?_, fun j kk hx => ?_⟩
  ·obtain ⟨h1, h2, h3, h4⟩ := hds r hr
   obtain ⟨q1, q2, q3, q4⟩ := e3 r hr
   refine ⟨by rw [hkeep r h2 (.inr ⟨h4, hnl r h1⟩)]; exact q1, fun hi => ?_, q3, fun hf => ?_⟩
   ·rcases hIn r hi h3 with h | h | ⟨j0, oj, g0, s1, s2, s3, s4, s5⟩
    ·exact h4 h
    ·omega
    ·exact f3 j0 oj g0 r s2 s3 s4 s5 h1
   ·rcases (hF2n r hf).2 with h | h
    ·exact h4 h
    ·omega
  ·rcases hf with hf | hf
   ·refine ⟨(hF2n b hf).1, ?_⟩
    rcases (hF2n b hf).2 with h | h
    ·exact (f2 b (hF1 b h)).2
    ·exact .inr (Nat.le_trans m.wsz h)
   ·obtain ⟨h1, h2, _⟩ := hds b hf
    exact ⟨Nat.lt_of_lt_of_le h2 hsz, (f2 b h1).2⟩
  ·rcases hlive j x gr b h1 h2 h3 h4 with ⟨i, ob, p1, p2, p3, p4, p5, p6, p7⟩ | ⟨p1, p3, p4, p5⟩
   ·rcases hf with hf | hf
    ·exact t3 i ob gr b p1 p2 p3 h4 (hF2 b hf)
    ·obtain ⟨h1, h2, _⟩ := hds b hf
     rcases p7 with p7 | ⟨j0, oj, g0, s1, s2, s3, s4, s5⟩
     ·omega
     ·exact f3 j0 oj g0 b s2 s3 s4 s5 h1
   ·rcases hf with hf | hf
    ·rcases (hF2n b hf).2 with h | h
     ·exact f3 j x gr b p1 p3 p4 h4 (hF1 b h)
     ·have := (m.own j x gr b p1 p3 p4 h4).2.1; omega
    ·exact f3 j x gr b p1 p3 p4 h4 (hds b hf).1
  ·split at hx
   ·rename_i x' hlk
    cases hx
    obtain ⟨i, ob, r1, r2, r3⟩ := hlookS j _ hlk
    have hob' : ob = .env kk := by cases ob <;> simp [outO] at r3 <;> simp [r3]
    subst hob'
    obtain ⟨u1, u2, u3⟩ := t4 i kk r1
    subst u1
    have hj0 : j = 0 := by rw [← r2]; exact hO1 0 0 hR0
    refine ⟨hj0, u2, ?_⟩
    rw [hin 0 0 hR0]; exact u3
   ·rename_i hlk
    obtain ⟨q1, _, _⟩ := f4 j kk hx
    subst q1
    have : lookO P0 0 = some (.env k2) := by rw [hP0]; rfl
    have := hlookI 0 _ this
    rw [hO1 0 0 hR0, hlk] at this
    cases this
end
end Go.Ev


namespace Go.Ev
open RowKit
def FnOK (P : Program) (f : FuncId) : Prop := ∃ fn, P.funcs[f]? = some fn ∧ (fn.name == "runtime.NumGoroutine") = false ∧ fn.body.isNone = false
def Pure (P : Program) (f : FuncId) (args : List D) (r : D) : Prop :=
 FnOK P f ∧ ∀ (w : World) (I : Nat → Prop) (vs : List Value), (∀ b, I b → b < w.heap.size) → RepL I w.heap args vs →
  Calls P f vs.toArray w fun e w' => ∃ v, e = .returned v ∧ ∃ I', RepD I' w'.heap r v ∧ (∀ b, I b → I' b) ∧ (∀ b, I' b → I b ∨ w.heap.size ≤ b) ∧ (∀ b, I' b → b < w'.heap.size) ∧ Below w.heap.size w w'
def Bor (tb : TB) (P : Program) (f : FuncId) (args : List A) (pre : List Ob) (_N : Nat) (r : A) (post : List (Nat × Ob)) : Prop :=
 FnOK P f ∧ ∀ (w : World) (I : Nat → Prop) (G : Nat → Option GR) (vs : List Value), Mod tb (Ctx.call w I pre G 0) noG (fun i => pre[i]?) noAct w G I → RepAL G I w.heap args vs →
  Calls P f vs.toArray w fun e w' => ∃ v, e = .returned v ∧ ∃ G' I', Mod tb (Ctx.callD w I pre post G 0) noG (lookO post) noAct w' G' I' ∧ RepA G' I' w'.heap r v
def Iter (tb : TB) (P : Program) (f : FuncId) (args : List A) (pre : List Ob) (elems : List (List D)) (t : Nat) (post : List (Nat × Ob)) : Prop :=
 FnOK P f ∧ ∀ (E : Env) (lent : Nat → Prop), EnvOK P E (Yt elems t) → ∀ (w : World) (I : Nat → Prop) (G : Nat → Option GR) (vs : List Value), Mod tb (Ctx.iter w I (.env 0 :: pre) G 0 E lent) noG (fun i => (Ob.env 0 :: pre)[i]?) noAct w G I → RepAL G I w.heap args vs →
  Calls P f vs.toArray w fun e w' => ∃ v, e = .returned v ∧ ∃ G' I', Mod tb (Ctx.iter w I (.env 0 :: pre) G 0 E lent) noG (lookO ((0, .env (min (t + 1) elems.length)) :: post)) noAct w' G' I'
def SubC (tb : TB) (P : Program) (Y : Nat → List D → Bool → Prop) (f : FuncId) (args : List A) (pre : List Ob) (k : Nat) (r : A) (k' : Nat) (post : List (Nat × Ob)) : Prop :=
 FnOK P f ∧ ∀ (E : Env) (lent : Nat → Prop), EnvOK P E Y → ∀ (w : World) (I : Nat → Prop) (G : Nat → Option GR) (vs : List Value), Mod tb (Ctx.iter w I (.env k :: pre) G 0 E lent) noG (fun i => (Ob.env k :: pre)[i]?) noAct w G I → RepAL G I w.heap args vs →
  Calls P f vs.toArray w fun e w' => ∃ v, e = .returned v ∧ ∃ G' I', Mod tb (Ctx.iter w I (.env k :: pre) G 0 E lent) noG (lookO ((0, .env k') :: post)) noAct w' G' I' ∧ RepA G' I' w'.heap r v
def Pan (tb : TB) (P : Program) (f : FuncId) (args : List A) (pre : List Ob) (v : Value) : Prop :=
 FnOK P f ∧ ∀ (w : World) (I : Nat → Prop) (G : Nat → Option GR) (vs : List Value), Mod tb (Ctx.call w I pre G 0) noG (fun i => pre[i]?) noAct w G I → RepAL G I w.heap args vs →
  Calls P f vs.toArray w fun e w' => e = .panicked [{ v := v, recovered := false }] ∧ w'.os = w.os ∧ w'.tape = w.tape ∧ w'.output = w.output ∧ w.heap.size ≤ w'.heap.size ∧
   ∀ b, b < w.heap.size → (I b ∨ ¬ ∃ i gr, i < pre.length ∧ G i = some gr ∧ gr.blk = some b) → w'.heap[b]? = w.heap[b]?
def InPl (tb : TB) (P : Program) (f : FuncId) (ds : List D) (T : TypeId) (es es' : List (List D)) : Prop :=
 FnOK P f ∧ ∀ (X : Ctx) (g : Nat → A) (o : Nat → Option Ob) (a : Act) (w : World) (G : Nat → Option GR) (I : Nat → Prop) (i : Nat) (vs : List Value), Mod tb X g o a w G I → o i = some (.arr T es) → RepAL G I w.heap (.own i :: ds.map A.d) vs →
  Calls P f vs.toArray w fun e w' => ∃ v, e = .returned v ∧ v = .tuple #[] ∧ Mod tb X g (updO o i (.arr T es')) a w' G I
def Con (P : Program) (tb : TB) (Wn : Nat) (Y : Nat → List D → Bool → Prop) : Sums := ⟨Pure P, Bor tb P, Wn, Y, Iter tb P, Pan tb P, InPl tb P, SubC tb P Y⟩
section
variable {tb : TB} {X : Ctx} {P : Program} {Wn : Nat} {Y : Nat → List D → Bool → Prop} {F : Fence} {n : Nat} {g : Nat → A} {o : Nat → Option Ob} {a : Act} {w : World} {G : Nat → Option GR} {I : Nat → Prop} {oper : Oper} {K : Eff → Prop}
def Does (tb : TB) (X : Ctx) (P : Program) (F : Fence) (n : Nat) (g : Nat → A) (o : Nat → Option Ob) (a : Act) (w : World) (oper : Oper) (e : Eff) : Prop :=
 ∀ next Q, (∀ a' w' G' I', Mod tb X (appG e g) (appO e o) a' w' G' I' → next a' w') → oper.wpIn F n P a w next Q
theorem appO_id {e : Eff} (h1 : e.obs = []) (h2 : e.frz = []) (h3 : e.clr = []) : appO e o = o := by
 funext i
 have : trO e = id := by unfold trO; rw [h2, h3]
 simp [appO, h1, lookO, this]
theorem trA_id {e : Eff} (h2 : e.frz = []) (h3 : e.clr = []) : trA e = id := by unfold trA; rw [h2, h3]
def slotG (dst : Option Tmp) (x : A) (g : Nat → A) : Nat → A :=
 match dst with
 | some d => fun t => bif Nat.beq d t then x else g t
 | none => g
theorem Mod.slotE (m : Mod tb X g o a w G I) {dst : Option Tmp} (hdst : ∀ d, dst = some d → d < X.nt) {x : A} {v : Value} (r : RepA G I w.heap x v) :
  Mod tb X (slotG dst x g) o (a.put dst v) w G I := by
 cases dst with
 | some d => exact m.put (hdst d rfl) r
 | none => exact m
theorem fin_put (hF : Wide F) (hd : ∀ c, oper.op ≠ .defer c) {v : Value} {x : A} {rd : List Nat} (hrun : (execOp a.eval oper).run P w = .ok (.value v) w) (m : Mod tb X g o a w G I)
  (r : RepA G I w.heap x v) (hdst : ∀ d, oper.dst = some d → d < X.nt) (h : effPut oper.dst x rd K) : ∃ e, K e ∧ Does tb X P F n g o a w oper e := by
 unfold effPut at h
 have key := m.slotE hdst r
 cases hd' : oper.dst with
 | some d =>
  simp only [hd', fA_eq] at h
  refine ⟨_, h, fun next Q hK => wpIn_value hF hd hrun ?_⟩
  rw [hd'] at key
  refine hK _ _ G I ?_
  rw [appO_id rfl rfl rfl, hd']
  exact key
 | none =>
  simp only [hd'] at h
  refine ⟨_, h, fun next Q hK => wpIn_value hF hd hrun ?_⟩
  rw [hd'] at key
  refine hK _ _ G I ?_
  rw [appO_id rfl rfl rfl, hd']
  exact key
theorem appO_one {e : Eff} {i : Nat} {x : Ob} (h1 : e.obs = [(i, x)]) (h2 : e.frz = []) (h3 : e.clr = []) : appO e o = updO o i x := by
 funext j
 have : trO e = id := by unfold trO; rw [h2, h3]
 simp only [appO, h1, lookO, this, updO]
 cases Nat.beq i j <;> simp
theorem below_push (w : World) (ob : Obj) : Below w.heap.size w { w with heap := w.heap.push ob } :=
 ⟨rfl, rfl, rfl, by simp, fun k hk => by simp [Array.getElem?_push, Nat.ne_of_lt hk]⟩
theorem fin_new (hF : Wide F) (hd : ∀ c, oper.op ≠ .defer c) (m : Mod tb X g o a w G I) {T : TypeId} {bulk : Bool} {cs : List A} {vs : Array Value} {nid : Nat} (hn : o nid = none) (hnb : X.nb ≤ nid)
  (hrun : (execOp a.eval oper).run P w = .ok (.value (.pointer (some ⟨w.heap.size, 0, none⟩))) { w with heap := w.heap.push (.cells vs T) })
  (r : RepAL G I w.heap cs vs.toList) (ho : ∀ v ∈ vs.toList, v.oneCell' = true) (hdst : ∀ d, oper.dst = some d → d < X.nt) (h : effNew oper.dst (.ref nid 0) nid (.var bulk T cs) K) : ∃ e, K e ∧ Does tb X P F n g o a w oper e := by
 unfold effNew at h
 cases hd' : oper.dst with
 | none => simp [hd'] at h
 | some d =>
  simp only [hd'] at h
  refine ⟨_, h, fun next Q hK => wpIn_value hF hd hrun ?_⟩
  have hnew : ({ w with heap := w.heap.push (.cells vs T) } : World).heap[w.heap.size]? = some (.cells vs T (0, 0)) := by simp
  have hG0 : G nid = none := by
   cases h : G nid with
   | none => rfl
   | some x => have := m.dom nid x h; rw [hn] at this; cases this
  have hGm : ∀ j x, G j = some x → updG G nid ⟨.pointer (some ⟨w.heap.size, 0, none⟩), some w.heap.size⟩ j = some x := fun j x hx => by
   by_cases e : nid = j
   ·subst e; rw [hG0] at hx; cases hx
   ·rw [updG_ne e]; exact hx
  have m2 := m.mk' hn hnb (gr := ⟨.pointer (some ⟨w.heap.size, 0, none⟩), some w.heap.size⟩) (ob := .var bulk T cs) (below_push w (.cells vs T))
   (fun b hb => by cases hb; exact ⟨Nat.le_refl _, by simp⟩)
   ⟨w.heap.size, vs, updG_self, hnew, RepAL.mono hGm (fun _ h => h) (fun b hb => (below_push w (.cells vs T)).block b (m.isz b hb)) _ _ r, ho⟩
  have r2 : RepA (updG G nid ⟨.pointer (some ⟨w.heap.size, 0, none⟩), some w.heap.size⟩) I ({ w with heap := w.heap.push (.cells vs T) } : World).heap (.ref nid 0) (.pointer (some ⟨w.heap.size, 0, none⟩)) := by
   rw [RepA]; exact ⟨w.heap.size, updG_self, rfl⟩
  have m3 := m2.put (hdst d hd') (v := .pointer (some ⟨w.heap.size, 0, none⟩)) r2
  rw [hd'] at *
  refine hK _ _ (updG G nid ⟨.pointer (some ⟨w.heap.size, 0, none⟩), some w.heap.size⟩) I ?_
  rw [appO_one rfl rfl rfl]
  exact m3
theorem fin_set (hF : Wide F) (hd : ∀ c, oper.op ≠ .defer c) (m : Mod tb X g o a w G I) {i : Nat} {bulk : Bool} {T : TypeId} {cs cs' : List A} (hi : o i = some (.var bulk T cs)) {b : Nat} {vs' : Array Value}
  (hg : G i = some ⟨.pointer (some ⟨b, 0, none⟩), some b⟩) {c0 : Array Value} (hc0 : w.heap[b]? = some (.cells c0 T (0, 0)))
  (hrun : (execOp a.eval oper).run P w = .ok .skip (w.setRow b vs')) (r : RepAL G I w.heap cs' vs'.toList) (ho : ∀ v ∈ vs'.toList, v.oneCell' = true)
  (hdst : ∀ d, oper.dst = some d → d < X.nt) (h : effSet oper.dst i (.var bulk T cs') K) : ∃ e, K e ∧ Does tb X P F n g o a w oper e := by
 have hnI : ¬ I b := (m.own i _ _ b hi rfl hg rfl).1
 have hh : ∀ k, k ≠ b → (w.setRow b vs').heap[k]? = w.heap[k]? := fun k hk => setRow_other w b k vs' hk
 have m2 := m.set' hi rfl hg rfl (ob := .var bulk T cs') (w' := w.setRow b vs') (by simp) hh rfl rfl rfl
  ⟨b, vs', hg, setRow_heap w b c0 vs' T (0, 0) hc0, RepAL.mono (fun _ _ h => h) (fun _ h => h) (fun k hk => hh k (fun e => hnI (e ▸ hk))) _ _ r, ho⟩ (fun _ _ e => nomatch e)
 have m3 := m2.slotE hdst (x := .d (.v undef)) (v := undef) (by rw [RepA, RepD])
 unfold effSet at h
 cases hd' : oper.dst with
 | some d =>
  simp only [hd'] at h
  rw [hd'] at m3
  refine ⟨_, h, fun next Q hK => wpIn_unit hF hd hrun (hK _ _ G I ?_)⟩
  rw [appO_one rfl rfl rfl, hd']
  exact m3
 | none =>
  simp only [hd'] at h
  rw [hd'] at m3
  refine ⟨_, h, fun next Q hK => wpIn_unit hF hd hrun (hK _ _ G I ?_)⟩
  rw [appO_one rfl rfl rfl, hd']
  exact m3
theorem zero_rep {y : Ty} : RepAL G I w.heap (y.zero.map fun v => A.d (.v v)) y.zero := by
 generalize y.zero = l
 induction l with
 | nil => exact RepAL.nil
 | cons v l ih => exact RepAL.cons (by rw [RepA, RepD]) ih
variable (hP : PG P tb) (hF : Wide F) (m : Mod tb X g o a w G I) (hdst : ∀ d, oper.dst = some d → d < X.nt)
include hP hF m hdst
theorem snd_alloc {T : TypeId} (hop : oper.op = .alloc T) {nid : Nat} (hn : o nid = none) (hnb : X.nb ≤ nid) (h : effOp tb (Con P tb Wn Y) (.alloc T) oper.dst g o nid K) : ∃ e, K e ∧ Does tb X P F n g o a w oper e := by
 simp only [effOp] at h
 split at h
 ·rename_i y hy
  have hT := hP.ty T y hy
  obtain ⟨i, z, h1, h2, h3, h4, h5⟩ := hT.info
  have hrun : (execOp a.eval oper).run P w = .ok (.value (.pointer (some ⟨w.heap.size, 0, none⟩))) { w with heap := w.heap.push (.cells z.cells T) } := by
   simp [execOp, hop, Instr.alloc, run_zero h1 h4, newVar, newRow]
  have ho : ∀ v ∈ z.cells.toList, v.oneCell' = true := by rw [h5]; exact hT.one
  have r : RepAL G I w.heap (y.zero.map fun v => A.d (.v v)) z.cells.toList := by rw [h5]; exact zero_rep
  cases hb : y.bulk with
  | true =>
   simp only [hb, cond_true] at h
   exact fin_new hF (by simp [hop]) m hn hnb hrun r ho hdst h
  | false =>
   simp only [hb, cond_false, fL_eq] at h
   exact fin_new hF (by simp [hop]) m hn hnb hrun r ho hdst h
 ·exact h.elim
end
end Go.Ev


namespace Go.Ev
open RowKit
def deadO (os : List Nat) (o : Nat → Option Ob) : Nat → Option Ob := fun i => bif memN os i then o i else (o i).map fun _ => .dead
section
variable {tb : TB} {X : Ctx} {P : Program} {g : Nat → A} {o : Nat → Option Ob} {a : Act} {w : World} {G : Nat → Option GR} {I : Nat → Prop} {os ρ : List Nat}
theorem deadO_some {i : Nat} {x : Ob} (h : deadO os o i = some x) : (i ∈ os ∧ o i = some x) ∨ x = .dead := by
 unfold deadO at h
 cases e : memN os i with
 | true => rw [e] at h; exact .inl ⟨memN_iff.1 e, h⟩
 | false =>
  rw [e] at h
  cases e2 : o i with
  | none => rw [e2] at h; cases h
  | some y => rw [e2] at h; simp only [cond_false, Option.map_some, Option.some.injEq] at h; exact .inr h.symm
theorem deadO_live {i : Nat} {x : Ob} (h : deadO os o i = some x) (hl : x.live = true) : i ∈ os ∧ o i = some x := by
 rcases deadO_some h with h | rfl
 ·exact h
 ·simp [Ob.live] at hl
theorem deadO_isSome {i : Nat} : (deadO os o i).isSome = (o i).isSome := by
 unfold deadO
 cases memN os i with
 | true => rfl
 | false => cases o i <;> rfl
theorem Mod.pan (m : Mod tb X g o a w G I) {w' : World} (hos : w'.os = w.os) (ht : w'.tape = w.tape) (hu : w'.output = w.output) (hsz : w.heap.size ≤ w'.heap.size)
  (hfr : ∀ b, b < w.heap.size → (I b ∨ ¬ ∃ (i j : Nat) (gr : GR), ρ[i]? = some j ∧ G j = some gr ∧ gr.blk = some b) → w'.heap[b]? = w.heap[b]?)
  (hρ : ∀ j ∈ ρ, ∃ x, o j = some x ∧ (x.live = true ∨ ∃ T cs, x = .ro T cs)) (hd : ∀ i ∈ os, i ∉ ρ) : Mod tb X g (deadO os o) a w' G I := by
 have hI : ∀ b, I b → w'.heap[b]? = w.heap[b]? := fun b hb => hfr b (m.isz b hb) (.inl hb)
 have hlent : ∀ b, (∃ (i j : Nat) (gr : GR), ρ[i]? = some j ∧ G j = some gr ∧ gr.blk = some b) → I b ∨ ∃ j x gr, j ∈ ρ ∧ o j = some x ∧ x.live = true ∧ G j = some gr ∧ gr.blk = some b := by
  rintro b ⟨i, j, gr, h1, h2, h3⟩
  have hj := List.mem_of_getElem? h1
  obtain ⟨x, q1, q2⟩ := hρ j hj
  rcases q2 with q2 | ⟨T, cs, rfl⟩
  ·exact .inr ⟨j, x, gr, hj, q1, q2, h2, h3⟩
  ·obtain ⟨b', c, r1, r0, _⟩ := m.objs j _ q1
   rw [h2] at r1; cases r1; cases h3
   exact .inl r0
 have hlive : ∀ i x gr b, i ∈ os → o i = some x → x.live = true → G i = some gr → gr.blk = some b → w'.heap[b]? = w.heap[b]? := by
  intro i x gr b h1 h2 h3 h4 h5
  obtain ⟨p1, p2, _⟩ := m.own i x gr b h2 h3 h4 h5
  refine hfr b p2 (.inr fun hx => ?_)
  rcases hlent b hx with h | ⟨j, y, gr', q1, q2, q3, q4, q5⟩
  ·exact p1 h
  ·have := m.sep i j x y gr gr' b h2 q2 h3 q3 h4 q4 h5 q5
   subst this
   exact hd i h1 q1
 refine { m with slots := fun t => RepA.mono (fun _ _ h => h) (fun _ h => h) hI _ _ (m.slots t), objs := ?_, dom := fun i gr hi => by rw [deadO_isSome]; exact m.dom i gr hi, sep := ?_, own := ?_, isz := fun b hb => Nat.lt_of_lt_of_le (m.isz b hb) hsz, frame := ?_, os := hos.trans m.os, tape := ht.trans m.tape, output := hu.trans m.output, wsz := Nat.le_trans m.wsz hsz, barr := ?_, env := ?_ }
 ·intro i x hx
  rcases deadO_some hx with ⟨h1, h2⟩ | rfl
  ·exact ObOK.mono (fun _ _ h => h) (fun _ h => h) hI (fun hl gr b h3 h4 => hlive i x gr b h1 h2 hl h3 h4) (m.objs i x h2)
  ·trivial
 ·intro i j oi oj gi gj b h1 h2 h3 h4
  exact m.sep i j oi oj gi gj b (deadO_live h1 h3).2 (deadO_live h2 h4).2 h3 h4
 ·intro i oi gi b h1 h2 h3 h4
  obtain ⟨p1, p2, p3⟩ := m.own i oi gi b (deadO_live h1 h2).2 h2 h3 h4
  exact ⟨p1, Nat.lt_of_lt_of_le p2 hsz, p3⟩
 ·intro b hb h
  rw [← m.frame b hb h]
  refine hfr b (Nat.lt_of_lt_of_le hb m.wsz) ?_
  rcases h with h | ⟨h1, h2⟩
  ·exact .inl (m.i0 b h)
  ·by_cases hx : ∃ (i j : Nat) (gr : GR), ρ[i]? = some j ∧ G j = some gr ∧ gr.blk = some b
   ·rcases hlent b hx with h | ⟨j, y, gr', q1, q2, q3, q4, q5⟩
    ·exact .inl h
    ·rcases (m.own j y gr' b q2 q3 q4 q5).2.2 with h | h
     ·omega
     ·exact absurd h h2
   ·exact .inr hx
 ·intro i T es hi hb hx
  rcases deadO_some hx with ⟨_, h2⟩ | h2
  ·exact m.barr i T es hi hb h2
  ·cases h2
 ·obtain ⟨k, Ft, f1, f2, f3, f4⟩ := m.env
  refine ⟨k, Ft, f1.st (fun b hf hb => ?_) hI (fun _ h => h) (fun _ _ h => h) (fun b hb => Nat.lt_of_lt_of_le (m.isz b hb) hsz) hos ht hu hsz, fun b hf => ⟨Nat.lt_of_lt_of_le (f2 b hf).1 hsz, (f2 b hf).2⟩, fun j oj gj b h1 h2 => f3 j oj gj b (deadO_live h1 h2).2 h2, fun i k' h => ?_⟩
  ·refine hfr b hb ?_
   by_cases hx : ∃ (i j : Nat) (gr : GR), ρ[i]? = some j ∧ G j = some gr ∧ gr.blk = some b
   ·rcases hlent b hx with h | ⟨j, y, gr', q1, q2, q3, q4, q5⟩
    ·exact .inl h
    ·exact absurd hf (f3 j y gr' b q2 q3 q4 q5)
   ·exact .inr hx
  ·rcases deadO_some h with ⟨_, h2⟩ | h2
   ·exact f4 i k' h2
   ·cases h2
theorem Mod.deads (m : Mod tb X g o a w G I) {o' : Nat → Option Ob} (h : ∀ i, o' i = o i ∨ (o i = none ∧ o' i = some .dead)) : Mod tb X g o' a w G I := by
 have hl : ∀ i x, o' i = some x → o i = some x ∨ x = .dead := fun i x hx => by
  rcases h i with e | ⟨_, e⟩
  ·exact .inl (e ▸ hx)
  ·rw [e] at hx; cases hx; exact .inr rfl
 have hll : ∀ i x, o' i = some x → x.live = true → o i = some x := fun i x hx hl' => by
  rcases hl i x hx with e | rfl
  ·exact e
  ·simp [Ob.live] at hl'
 exact { m with
  objs := fun i x hx => by
   rcases hl i x hx with e | rfl
   ·exact m.objs i x e
   ·trivial
  dom := fun i gr hg => by
   have := m.dom i gr hg
   rcases h i with e | ⟨e, _⟩
   ·rw [e]; exact this
   ·rw [e] at this; cases this
  sep := fun i j oi oj gi gj b q1 q2 q3 q4 => m.sep i j oi oj gi gj b (hll i oi q1 q3) (hll j oj q2 q4) q3 q4
  own := fun i oi gi b q1 q2 => m.own i oi gi b (hll i oi q1 q2) q2
  barr := fun i T es hi hba hx => by
   rcases hl i _ hx with e | e
   ·exact m.barr i T es hi hba e
   ·cases e
  env := by
   obtain ⟨k, Ft, f1, f2, f3, f4⟩ := m.env
   refine ⟨k, Ft, f1, f2, fun j oj gj b q1 q2 => f3 j oj gj b (hll j oj q1 q2) q2, fun i k' hx => ?_⟩
   rcases hl i _ hx with e | e
   ·exact f4 i k' e
   ·cases e }
def Pans (tb : TB) (X : Ctx) (P : Program) (F : Fence) (n : Nat) (g : Nat → A) (o : Nat → Option Ob) (a : Act) (w : World) (oper : Oper) (e : Eff) : Prop :=
 ∃ i v, (i, Ob.pan v) ∈ e.obs ∧ ∀ next Q, (∀ w' G' I', (∀ os : List Nat, (∀ j ∈ os, ∀ p ∈ e.obs, p.1 ≠ j) → Mod tb X g (deadO os o) a w' G' I') → Q (.panic [{ v := v, recovered := false }]) a w') → oper.wpIn F n P a w next Q
end
end Go.Ev


namespace Go.Ev
open RowKit
section
variable {tb : TB} {X : Ctx} {P : Program} {Wn : Nat} {Y : Nat → List D → Bool → Prop} {F : Fence} {n : Nat} {g : Nat → A} {o : Nat → Option Ob} {a : Act} {w : World} {G : Nat → Option GR} {I : Nat → Prop} {oper : Oper} {K : Eff → Prop} {nid : Nat}
variable (hP : PG P tb) (hF : Wide F) (m : Mod tb X g o a w G I) (hdst : ∀ d, oper.dst = some d → d < X.nt)
include hP hF m hdst
omit hP hF m hdst in
theorem take_one_of {α : Type} {l : List α} {k : Nat} {v : α} (h : l[k]? = some v) : (l.drop k).take 1 = [v] := by
 have h1 : (l.drop k)[0]? = some v := by simpa using h
 cases hc : l.drop k with
 | nil => rw [hc] at h1; simp at h1
 | cons z zs => rw [hc] at h1; simp at h1; simp [h1]
theorem snd_move {x : Operand} (hop : oper.op = .move x ∨ oper.op = .assign x) (h : effPut oper.dst (opA g x) [] K) : ∃ e, K e ∧ Does tb X P F n g o a w oper e := by
 refine fin_put hF (by rcases hop with h | h <;> simp [h]) (v := a.eval x) ?_ m (m.eval x) hdst h
 rcases hop with h | h <;> simp [execOp, h]
theorem snd_pick {c x y : Operand} (hop : oper.op = .pick c x y) (h : effOp tb (Con P tb Wn Y) (.pick c x y) oper.dst g o nid K) : ∃ e, K e ∧ Does tb X P F n g o a w oper e := by
 simp only [effOp] at h
 split at h
 ·rename_i t ht
  have r := m.eval c
  rw [ht, RepA, RepD] at r
  cases t with
  | true => exact fin_put hF (by simp [hop]) (by simp [execOp, hop, r, asBool]) m (m.eval x) hdst (h.1 rfl)
  | false => exact fin_put hF (by simp [hop]) (by simp [execOp, hop, r, asBool]) m (m.eval y) hdst (h.2 rfl)
 ·exact h.elim
theorem snd_box {T : TypeId} {x : Operand} (hop : oper.op = .box T x) (hn : o nid = none) (hnb : X.nb ≤ nid) (h : effOp tb (Con P tb Wn Y) (.box T x) oper.dst g o nid K) : ∃ e, K e ∧ Does tb X P F n g o a w oper e := by
 have hrun : (execOp a.eval oper).run P w = .ok (.value (.pointer (some ⟨w.heap.size, 0, none⟩))) { w with heap := w.heap.push (.cells (a.eval x).cells T) } := by
  simp [execOp, hop, Instr.box, newVar, newRow]
 simp only [effOp] at h
 split at h
 ·rename_i y hy
  cases hb : y.bulk with
  | true =>
   simp only [hb, cond_true] at h
   split at h
   ·rename_i cs hc
    obtain ⟨ho, h⟩ := h
    exact fin_new hF (by simp [hop]) m hn hnb hrun (cellsOf_rep hc (m.eval x)) (RepAL.eq_of_one (cellsOf_rep hc (m.eval x)) ho) hdst h
   ·exact h.elim
  | false =>
   simp only [hb, cond_false, withCells_eq] at h
   obtain ⟨cs, hc, h⟩ := h
   by_cases ho : cs.all A.one = true
   ·simp only [ho, cond_true] at h
    exact fin_new hF (by simp [hop]) m hn hnb hrun (cellsOf_rep hc (m.eval x)) (RepAL.eq_of_one (cellsOf_rep hc (m.eval x)) ho) hdst h
   ·rw [Bool.not_eq_true] at ho; rw [ho] at h; exact h.elim
 ·exact h.elim
theorem snd_load {T : TypeId} {x : Operand} (hop : oper.op = .load T x) (h : effOp tb (Con P tb Wn Y) (.load T x) oper.dst g o nid K) : ∃ e, K e ∧ Does tb X P F n g o a w oper e := by
 have hd : ∀ c, oper.op ≠ .defer c := by simp [hop]
 have rx := m.eval x
 simp only [effOp] at h
 split at h
 ·rename_i y hy
  have hT := hP.ty T y hy
  split at h
  ·-- a variable
   rename_i i off hx
   rw [hx, RepA] at rx
   obtain ⟨b, hg, hu⟩ := rx
   have main : ∀ bulk T' cs, o i = some (.var bulk T' cs) → ∃ c, w.heap[b]? = some (.cells c T' (0, 0)) ∧ RepAL G I w.heap cs c.toList := by
    intro bulk T' cs ho
    obtain ⟨b', c, h1, h2, h3, _⟩ := m.objs i _ ho
    rw [hg] at h1; cases h1
    exact ⟨c, h2, h3⟩
   have fin : ∀ T' cs, (∃ c : Array Value, w.heap[b]? = some (.cells c T' (0, 0)) ∧ RepAL G I w.heap cs c.toList) → ∀ l : List A, (cs.drop off).take y.size = l → l.length = y.size →
     ∀ xr : A, (∀ vs : List Value, RepAL G I w.heap l vs → RepA G I w.heap xr (if y.k.agg then .agg vs.toArray else vs.getD 0 undef)) → effPut oper.dst xr [i] K → ∃ e, K e ∧ Does tb X P F n g o a w oper e := by
    rintro T' cs ⟨c, hc, hr⟩ l hl hlen xr hxr h
    have r2 : RepAL G I w.heap l ((c.toList.drop off).take y.size) := by rw [← hl]; exact (hr.drop off).take y.size
    have hvl : ((c.toList.drop off).take y.size).length = y.size := by rw [RepAL.length r2, hlen]
    refine fin_put hF hd ?_ m (hxr _ r2) hdst h
    simp [execOp, hop, Instr.loadAt, hu, Instr.sureAddr, run_loadVar hT hc rfl hvl]
   split at h
   ·rename_i T' cs ho
    have hm := main _ _ _ ho
    cases ha : y.k.agg with
    | true =>
     simp only [ha, cond_true] at h
     obtain ⟨ds, h1, h2, h⟩ := h
     refine fin T' cs hm (ds.map A.d) h1 (by simpa using h2) _ ?_ h
     intro vs r
     rw [ha, if_pos rfl, RepA, RepD]
     exact ⟨_, rfl, by simpa using RepAL.of_d.1 r⟩
    | false =>
     simp only [ha, cond_false] at h
     obtain ⟨c, h1, h⟩ := h
     have hs := hT.scal ha
     refine fin T' cs hm [c] ?_ (by simp [hs]) c ?_ h
     ·rw [hs]
      have : (cs.drop off)[0]? = some c := by simpa using h1
      cases hcd : cs.drop off with
      | nil => rw [hcd] at this; simp at this
      | cons z zs => rw [hcd] at this; simp at this; simp [this]
     ·intro vs r
      obtain ⟨v, q, rfl, r1, _⟩ := r.uncons
      simpa [ha] using r1
   ·rename_i T' cs ho
    have hm := main _ _ _ ho
    cases ha : y.k.agg with
    | true =>
     simp only [ha, cond_true, fL_eq] at h
     by_cases hl : Nat.beq ((cs.drop off).take y.size).length y.size = true
     ·simp only [hl, cond_true] at h
      refine fin T' cs hm _ rfl (Nat.eq_of_beq_eq_true hl) _ ?_ h
      intro vs r
      rw [ha, if_pos rfl]
      exact RepA.aggA r
     ·rw [Bool.not_eq_true] at hl; rw [hl] at h; exact h.elim
    | false =>
     simp only [ha, cond_false] at h
     split at h
     ·rename_i c h1
      have hs := hT.scal ha
      refine fin T' cs hm [c] ?_ (by simp [hs]) c ?_ h
      ·rw [hs]
       have : (cs.drop off)[0]? = some c := by simpa using h1
       cases hcd : cs.drop off with
       | nil => rw [hcd] at this; simp at this
       | cons z zs => rw [hcd] at this; simp at this; simp [this]
      ·intro vs r
       obtain ⟨v, q, rfl, r1, _⟩ := r.uncons
       simpa [ha] using r1
     ·exact h.elim
   ·rename_i T' cs ho
    have hm : ∃ c : Array Value, w.heap[b]? = some (.cells c T' (0, 0)) ∧ RepAL G I w.heap cs c.toList := by
     obtain ⟨b', c, h1, _, h2, h3, _⟩ := m.objs i _ ho
     rw [hg] at h1; cases h1
     exact ⟨c, h2, h3⟩
    cases ha : y.k.agg with
    | true =>
     simp only [ha, cond_true] at h
     obtain ⟨ds, h1, h2, h⟩ := h
     refine fin T' cs hm (ds.map A.d) h1 (by simpa using h2) _ ?_ h
     intro vs r
     rw [ha, if_pos rfl, RepA, RepD]
     exact ⟨_, rfl, by simpa using RepAL.of_d.1 r⟩
    | false =>
     simp only [ha, cond_false] at h
     obtain ⟨c, h1, h⟩ := h
     have hs := hT.scal ha
     refine fin T' cs hm [c] ?_ (by simp [hs]) c ?_ h
     ·rw [hs]
      have : (cs.drop off)[0]? = some c := by simpa using h1
      cases hcd : cs.drop off with
      | nil => rw [hcd] at this; simp at this
      | cons z zs => rw [hcd] at this; simp at this; simp [this]
     ·intro vs r
      obtain ⟨v, q, rfl, r1, _⟩ := r.uncons
      simpa [ha] using r1
   ·exact h.elim
  ·-- immutable memory
   rename_i cs hx
   rw [hx, RepA, RepD] at rx
   obtain ⟨b, off, c, T', fr, hu, hIb, hc, hr⟩ := rx
   cases ha : y.k.agg with
   | true =>
    simp only [ha, cond_true] at h
    rw [fD_eq] at h
    obtain ⟨hl', h⟩ := h
    ·have hl := hl'
     have r2 : RepL I w.heap (cs.take y.size) ((c.toList.drop off).take y.size) := by
      have := hr.take y.size
      rwa [List.take_take, Nat.min_eq_left (by simp at hl'; omega)] at this
     have hvl : ((c.toList.drop off).take y.size).length = y.size := by rw [RepL.length r2, hl']
     refine fin_put hF hd (v := .agg ((c.toList.drop off).take y.size).toArray) ?_ m ?_ hdst h
     ·simp [execOp, hop, Instr.loadAt, hu, Instr.sureAddr, run_loadVar hT hc rfl hvl, ha]
     ·rw [RepA, RepD]; exact ⟨_, rfl, by simpa using r2⟩
   | false =>
    simp only [ha, cond_false] at h
    split at h
    ·rename_i d h1
     have hs := hT.scal ha
     obtain ⟨v, hv, rv⟩ := RepL.at hr h1
     have hv' : (c.toList.drop off).take y.size = [v] := by
      rw [hs]
      rw [List.getElem?_take] at hv
      split at hv
      ·cases hcd : c.toList.drop off with
       | nil => rw [hcd] at hv; simp at hv
       | cons z zs => rw [hcd] at hv; simp at hv; simp [hv]
      ·cases hv
     refine fin_put hF hd (v := v) ?_ m (by rw [RepA]; exact rv) hdst h
     simp [execOp, hop, Instr.loadAt, hu, Instr.sureAddr, run_loadVar hT hc hv' (by simp [hs]), ha]
    ·exact h.elim
  ·-- immutable memory, a great piece
   rename_i cs n0 hx
   rw [hx, RepA, RepD] at rx
   obtain ⟨b, off, c, T', fr, hu, hIb, hc, hr⟩ := rx
   have hr2 : RepL I w.heap (cs.drop n0) ((c.toList.drop (off + n0)).take (cs.length - n0)) := by
    have := hr.drop n0
    rwa [List.drop_take, List.drop_drop] at this
   cases ha : y.k.agg with
   | true =>
    simp only [ha, cond_true] at h
    obtain ⟨hl', h⟩ := h
    have r2 : RepL I w.heap ((cs.drop n0).take y.size) ((c.toList.drop (off + n0)).take y.size) := by
     have := hr2.take y.size
     rwa [List.take_take, Nat.min_eq_left (by simp at hl'; omega)] at this
    have hvl : ((c.toList.drop (off + n0)).take y.size).length = y.size := by rw [RepL.length r2, hl']
    refine fin_put hF hd (v := .agg ((c.toList.drop (off + n0)).take y.size).toArray) ?_ m ?_ hdst h
    ·simp [execOp, hop, Instr.loadAt, hu, Instr.sureAddr, run_loadVar hT hc rfl hvl, ha]
    ·rw [RepA, RepD]; exact ⟨_, rfl, by simpa using r2⟩
   | false =>
    simp only [ha, cond_false] at h
    obtain ⟨d, h1, h⟩ := h
    have hs := hT.scal ha
    obtain ⟨v, hv, rv⟩ := RepL.at hr2 (j := 0) (d := d) (by simpa using h1)
    have hv' : (c.toList.drop (off + n0)).take y.size = [v] := by
     rw [hs]
     rw [List.getElem?_take] at hv
     split at hv
     ·cases hcd : c.toList.drop (off + n0) with
      | nil => rw [hcd] at hv; simp at hv
      | cons z zs => rw [hcd] at hv; simp at hv; simp [hv]
     ·cases hv
    refine fin_put hF hd (v := v) ?_ m (by rw [RepA]; exact rv) hdst h
    simp [execOp, hop, Instr.loadAt, hu, Instr.sureAddr, run_loadVar hT hc hv' (by simp [hs]), ha]
  ·-- an element of a slice of the frame's own
   rename_i i k sz off hx
   rw [hx, RepA] at rx
   obtain ⟨b, z0, len, cap, hg, hu⟩ := rx
   split at h
   ·rename_i T' es ho
    obtain ⟨el, hel, h⟩ := h
    obtain ⟨y', hy', hob⟩ := m.objs i _ ho
    rcases hob with ⟨rfl, h2⟩ | ⟨b', z', cap', c, h2, h3, h4, h5, h6, h7⟩
    ·simp at hel
    ·rw [hg] at h2; cases h2
     obtain ⟨e1, e2, e3⟩ := RepR.at h7 hel
     by_cases hsz : Nat.beq sz el.length = true
     ·simp only [hsz, cond_true] at h
      have hsz' : sz = y'.size := by rw [Nat.eq_of_beq_eq_true hsz, e1]
      rw [hsz'] at hu
      have e2' : RepL I w.heap (el.drop off) ((c.toList.drop (z0 + k * y'.size + off)).take (y'.size - off)) := by
       have := e2.drop off
       rwa [List.drop_take, List.drop_drop, List.drop_drop, ← Nat.add_assoc] at this
      cases ha : y.k.agg with
      | true =>
       simp only [ha, cond_true] at h
       obtain ⟨hl', h⟩ := h
       have hle : y.size ≤ y'.size - off := by simp at hl'; omega
       have r2 : RepL I w.heap ((el.drop off).take y.size) ((c.toList.drop (z0 + k * y'.size + off)).take y.size) := by
        have := e2'.take y.size
        rwa [List.take_take, Nat.min_eq_left hle] at this
       have hvl : ((c.toList.drop (z0 + k * y'.size + off)).take y.size).length = y.size := by rw [RepL.length r2, hl']
       refine fin_put hF hd (v := .agg ((c.toList.drop (z0 + k * y'.size + off)).take y.size).toArray) ?_ m ?_ hdst h
       ·simp [execOp, hop, Instr.loadAt, hu, Instr.sureAddr, run_loadVar hT h3 rfl hvl, ha]
       ·rw [RepA, RepD]; exact ⟨_, rfl, by simpa using r2⟩
      | false =>
       simp only [ha, cond_false] at h
       obtain ⟨d, h1, h⟩ := h
       have hs := hT.scal ha
       obtain ⟨v, hv, rv⟩ := RepL.at e2' (j := 0) (d := d) (by simpa using h1)
       have hv' : (c.toList.drop (z0 + k * y'.size + off)).take y.size = [v] := by
        rw [hs]
        rw [List.getElem?_take] at hv
        split at hv
        ·cases hcd : c.toList.drop (z0 + k * y'.size + off) with
         | nil => rw [hcd] at hv; simp at hv
         | cons z zs => rw [hcd] at hv; simp at hv; simp [hv]
        ·cases hv
       refine fin_put hF hd (v := v) ?_ m (by rw [RepA]; exact rv) hdst h
       simp [execOp, hop, Instr.loadAt, hu, Instr.sureAddr, run_loadVar hT h3 hv' (by simp [hs]), ha]
     ·rw [Bool.not_eq_true] at hsz; rw [hsz] at h; exact h.elim
   ·rename_i T' cs ho
    obtain ⟨us, r1, y', hy', hob⟩ := m.objs i _ ho
    by_cases hck : (Nat.beq off 0 && Nat.beq sz 1 && !y.k.agg) = true
    ·rw [hck, cond_true] at h
     obtain ⟨cx, hcx, h⟩ := h
     simp only [Bool.and_eq_true, Bool.not_eq_true'] at hck
     obtain ⟨⟨k1, k2⟩, ha⟩ := hck
     have k1 := Nat.eq_of_beq_eq_true k1
     have k2 := Nat.eq_of_beq_eq_true k2
     subst k1 k2
     obtain ⟨u, hu1, ru⟩ := RepAL.at r1 hcx
     have hel : (rawE us)[k]? = some [D.v u] := by unfold rawE; rw [List.getElem?_map, hu1]; rfl
     rcases hob with ⟨h1, h2⟩ | ⟨b', z', cap', c, h2, h3, h4, h5, h6, h7⟩
     ·rw [h1] at hel; simp at hel
     ·rw [hg] at h2; cases h2
      obtain ⟨e1, e2, e3⟩ := RepR.at h7 hel
      have e1 : y'.size = 1 := e1.symm
      rw [e1] at e2
      rw [RepL] at e2
      obtain ⟨v, q, e4, e5, e6⟩ := e2
      rw [RepL] at e6
      subst e6
      rw [RepD] at e5
      subst e5
      have hs := hT.scal ha
      have hv' : (c.toList.drop (z0 + k)).take y.size = [v] := by
       rw [hs, ← e4]
       simp [List.drop_drop]
      refine fin_put hF hd (v := v) ?_ m ru hdst h
      simp [execOp, hop, Instr.loadAt, hu, Instr.sureAddr, run_loadVar hT h3 hv' (by simp [hs]), ha]
    ·rw [Bool.not_eq_true] at hck; rw [hck] at h; exact h.elim
   ·exact h.elim
  ·-- an element of an immutable slice that may name objects
   rename_i x1 hx
   rw [hx, RepA] at rx
   obtain ⟨b, off, c, T', fr, v, hu, hIb, hc, hv, rv⟩ := rx
   cases ha : y.k.agg with
   | true => rw [ha] at h; exact h.elim
   | false =>
    rw [ha, cond_false] at h
    have hs := hT.scal ha
    have hv2 : c.toList[off]? = some v := by rw [Array.getElem?_toList]; exact hv
    have hv' : (c.toList.drop off).take y.size = [v] := by
     rw [hs, take_one_of hv2]
    refine fin_put hF hd (v := v) ?_ m rv hdst h
    simp [execOp, hop, Instr.loadAt, hu, Instr.sureAddr, run_loadVar hT hc hv' (by simp [hs]), ha]
  ·exact h.elim
 ·exact h.elim
end
end Go.Ev

