/-
  No cell of these rows narrows 'for every input' (looked for: loops, veiled, ifaces, maps, wideKeys, modest, calm, conditions, laid).
  DERIVED. THE GIVEN ROWS OF THIS SEAT. 8 by the template 'for every input the law returns true; each argument reads behind the call as it read before'; 0 by the template 'total and deterministic' (their statements: YtdgjogeddogbdaaTotals.lean).
  GIVEN WITH THE SEED: the statements are not yours to turn. If you find one false, say at which input.
  Laid BY PROGRAM, IN A SANDBOX (cutbox-rows.mjs): the forced cells as the released guide's own fill.sh prints them over the translation 5e36ab777e74ce25… (all of the seat's roots in one cut). By AI agents, Wed Nov 11 2026. No macro, syntax, notation, axiom, sorry.
-/
import Derived.Test.YtdgjogeddogbdaaChecked
import GoSem.Claim
import GoSem.ClaimJoined
import GoSem.ClaimMapViews
import Derived.JoinedTies
import Derived.KernelRfl
namespace Go.Proofs.Ytdgjogeddogbdaa
/- THE CELL 'sum', in the pinned program and in every row, IS THE sha256 OF THE DUMP (.gsa) THAT YtdgjogeddogbdaaProg.lean LOADS. Nothing in Lean hashes anything: it is a label: what it is worth is what the hold of that sum in a sandbox is worth. -/
noncomputable def Try.pinned : Pinned := { name := "ytdgjogeddogbdaa", sum := "5e36ab777e74ce2516ca70c6022e66e6ac3c825fa36e26c527bee0cba93615c8", checked := Try.checked }
namespace Rows
def none {H : Type} : Left H := { results := [], args := [] }

/-- 'tensilelaw01.CurveReads': WHATEVER THE INPUT: true; the input reads as it did. -/
def curveReadsSpec : ChangeSpec := { name := "curveReads", fn := fun _ => fun
  | [d1, d2, d3] => { results := [.lit (.bool true)], args := [d1, d2, d3] }
  | _ => none }
def curveReadsRow : OpenClaim := { program := "ytdgjogeddogbdaa", sum := "5e36ab777e74ce2516ca70c6022e66e6ac3c825fa36e26c527bee0cba93615c8", func := "tensile/tensilelaw01.CurveReads", spec := "curveReads", unfollowed := true, recurses := true, plainKeys := false, apart := false }
def CurveReadsSaid : Prop := curveReadsRow.holds Try.pinned (OpenSpec.ofChange curveReadsSpec)

/-- ITS FALSE NEIGHBOUR: 'it returns false'. Refute it at one input. -/
def curveReadsWrong : ChangeSpec := { name := "curveReads", fn := fun _ => fun
  | [d1, d2, d3] => { results := [.lit (.bool false)], args := [d1, d2, d3] }
  | _ => none }
def CurveReadsWrongFalsely : Prop := curveReadsRow.holds Try.pinned (OpenSpec.ofChange curveReadsWrong)

/-- 'tensilelaw01.CurveSpans': WHATEVER THE INPUT: true; the input reads as it did. -/
def curveSpansSpec : ChangeSpec := { name := "curveSpans", fn := fun _ => fun
  | [d1, d2, d3] => { results := [.lit (.bool true)], args := [d1, d2, d3] }
  | _ => none }
def curveSpansRow : OpenClaim := { program := "ytdgjogeddogbdaa", sum := "5e36ab777e74ce2516ca70c6022e66e6ac3c825fa36e26c527bee0cba93615c8", func := "tensile/tensilelaw01.CurveSpans", spec := "curveSpans", unfollowed := true, recurses := true, plainKeys := false, apart := false }
def CurveSpansSaid : Prop := curveSpansRow.holds Try.pinned (OpenSpec.ofChange curveSpansSpec)

/-- ITS FALSE NEIGHBOUR: 'it returns false'. Refute it at one input. -/
def curveSpansWrong : ChangeSpec := { name := "curveSpans", fn := fun _ => fun
  | [d1, d2, d3] => { results := [.lit (.bool false)], args := [d1, d2, d3] }
  | _ => none }
def CurveSpansWrongFalsely : Prop := curveSpansRow.holds Try.pinned (OpenSpec.ofChange curveSpansWrong)

/-- 'tensilelaw01.CurveRules': WHATEVER THE INPUT: true; the input reads as it did. -/
def curveRulesSpec : ChangeSpec := { name := "curveRules", fn := fun _ => fun
  | [d1, d2, d3, d4, d5] => { results := [.lit (.bool true)], args := [d1, d2, d3, d4, d5] }
  | _ => none }
def curveRulesRow : OpenClaim := { program := "ytdgjogeddogbdaa", sum := "5e36ab777e74ce2516ca70c6022e66e6ac3c825fa36e26c527bee0cba93615c8", func := "tensile/tensilelaw01.CurveRules", spec := "curveRules", unfollowed := true, recurses := true, plainKeys := false, apart := false }
def CurveRulesSaid : Prop := curveRulesRow.holds Try.pinned (OpenSpec.ofChange curveRulesSpec)

/-- ITS FALSE NEIGHBOUR: 'it returns false'. Refute it at one input. -/
def curveRulesWrong : ChangeSpec := { name := "curveRules", fn := fun _ => fun
  | [d1, d2, d3, d4, d5] => { results := [.lit (.bool false)], args := [d1, d2, d3, d4, d5] }
  | _ => none }
def CurveRulesWrongFalsely : Prop := curveRulesRow.holds Try.pinned (OpenSpec.ofChange curveRulesWrong)

/-- 'tensilelaw01.CurveUnits': WHATEVER THE INPUT: true; the input reads as it did. -/
def curveUnitsSpec : ChangeSpec := { name := "curveUnits", fn := fun _ => fun
  | [d1, d2, d3, d4, d5] => { results := [.lit (.bool true)], args := [d1, d2, d3, d4, d5] }
  | _ => none }
def curveUnitsRow : OpenClaim := { program := "ytdgjogeddogbdaa", sum := "5e36ab777e74ce2516ca70c6022e66e6ac3c825fa36e26c527bee0cba93615c8", func := "tensile/tensilelaw01.CurveUnits", spec := "curveUnits", unfollowed := true, recurses := true, plainKeys := false, apart := false }
def CurveUnitsSaid : Prop := curveUnitsRow.holds Try.pinned (OpenSpec.ofChange curveUnitsSpec)

/-- ITS FALSE NEIGHBOUR: 'it returns false'. Refute it at one input. -/
def curveUnitsWrong : ChangeSpec := { name := "curveUnits", fn := fun _ => fun
  | [d1, d2, d3, d4, d5] => { results := [.lit (.bool false)], args := [d1, d2, d3, d4, d5] }
  | _ => none }
def CurveUnitsWrongFalsely : Prop := curveUnitsRow.holds Try.pinned (OpenSpec.ofChange curveUnitsWrong)

/-- 'tensilelaw01.CurvePulled': WHATEVER THE INPUT: true; the input reads as it did. -/
def curvePulledSpec : ChangeSpec := { name := "curvePulled", fn := fun _ => fun
  | [d1, d2, d3, d4, d5] => { results := [.lit (.bool true)], args := [d1, d2, d3, d4, d5] }
  | _ => none }
def curvePulledRow : OpenClaim := { program := "ytdgjogeddogbdaa", sum := "5e36ab777e74ce2516ca70c6022e66e6ac3c825fa36e26c527bee0cba93615c8", func := "tensile/tensilelaw01.CurvePulled", spec := "curvePulled", unfollowed := true, recurses := true, plainKeys := false, apart := false }
def CurvePulledSaid : Prop := curvePulledRow.holds Try.pinned (OpenSpec.ofChange curvePulledSpec)

/-- ITS FALSE NEIGHBOUR: 'it returns false'. Refute it at one input. -/
def curvePulledWrong : ChangeSpec := { name := "curvePulled", fn := fun _ => fun
  | [d1, d2, d3, d4, d5] => { results := [.lit (.bool false)], args := [d1, d2, d3, d4, d5] }
  | _ => none }
def CurvePulledWrongFalsely : Prop := curvePulledRow.holds Try.pinned (OpenSpec.ofChange curvePulledWrong)

/-- 'tensilelaw01.CurveOrder': WHATEVER THE INPUT: true; the input reads as it did. -/
def curveOrderSpec : ChangeSpec := { name := "curveOrder", fn := fun _ => fun
  | [d1, d2, d3] => { results := [.lit (.bool true)], args := [d1, d2, d3] }
  | _ => none }
def curveOrderRow : OpenClaim := { program := "ytdgjogeddogbdaa", sum := "5e36ab777e74ce2516ca70c6022e66e6ac3c825fa36e26c527bee0cba93615c8", func := "tensile/tensilelaw01.CurveOrder", spec := "curveOrder", unfollowed := true, recurses := true, plainKeys := false, apart := false }
def CurveOrderSaid : Prop := curveOrderRow.holds Try.pinned (OpenSpec.ofChange curveOrderSpec)

/-- ITS FALSE NEIGHBOUR: 'it returns false'. Refute it at one input. -/
def curveOrderWrong : ChangeSpec := { name := "curveOrder", fn := fun _ => fun
  | [d1, d2, d3] => { results := [.lit (.bool false)], args := [d1, d2, d3] }
  | _ => none }
def CurveOrderWrongFalsely : Prop := curveOrderRow.holds Try.pinned (OpenSpec.ofChange curveOrderWrong)

/-- 'tensilelaw01.CurveShows': WHATEVER THE INPUT: true; the input reads as it did. -/
def curveShowsSpec : ChangeSpec := { name := "curveShows", fn := fun _ => fun
  | [d1, d2, d3, d4, d5, d6] => { results := [.lit (.bool true)], args := [d1, d2, d3, d4, d5, d6] }
  | _ => none }
def curveShowsRow : OpenClaim := { program := "ytdgjogeddogbdaa", sum := "5e36ab777e74ce2516ca70c6022e66e6ac3c825fa36e26c527bee0cba93615c8", func := "tensile/tensilelaw01.CurveShows", spec := "curveShows", unfollowed := true, recurses := true, plainKeys := false, apart := false }
def CurveShowsSaid : Prop := curveShowsRow.holds Try.pinned (OpenSpec.ofChange curveShowsSpec)

/-- ITS FALSE NEIGHBOUR: 'it returns false'. Refute it at one input. -/
def curveShowsWrong : ChangeSpec := { name := "curveShows", fn := fun _ => fun
  | [d1, d2, d3, d4, d5, d6] => { results := [.lit (.bool false)], args := [d1, d2, d3, d4, d5, d6] }
  | _ => none }
def CurveShowsWrongFalsely : Prop := curveShowsRow.holds Try.pinned (OpenSpec.ofChange curveShowsWrong)

/-- 'tensilelaw01.CurveEnds': WHATEVER THE INPUT: true; the input reads as it did. -/
def curveEndsSpec : ChangeSpec := { name := "curveEnds", fn := fun _ => fun
  | [d1, d2, d3] => { results := [.lit (.bool true)], args := [d1, d2, d3] }
  | _ => none }
def curveEndsRow : OpenClaim := { program := "ytdgjogeddogbdaa", sum := "5e36ab777e74ce2516ca70c6022e66e6ac3c825fa36e26c527bee0cba93615c8", func := "tensile/tensilelaw01.CurveEnds", spec := "curveEnds", unfollowed := true, recurses := true, plainKeys := false, apart := false }
def CurveEndsSaid : Prop := curveEndsRow.holds Try.pinned (OpenSpec.ofChange curveEndsSpec)

/-- ITS FALSE NEIGHBOUR: 'it returns false'. Refute it at one input. -/
def curveEndsWrong : ChangeSpec := { name := "curveEnds", fn := fun _ => fun
  | [d1, d2, d3] => { results := [.lit (.bool false)], args := [d1, d2, d3] }
  | _ => none }
def CurveEndsWrongFalsely : Prop := curveEndsRow.holds Try.pinned (OpenSpec.ofChange curveEndsWrong)

/- THE SECOND FORM. 'bulk': how many values and letters a reading holds, each counted each time it is reached (what is shared counts as often as it is met; a slice's spare places count too). A statement '..UptoSaid' is the law's where the arguments, and the package variables that the reading takes, are together of bulk at most 1048576: NARROWER than '..Said'. Prove '..Said' where nothing that the law and all that it calls make is longer than what came in: it says more and counts as full. Else prove '..UptoSaid'. A law counts once. -/
mutual
def uptoBulk {H : Type} : DataW H → Nat
  | .lit (.string bytes) => bytes.length + 1
  | .lit _ => 1
  | .nil => 1
  | .ptr d => uptoBulk d + 1
  | .slice elems spare => uptoBulkAll elems + uptoBulkAll spare + 1
  | .agg parts => uptoBulkAll parts + 1
  | .iface _ d => uptoBulk d + 1
  | .map entries => uptoBulkEntries entries + 1
  | .held _ => 1
def uptoBulkAll {H : Type} : List (DataW H) → Nat
  | [] => 0
  | d :: r => uptoBulk d + uptoBulkAll r
def uptoBulkEntries {H : Type} : List (Lit × DataW H) → Nat
  | [] => 0
  | x :: r => uptoBulkEntry x + uptoBulkEntries r
def uptoBulkEntry {H : Type} : Lit × DataW H → Nat
  | (.string bytes, d) => bytes.length + uptoBulk d + 1
  | (_, d) => uptoBulk d + 1
 end
def uptoSmall : (H : Type) → List (DataW H) → Bool := fun _ ds => decide (uptoBulkAll ds ≤ 1048576)
def OpenSpec.upto (s : _root_.Go.ChangeSpec) : _root_.Go.OpenSpec := { _root_.Go.OpenSpec.ofChange s with cond := some uptoSmall }

/-- 'tensilelaw01.CurveReads', WHERE WHAT IT READS IS OF BULK AT MOST 1048576: true; the input reads as it did. -/
def curveReadsUptoRow : OpenClaim := { program := "ytdgjogeddogbdaa", sum := "5e36ab777e74ce2516ca70c6022e66e6ac3c825fa36e26c527bee0cba93615c8", func := "tensile/tensilelaw01.CurveReads", spec := "curveReads", unfollowed := true, recurses := true, plainKeys := false, apart := false, narrowed := true }
def CurveReadsUptoSaid : Prop := curveReadsUptoRow.holds Try.pinned (OpenSpec.upto curveReadsSpec)

/-- 'tensilelaw01.CurveSpans', WHERE WHAT IT READS IS OF BULK AT MOST 1048576: true; the input reads as it did. -/
def curveSpansUptoRow : OpenClaim := { program := "ytdgjogeddogbdaa", sum := "5e36ab777e74ce2516ca70c6022e66e6ac3c825fa36e26c527bee0cba93615c8", func := "tensile/tensilelaw01.CurveSpans", spec := "curveSpans", unfollowed := true, recurses := true, plainKeys := false, apart := false, narrowed := true }
def CurveSpansUptoSaid : Prop := curveSpansUptoRow.holds Try.pinned (OpenSpec.upto curveSpansSpec)

/-- 'tensilelaw01.CurveRules', WHERE WHAT IT READS IS OF BULK AT MOST 1048576: true; the input reads as it did. -/
def curveRulesUptoRow : OpenClaim := { program := "ytdgjogeddogbdaa", sum := "5e36ab777e74ce2516ca70c6022e66e6ac3c825fa36e26c527bee0cba93615c8", func := "tensile/tensilelaw01.CurveRules", spec := "curveRules", unfollowed := true, recurses := true, plainKeys := false, apart := false, narrowed := true }
def CurveRulesUptoSaid : Prop := curveRulesUptoRow.holds Try.pinned (OpenSpec.upto curveRulesSpec)

/-- 'tensilelaw01.CurveUnits', WHERE WHAT IT READS IS OF BULK AT MOST 1048576: true; the input reads as it did. -/
def curveUnitsUptoRow : OpenClaim := { program := "ytdgjogeddogbdaa", sum := "5e36ab777e74ce2516ca70c6022e66e6ac3c825fa36e26c527bee0cba93615c8", func := "tensile/tensilelaw01.CurveUnits", spec := "curveUnits", unfollowed := true, recurses := true, plainKeys := false, apart := false, narrowed := true }
def CurveUnitsUptoSaid : Prop := curveUnitsUptoRow.holds Try.pinned (OpenSpec.upto curveUnitsSpec)

/-- 'tensilelaw01.CurvePulled', WHERE WHAT IT READS IS OF BULK AT MOST 1048576: true; the input reads as it did. -/
def curvePulledUptoRow : OpenClaim := { program := "ytdgjogeddogbdaa", sum := "5e36ab777e74ce2516ca70c6022e66e6ac3c825fa36e26c527bee0cba93615c8", func := "tensile/tensilelaw01.CurvePulled", spec := "curvePulled", unfollowed := true, recurses := true, plainKeys := false, apart := false, narrowed := true }
def CurvePulledUptoSaid : Prop := curvePulledUptoRow.holds Try.pinned (OpenSpec.upto curvePulledSpec)

/-- 'tensilelaw01.CurveOrder', WHERE WHAT IT READS IS OF BULK AT MOST 1048576: true; the input reads as it did. -/
def curveOrderUptoRow : OpenClaim := { program := "ytdgjogeddogbdaa", sum := "5e36ab777e74ce2516ca70c6022e66e6ac3c825fa36e26c527bee0cba93615c8", func := "tensile/tensilelaw01.CurveOrder", spec := "curveOrder", unfollowed := true, recurses := true, plainKeys := false, apart := false, narrowed := true }
def CurveOrderUptoSaid : Prop := curveOrderUptoRow.holds Try.pinned (OpenSpec.upto curveOrderSpec)

/-- 'tensilelaw01.CurveShows', WHERE WHAT IT READS IS OF BULK AT MOST 1048576: true; the input reads as it did. -/
def curveShowsUptoRow : OpenClaim := { program := "ytdgjogeddogbdaa", sum := "5e36ab777e74ce2516ca70c6022e66e6ac3c825fa36e26c527bee0cba93615c8", func := "tensile/tensilelaw01.CurveShows", spec := "curveShows", unfollowed := true, recurses := true, plainKeys := false, apart := false, narrowed := true }
def CurveShowsUptoSaid : Prop := curveShowsUptoRow.holds Try.pinned (OpenSpec.upto curveShowsSpec)

/-- 'tensilelaw01.CurveEnds', WHERE WHAT IT READS IS OF BULK AT MOST 1048576: true; the input reads as it did. -/
def curveEndsUptoRow : OpenClaim := { program := "ytdgjogeddogbdaa", sum := "5e36ab777e74ce2516ca70c6022e66e6ac3c825fa36e26c527bee0cba93615c8", func := "tensile/tensilelaw01.CurveEnds", spec := "curveEnds", unfollowed := true, recurses := true, plainKeys := false, apart := false, narrowed := true }
def CurveEndsUptoSaid : Prop := curveEndsUptoRow.holds Try.pinned (OpenSpec.upto curveEndsSpec)

end Rows
end Go.Proofs.Ytdgjogeddogbdaa
