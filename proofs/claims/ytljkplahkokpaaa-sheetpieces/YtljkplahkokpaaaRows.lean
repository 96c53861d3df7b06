/-
  No cell of these rows narrows 'for every input' (looked for: loops, veiled, ifaces, maps, wideKeys, modest, calm, conditions, laid).
  DERIVED. THE GIVEN ROWS OF THIS SEAT. 13 by the template 'for every input the law returns true; each argument reads behind the call as it read before'; 0 by the template 'total and deterministic' (their statements: YtljkplahkokpaaaTotals.lean).
  GIVEN WITH THE SEED: the statements are not yours to turn. If you find one false, say at which input.
  Laid BY PROGRAM, IN A SANDBOX (cutbox-rows.mjs): the forced cells as the released guide's own fill.sh prints them over the translation 66c86f22826faaf9… (all of the seat's roots in one cut). By AI agents, Wed Nov 11 2026. No macro, syntax, notation, axiom, sorry.
-/
import Derived.Test.YtljkplahkokpaaaChecked
import GoSem.Claim
import GoSem.ClaimJoined
import GoSem.ClaimMapViews
import Derived.JoinedTies
import Derived.KernelRfl
namespace Go.Proofs.Ytljkplahkokpaaa
/- THE CELL 'sum', in the pinned program and in every row, IS THE sha256 OF THE DUMP (.gsa) THAT YtljkplahkokpaaaProg.lean LOADS. Nothing in Lean hashes anything: it is a label: what it is worth is what the hold of that sum in a sandbox is worth. -/
noncomputable def Try.pinned : Pinned := { name := "ytljkplahkokpaaa", sum := "66c86f22826faaf9e2059e0313c248c92719d786b58e937f4b61d4c926425277", checked := Try.checked }
namespace Rows
def none {H : Type} : Left H := { results := [], args := [] }

/-- 'tensilelaw11.SheetReads': WHATEVER THE INPUT: true; the input reads as it did. -/
def sheetReadsSpec : ChangeSpec := { name := "sheetReads", fn := fun _ => fun
  | [d] => { results := [.lit (.bool true)], args := [d] }
  | _ => none }
def sheetReadsRow : OpenClaim := { program := "ytljkplahkokpaaa", sum := "66c86f22826faaf9e2059e0313c248c92719d786b58e937f4b61d4c926425277", func := "tensile/tensilelaw11.SheetReads", spec := "sheetReads", unfollowed := true, recurses := true, plainKeys := false, apart := false }
def SheetReadsSaid : Prop := sheetReadsRow.holds Try.pinned (OpenSpec.ofChange sheetReadsSpec)

/-- ITS FALSE NEIGHBOUR: 'it returns false'. Refute it at one input. -/
def sheetReadsWrong : ChangeSpec := { name := "sheetReads", fn := fun _ => fun
  | [d] => { results := [.lit (.bool false)], args := [d] }
  | _ => none }
def SheetReadsWrongFalsely : Prop := sheetReadsRow.holds Try.pinned (OpenSpec.ofChange sheetReadsWrong)

/-- 'tensilelaw11.SheetFew': WHATEVER THE INPUT: true; the input reads as it did. -/
def sheetFewSpec : ChangeSpec := { name := "sheetFew", fn := fun _ => fun
  | [d] => { results := [.lit (.bool true)], args := [d] }
  | _ => none }
def sheetFewRow : OpenClaim := { program := "ytljkplahkokpaaa", sum := "66c86f22826faaf9e2059e0313c248c92719d786b58e937f4b61d4c926425277", func := "tensile/tensilelaw11.SheetFew", spec := "sheetFew", unfollowed := true, recurses := true, plainKeys := false, apart := false }
def SheetFewSaid : Prop := sheetFewRow.holds Try.pinned (OpenSpec.ofChange sheetFewSpec)

/-- ITS FALSE NEIGHBOUR: 'it returns false'. Refute it at one input. -/
def sheetFewWrong : ChangeSpec := { name := "sheetFew", fn := fun _ => fun
  | [d] => { results := [.lit (.bool false)], args := [d] }
  | _ => none }
def SheetFewWrongFalsely : Prop := sheetFewRow.holds Try.pinned (OpenSpec.ofChange sheetFewWrong)

/-- 'tensilelaw11.SheetWrites': WHATEVER THE INPUT: true; the input reads as it did. -/
def sheetWritesSpec : ChangeSpec := { name := "sheetWrites", fn := fun _ => fun
  | [d] => { results := [.lit (.bool true)], args := [d] }
  | _ => none }
def sheetWritesRow : OpenClaim := { program := "ytljkplahkokpaaa", sum := "66c86f22826faaf9e2059e0313c248c92719d786b58e937f4b61d4c926425277", func := "tensile/tensilelaw11.SheetWrites", spec := "sheetWrites", unfollowed := true, recurses := true, plainKeys := false, apart := false }
def SheetWritesSaid : Prop := sheetWritesRow.holds Try.pinned (OpenSpec.ofChange sheetWritesSpec)

/-- ITS FALSE NEIGHBOUR: 'it returns false'. Refute it at one input. -/
def sheetWritesWrong : ChangeSpec := { name := "sheetWrites", fn := fun _ => fun
  | [d] => { results := [.lit (.bool false)], args := [d] }
  | _ => none }
def SheetWritesWrongFalsely : Prop := sheetWritesRow.holds Try.pinned (OpenSpec.ofChange sheetWritesWrong)

/-- 'tensilelaw11.SheetCut': WHATEVER THE INPUT: true; the input reads as it did. -/
def sheetCutSpec : ChangeSpec := { name := "sheetCut", fn := fun _ => fun
  | [d1, d2] => { results := [.lit (.bool true)], args := [d1, d2] }
  | _ => none }
def sheetCutRow : OpenClaim := { program := "ytljkplahkokpaaa", sum := "66c86f22826faaf9e2059e0313c248c92719d786b58e937f4b61d4c926425277", func := "tensile/tensilelaw11.SheetCut", spec := "sheetCut", unfollowed := true, recurses := true, plainKeys := false, apart := false }
def SheetCutSaid : Prop := sheetCutRow.holds Try.pinned (OpenSpec.ofChange sheetCutSpec)

/-- ITS FALSE NEIGHBOUR: 'it returns false'. Refute it at one input. -/
def sheetCutWrong : ChangeSpec := { name := "sheetCut", fn := fun _ => fun
  | [d1, d2] => { results := [.lit (.bool false)], args := [d1, d2] }
  | _ => none }
def SheetCutWrongFalsely : Prop := sheetCutRow.holds Try.pinned (OpenSpec.ofChange sheetCutWrong)

/-- 'tensilelaw11.SheetMends': WHATEVER THE INPUT: true; the input reads as it did. -/
def sheetMendsSpec : ChangeSpec := { name := "sheetMends", fn := fun _ => fun
  | [d] => { results := [.lit (.bool true)], args := [d] }
  | _ => none }
def sheetMendsRow : OpenClaim := { program := "ytljkplahkokpaaa", sum := "66c86f22826faaf9e2059e0313c248c92719d786b58e937f4b61d4c926425277", func := "tensile/tensilelaw11.SheetMends", spec := "sheetMends", unfollowed := true, recurses := true, plainKeys := false, apart := false }
def SheetMendsSaid : Prop := sheetMendsRow.holds Try.pinned (OpenSpec.ofChange sheetMendsSpec)

/-- ITS FALSE NEIGHBOUR: 'it returns false'. Refute it at one input. -/
def sheetMendsWrong : ChangeSpec := { name := "sheetMends", fn := fun _ => fun
  | [d] => { results := [.lit (.bool false)], args := [d] }
  | _ => none }
def SheetMendsWrongFalsely : Prop := sheetMendsRow.holds Try.pinned (OpenSpec.ofChange sheetMendsWrong)

/-- 'tensilelaw11.SheetAgain': WHATEVER THE INPUT: true; the input reads as it did. -/
def sheetAgainSpec : ChangeSpec := { name := "sheetAgain", fn := fun _ => fun
  | [d1, d2] => { results := [.lit (.bool true)], args := [d1, d2] }
  | _ => none }
def sheetAgainRow : OpenClaim := { program := "ytljkplahkokpaaa", sum := "66c86f22826faaf9e2059e0313c248c92719d786b58e937f4b61d4c926425277", func := "tensile/tensilelaw11.SheetAgain", spec := "sheetAgain", unfollowed := true, recurses := true, plainKeys := false, apart := false }
def SheetAgainSaid : Prop := sheetAgainRow.holds Try.pinned (OpenSpec.ofChange sheetAgainSpec)

/-- ITS FALSE NEIGHBOUR: 'it returns false'. Refute it at one input. -/
def sheetAgainWrong : ChangeSpec := { name := "sheetAgain", fn := fun _ => fun
  | [d1, d2] => { results := [.lit (.bool false)], args := [d1, d2] }
  | _ => none }
def SheetAgainWrongFalsely : Prop := sheetAgainRow.holds Try.pinned (OpenSpec.ofChange sheetAgainWrong)

/-- 'tensilelaw11.SheetPieces': WHATEVER THE INPUT: true; the input reads as it did. -/
def sheetPiecesSpec : ChangeSpec := { name := "sheetPieces", fn := fun _ => fun
  | [d1, d2] => { results := [.lit (.bool true)], args := [d1, d2] }
  | _ => none }
def sheetPiecesRow : OpenClaim := { program := "ytljkplahkokpaaa", sum := "66c86f22826faaf9e2059e0313c248c92719d786b58e937f4b61d4c926425277", func := "tensile/tensilelaw11.SheetPieces", spec := "sheetPieces", unfollowed := true, recurses := true, plainKeys := false, apart := false }
def SheetPiecesSaid : Prop := sheetPiecesRow.holds Try.pinned (OpenSpec.ofChange sheetPiecesSpec)

/-- ITS FALSE NEIGHBOUR: 'it returns false'. Refute it at one input. -/
def sheetPiecesWrong : ChangeSpec := { name := "sheetPieces", fn := fun _ => fun
  | [d1, d2] => { results := [.lit (.bool false)], args := [d1, d2] }
  | _ => none }
def SheetPiecesWrongFalsely : Prop := sheetPiecesRow.holds Try.pinned (OpenSpec.ofChange sheetPiecesWrong)

/-- 'tensilelaw11.SheetBack': WHATEVER THE INPUT: true; the input reads as it did. -/
def sheetBackSpec : ChangeSpec := { name := "sheetBack", fn := fun _ => fun
  | [d] => { results := [.lit (.bool true)], args := [d] }
  | _ => none }
def sheetBackRow : OpenClaim := { program := "ytljkplahkokpaaa", sum := "66c86f22826faaf9e2059e0313c248c92719d786b58e937f4b61d4c926425277", func := "tensile/tensilelaw11.SheetBack", spec := "sheetBack", unfollowed := true, recurses := true, plainKeys := false, apart := false }
def SheetBackSaid : Prop := sheetBackRow.holds Try.pinned (OpenSpec.ofChange sheetBackSpec)

/-- ITS FALSE NEIGHBOUR: 'it returns false'. Refute it at one input. -/
def sheetBackWrong : ChangeSpec := { name := "sheetBack", fn := fun _ => fun
  | [d] => { results := [.lit (.bool false)], args := [d] }
  | _ => none }
def SheetBackWrongFalsely : Prop := sheetBackRow.holds Try.pinned (OpenSpec.ofChange sheetBackWrong)

/-- 'tensilelaw11.SheetMended': WHATEVER THE INPUT: true; the input reads as it did. -/
def sheetMendedSpec : ChangeSpec := { name := "sheetMended", fn := fun _ => fun
  | [d1, d2, d3] => { results := [.lit (.bool true)], args := [d1, d2, d3] }
  | _ => none }
def sheetMendedRow : OpenClaim := { program := "ytljkplahkokpaaa", sum := "66c86f22826faaf9e2059e0313c248c92719d786b58e937f4b61d4c926425277", func := "tensile/tensilelaw11.SheetMended", spec := "sheetMended", unfollowed := true, recurses := true, plainKeys := false, apart := false }
def SheetMendedSaid : Prop := sheetMendedRow.holds Try.pinned (OpenSpec.ofChange sheetMendedSpec)

/-- ITS FALSE NEIGHBOUR: 'it returns false'. Refute it at one input. -/
def sheetMendedWrong : ChangeSpec := { name := "sheetMended", fn := fun _ => fun
  | [d1, d2, d3] => { results := [.lit (.bool false)], args := [d1, d2, d3] }
  | _ => none }
def SheetMendedWrongFalsely : Prop := sheetMendedRow.holds Try.pinned (OpenSpec.ofChange sheetMendedWrong)

/-- 'tensilelaw11.SheetLacks': WHATEVER THE INPUT: true; the input reads as it did. -/
def sheetLacksSpec : ChangeSpec := { name := "sheetLacks", fn := fun _ => fun
  | [d1, d2] => { results := [.lit (.bool true)], args := [d1, d2] }
  | _ => none }
def sheetLacksRow : OpenClaim := { program := "ytljkplahkokpaaa", sum := "66c86f22826faaf9e2059e0313c248c92719d786b58e937f4b61d4c926425277", func := "tensile/tensilelaw11.SheetLacks", spec := "sheetLacks", unfollowed := true, recurses := true, plainKeys := false, apart := false }
def SheetLacksSaid : Prop := sheetLacksRow.holds Try.pinned (OpenSpec.ofChange sheetLacksSpec)

/-- ITS FALSE NEIGHBOUR: 'it returns false'. Refute it at one input. -/
def sheetLacksWrong : ChangeSpec := { name := "sheetLacks", fn := fun _ => fun
  | [d1, d2] => { results := [.lit (.bool false)], args := [d1, d2] }
  | _ => none }
def SheetLacksWrongFalsely : Prop := sheetLacksRow.holds Try.pinned (OpenSpec.ofChange sheetLacksWrong)

/-- 'tensilelaw11.SheetOrder': WHATEVER THE INPUT: true; the input reads as it did. -/
def sheetOrderSpec : ChangeSpec := { name := "sheetOrder", fn := fun _ => fun
  | [d1, d2, d3, d4] => { results := [.lit (.bool true)], args := [d1, d2, d3, d4] }
  | _ => none }
def sheetOrderRow : OpenClaim := { program := "ytljkplahkokpaaa", sum := "66c86f22826faaf9e2059e0313c248c92719d786b58e937f4b61d4c926425277", func := "tensile/tensilelaw11.SheetOrder", spec := "sheetOrder", unfollowed := true, recurses := true, plainKeys := false, apart := false }
def SheetOrderSaid : Prop := sheetOrderRow.holds Try.pinned (OpenSpec.ofChange sheetOrderSpec)

/-- ITS FALSE NEIGHBOUR: 'it returns false'. Refute it at one input. -/
def sheetOrderWrong : ChangeSpec := { name := "sheetOrder", fn := fun _ => fun
  | [d1, d2, d3, d4] => { results := [.lit (.bool false)], args := [d1, d2, d3, d4] }
  | _ => none }
def SheetOrderWrongFalsely : Prop := sheetOrderRow.holds Try.pinned (OpenSpec.ofChange sheetOrderWrong)

/-- 'tensilelaw11.SheetByte': WHATEVER THE INPUT: true; the input reads as it did. -/
def sheetByteSpec : ChangeSpec := { name := "sheetByte", fn := fun _ => fun
  | [d1, d2, d3] => { results := [.lit (.bool true)], args := [d1, d2, d3] }
  | _ => none }
def sheetByteRow : OpenClaim := { program := "ytljkplahkokpaaa", sum := "66c86f22826faaf9e2059e0313c248c92719d786b58e937f4b61d4c926425277", func := "tensile/tensilelaw11.SheetByte", spec := "sheetByte", unfollowed := true, recurses := true, plainKeys := false, apart := false }
def SheetByteSaid : Prop := sheetByteRow.holds Try.pinned (OpenSpec.ofChange sheetByteSpec)

/-- ITS FALSE NEIGHBOUR: 'it returns false'. Refute it at one input. -/
def sheetByteWrong : ChangeSpec := { name := "sheetByte", fn := fun _ => fun
  | [d1, d2, d3] => { results := [.lit (.bool false)], args := [d1, d2, d3] }
  | _ => none }
def SheetByteWrongFalsely : Prop := sheetByteRow.holds Try.pinned (OpenSpec.ofChange sheetByteWrong)

/-- 'tensilelaw11.SheetNames': WHATEVER THE INPUT: true; the input reads as it did. -/
def sheetNamesSpec : ChangeSpec := { name := "sheetNames", fn := fun _ => fun
  | [] => { results := [.lit (.bool true)], args := [] }
  | _ => none }
def sheetNamesRow : OpenClaim := { program := "ytljkplahkokpaaa", sum := "66c86f22826faaf9e2059e0313c248c92719d786b58e937f4b61d4c926425277", func := "tensile/tensilelaw11.SheetNames", spec := "sheetNames", unfollowed := true, recurses := true, plainKeys := false, apart := false }
def SheetNamesSaid : Prop := sheetNamesRow.holds Try.pinned (OpenSpec.ofChange sheetNamesSpec)

/-- ITS FALSE NEIGHBOUR: 'it returns false'. Refute it at one input. -/
def sheetNamesWrong : ChangeSpec := { name := "sheetNames", fn := fun _ => fun
  | [] => { results := [.lit (.bool false)], args := [] }
  | _ => none }
def SheetNamesWrongFalsely : Prop := sheetNamesRow.holds Try.pinned (OpenSpec.ofChange sheetNamesWrong)

/- THE SECOND FORM. 'bulk': how many values and letters a reading holds, each counted each time it is reached (what is shared counts as often as it is met; a slice's spare places count too). A statement '..UptoSaid' is the law's where the arguments, and the package variables that the reading takes, are together of bulk at most 1048576: NARROWER than '..Said'. Prove '..Said' where nothing that the law and all that it calls make is longer than what came in: it says more and counts as full. Else prove '..UptoSaid'. A law counts once. -/
mutual
def uptoBulk {H : Type} : DataW H → Nat
  | .lit (.string bytes) => bytes.length + 1
  | .lit _ => 1
  | .nil => 1
  | .ptr d => uptoBulk d + 1
  | .slice elems spare => uptoBulkAll elems + uptoBulkAll spare + 1
  | .agg parts => uptoBulkAll parts + 1
  | .iface _ d => uptoBulk d + 1
  | .map entries => uptoBulkEntries entries + 1
  | .held _ => 1
def uptoBulkAll {H : Type} : List (DataW H) → Nat
  | [] => 0
  | d :: r => uptoBulk d + uptoBulkAll r
def uptoBulkEntries {H : Type} : List (Lit × DataW H) → Nat
  | [] => 0
  | x :: r => uptoBulkEntry x + uptoBulkEntries r
def uptoBulkEntry {H : Type} : Lit × DataW H → Nat
  | (.string bytes, d) => bytes.length + uptoBulk d + 1
  | (_, d) => uptoBulk d + 1
 end
def uptoSmall : (H : Type) → List (DataW H) → Bool := fun _ ds => decide (uptoBulkAll ds ≤ 1048576)
def OpenSpec.upto (s : _root_.Go.ChangeSpec) : _root_.Go.OpenSpec := { _root_.Go.OpenSpec.ofChange s with cond := some uptoSmall }

/-- 'tensilelaw11.SheetReads', WHERE WHAT IT READS IS OF BULK AT MOST 1048576: true; the input reads as it did. -/
def sheetReadsUptoRow : OpenClaim := { program := "ytljkplahkokpaaa", sum := "66c86f22826faaf9e2059e0313c248c92719d786b58e937f4b61d4c926425277", func := "tensile/tensilelaw11.SheetReads", spec := "sheetReads", unfollowed := true, recurses := true, plainKeys := false, apart := false, narrowed := true }
def SheetReadsUptoSaid : Prop := sheetReadsUptoRow.holds Try.pinned (OpenSpec.upto sheetReadsSpec)

/-- 'tensilelaw11.SheetFew', WHERE WHAT IT READS IS OF BULK AT MOST 1048576: true; the input reads as it did. -/
def sheetFewUptoRow : OpenClaim := { program := "ytljkplahkokpaaa", sum := "66c86f22826faaf9e2059e0313c248c92719d786b58e937f4b61d4c926425277", func := "tensile/tensilelaw11.SheetFew", spec := "sheetFew", unfollowed := true, recurses := true, plainKeys := false, apart := false, narrowed := true }
def SheetFewUptoSaid : Prop := sheetFewUptoRow.holds Try.pinned (OpenSpec.upto sheetFewSpec)

/-- 'tensilelaw11.SheetWrites', WHERE WHAT IT READS IS OF BULK AT MOST 1048576: true; the input reads as it did. -/
def sheetWritesUptoRow : OpenClaim := { program := "ytljkplahkokpaaa", sum := "66c86f22826faaf9e2059e0313c248c92719d786b58e937f4b61d4c926425277", func := "tensile/tensilelaw11.SheetWrites", spec := "sheetWrites", unfollowed := true, recurses := true, plainKeys := false, apart := false, narrowed := true }
def SheetWritesUptoSaid : Prop := sheetWritesUptoRow.holds Try.pinned (OpenSpec.upto sheetWritesSpec)

/-- 'tensilelaw11.SheetCut', WHERE WHAT IT READS IS OF BULK AT MOST 1048576: true; the input reads as it did. -/
def sheetCutUptoRow : OpenClaim := { program := "ytljkplahkokpaaa", sum := "66c86f22826faaf9e2059e0313c248c92719d786b58e937f4b61d4c926425277", func := "tensile/tensilelaw11.SheetCut", spec := "sheetCut", unfollowed := true, recurses := true, plainKeys := false, apart := false, narrowed := true }
def SheetCutUptoSaid : Prop := sheetCutUptoRow.holds Try.pinned (OpenSpec.upto sheetCutSpec)

/-- 'tensilelaw11.SheetMends', WHERE WHAT IT READS IS OF BULK AT MOST 1048576: true; the input reads as it did. -/
def sheetMendsUptoRow : OpenClaim := { program := "ytljkplahkokpaaa", sum := "66c86f22826faaf9e2059e0313c248c92719d786b58e937f4b61d4c926425277", func := "tensile/tensilelaw11.SheetMends", spec := "sheetMends", unfollowed := true, recurses := true, plainKeys := false, apart := false, narrowed := true }
def SheetMendsUptoSaid : Prop := sheetMendsUptoRow.holds Try.pinned (OpenSpec.upto sheetMendsSpec)

/-- 'tensilelaw11.SheetAgain', WHERE WHAT IT READS IS OF BULK AT MOST 1048576: true; the input reads as it did. -/
def sheetAgainUptoRow : OpenClaim := { program := "ytljkplahkokpaaa", sum := "66c86f22826faaf9e2059e0313c248c92719d786b58e937f4b61d4c926425277", func := "tensile/tensilelaw11.SheetAgain", spec := "sheetAgain", unfollowed := true, recurses := true, plainKeys := false, apart := false, narrowed := true }
def SheetAgainUptoSaid : Prop := sheetAgainUptoRow.holds Try.pinned (OpenSpec.upto sheetAgainSpec)

/-- 'tensilelaw11.SheetPieces', WHERE WHAT IT READS IS OF BULK AT MOST 1048576: true; the input reads as it did. -/
def sheetPiecesUptoRow : OpenClaim := { program := "ytljkplahkokpaaa", sum := "66c86f22826faaf9e2059e0313c248c92719d786b58e937f4b61d4c926425277", func := "tensile/tensilelaw11.SheetPieces", spec := "sheetPieces", unfollowed := true, recurses := true, plainKeys := false, apart := false, narrowed := true }
def SheetPiecesUptoSaid : Prop := sheetPiecesUptoRow.holds Try.pinned (OpenSpec.upto sheetPiecesSpec)

/-- 'tensilelaw11.SheetBack', WHERE WHAT IT READS IS OF BULK AT MOST 1048576: true; the input reads as it did. -/
def sheetBackUptoRow : OpenClaim := { program := "ytljkplahkokpaaa", sum := "66c86f22826faaf9e2059e0313c248c92719d786b58e937f4b61d4c926425277", func := "tensile/tensilelaw11.SheetBack", spec := "sheetBack", unfollowed := true, recurses := true, plainKeys := false, apart := false, narrowed := true }
def SheetBackUptoSaid : Prop := sheetBackUptoRow.holds Try.pinned (OpenSpec.upto sheetBackSpec)

/-- 'tensilelaw11.SheetMended', WHERE WHAT IT READS IS OF BULK AT MOST 1048576: true; the input reads as it did. -/
def sheetMendedUptoRow : OpenClaim := { program := "ytljkplahkokpaaa", sum := "66c86f22826faaf9e2059e0313c248c92719d786b58e937f4b61d4c926425277", func := "tensile/tensilelaw11.SheetMended", spec := "sheetMended", unfollowed := true, recurses := true, plainKeys := false, apart := false, narrowed := true }
def SheetMendedUptoSaid : Prop := sheetMendedUptoRow.holds Try.pinned (OpenSpec.upto sheetMendedSpec)

/-- 'tensilelaw11.SheetLacks', WHERE WHAT IT READS IS OF BULK AT MOST 1048576: true; the input reads as it did. -/
def sheetLacksUptoRow : OpenClaim := { program := "ytljkplahkokpaaa", sum := "66c86f22826faaf9e2059e0313c248c92719d786b58e937f4b61d4c926425277", func := "tensile/tensilelaw11.SheetLacks", spec := "sheetLacks", unfollowed := true, recurses := true, plainKeys := false, apart := false, narrowed := true }
def SheetLacksUptoSaid : Prop := sheetLacksUptoRow.holds Try.pinned (OpenSpec.upto sheetLacksSpec)

/-- 'tensilelaw11.SheetOrder', WHERE WHAT IT READS IS OF BULK AT MOST 1048576: true; the input reads as it did. -/
def sheetOrderUptoRow : OpenClaim := { program := "ytljkplahkokpaaa", sum := "66c86f22826faaf9e2059e0313c248c92719d786b58e937f4b61d4c926425277", func := "tensile/tensilelaw11.SheetOrder", spec := "sheetOrder", unfollowed := true, recurses := true, plainKeys := false, apart := false, narrowed := true }
def SheetOrderUptoSaid : Prop := sheetOrderUptoRow.holds Try.pinned (OpenSpec.upto sheetOrderSpec)

/-- 'tensilelaw11.SheetByte', WHERE WHAT IT READS IS OF BULK AT MOST 1048576: true; the input reads as it did. -/
def sheetByteUptoRow : OpenClaim := { program := "ytljkplahkokpaaa", sum := "66c86f22826faaf9e2059e0313c248c92719d786b58e937f4b61d4c926425277", func := "tensile/tensilelaw11.SheetByte", spec := "sheetByte", unfollowed := true, recurses := true, plainKeys := false, apart := false, narrowed := true }
def SheetByteUptoSaid : Prop := sheetByteUptoRow.holds Try.pinned (OpenSpec.upto sheetByteSpec)

/-- 'tensilelaw11.SheetNames', WHERE WHAT IT READS IS OF BULK AT MOST 1048576: true; the input reads as it did. -/
def sheetNamesUptoRow : OpenClaim := { program := "ytljkplahkokpaaa", sum := "66c86f22826faaf9e2059e0313c248c92719d786b58e937f4b61d4c926425277", func := "tensile/tensilelaw11.SheetNames", spec := "sheetNames", unfollowed := true, recurses := true, plainKeys := false, apart := false, narrowed := true }
def SheetNamesUptoSaid : Prop := sheetNamesUptoRow.holds Try.pinned (OpenSpec.upto sheetNamesSpec)

end Rows
end Go.Proofs.Ytljkplahkokpaaa
