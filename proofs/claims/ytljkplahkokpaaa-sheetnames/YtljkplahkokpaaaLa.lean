/-
  Contracts of functions, and plain laws, that lead to the statement. Written by an agent.
-/
import Derived.Test.YtljkplahkokpaaaProg
import Derived.KernelRfl
import Derived.RecoverIn
import Derived.TacticsInMore
import Derived.Shelf.SlSortCmp.NoneTotal
import Derived.Shelf.SlLaysF0
import Derived.WalkKit
import Derived.Test.YtljkplahkokpaaaKd
set_option linter.unusedVariables false
set_option linter.unusedSimpArgs false
namespace Go.Ev.Ytljkplahkokpaaa
open Go.Proofs
def tys : List (Option Ty) := [
 none,
 some ⟨.other, 1, 8, [.nilFunc], (false, false)⟩,
 some ⟨.int .i64, 1, 8, [.int .i64 0], (false, false)⟩,
 some ⟨.int .i64, 1, 8, [.int .i64 0], (false, false)⟩,
 some ⟨.bool, 1, 1, [.bool false], (false, false)⟩,
 some ⟨.int .u8, 1, 1, [.int .u8 0], (false, false)⟩,
 some ⟨.int .u8, 1, 1, [.int .u8 0], (false, false)⟩,
 some ⟨.struct [(0, 2), (1, 3), (2, 4), (3, 6)], 4, 24, [.int .i64 0, .int .i64 0, .bool false, .int .u8 0], (false, false)⟩,
 some ⟨.struct [(0, 2), (1, 3), (2, 4), (3, 6)], 4, 24, [.int .i64 0, .int .i64 0, .bool false, .int .u8 0], (false, false)⟩,
 some ⟨.str, 1, 16, [.string ByteArray.empty], (false, false)⟩,
 some ⟨.str, 1, 16, [.string ByteArray.empty], (false, false)⟩,
 some ⟨.str, 1, 16, [.string ByteArray.empty], (false, false)⟩,
 some ⟨.int .u64, 1, 8, [.int .u64 0], (false, false)⟩,
 some ⟨.struct [(0, 9), (1, 12)], 2, 24, [.string ByteArray.empty, .int .u64 0], (false, false)⟩,
 some ⟨.struct [(0, 9), (1, 12)], 2, 24, [.string ByteArray.empty, .int .u64 0], (false, false)⟩,
 some ⟨.ptr 205, 1, 8, [.pointer none], (false, false)⟩,
 some ⟨.ptr 208, 1, 8, [.pointer none], (false, false)⟩,
 some ⟨.ptr 216, 1, 8, [.pointer none], (false, false)⟩,
 some ⟨.struct [(0, 17)], 1, 8, [.pointer none], (false, false)⟩,
 some ⟨.struct [(0, 17)], 1, 8, [.pointer none], (false, false)⟩,
 some ⟨.other, 1, 16, [.nilIface], (false, false)⟩,
 some ⟨.int .i32, 1, 4, [.int .i32 0], (false, false)⟩,
 some ⟨.slice 5, 1, 24, [.slice none 0 0], (false, false)⟩,
 some ⟨.other, 1, 8, [.nilFunc], (false, false)⟩,
 some ⟨.slice 50, 1, 24, [.slice none 0 0], (false, false)⟩,
 some ⟨.int .i64, 1, 8, [.int .i64 0], (false, false)⟩,
 none,
 some ⟨.other, 1, 8, [.nilFunc], (false, false)⟩,
 some ⟨.other, 1, 8, [.nilFunc], (false, false)⟩,
 some ⟨.slice 65, 1, 24, [.slice none 0 0], (false, false)⟩,
 none,
 some ⟨.other, 1, 8, [.nilFunc], (false, false)⟩,
 some ⟨.other, 1, 8, [.nilFunc], (false, false)⟩,
 some ⟨.slice 38, 1, 24, [.slice none 0 0], (false, false)⟩,
 some ⟨.slice 3, 1, 24, [.slice none 0 0], (false, false)⟩,
 some ⟨.other, 1, 8, [.nilFunc], (false, false)⟩,
 some ⟨.slice 73, 1, 24, [.slice none 0 0], (false, false)⟩,
 some ⟨.struct [(0, 3), (1, 36)], 2, 32, [.int .i64 0, .slice none 0 0], (false, false)⟩,
 some ⟨.struct [(0, 3), (1, 36)], 2, 32, [.int .i64 0, .slice none 0 0], (false, false)⟩,
 none,
 some ⟨.other, 1, 8, [.nilFunc], (false, false)⟩,
 some ⟨.other, 1, 8, [.nilFunc], (false, false)⟩,
 some ⟨.other, 1, 8, [.nilFunc], (false, false)⟩,
 some ⟨.other, 1, 8, [.nilFunc], (false, false)⟩,
 some ⟨.other, 1, 8, [.nilFunc], (false, false)⟩,
 some ⟨.slice 22, 1, 24, [.slice none 0 0], (false, false)⟩,
 none,
 some ⟨.other, 1, 8, [.nilFunc], (false, false)⟩,
 some ⟨.slice 74, 1, 24, [.slice none 0 0], (false, false)⟩,
 some ⟨.struct [(0, 3), (1, 48)], 2, 32, [.int .i64 0, .slice none 0 0], (false, false)⟩,
 some ⟨.struct [(0, 3), (1, 48)], 2, 32, [.int .i64 0, .slice none 0 0], (false, false)⟩,
 some ⟨.other, 1, 8, [.nilFunc], (false, false)⟩,
 some ⟨.other, 1, 8, [.nilFunc], (false, false)⟩,
 none,
 some ⟨.other, 1, 8, [.nilFunc], (false, false)⟩,
 some ⟨.other, 1, 8, [.nilFunc], (false, false)⟩,
 some ⟨.other, 1, 8, [.nilFunc], (false, false)⟩,
 some ⟨.other, 1, 8, [.nilFunc], (false, false)⟩,
 some ⟨.int .u16, 1, 2, [.int .u16 0], (false, false)⟩,
 some ⟨.other, 1, 8, [.nilFunc], (false, false)⟩,
 some ⟨.other, 1, 8, [.nilFunc], (false, false)⟩,
 some ⟨.other, 1, 8, [.nilFunc], (false, false)⟩,
 some ⟨.other, 1, 8, [.nilFunc], (false, false)⟩,
 some ⟨.other, 1, 8, [.nilFunc], (false, false)⟩,
 some ⟨.struct [(0, 3), (1, 3), (2, 3), (3, 36), (4, 9)], 5, 64, [.int .i64 0, .int .i64 0, .int .i64 0, .slice none 0 0, .string ByteArray.empty], (false, false)⟩,
 some ⟨.struct [(0, 3), (1, 3), (2, 3), (3, 36), (4, 9)], 5, 64, [.int .i64 0, .int .i64 0, .int .i64 0, .slice none 0 0, .string ByteArray.empty], (false, false)⟩,
 some ⟨.other, 1, 8, [.nilFunc], (false, false)⟩,
 some ⟨.int .u64, 1, 8, [.int .u64 0], (false, false)⟩,
 some ⟨.other, 1, 8, [.nilFunc], (false, false)⟩,
 some ⟨.slice 48, 1, 24, [.slice none 0 0], (false, false)⟩,
 none,
 some ⟨.other, 1, 8, [.nilFunc], (false, false)⟩,
 some ⟨.struct [(0, 3), (1, 3)], 2, 16, [.int .i64 0, .int .i64 0], (false, false)⟩,
 some ⟨.struct [(0, 3), (1, 3)], 2, 16, [.int .i64 0, .int .i64 0], (false, true)⟩,
 some ⟨.struct [(0, 3), (1, 3)], 2, 16, [.int .i64 0, .int .i64 0], (false, true)⟩,
 some ⟨.other, 1, 8, [.nilFunc], (false, false)⟩,
 some ⟨.other, 1, 8, [.nilFunc], (false, false)⟩,
 some ⟨.slice 86, 1, 24, [.slice none 0 0], (false, false)⟩,
 none,
 some ⟨.other, 1, 8, [.nilFunc], (false, false)⟩,
 some ⟨.int .u64, 1, 8, [.int .u64 0], (false, false)⟩,
 some ⟨.slice 58, 1, 24, [.slice none 0 0], (false, false)⟩,
 some ⟨.other, 1, 8, [.nilFunc], (false, false)⟩,
 some ⟨.slice 87, 1, 24, [.slice none 0 0], (false, false)⟩,
 some ⟨.other, 1, 8, [.nilFunc], (false, false)⟩,
 some ⟨.struct [(0, 3), (1, 3)], 2, 16, [.int .i64 0, .int .i64 0], (false, false)⟩,
 some ⟨.struct [(0, 3), (1, 3)], 2, 16, [.int .i64 0, .int .i64 0], (false, true)⟩,
 some ⟨.struct [(0, 3), (1, 3)], 2, 16, [.int .i64 0, .int .i64 0], (false, true)⟩,
 some ⟨.other, 1, 8, [.nilFunc], (false, false)⟩,
 some ⟨.slice 36, 1, 24, [.slice none 0 0], (false, false)⟩,
 some ⟨.other, 1, 8, [.nilFunc], (false, false)⟩,
 some ⟨.other, 1, 8, [.nilFunc], (false, false)⟩,
 some ⟨.other, 1, 8, [.nilFunc], (false, false)⟩,
 some ⟨.other, 1, 8, [.nilFunc], (false, false)⟩,
 some ⟨.other, 1, 8, [.nilFunc], (false, false)⟩,
 none,
 some ⟨.other, 1, 8, [.nilFunc], (false, false)⟩,
 some ⟨.other, 1, 8, [.nilFunc], (false, false)⟩,
 some ⟨.other, 1, 8, [.nilFunc], (false, false)⟩,
 some ⟨.other, 1, 8, [.nilFunc], (false, false)⟩,
 some ⟨.slice 103, 1, 24, [.slice none 0 0], (false, false)⟩,
 none,
 some ⟨.other, 1, 8, [.nilFunc], (false, false)⟩,
 some ⟨.slice 129, 1, 24, [.slice none 0 0], (false, false)⟩,
 none,
 some ⟨.other, 1, 8, [.nilFunc], (false, false)⟩,
 none,
 some ⟨.other, 1, 8, [.nilFunc], (false, false)⟩,
 some ⟨.other, 1, 8, [.nilFunc], (false, false)⟩,
 some ⟨.other, 1, 8, [.nilFunc], (false, false)⟩,
 some ⟨.slice 113, 1, 24, [.slice none 0 0], (false, false)⟩,
 some ⟨.other, 1, 8, [.nilFunc], (false, false)⟩,
 some ⟨.arr 40 5, 40, 40, List.replicate 40 (.int .u8 0), (true, false)⟩,
 some ⟨.arr 40 5, 40, 40, List.replicate 40 (.int .u8 0), (true, true)⟩,
 some ⟨.map 3 4, 1, 8, [.map none], (false, false)⟩,
 some ⟨.other, 1, 8, [.nilFunc], (false, false)⟩,
 some ⟨.other, 1, 8, [.nilFunc], (false, false)⟩,
 some ⟨.other, 1, 8, [.nilFunc], (false, false)⟩,
 some ⟨.other, 1, 8, [.nilFunc], (false, false)⟩,
 some ⟨.ptr 123, 1, 8, [.pointer none], (false, false)⟩,
 some ⟨.map 148 129, 1, 8, [.map none], (false, false)⟩,
 some ⟨.map 148 129, 1, 8, [.map none], (false, false)⟩,
 some ⟨.struct [(0, 121), (1, 3), (2, 4)], 3, 24, [.map none, .int .i64 0, .bool false], (false, false)⟩,
 some ⟨.struct [(0, 121), (1, 3), (2, 4)], 3, 24, [.map none, .int .i64 0, .bool false], (false, false)⟩,
 some ⟨.other, 1, 8, [.nilFunc], (false, false)⟩,
 none,
 some ⟨.other, 1, 8, [.nilFunc], (false, false)⟩,
 some ⟨.other, 1, 8, [.nilFunc], (false, false)⟩,
 some ⟨.struct [(0, 3), (1, 3), (2, 3), (3, 48)], 4, 48, [.int .i64 0, .int .i64 0, .int .i64 0, .slice none 0 0], (false, false)⟩,
 some ⟨.struct [(0, 3), (1, 3), (2, 3), (3, 48)], 4, 48, [.int .i64 0, .int .i64 0, .int .i64 0, .slice none 0 0], (false, false)⟩,
 none,
 some ⟨.other, 1, 8, [.nilFunc], (false, false)⟩,
 some ⟨.other, 1, 8, [.nilFunc], (false, false)⟩,
 some ⟨.other, 1, 8, [.nilFunc], (false, false)⟩,
 some ⟨.other, 1, 8, [.nilFunc], (false, false)⟩,
 some ⟨.other, 1, 8, [.nilFunc], (false, false)⟩,
 some ⟨.other, 1, 8, [.nilFunc], (false, false)⟩,
 some ⟨.other, 1, 8, [.nilFunc], (false, false)⟩,
 some ⟨.other, 1, 8, [.nilFunc], (false, false)⟩,
 some ⟨.other, 1, 8, [.nilFunc], (false, false)⟩,
 some ⟨.other, 1, 8, [.nilFunc], (false, false)⟩,
 some ⟨.other, 1, 8, [.nilFunc], (false, false)⟩,
 some ⟨.other, 1, 8, [.nilFunc], (false, false)⟩,
 some ⟨.other, 1, 8, [.nilFunc], (false, false)⟩,
 some ⟨.other, 1, 8, [.nilFunc], (false, false)⟩,
 none,
 some ⟨.other, 1, 8, [.nilFunc], (false, false)⟩,
 some ⟨.struct [(0, 3), (1, 3)], 2, 16, [.int .i64 0, .int .i64 0], (false, false)⟩,
 some ⟨.struct [(0, 3), (1, 3)], 2, 16, [.int .i64 0, .int .i64 0], (false, true)⟩,
 some ⟨.other, 1, 8, [.nilFunc], (false, false)⟩,
 some ⟨.other, 1, 8, [.nilFunc], (false, false)⟩,
 some ⟨.other, 1, 8, [.nilFunc], (false, false)⟩,
 some ⟨.slice 156, 1, 24, [.slice none 0 0], (false, false)⟩,
 some ⟨.other, 1, 8, [.nilFunc], (false, false)⟩,
 some ⟨.other, 1, 8, [.nilFunc], (false, false)⟩,
 some ⟨.struct [(0, 154)], 1, 8, [.nilFunc], (false, false)⟩,
 some ⟨.struct [(0, 154)], 1, 8, [.nilFunc], (false, false)⟩,
 some ⟨.other, 1, 8, [.nilFunc], (false, false)⟩,
 some ⟨.other, 1, 8, [.nilFunc], (false, false)⟩,
 some ⟨.other, 1, 8, [.nilFunc], (false, false)⟩,
 some ⟨.other, 1, 8, [.nilFunc], (false, false)⟩,
 some ⟨.other, 1, 8, [.nilFunc], (false, false)⟩,
 some ⟨.other, 1, 8, [.nilFunc], (false, false)⟩,
 some ⟨.other, 1, 8, [.nilFunc], (false, false)⟩,
 some ⟨.other, 1, 8, [.nilFunc], (false, false)⟩,
 some ⟨.other, 1, 8, [.nilFunc], (false, false)⟩,
 some ⟨.struct [], 0, 0, [], (false, false)⟩,
 some ⟨.struct [], 0, 0, [], (false, true)⟩,
 none,
 some ⟨.ptr 171, 1, 8, [.pointer none], (false, false)⟩,
 some ⟨.struct [(0, 22)], 1, 24, [.slice none 0 0], (false, false)⟩,
 some ⟨.struct [(0, 22)], 1, 24, [.slice none 0 0], (false, false)⟩,
 some ⟨.other, 1, 8, [.nilFunc], (false, false)⟩,
 some ⟨.other, 1, 8, [.nilFunc], (false, false)⟩,
 some ⟨.other, 1, 8, [.nilFunc], (false, false)⟩,
 some ⟨.other, 1, 8, [.nilFunc], (false, false)⟩,
 some ⟨.other, 1, 8, [.nilFunc], (false, false)⟩,
 some ⟨.other, 1, 8, [.nilFunc], (false, false)⟩,
 some ⟨.other, 1, 8, [.nilFunc], (false, false)⟩,
 some ⟨.other, 1, 8, [.nilFunc], (false, false)⟩,
 some ⟨.other, 1, 8, [.nilFunc], (false, false)⟩,
 some ⟨.other, 1, 8, [.nilFunc], (false, false)⟩,
 some ⟨.other, 1, 8, [.nilFunc], (false, false)⟩,
 some ⟨.int .i64, 1, 8, [.int .i64 0], (false, false)⟩,
 none,
 some ⟨.other, 1, 8, [.nilFunc], (false, false)⟩,
 some ⟨.other, 1, 8, [.nilFunc], (false, false)⟩,
 some ⟨.other, 1, 8, [.nilFunc], (false, false)⟩,
 none,
 some ⟨.other, 1, 8, [.nilFunc], (false, false)⟩,
 some ⟨.other, 1, 8, [.nilFunc], (false, false)⟩,
 some ⟨.int .u32, 1, 4, [.int .u32 0], (false, false)⟩,
 some ⟨.other, 1, 8, [.nilFunc], (false, false)⟩,
 some ⟨.other, 1, 8, [.nilFunc], (false, false)⟩,
 some ⟨.int .u64, 1, 8, [.int .u64 0], (false, false)⟩,
 some ⟨.other, 1, 8, [.nilFunc], (false, false)⟩,
 some ⟨.other, 1, 8, [.nilFunc], (false, false)⟩,
 some ⟨.other, 1, 8, [.nilFunc], (false, false)⟩,
 some ⟨.ptr 3, 1, 8, [.pointer none], (false, false)⟩,
 some ⟨.other, 1, 8, [.nilFunc], (false, false)⟩,
 some ⟨.ptr 194, 1, 8, [.pointer none], (false, false)⟩,
 none,
 some ⟨.other, 1, 8, [.nilFunc], (false, false)⟩,
 some ⟨.other, 1, 8, [.nilFunc], (false, false)⟩,
 some ⟨.struct [(0, 17), (1, 17), (2, 17), (3, 9)], 4, 40, [.pointer none, .pointer none, .pointer none, .string ByteArray.empty], (false, false)⟩,
 some ⟨.struct [(0, 17), (1, 17), (2, 17), (3, 9)], 4, 40, [.pointer none, .pointer none, .pointer none, .string ByteArray.empty], (false, false)⟩,
 some ⟨.arr 0 16, 0, 0, [], (false, false)⟩,
 some ⟨.struct [(0, 206)], 0, 0, [], (false, false)⟩,
 some ⟨.struct [(0, 206)], 0, 0, [], (false, false)⟩,
 some ⟨.int .u8, 1, 1, [.int .u8 0], (false, false)⟩,
 some ⟨.int .u8, 1, 1, [.int .u8 0], (false, false)⟩,
 some ⟨.other, 1, 8, [.nilFunc], (false, false)⟩,
 some ⟨.ptr 5, 1, 8, [.pointer none], (false, false)⟩,
 some ⟨.int .i32, 1, 4, [.int .i32 0], (false, false)⟩,
 some ⟨.int .i32, 1, 4, [.int .i32 0], (false, false)⟩,
 some ⟨.struct [(0, 12), (1, 12), (2, 191), (3, 209), (4, 5), (5, 5), (6, 210), (7, 211), (8, 212), (9, 213), (10, 214)], 11, 48, [.int .u64 0, .int .u64 0, .int .u32 0, .int .u8 0, .int .u8 0, .int .u8 0, .int .u8 0, .nilFunc, .pointer none, .int .i32 0, .int .i32 0], (false, false)⟩,
 some ⟨.struct [(0, 12), (1, 12), (2, 191), (3, 209), (4, 5), (5, 5), (6, 210), (7, 211), (8, 212), (9, 213), (10, 214)], 11, 48, [.int .u64 0, .int .u64 0, .int .u32 0, .int .u8 0, .int .u8 0, .int .u8 0, .int .u8 0, .nilFunc, .pointer none, .int .i32 0, .int .i32 0], (false, false)⟩,
 some ⟨.other, 1, 8, [.pointer none], (false, false)⟩]
def tb : TB := fun t => match tys[t]? with
 | some (some y) => some y
 | _ => none
theorem tbOk : tyTable Try.prog tys = true := by kernel_rfl
theorem pg : PG Try.prog tb where
 ty t y h := by
  unfold tb at h
  split at h
  ·rename_i z hz; cases h; exact tyTable_ok tbOk t _ hz
  ·cases h
 mixed := by kernel_rfl
end Go.Ev.Ytljkplahkokpaaa


set_option linter.unusedVariables false
set_option linter.unusedSimpArgs false
set_option maxRecDepth 100000
namespace Go.Ev.Ytljkplahkokpaaa
open Go.Proofs
structure Pt where
 (s l : Int)
deriving DecidableEq
structure Sh where
 (n : Int)
 (ps : List Pt)
deriving DecidableEq
abbrev ptD (p : Pt) : List D := [dI p.s, dI p.l]
abbrev ptsD (l : List Pt) : D := .seq (l.map ptD)
abbrev shC (s : Sh) : List D := [dI s.n, ptsD s.ps]
abbrev shsD (l : List Sh) : D := .seq (l.map shC)
abbrev bC (b : List D) : List D := [.seq (b.map fun x => [x])]
def inB (n lo hi : Int) : Bool := decide (lo ≤ n) && decide (n ≤ hi)
abbrev wI (n : Int) : Int := IntKind.i64.wrap n
theorem wS {z : Int} (h1 : -100000000 ≤ z) (h2 : z ≤ 100000000) : IntKind.i64.wrap z = z := wrapI (by omega) (by omega)
theorem w1 (k : Nat) (h : k ≤ 100000) : IntKind.i64.wrap ((k : Int) + 1) = ((k + 1 : Nat) : Int) := by rw [wrapI (by omega) (by omega)]; rfl
theorem getpt (l : List Pt) (k : Nat) (h : k < l.length) : (l.map ptD)[k]? = some (ptD l[k]) := by simp [h]
theorem getsh (l : List Sh) (k : Nat) (h : k < l.length) : (l.map shC)[k]? = some (shC l[k]) := by simp [h]
def ixI {α : Type} (q : α → Bool) (l : List α) : Int :=
 match l.findIdx? q with
 | some i => (i : Int)
 | none => -1
theorem ixI_at {α : Type} {q : α → Bool} {l : List α} {k : Nat} (hk : k < l.length) (h1 : ∀ j (h : j < k), q (l[j]'(by omega)) = false) (h2 : q l[k] = true) : ixI q l = k := by
 have : l.findIdx? q = some k := by
  rw [List.findIdx?_eq_some_iff_getElem]
  exact ⟨hk, h2, fun j hj => by rw [h1 j hj]; simp⟩
 unfold ixI
 rw [this]
theorem ixI_none {α : Type} {q : α → Bool} {l : List α} (h : ∀ j (h : j < l.length), q l[j] = false) : ixI q l = -1 := by
 have : l.findIdx? q = none := by
  rw [List.findIdx?_eq_none_iff]
  intro x hx
  obtain ⟨j, hj, rfl⟩ := List.getElem_of_mem hx
  rw [h j hj]
 unfold ixI
 rw [this]
theorem ixI_all {α : Type} (p : α → Bool) (l : List α) : decide (ixI (fun x => !p x) l ≥ 0) = !l.all p := by
 by_cases h : l.all p = true
 ·rw [ixI_none, h]
  ·rfl
  ·intro j hj
   have := List.all_eq_true.1 h _ (List.getElem_mem hj)
   simp [this]
 ·rw [(Bool.not_eq_true _).mp h]
  have hn : l.findIdx? (fun x => !p x) ≠ none := by
   intro e
   rw [List.findIdx?_eq_none_iff] at e
   apply h
   rw [List.all_eq_true]
   intro x hx
   simpa using e x hx
  unfold ixI
  cases e : l.findIdx? (fun x => !p x) with
  | none => exact absurd e hn
  | some i => simp
theorem within_pure (n lo hi : Int) : Pure Try.prog 67 [dI n, dI lo, dI hi] (dB (inB n lo hi)) := by
 refine pure_of pg Try.func67 (by kernel_rfl) ?_
 conv => whnf
 (repeat' (first | (apply kT (by with_reducible first | rfl | assumption); conv => whnf) | (apply kF (by with_reducible first | rfl | assumption); conv => whnf) | (apply kT (by decide); conv => whnf) | (apply kF (by decide); conv => whnf) | (apply kB <;> intro _ <;> conv => whnf) | fail))
 all_goals (rename_i h; unfold inB; rw [h]; rfl)
def ptB (p : Pt) : Bool := inB p.s 0 65535 && inB p.l 0 1000000
def folB (a b : Pt) : Bool := inB (wI (b.s - a.s)) 1 255 && inB (wI (b.l - a.l)) (-16383) 16383
attribute [local irreducible] Pure Bor Iter inB
theorem pt_pure (p : Pt) : Pure Try.prog 112 [.agg (ptD p)] (dB (ptB p)) := by
 refine pure_of pg Try.func112 (by kernel_rfl) ?_
 conv => whnf
 (repeat' (first | (apply kT (by with_reducible first | rfl | assumption); conv => whnf) | (apply kF (by with_reducible first | rfl | assumption); conv => whnf) | (apply kT (by decide); conv => whnf) | (apply kF (by decide); conv => whnf) | (apply kB <;> intro _ <;> conv => whnf) | (refine .inl ⟨_, within_pure .., ?_⟩; conv => whnf) | fail))
 all_goals (unfold ptB; simp only [*, Bool.true_and, Bool.false_and, Bool.and_true, Bool.and_false]; rfl)
theorem follows_pure (a b : Pt) : Pure Try.prog 110 [.agg (ptD b), .agg (ptD a)] (dB (folB a b)) := by
 refine pure_of pg Try.func110 (by kernel_rfl) ?_
 conv => whnf
 (repeat' (first | (apply kT (by with_reducible first | rfl | assumption); conv => whnf) | (apply kF (by with_reducible first | rfl | assumption); conv => whnf) | (apply kT (by decide); conv => whnf) | (apply kF (by decide); conv => whnf) | (apply kB <;> intro _ <;> conv => whnf) | (refine .inl ⟨_, within_pure .., ?_⟩; conv => whnf) | fail))
 all_goals (unfold folB; simp only [*, Bool.true_and, Bool.false_and, Bool.and_true, Bool.and_false]; rfl)
abbrev fOP (f : Nat) : Ob := .var false 178 [.d (.fn (.func f) [] [])]
theorem all1P (f : Nat) (p : Pt → Bool) (x : Pt) (hp : Pure Try.prog f [.agg (ptD x)] (dB (p x))) : Bor tb Try.prog 117 [.d (.agg (ptD x)), .ref 0 0] [fOP f] 2 (.d (dB (!p x))) [(0, fOP f)] := by
 refine bor_of pg Try.func117 (by kernel_rfl) ?_
 conv => whnf
 (repeat' (first | (apply kT (by with_reducible first | rfl | assumption); conv => whnf) | (apply kF (by with_reducible first | rfl | assumption); conv => whnf) | (apply kT (by decide); conv => whnf) | (apply kF (by decide); conv => whnf) | (apply kB <;> intro _ <;> conv => whnf) | (refine .inl ⟨_, hp, ?_⟩; conv => whnf) | fail))
 (refine ⟨[], [0], ?_⟩; conv => whnf)
 exact ⟨by cases p x <;> rfl, rfl⟩
theorem idxP (f : Nat) (p : Pt → Bool) (l : List Pt) (hl : l.length ≤ 100000) (hp : ∀ x ∈ l, Pure Try.prog f [.agg (ptD x)] (dB (p x))) : Bor tb Try.prog 128 [.d (.seq (l.map ptD)), .fn (.func 117) [] [.ref 0 0]] [fOP f] 2 (.d (dI (ixI (fun x => !p x) l))) [(0, fOP f)] := by
 have hm : ((l.map ptD).length : Int) = l.length := by rw [List.length_map]
 refine bor_of pg Try.func128 (by kernel_rfl) ?_
 conv => whnf
 (repeat' (first | (apply kT (by with_reducible first | rfl | assumption); conv => whnf) | (apply kF (by with_reducible first | rfl | assumption); conv => whnf) | (apply kT (by decide); conv => whnf) | (apply kF (by decide); conv => whnf) | (apply kB <;> intro _ <;> conv => whnf) | fail))
 refine ⟨[], [0, 1, 7, 8], [0], 1, fun m s => ∃ k : Nat, k + m = l.length ∧ (∀ j (h : j < k) (h2 : j < l.length), (!p l[j]) = false) ∧ s = ⟨[(0, .d (.seq (l.map ptD))), (1, .fn (.func 117) [] [.ref 0 0]), (7, .d (dI ((l.map ptD).length : Nat))), (8, .d (dI k))], [(0, fOP f)], 1⟩, ?_, ?_⟩
 ·conv => whnf
  exact ⟨l.length, 0, by omega, fun j h => by omega, rfl⟩
 ·rintro m _ ⟨k, hk, hno, rfl⟩
  by_cases hkl : k < l.length
  ·have f1 : decide ((k : Int) < ((l.map ptD).length : Int)) = true := decide_eq_true (by rw [hm]; omega)
   have hg : (l.map ptD)[k]? = some (ptD l[k]) := by rw [List.getElem?_map, List.getElem?_eq_getElem hkl]; rfl
   have w1k : IntKind.i64.wrap ((k : Int) + 1) = ((k + 1 : Nat) : Int) := by rw [wrapI (by omega) (by omega)]; rfl
   have cs := all1P f p l[k] (hp _ (List.getElem_mem _))
   by_cases he : (!p l[k]) = true
   ·have e := ixI_at (q := fun x => !p x) hkl (fun j hj => hno j hj (by omega)) he
    rw [e]
    rw [he] at cs
    conv => whnf
    (repeat' (first | (apply kT (by with_reducible first | rfl | assumption); conv => whnf) | (apply kF (by with_reducible first | rfl | assumption); conv => whnf) | (apply kT (by decide); conv => whnf) | (apply kF (by decide); conv => whnf) | (apply kB <;> intro _ <;> conv => whnf) | fail))
    (refine ⟨k, _, rfl, hg, rfl, ?_⟩; conv => whnf)
    (refine .inr ⟨[0], 2, _, _, cs, ?_⟩; conv => whnf)
    (repeat' (first | (apply kT (by with_reducible first | rfl | assumption); conv => whnf) | (apply kF (by with_reducible first | rfl | assumption); conv => whnf) | (apply kT (by decide); conv => whnf) | (apply kF (by decide); conv => whnf) | (apply kB <;> intro _ <;> conv => whnf) | fail))
    (refine ⟨[], [0], ?_⟩; conv => whnf)
    exact ⟨rfl, rfl⟩
   ·have he := (Bool.not_eq_true _).mp he
    rw [he] at cs
    conv => whnf
    (repeat' (first | (apply kT (by with_reducible first | rfl | assumption); conv => whnf) | (apply kF (by with_reducible first | rfl | assumption); conv => whnf) | (apply kT (by decide); conv => whnf) | (apply kF (by decide); conv => whnf) | (apply kB <;> intro _ <;> conv => whnf) | fail))
    (refine ⟨k, _, rfl, hg, rfl, ?_⟩; conv => whnf)
    (refine .inr ⟨[0], 2, _, _, cs, ?_⟩; conv => whnf)
    (repeat' (first | (apply kT (by with_reducible first | rfl | assumption); conv => whnf) | (apply kF (by with_reducible first | rfl | assumption); conv => whnf) | (apply kT (by decide); conv => whnf) | (apply kF (by decide); conv => whnf) | (apply kB <;> intro _ <;> conv => whnf) | fail))
    refine ⟨m - 1, by omega, k + 1, by omega, fun j hj hjl => ?_, ?_⟩
    ·by_cases h : j < k
     ·exact hno j h hjl
     ·have : j = k := by omega
      subst this
      exact he
    ·rw [w1k]
  ·have f1 : decide ((k : Int) < ((l.map ptD).length : Int)) = false := decide_eq_false (by rw [hm]; omega)
   have e := ixI_none (q := fun x => !p x) (l := l) fun j hj => hno j (by omega) hj
   rw [e]
   conv => whnf
   (repeat' (first | (apply kT (by with_reducible first | rfl | assumption); conv => whnf) | (apply kF (by with_reducible first | rfl | assumption); conv => whnf) | (apply kT (by decide); conv => whnf) | (apply kF (by decide); conv => whnf) | (apply kB <;> intro _ <;> conv => whnf) | fail))
   (refine ⟨[], [0], ?_⟩; conv => whnf)
   exact ⟨rfl, rfl⟩
theorem hasP (f : Nat) (p : Pt → Bool) (l : List Pt) (hl : l.length ≤ 100000) (hp : ∀ x ∈ l, Pure Try.prog f [.agg (ptD x)] (dB (p x))) : Bor tb Try.prog 116 [.d (.seq (l.map ptD)), .fn (.func 117) [] [.ref 0 0]] [fOP f] 2 (.d (dB (!l.all p))) [(0, fOP f)] := by
 have ci := idxP f p l hl hp
 rw [← ixI_all]
 refine bor_of pg Try.func116 (by kernel_rfl) ?_
 conv => whnf
 (repeat' (first | (apply kT (by with_reducible first | rfl | assumption); conv => whnf) | (apply kF (by with_reducible first | rfl | assumption); conv => whnf) | (apply kT (by decide); conv => whnf) | (apply kF (by decide); conv => whnf) | (apply kB <;> intro _ <;> conv => whnf) | fail))
 (refine .inr ⟨[0], 2, _, _, ci, ?_⟩; conv => whnf)
 (repeat' (first | (apply kT (by with_reducible first | rfl | assumption); conv => whnf) | (apply kF (by with_reducible first | rfl | assumption); conv => whnf) | (apply kT (by decide); conv => whnf) | (apply kF (by decide); conv => whnf) | (apply kB <;> intro _ <;> conv => whnf) | fail))
 (refine ⟨[], [0], ?_⟩; conv => whnf)
 exact ⟨rfl, rfl⟩
theorem allP (f : Nat) (p : Pt → Bool) (l : List Pt) (hl : l.length ≤ 100000) (hp : ∀ x ∈ l, Pure Try.prog f [.agg (ptD x)] (dB (p x))) : Pure Try.prog 111 [.seq (l.map ptD), .fn (.func f) [] []] (dB (l.all p)) := by
 have ci := hasP f p l hl hp
 refine pure_of pg Try.func111 (by kernel_rfl) ?_
 conv => whnf
 (repeat' (first | (apply kT (by with_reducible first | rfl | assumption); conv => whnf) | (apply kF (by with_reducible first | rfl | assumption); conv => whnf) | (apply kT (by decide); conv => whnf) | (apply kF (by decide); conv => whnf) | (apply kB <;> intro _ <;> conv => whnf) | fail))
 (refine .inr ⟨[0], 2, _, _, ci, ?_⟩; conv => whnf)
 (repeat' (first | (apply kT (by with_reducible first | rfl | assumption); conv => whnf) | (apply kF (by with_reducible first | rfl | assumption); conv => whnf) | (apply kT (by decide); conv => whnf) | (apply kF (by decide); conv => whnf) | (apply kB <;> intro _ <;> conv => whnf) | fail))
 cases l.all p <;> rfl
abbrev fOS (f : Nat) : Ob := .var false 140 [.d (.fn (.func f) [] [])]
theorem all1S (f : Nat) (p : Sh → Bool) (x : Sh) (hp : Pure Try.prog f [.agg (shC x)] (dB (p x))) : Bor tb Try.prog 92 [.d (.agg (shC x)), .ref 0 0] [fOS f] 2 (.d (dB (!p x))) [(0, fOS f)] := by
 refine bor_of pg Try.func92 (by kernel_rfl) ?_
 conv => whnf
 (repeat' (first | (apply kT (by with_reducible first | rfl | assumption); conv => whnf) | (apply kF (by with_reducible first | rfl | assumption); conv => whnf) | (apply kT (by decide); conv => whnf) | (apply kF (by decide); conv => whnf) | (apply kB <;> intro _ <;> conv => whnf) | (refine .inl ⟨_, hp, ?_⟩; conv => whnf) | fail))
 (refine ⟨[], [0], ?_⟩; conv => whnf)
 exact ⟨by cases p x <;> rfl, rfl⟩
theorem idxS (f : Nat) (p : Sh → Bool) (l : List Sh) (hl : l.length ≤ 100000) (hp : ∀ x ∈ l, Pure Try.prog f [.agg (shC x)] (dB (p x))) : Bor tb Try.prog 109 [.d (.seq (l.map shC)), .fn (.func 92) [] [.ref 0 0]] [fOS f] 2 (.d (dI (ixI (fun x => !p x) l))) [(0, fOS f)] := by
 have hm : ((l.map shC).length : Int) = l.length := by rw [List.length_map]
 refine bor_of pg Try.func109 (by kernel_rfl) ?_
 conv => whnf
 (repeat' (first | (apply kT (by with_reducible first | rfl | assumption); conv => whnf) | (apply kF (by with_reducible first | rfl | assumption); conv => whnf) | (apply kT (by decide); conv => whnf) | (apply kF (by decide); conv => whnf) | (apply kB <;> intro _ <;> conv => whnf) | fail))
 refine ⟨[], [0, 1, 7, 8], [0], 1, fun m s => ∃ k : Nat, k + m = l.length ∧ (∀ j (h : j < k) (h2 : j < l.length), (!p l[j]) = false) ∧ s = ⟨[(0, .d (.seq (l.map shC))), (1, .fn (.func 92) [] [.ref 0 0]), (7, .d (dI ((l.map shC).length : Nat))), (8, .d (dI k))], [(0, fOS f)], 1⟩, ?_, ?_⟩
 ·conv => whnf
  exact ⟨l.length, 0, by omega, fun j h => by omega, rfl⟩
 ·rintro m _ ⟨k, hk, hno, rfl⟩
  by_cases hkl : k < l.length
  ·have f1 : decide ((k : Int) < ((l.map shC).length : Int)) = true := decide_eq_true (by rw [hm]; omega)
   have hg : (l.map shC)[k]? = some (shC l[k]) := by rw [List.getElem?_map, List.getElem?_eq_getElem hkl]; rfl
   have w1k : IntKind.i64.wrap ((k : Int) + 1) = ((k + 1 : Nat) : Int) := by rw [wrapI (by omega) (by omega)]; rfl
   have cs := all1S f p l[k] (hp _ (List.getElem_mem _))
   by_cases he : (!p l[k]) = true
   ·have e := ixI_at (q := fun x => !p x) hkl (fun j hj => hno j hj (by omega)) he
    rw [e]
    rw [he] at cs
    conv => whnf
    (repeat' (first | (apply kT (by with_reducible first | rfl | assumption); conv => whnf) | (apply kF (by with_reducible first | rfl | assumption); conv => whnf) | (apply kT (by decide); conv => whnf) | (apply kF (by decide); conv => whnf) | (apply kB <;> intro _ <;> conv => whnf) | fail))
    (refine ⟨k, _, rfl, hg, rfl, ?_⟩; conv => whnf)
    (refine .inr ⟨[0], 2, _, _, cs, ?_⟩; conv => whnf)
    (repeat' (first | (apply kT (by with_reducible first | rfl | assumption); conv => whnf) | (apply kF (by with_reducible first | rfl | assumption); conv => whnf) | (apply kT (by decide); conv => whnf) | (apply kF (by decide); conv => whnf) | (apply kB <;> intro _ <;> conv => whnf) | fail))
    (refine ⟨[], [0], ?_⟩; conv => whnf)
    exact ⟨rfl, rfl⟩
   ·have he := (Bool.not_eq_true _).mp he
    rw [he] at cs
    conv => whnf
    (repeat' (first | (apply kT (by with_reducible first | rfl | assumption); conv => whnf) | (apply kF (by with_reducible first | rfl | assumption); conv => whnf) | (apply kT (by decide); conv => whnf) | (apply kF (by decide); conv => whnf) | (apply kB <;> intro _ <;> conv => whnf) | fail))
    (refine ⟨k, _, rfl, hg, rfl, ?_⟩; conv => whnf)
    (refine .inr ⟨[0], 2, _, _, cs, ?_⟩; conv => whnf)
    (repeat' (first | (apply kT (by with_reducible first | rfl | assumption); conv => whnf) | (apply kF (by with_reducible first | rfl | assumption); conv => whnf) | (apply kT (by decide); conv => whnf) | (apply kF (by decide); conv => whnf) | (apply kB <;> intro _ <;> conv => whnf) | fail))
    refine ⟨m - 1, by omega, k + 1, by omega, fun j hj hjl => ?_, ?_⟩
    ·by_cases h : j < k
     ·exact hno j h hjl
     ·have : j = k := by omega
      subst this
      exact he
    ·rw [w1k]
  ·have f1 : decide ((k : Int) < ((l.map shC).length : Int)) = false := decide_eq_false (by rw [hm]; omega)
   have e := ixI_none (q := fun x => !p x) (l := l) fun j hj => hno j (by omega) hj
   rw [e]
   conv => whnf
   (repeat' (first | (apply kT (by with_reducible first | rfl | assumption); conv => whnf) | (apply kF (by with_reducible first | rfl | assumption); conv => whnf) | (apply kT (by decide); conv => whnf) | (apply kF (by decide); conv => whnf) | (apply kB <;> intro _ <;> conv => whnf) | fail))
   (refine ⟨[], [0], ?_⟩; conv => whnf)
   exact ⟨rfl, rfl⟩
theorem hasS (f : Nat) (p : Sh → Bool) (l : List Sh) (hl : l.length ≤ 100000) (hp : ∀ x ∈ l, Pure Try.prog f [.agg (shC x)] (dB (p x))) : Bor tb Try.prog 91 [.d (.seq (l.map shC)), .fn (.func 92) [] [.ref 0 0]] [fOS f] 2 (.d (dB (!l.all p))) [(0, fOS f)] := by
 have ci := idxS f p l hl hp
 rw [← ixI_all]
 refine bor_of pg Try.func91 (by kernel_rfl) ?_
 conv => whnf
 (repeat' (first | (apply kT (by with_reducible first | rfl | assumption); conv => whnf) | (apply kF (by with_reducible first | rfl | assumption); conv => whnf) | (apply kT (by decide); conv => whnf) | (apply kF (by decide); conv => whnf) | (apply kB <;> intro _ <;> conv => whnf) | fail))
 (refine .inr ⟨[0], 2, _, _, ci, ?_⟩; conv => whnf)
 (repeat' (first | (apply kT (by with_reducible first | rfl | assumption); conv => whnf) | (apply kF (by with_reducible first | rfl | assumption); conv => whnf) | (apply kT (by decide); conv => whnf) | (apply kF (by decide); conv => whnf) | (apply kB <;> intro _ <;> conv => whnf) | fail))
 (refine ⟨[], [0], ?_⟩; conv => whnf)
 exact ⟨rfl, rfl⟩
theorem allS (f : Nat) (p : Sh → Bool) (l : List Sh) (hl : l.length ≤ 100000) (hp : ∀ x ∈ l, Pure Try.prog f [.agg (shC x)] (dB (p x))) : Pure Try.prog 75 [.seq (l.map shC), .fn (.func f) [] []] (dB (l.all p)) := by
 have ci := hasS f p l hl hp
 refine pure_of pg Try.func75 (by kernel_rfl) ?_
 conv => whnf
 (repeat' (first | (apply kT (by with_reducible first | rfl | assumption); conv => whnf) | (apply kF (by with_reducible first | rfl | assumption); conv => whnf) | (apply kT (by decide); conv => whnf) | (apply kF (by decide); conv => whnf) | (apply kB <;> intro _ <;> conv => whnf) | fail))
 (refine .inr ⟨[0], 2, _, _, ci, ?_⟩; conv => whnf)
 (repeat' (first | (apply kT (by with_reducible first | rfl | assumption); conv => whnf) | (apply kF (by with_reducible first | rfl | assumption); conv => whnf) | (apply kT (by decide); conv => whnf) | (apply kF (by decide); conv => whnf) | (apply kB <;> intro _ <;> conv => whnf) | fail))
 cases l.all p <;> rfl
end Go.Ev.Ytljkplahkokpaaa


set_option linter.unusedVariables false
set_option linter.unusedSimpArgs false
set_option maxRecDepth 100000
namespace Go.Ev.Ytljkplahkokpaaa
open Go.Proofs
attribute [local irreducible] Pure Bor Iter inB ptB folB
def adjB : List Pt → Bool
 | [] => true
 | [_] => true
 | a :: b :: r => folB a b && adjB (b :: r)
theorem adjB_iff : ∀ {l : List Pt}, adjB l = true ↔ ∀ i (h : i + 1 < l.length), folB l[i] l[i + 1] = true
 | [] => by simp [adjB]
 | [_] => by simp [adjB]
 | a :: b :: r => by
  rw [adjB, Bool.and_eq_true, adjB_iff (l := b :: r)]
  constructor
  ·rintro ⟨h1, h2⟩ i h
   cases i with
   | zero => exact h1
   | succ i => exact h2 i (by simpa using h)
  ·intro h
   exact ⟨h 0 (by simp), fun i hi => h (i + 1) (by simpa using hi)⟩
theorem adjB_false {l : List Pt} {i : Nat} (h : i + 1 < l.length) (hf : folB l[i] l[i + 1] = false) : adjB l = false := by
 cases e : adjB l with
 | false => rfl
 | true => rw [adjB_iff.1 e i h] at hf; cases hf
def runB (l : List Pt) : Bool := adjB l && (decide (0 < l.length) && l.all ptB)
def shB (s : Sh) : Bool := inB s.n 0 9999 && runB s.ps
theorem gtz (n : Nat) : decide ((n : Int) > 0) = decide (0 < n) := by
 by_cases h : 0 < n <;> simp [h]
theorem run_pure (l : List Pt) (hl : l.length ≤ 100000) : Pure Try.prog 93 [ptsD l] (dB (runB l)) := by
 have hm : ((l.map ptD).length : Int) = l.length := by rw [List.length_map]
 have ca := allP 112 ptB l hl fun x _ => pt_pure x
 refine pure_of pg Try.func93 (by kernel_rfl) ?_
 conv => whnf
 (repeat' (first | (apply kT (by with_reducible first | rfl | assumption); conv => whnf) | (apply kF (by with_reducible first | rfl | assumption); conv => whnf) | (apply kT (by decide); conv => whnf) | (apply kF (by decide); conv => whnf) | (apply kB <;> intro _ <;> conv => whnf) | fail))
 refine ⟨[], [0, 6, 7, 8], [], 0, fun m s => ∃ k : Nat, k + m = l.length ∧ (∀ j (h : j + 1 < k) (h2 : j + 1 < l.length), folB l[j] l[j + 1] = true) ∧ s = ⟨[(0, .d (ptsD l)), (6, .d (ptsD l)), (7, .d (dI ((l.map ptD).length : Nat))), (8, .d (dI k))], [], 0⟩, ?_, ?_⟩
 ·conv => whnf
  exact ⟨l.length, 0, by omega, fun j h => by omega, rfl⟩
 ·rintro m _ ⟨k, hk, hno, rfl⟩
  by_cases hkl : k < l.length
  ·have f1 : decide ((k : Int) < ((l.map ptD).length : Int)) = true := decide_eq_true (by rw [hm]; omega)
   have hg := getpt l k hkl
   by_cases hk0 : 0 < k
   ·have f2 : decide ((k : Int) > 0) = true := decide_eq_true (by omega)
    have wk : IntKind.i64.wrap ((k : Int) - 1) = ((k - 1 : Nat) : Int) := by rw [wrapI (by omega) (by omega)]; omega
    have hg2 := getpt l (k - 1) (by omega)
    cases hb : folB l[k - 1] l[k] with
    | true =>
     have hb' : (!folB l[k - 1] l[k]) = false := by rw [hb]; rfl
     conv => whnf
     (repeat' (first | (apply kT (by with_reducible first | rfl | assumption); conv => whnf) | (apply kF (by with_reducible first | rfl | assumption); conv => whnf) | (apply kT (by decide); conv => whnf) | (apply kF (by decide); conv => whnf) | (apply kB <;> intro _ <;> conv => whnf) | (refine .inl ⟨_, follows_pure .., ?_⟩; conv => whnf) | (refine ⟨k, _, rfl, hg, rfl, ?_⟩; conv => whnf) | (refine ⟨k - 1, _, wk, hg2, rfl, ?_⟩; conv => whnf) | fail))
     ·refine ⟨m - 1, by omega, k + 1, by omega, fun j hj hjl => ?_, ?_⟩
      ·by_cases h : j + 1 < k
       ·exact hno j h hjl
       ·have e : k - 1 = j := by omega
        subst e
        have e2 : k - 1 + 1 = k := by omega
        simp only [e2]
        exact hb
      ·rw [w1 k (by omega)]
    | false =>
     have hb' : (!folB l[k - 1] l[k]) = true := by rw [hb]; rfl
     have e : runB l = false := by
      unfold runB
      rw [adjB_false (i := k - 1) (by omega) (by
       have e2 : k - 1 + 1 = k := by omega
       simp only [e2]; exact hb)]
      rfl
     rw [e]
     conv => whnf
     (repeat' (first | (apply kT (by with_reducible first | rfl | assumption); conv => whnf) | (apply kF (by with_reducible first | rfl | assumption); conv => whnf) | (apply kT (by decide); conv => whnf) | (apply kF (by decide); conv => whnf) | (apply kB <;> intro _ <;> conv => whnf) | (refine .inl ⟨_, follows_pure .., ?_⟩; conv => whnf) | (refine ⟨k, _, rfl, hg, rfl, ?_⟩; conv => whnf) | (refine ⟨k - 1, _, wk, hg2, rfl, ?_⟩; conv => whnf) | fail))
     rfl
   ·have f2 : decide ((k : Int) > 0) = false := decide_eq_false (by omega)
    conv => whnf
    (repeat' (first | (apply kT (by with_reducible first | rfl | assumption); conv => whnf) | (apply kF (by with_reducible first | rfl | assumption); conv => whnf) | (apply kT (by decide); conv => whnf) | (apply kF (by decide); conv => whnf) | (apply kB <;> intro _ <;> conv => whnf) | (refine ⟨k, _, rfl, hg, rfl, ?_⟩; conv => whnf) | fail))
    refine ⟨m - 1, by omega, k + 1, by omega, fun j hj hjl => by omega, ?_⟩
    rw [w1 k (by omega)]
  ·have f1 : decide ((k : Int) < ((l.map ptD).length : Int)) = false := decide_eq_false (by rw [hm]; omega)
   have e : adjB l = true := adjB_iff.2 fun i h => hno i (by omega) h
   unfold runB
   rw [e, Bool.true_and, ← gtz, ← hm]
   conv => whnf
   (apply kF (f1); conv => whnf)
   (repeat' (first | (apply kT (by with_reducible first | rfl | assumption); conv => whnf) | (apply kF (by with_reducible first | rfl | assumption); conv => whnf) | (apply kT (by decide); conv => whnf) | (apply kF (by decide); conv => whnf) | (apply kB <;> intro _ <;> conv => whnf) | (refine .inl ⟨_, ca, ?_⟩; conv => whnf) | fail))
   all_goals (rename_i h; rw [h]; rfl)
attribute [local irreducible] runB
theorem sh_pure (s : Sh) (hl : s.ps.length ≤ 100000) : Pure Try.prog 77 [.agg (shC s)] (dB (shB s)) := by
 have cr := run_pure s.ps hl
 refine pure_of pg Try.func77 (by kernel_rfl) ?_
 conv => whnf
 (repeat' (first | (apply kT (by with_reducible first | rfl | assumption); conv => whnf) | (apply kF (by with_reducible first | rfl | assumption); conv => whnf) | (apply kT (by decide); conv => whnf) | (apply kF (by decide); conv => whnf) | (apply kB <;> intro _ <;> conv => whnf) | (refine .inl ⟨_, within_pure .., ?_⟩; conv => whnf) | (refine .inl ⟨_, cr, ?_⟩; conv => whnf) | fail))
 all_goals (unfold shB; simp only [*, Bool.true_and, Bool.false_and, Bool.and_true, Bool.and_false]; rfl)
def shortB (s : Sh) : Bool := decide (s.ps.length ≤ 100)
theorem short_pure (s : Sh) : Pure Try.prog 76 [.agg (shC s)] (dB (shortB s)) := by
 have e : shortB s = decide (((s.ps.map ptD).length : Int) ≤ 100) := by
  unfold shortB; rw [List.length_map]
  by_cases h : s.ps.length ≤ 100 <;> simp [h] <;> omega
 rw [e]
 refine pure_of pg Try.func76 (by kernel_rfl) ?_
 conv => whnf
 (repeat' (first | (apply kT (by with_reducible first | rfl | assumption); conv => whnf) | (apply kF (by with_reducible first | rfl | assumption); conv => whnf) | (apply kT (by decide); conv => whnf) | (apply kF (by decide); conv => whnf) | (apply kB <;> intro _ <;> conv => whnf) | fail))
 rfl
def checkI (l : List Sh) : Int := if 10 < l.length ∨ l.all shortB = false then 3 else if l.all shB then 0 else 1
attribute [local irreducible] shB shortB
theorem check_pure (l : List Sh) (hl : l.length ≤ 100000) (hp : ∀ s ∈ l, s.ps.length ≤ 100000) : Pure Try.prog 55 [shsD l] (dI (checkI l)) := by
 have hm : ((l.map shC).length : Int) = l.length := by rw [List.length_map]
 have c1 := allS 76 shortB l hl fun x _ => short_pure x
 have c2 := allS 77 shB l hl fun x hx => sh_pure x (hp x hx)
 refine pure_of pg Try.func55 (by kernel_rfl) ?_
 by_cases h1 : 10 < l.length
 ·have f1 : decide (((l.map shC).length : Int) > 10) = true := decide_eq_true (by rw [hm]; omega)
  have e : checkI l = 3 := by unfold checkI; rw [if_pos (.inl h1)]
  rw [e]
  conv => whnf
  (apply kT (f1); conv => whnf)
  (repeat' (first | (apply kT (by with_reducible first | rfl | assumption); conv => whnf) | (apply kF (by with_reducible first | rfl | assumption); conv => whnf) | (apply kT (by decide); conv => whnf) | (apply kF (by decide); conv => whnf) | (apply kB <;> intro _ <;> conv => whnf) | fail))
  rfl
 ·have f1 : decide (((l.map shC).length : Int) > 10) = false := decide_eq_false (by rw [hm]; omega)
  cases h2 : l.all shortB with
  | false =>
   have e : checkI l = 3 := by unfold checkI; rw [if_pos (.inr h2)]
   rw [e]
   rw [h2] at c1
   conv => whnf
   (repeat' (first | (apply kT (by with_reducible first | rfl | assumption); conv => whnf) | (apply kF (by with_reducible first | rfl | assumption); conv => whnf) | (apply kT (by decide); conv => whnf) | (apply kF (by decide); conv => whnf) | (apply kB <;> intro _ <;> conv => whnf) | (refine .inl ⟨_, c1, ?_⟩; conv => whnf) | fail))
   rfl
  | true =>
   have e : checkI l = if l.all shB then 0 else 1 := by unfold checkI; rw [if_neg (by rw [h2]; simp; omega)]
   rw [e]
   rw [h2] at c1
   cases h3 : l.all shB with
   | false =>
    rw [h3] at c2
    conv => whnf
    (repeat' (first | (apply kT (by with_reducible first | rfl | assumption); conv => whnf) | (apply kF (by with_reducible first | rfl | assumption); conv => whnf) | (apply kT (by decide); conv => whnf) | (apply kF (by decide); conv => whnf) | (apply kB <;> intro _ <;> conv => whnf) | (refine .inl ⟨_, c1, ?_⟩; conv => whnf) | (refine .inl ⟨_, c2, ?_⟩; conv => whnf) | fail))
    rfl
   | true =>
    rw [h3] at c2
    conv => whnf
    (repeat' (first | (apply kT (by with_reducible first | rfl | assumption); conv => whnf) | (apply kF (by with_reducible first | rfl | assumption); conv => whnf) | (apply kT (by decide); conv => whnf) | (apply kF (by decide); conv => whnf) | (apply kB <;> intro _ <;> conv => whnf) | (refine .inl ⟨_, c1, ?_⟩; conv => whnf) | (refine .inl ⟨_, c2, ?_⟩; conv => whnf) | fail))
    rfl
end Go.Ev.Ytljkplahkokpaaa


set_option linter.unusedVariables false
set_option linter.unusedSimpArgs false
set_option maxRecDepth 100000
namespace Go.Ev.Ytljkplahkokpaaa
open Go.Proofs
attribute [local irreducible] Pure Bor Iter
abbrev bD (n : Int) : D := .v (.int .u8 n)
abbrev byC (n : Int) : List D := [bD n]
abbrev bsD (l : List Int) : D := .seq (l.map byC)
theorem growB (n : Nat) (hn : 0 < n) (hn2 : n ≤ 100000) : Bor tb Try.prog 94 [.d (.v (.slice none 0 0)), .d (dI n)] [] 1 (.own 0) [(0, .arr 5 [])] := by
 have f1 : decide ((n : Int) < 0) = false := decide_eq_false (by omega)
 have w1' : IntKind.i64.wrap ((n : Int) - IntKind.i64.wrap (0 - ((([] : List (List D)).length : Nat) : Int))) = (n : Int) := by rw [show IntKind.i64.wrap (0 - ((([] : List (List D)).length : Nat) : Int)) = 0 from by decide]; rw [wrapI (by omega) (by omega)]; omega
 have f2 : decide ((IntKind.i64.wrap ((n : Int) - IntKind.i64.wrap (0 - ((([] : List (List D)).length : Nat) : Int)))) > 0) = true := decide_eq_true (by rw [w1']; omega)
 refine bor_ofO pg Try.func94 (by kernel_rfl) ?_
 conv => whnf
 (repeat' (first | (apply kT (by with_reducible first | rfl | assumption); conv => whnf) | (apply kF (by with_reducible first | rfl | assumption); conv => whnf) | (apply kT (by decide); conv => whnf) | (apply kF (by decide); conv => whnf) | (apply kB <;> intro _ <;> conv => whnf) | fail))
 (refine ⟨0, rfl, rfl, rfl, ?_⟩; conv => whnf)
 (refine ⟨n, w1', by show n * 1 ≤ 140737488355328; omega, _, rfl, ?_⟩; conv => whnf)
 (refine ⟨0, rfl, Nat.zero_le _, .l ⟨[], rfl, ?_⟩⟩; conv => whnf)
 (refine ⟨[0], ?_⟩; conv => whnf)
 exact ⟨rfl, rfl⟩
theorem growB0 : Bor tb Try.prog 94 [.d (.v (.slice none 0 0)), .d (dI 0)] [] 0 (.d (.v (.slice none 0 0))) [] := by
 refine bor_ofO pg Try.func94 (by kernel_rfl) ?_
 conv => whnf
 (repeat' (first | (apply kT (by with_reducible first | rfl | assumption); conv => whnf) | (apply kF (by with_reducible first | rfl | assumption); conv => whnf) | (apply kT (by decide); conv => whnf) | (apply kF (by decide); conv => whnf) | (apply kB <;> intro _ <;> conv => whnf) | fail))
 (refine ⟨[], ?_⟩; conv => whnf)
 exact ⟨rfl, rfl⟩
theorem concatB (P : List (List Int)) (hP : P.length ≤ 100000) (hl : P.flatten.length ≤ 100000) : Pure Try.prog 78 [.seq (P.map fun l => [.seq (l.map byC)])] (.seq (P.flatten.map byC)) := by
 have hm : ((P.map fun l => [D.seq (l.map byC)]).length : Int) = P.length := by rw [List.length_map]
 have hg : ∀ k (h : k < P.length), (P.map fun l => [D.seq (l.map byC)])[k]? = some [D.seq (P[k].map byC)] := fun k h => by simp [h]
 have hf : ∀ k (h : k < P.length), (P.take (k + 1)).flatten = (P.take k).flatten ++ P[k] := fun k h => by
  rw [List.take_add_one, List.getElem?_eq_getElem h, List.flatten_append]; simp
 have hle : ∀ k, (P.take k).flatten.length ≤ P.flatten.length := fun k => by
  rw [show P.flatten = (P.take k).flatten ++ (P.drop k).flatten from by rw [← List.flatten_append, List.take_append_drop]]
  simp
 have loop2 : ∀ k (h : k < P.length), ((P.take k).flatten.length + P[k].length) = (P.take (k + 1)).flatten.length := fun k h => by rw [hf k h, List.length_append]
 have hel : ∀ k (h : k < P.length), ∀ el ∈ P[k].map byC, el.length = 1 := fun k h el he => by
  rw [List.mem_map] at he; obtain ⟨x, _, rfl⟩ := he; rfl
 have hby : ∀ k (h : k < P.length), (((P.take k).flatten.map byC).length + (P[k].map byC).length) * 1 ≤ 140737488355328 := fun k h => by
  rw [List.length_map, List.length_map, loop2 k h]
  have := hle (k + 1)
  omega
 refine pure_of pg Try.func78 (by kernel_rfl) ?_
 conv => whnf
 (repeat' (first | (apply kT (by with_reducible first | rfl | assumption); conv => whnf) | (apply kF (by with_reducible first | rfl | assumption); conv => whnf) | (apply kT (by decide); conv => whnf) | (apply kF (by decide); conv => whnf) | (apply kB <;> intro _ <;> conv => whnf) | fail))
 refine ⟨[], [0, 3, 9, 10, 11], [], 0, fun m s => ∃ k : Nat, k + m = P.length ∧ s = ⟨[(0, .d (.seq (P.map fun l => [D.seq (l.map byC)]))), (3, .d (dI (P.take k).flatten.length)), (9, .d (.seq (P.map fun l => [D.seq (l.map byC)]))), (10, .d (dI ((P.map fun l => [D.seq (l.map byC)]).length : Nat))), (11, .d (dI k))], [], 0⟩, ?_, ?_⟩
 ·conv => whnf
  exact ⟨P.length, 0, by omega, rfl⟩
 ·rintro m _ ⟨k, hk, rfl⟩
  by_cases hkl : k < P.length
  ·have f1 : decide ((k : Int) < ((P.map fun l => [D.seq (l.map byC)]).length : Int)) = true := decide_eq_true (by rw [hm]; omega)
   have ew : IntKind.i64.wrap (((P.take k).flatten.length : Int) + ((P[k].map byC).length : Int)) = ((P.take (k + 1)).flatten.length : Int) := by
    rw [List.length_map, ← loop2 k hkl]
    have := hle (k + 1)
    have := loop2 k hkl
    rw [wrapI (by omega) (by omega)]
    omega
   have f2 : decide (IntKind.i64.wrap (((P.take k).flatten.length : Int) + ((P[k].map byC).length : Int)) < 0) = false := decide_eq_false (by rw [ew]; omega)
   conv => whnf
   (repeat' (first | (apply kT (by with_reducible first | rfl | assumption); conv => whnf) | (apply kF (by with_reducible first | rfl | assumption); conv => whnf) | (apply kT (by decide); conv => whnf) | (apply kF (by decide); conv => whnf) | (apply kB <;> intro _ <;> conv => whnf) | (refine ⟨k, _, rfl, hg k hkl, rfl, ?_⟩; conv => whnf) | fail))
   refine ⟨m - 1, by omega, k + 1, by omega, ?_⟩
   rw [ew, w1 k (by omega)]
  ·have f1 : decide ((k : Int) < ((P.map fun l => [D.seq (l.map byC)]).length : Int)) = false := decide_eq_false (by rw [hm]; omega)
   have ek : k = P.length := by omega
   subst ek
   rw [List.take_length]
   by_cases h0 : P.flatten.length = 0
   ·rw [h0]
    conv => whnf
    (apply kF (f1); conv => whnf)
    (refine .inr ⟨[], 0, _, _, growB0, ?_⟩; conv => whnf)
    (repeat' (first | (apply kT (by with_reducible first | rfl | assumption); conv => whnf) | (apply kF (by with_reducible first | rfl | assumption); conv => whnf) | (apply kT (by decide); conv => whnf) | (apply kF (by decide); conv => whnf) | (apply kB <;> intro _ <;> conv => whnf) | fail))
    refine ⟨[.own 6 5], [6, 25, 26, 27], [0], 1, fun m s => ∃ k : Nat, k + m = P.length ∧ s = ⟨[(6, .own 0), (25, .d (.seq (P.map fun l => [D.seq (l.map byC)]))), (26, .d (dI ((P.map fun l => [D.seq (l.map byC)]).length : Nat))), (27, .d (dI k))], [(0, .arr 5 ((P.take k).flatten.map byC))], 1⟩, ?_, ?_⟩
    ·conv => whnf
     exact ⟨P.length, 0, by omega, rfl⟩
    ·rintro m _ ⟨k, hk, rfl⟩
     by_cases hkl : k < P.length
     ·have f1 : decide ((k : Int) < ((P.map fun l => [D.seq (l.map byC)]).length : Int)) = true := decide_eq_true (by rw [hm]; omega)
      conv => whnf
      (repeat' (first | (apply kT (by with_reducible first | rfl | assumption); conv => whnf) | (apply kF (by with_reducible first | rfl | assumption); conv => whnf) | (apply kT (by decide); conv => whnf) | (apply kF (by decide); conv => whnf) | (apply kB <;> intro _ <;> conv => whnf) | (refine ⟨k, _, rfl, hg k hkl, rfl, ?_⟩; conv => whnf) | fail))
      (refine ⟨hel k hkl, hby k hkl, ?_⟩; conv => whnf)
      refine ⟨m - 1, by omega, k + 1, by omega, ?_⟩
      rw [w1 k (by omega), hf k hkl, List.map_append]
     ·have f1 : decide ((k : Int) < ((P.map fun l => [D.seq (l.map byC)]).length : Int)) = false := decide_eq_false (by rw [hm]; omega)
      have ek : k = P.length := by omega
      subst ek
      rw [List.take_length]
      conv => whnf
      (apply kF (f1); conv => whnf)
      rfl
   ·conv => whnf
    (apply kF (f1); conv => whnf)
    (refine .inr ⟨[], 1, _, _, growB P.flatten.length (by omega) hl, ?_⟩; conv => whnf)
    (repeat' (first | (apply kT (by with_reducible first | rfl | assumption); conv => whnf) | (apply kF (by with_reducible first | rfl | assumption); conv => whnf) | (apply kT (by decide); conv => whnf) | (apply kF (by decide); conv => whnf) | (apply kB <;> intro _ <;> conv => whnf) | fail))
    refine ⟨[], [6, 25, 26, 27], [0], 1, fun m s => ∃ k : Nat, k + m = P.length ∧ s = ⟨[(6, .own 0), (25, .d (.seq (P.map fun l => [D.seq (l.map byC)]))), (26, .d (dI ((P.map fun l => [D.seq (l.map byC)]).length : Nat))), (27, .d (dI k))], [(0, .arr 5 ((P.take k).flatten.map byC))], 1⟩, ?_, ?_⟩
    ·conv => whnf
     exact ⟨P.length, 0, by omega, rfl⟩
    ·rintro m _ ⟨k, hk, rfl⟩
     by_cases hkl : k < P.length
     ·have f1 : decide ((k : Int) < ((P.map fun l => [D.seq (l.map byC)]).length : Int)) = true := decide_eq_true (by rw [hm]; omega)
      conv => whnf
      (repeat' (first | (apply kT (by with_reducible first | rfl | assumption); conv => whnf) | (apply kF (by with_reducible first | rfl | assumption); conv => whnf) | (apply kT (by decide); conv => whnf) | (apply kF (by decide); conv => whnf) | (apply kB <;> intro _ <;> conv => whnf) | (refine ⟨k, _, rfl, hg k hkl, rfl, ?_⟩; conv => whnf) | fail))
      (refine ⟨hel k hkl, hby k hkl, ?_⟩; conv => whnf)
      refine ⟨m - 1, by omega, k + 1, by omega, ?_⟩
      rw [w1 k (by omega), hf k hkl, List.map_append]
     ·have f1 : decide ((k : Int) < ((P.map fun l => [D.seq (l.map byC)]).length : Int)) = false := decide_eq_false (by rw [hm]; omega)
      have ek : k = P.length := by omega
      subst ek
      rw [List.take_length]
      conv => whnf
      (apply kF (f1); conv => whnf)
      rfl
end Go.Ev.Ytljkplahkokpaaa


set_option linter.unusedVariables false
set_option linter.unusedSimpArgs false
set_option maxRecDepth 100000
namespace Go.Ev.Ytljkplahkokpaaa
open Go.Proofs
attribute [local irreducible] Pure Bor Iter
theorem u8w (n : Int) : IntKind.u8.wrap n = n % 256 := by simp [IntKind.wrap, IntKind.signed, IntKind.bits]
theorem fdiv8 (n : Int) : n.fdiv (2 ^ (min (8 : Int).toNat IntKind.i64.bits)) = n / 256 := by
 rw [show ((2 : Int) ^ (min (8 : Int).toNat IntKind.i64.bits)) = 256 from rfl, Int.fdiv_eq_ediv_of_nonneg _ (by omega)]
theorem fdiv16 (n : Int) : n.fdiv (2 ^ (min (16 : Int).toNat IntKind.i64.bits)) = n / 65536 := by
 rw [show ((2 : Int) ^ (min (16 : Int).toNat IntKind.i64.bits)) = 65536 from rfl, Int.fdiv_eq_ediv_of_nonneg _ (by omega)]
def foldI (d : Int) : Int := if d < 0 then -2 * d - 1 else 2 * d
def stepL (d : Int) : List Int := if foldI d < 128 then [foldI d] else [128 + foldI d / 256, foldI d % 256]
theorem foldI_range {d : Int} (h1 : -16383 ≤ d) (h2 : d ≤ 16383) : 0 ≤ foldI d ∧ foldI d < 32768 := by unfold foldI; split <;> omega
theorem step_pure (d : Int) (h1 : -16383 ≤ d) (h2 : d ≤ 16383) : Pure Try.prog 106 [dI d] (bsD (stepL d)) := by
 have hr := foldI_range h1 h2
 have e1 : IntKind.i64.wrap (2 * d) = 2 * d := wS (by omega) (by omega)
 refine pure_of pg Try.func106 (by kernel_rfl) ?_
 by_cases h0 : d < 0
 ·have f0 : decide (d < 0) = true := decide_eq_true h0
  have ef : foldI d = -2 * d - 1 := if_pos h0
  have e2 : IntKind.i64.wrap (0 - IntKind.i64.wrap (2 * d)) = -2 * d := by rw [e1]; exact (wS (by omega) (by omega)).trans (by omega)
  have e3 : IntKind.i64.wrap (IntKind.i64.wrap (0 - IntKind.i64.wrap (2 * d)) - 1) = foldI d := by rw [e2, ef]; exact wS (by omega) (by omega)
  by_cases hn : foldI d < 128
  ·have f1 : decide (IntKind.i64.wrap (IntKind.i64.wrap (0 - IntKind.i64.wrap (2 * d)) - 1) < 128) = true := decide_eq_true (by rw [e3]; exact hn)
   have es : stepL d = [IntKind.u8.wrap (IntKind.i64.wrap (IntKind.i64.wrap (0 - IntKind.i64.wrap (2 * d)) - 1))] := by
    rw [stepL, if_pos hn, e3, u8w]; congr 1; omega
   rw [es]
   conv => whnf
   (repeat' (first | (apply kT (by with_reducible first | rfl | assumption); conv => whnf) | (apply kF (by with_reducible first | rfl | assumption); conv => whnf) | (apply kT (by decide); conv => whnf) | (apply kF (by decide); conv => whnf) | (apply kB <;> intro _ <;> conv => whnf) | fail))
   (refine .l ?_; conv => whnf)
   rfl
  ·have f1 : decide (IntKind.i64.wrap (IntKind.i64.wrap (0 - IntKind.i64.wrap (2 * d)) - 1) < 128) = false := decide_eq_false (by rw [e3]; exact hn)
   have es : stepL d = [IntKind.u8.wrap (128 + IntKind.u8.wrap ((IntKind.i64.wrap (IntKind.i64.wrap (0 - IntKind.i64.wrap (2 * d)) - 1)).fdiv (2 ^ (min (8 : Int).toNat IntKind.i64.bits)))), IntKind.u8.wrap (IntKind.i64.wrap (IntKind.i64.wrap (0 - IntKind.i64.wrap (2 * d)) - 1))] := by
    rw [stepL, if_neg hn, e3, fdiv8, u8w, u8w, u8w]; congr 1; omega
   rw [es]
   conv => whnf
   (repeat' (first | (apply kT (by with_reducible first | rfl | assumption); conv => whnf) | (apply kF (by with_reducible first | rfl | assumption); conv => whnf) | (apply kT (by decide); conv => whnf) | (apply kF (by decide); conv => whnf) | (apply kB <;> intro _ <;> conv => whnf) | fail))
   (refine ⟨by decide, ?_⟩; conv => whnf)
   (refine .l ?_; conv => whnf)
   rfl
 ·have f0 : decide (d < 0) = false := decide_eq_false h0
  have ef : foldI d = 2 * d := if_neg h0
  have e3 : IntKind.i64.wrap (2 * d) = foldI d := by rw [e1, ef]
  by_cases hn : foldI d < 128
  ·have f1 : decide (IntKind.i64.wrap (2 * d) < 128) = true := decide_eq_true (by rw [e3]; exact hn)
   have es : stepL d = [IntKind.u8.wrap (IntKind.i64.wrap (2 * d))] := by
    rw [stepL, if_pos hn, e3, u8w]; congr 1; omega
   rw [es]
   conv => whnf
   (repeat' (first | (apply kT (by with_reducible first | rfl | assumption); conv => whnf) | (apply kF (by with_reducible first | rfl | assumption); conv => whnf) | (apply kT (by decide); conv => whnf) | (apply kF (by decide); conv => whnf) | (apply kB <;> intro _ <;> conv => whnf) | fail))
   (refine .l ?_; conv => whnf)
   rfl
  ·have f1 : decide (IntKind.i64.wrap (2 * d) < 128) = false := decide_eq_false (by rw [e3]; exact hn)
   have es : stepL d = [IntKind.u8.wrap (128 + IntKind.u8.wrap ((IntKind.i64.wrap (2 * d)).fdiv (2 ^ (min (8 : Int).toNat IntKind.i64.bits)))), IntKind.u8.wrap (IntKind.i64.wrap (2 * d))] := by
    rw [stepL, if_neg hn, e3, fdiv8, u8w, u8w, u8w]; congr 1; omega
   rw [es]
   conv => whnf
   (repeat' (first | (apply kT (by with_reducible first | rfl | assumption); conv => whnf) | (apply kF (by with_reducible first | rfl | assumption); conv => whnf) | (apply kT (by decide); conv => whnf) | (apply kF (by decide); conv => whnf) | (apply kB <;> intro _ <;> conv => whnf) | fail))
   (refine ⟨by decide, ?_⟩; conv => whnf)
   (refine .l ?_; conv => whnf)
   rfl
attribute [local irreducible] stepL
theorem join_pure (P : List (List Int)) (hP : P.length ≤ 100000) (hl : P.flatten.length ≤ 100000) : Pure Try.prog 58 [.seq (P.map fun l => [bsD l])] (bsD P.flatten) := by
 have cc := concatB P hP hl
 refine pure_of pg Try.func58 (by kernel_rfl) ?_
 conv => whnf
 (repeat' (first | (apply kT (by with_reducible first | rfl | assumption); conv => whnf) | (apply kF (by with_reducible first | rfl | assumption); conv => whnf) | (apply kT (by decide); conv => whnf) | (apply kF (by decide); conv => whnf) | (apply kB <;> intro _ <;> conv => whnf) | (refine .inl ⟨_, cc, ?_⟩; conv => whnf) | fail))
 rfl
def Fol (a b : Pt) : Prop := 1 ≤ b.s - a.s ∧ b.s - a.s ≤ 255 ∧ -16383 ≤ b.l - a.l ∧ b.l - a.l ≤ 16383
def furL (a b : Pt) : List Int := (b.s - a.s) :: stepL (b.l - a.l)
theorem stepL_len (d : Int) : (stepL d).length = if foldI d < 128 then 1 else 2 := by unfold stepL; split <;> rfl
theorem furL_len (a b : Pt) : (furL a b).length ≤ 3 ∧ 2 ≤ (furL a b).length := by
 unfold furL; rw [List.length_cons, stepL_len]; split <;> omega
theorem further_pure (a b : Pt) (h : Fol a b) : Pure Try.prog 88 [.agg (ptD a), .agg (ptD b)] (bsD (furL a b)) := by
 obtain ⟨h1, h2, h3, h4⟩ := h
 have ew1 : IntKind.i64.wrap (b.s - a.s) = b.s - a.s := wS (by omega) (by omega)
 have ew2 : IntKind.i64.wrap (b.l - a.l) = b.l - a.l := wS (by omega) (by omega)
 have eu : IntKind.u8.wrap (IntKind.i64.wrap (b.s - a.s)) = b.s - a.s := by rw [ew1, u8w]; omega
 have cs := step_pure (b.l - a.l) h3 h4
 have cs' : Pure Try.prog 106 [dI (IntKind.i64.wrap (b.l - a.l))] (bsD (stepL (b.l - a.l))) := by rw [ew2]; exact cs
 have hs := stepL_len (b.l - a.l)
 have cj : Pure Try.prog 58 [.seq [[bsD [IntKind.u8.wrap (IntKind.i64.wrap (b.s - a.s))]], [bsD (stepL (b.l - a.l))]]] (bsD (furL a b)) := by
  have := join_pure [[b.s - a.s], stepL (b.l - a.l)] (by simp) (by simp; rw [hs]; split <;> omega)
  rw [eu]
  simpa [furL] using this
 refine pure_of pg Try.func88 (by kernel_rfl) ?_
 conv => whnf
 (refine .l ?_; conv => whnf)
 (refine .inl ⟨_, cs', ?_⟩; conv => whnf)
 (refine .l ?_; conv => whnf)
 (refine .inl ⟨_, cj, ?_⟩; conv => whnf)
 rfl
def wsum (l : List Int) : Nat → Int
 | 0 => 0
 | k + 1 => wsum l k + ((k : Int) + 1) * l.getD k 0
def psum (l : List Int) : Nat → Int
 | 0 => 0
 | k + 1 => psum l k + l.getD k 0
def By (l : List Int) : Prop := ∀ x ∈ l, 0 ≤ x ∧ x < 256
theorem By.getD {l : List Int} (h : By l) (k : Nat) : 0 ≤ l.getD k 0 ∧ l.getD k 0 < 256 := by
 by_cases hk : k < l.length
 ·have e : l.getD k 0 = l[k] := by simp [hk]
  rw [e]; exact h _ (List.getElem_mem hk)
 ·have e : l.getD k 0 = 0 := by simp at hk; simp [hk]
  rw [e]; omega
theorem wsum_range {l : List Int} (h : By l) : ∀ k, k ≤ 38 → 0 ≤ wsum l k ∧ wsum l k ≤ (k : Int) * (38 * 255)
 | 0, _ => by simp [wsum]
 | k + 1, hk => by
  have := wsum_range h k (by omega)
  have hb := h.getD k
  rw [wsum]
  have h1 : ((k : Int) + 1) * l.getD k 0 ≤ 38 * 255 := Int.mul_le_mul (by omega) (by omega) hb.1 (by omega)
  have h2 : 0 ≤ ((k : Int) + 1) * l.getD k 0 := Int.mul_nonneg (by omega) hb.1
  omega
theorem psum_range {l : List Int} (h : By l) : ∀ k, k ≤ 38 → 0 ≤ psum l k ∧ psum l k ≤ (k : Int) * 255
 | 0, _ => by simp [psum]
 | k + 1, hk => by
  have := psum_range h k (by omega)
  have hb := h.getD k
  rw [psum]
  omega
end Go.Ev.Ytljkplahkokpaaa


set_option linter.unusedVariables false
set_option linter.unusedSimpArgs false
set_option maxRecDepth 100000
namespace Go.Ev.Ytljkplahkokpaaa
open Go.Proofs
attribute [local irreducible] Pure Bor Iter stepL
abbrev blD (l : List Int) : D := .agg (l.map bD)
theorem flat38 (l : List Int) : (((l.take 38).map byC).flatten).map A.d = (l.map fun n => A.d (bD n)).take 38 := by
 rw [← List.map_take]
 induction l.take 38 with
 | nil => rfl
 | cons a r ih => simp only [List.map_cons, List.flatten_cons, List.map_append, ih]; rfl
theorem weighted_pure (l : List Int) (hl : l.length = 40) (hb : By l) : Pure Try.prog 107 [blD l] (bD (wsum l 38 % 251)) := by
 have hone : (List.map A.d (List.map bD l)).all A.one = true := by rw [List.all_eq_true]; intro x hx; simp only [List.map_map, List.mem_map] at hx; obtain ⟨y, _, rfl⟩ := hx; rfl
 have hcs : ((l.take 38).map byC).length = 38 := by rw [List.length_map, List.length_take]; omega
 have hm : (((l.take 38).map byC).length : Int) = 38 := by rw [hcs]; rfl
 have hg : ∀ k (h : k < 38), ((l.take 38).map byC)[k]? = some (byC (l.getD k 0)) := fun k h => by
  rw [List.getElem?_map, List.getElem?_take_of_lt h, List.getElem?_eq_getElem (by omega)]; simp [List.getD, List.getElem?_eq_getElem (show k < l.length by omega)]
 refine pure_of pg Try.func107 (by kernel_rfl) ?_
 conv => whnf
 (refine ⟨hone, ?_⟩; conv => whnf)
 (refine .l ⟨38, rfl, by decide, (l.take 38).map byC, by rw [flat38, List.map_map]; rfl, fun el h => by rw [List.mem_map] at h; obtain ⟨x, _, rfl⟩ := h; rfl, hcs, ?_⟩; conv => whnf)
 refine ⟨[], [3, 6, 7, 8], [], 0, fun m s => ∃ k : Nat, k + m = 38 ∧ s = ⟨[(3, .d (dI (wsum l k))), (6, .d (.seq ((l.take 38).map byC))), (7, .d (dI (((l.take 38).map byC).length : Nat))), (8, .d (dI k))], [], 0⟩, ?_, ?_⟩
 ·conv => whnf
  exact ⟨38, 0, by omega, rfl⟩
 ·rintro m _ ⟨k, hk, rfl⟩
  by_cases hkl : k < 38
  ·have f1 : decide ((k : Int) < (((l.take 38).map byC).length : Int)) = true := decide_eq_true (by rw [hm]; omega)
   have hbk := hb.getD k
   have hs := wsum_range hb k (by omega)
   have hs' := wsum_range hb (k + 1) (by omega)
   have ew : IntKind.i64.wrap (wsum l k + IntKind.i64.wrap (IntKind.i64.wrap ((k : Int) + 1) * IntKind.i64.wrap (l.getD k 0))) = wsum l (k + 1) := by
    rw [wsum] at hs'
    rw [w1 k (by omega), wS (z := l.getD k 0) (by omega) (by omega), Int.natCast_add, Int.natCast_one, wS (z := ((k : Int) + 1) * l.getD k 0) (by omega) (by omega), wsum]
    exact wS (by omega) (by omega)
   conv => whnf
   (repeat' (first | (apply kT (by with_reducible first | rfl | assumption); conv => whnf) | (apply kF (by with_reducible first | rfl | assumption); conv => whnf) | (apply kT (by decide); conv => whnf) | (apply kF (by decide); conv => whnf) | (apply kB <;> intro _ <;> conv => whnf) | (refine ⟨k, _, rfl, hg k hkl, rfl, ?_⟩; conv => whnf) | fail))
   refine ⟨m - 1, by omega, k + 1, by omega, ?_⟩
   rw [ew, w1 k (by omega)]
  ·have f1 : decide ((k : Int) < (((l.take 38).map byC).length : Int)) = false := decide_eq_false (by rw [hm]; omega)
   have ek : k = 38 := by omega
   subst ek
   have hs := wsum_range hb 38 (by omega)
   have er : wsum l 38 % 251 = IntKind.u8.wrap ((wsum l 38).tmod 251) := by
    rw [Int.tmod_eq_emod_of_nonneg hs.1, u8w]; omega
   rw [er]
   conv => whnf
   (apply kF (f1); conv => whnf)
   (refine ⟨by decide, ?_⟩; conv => whnf)
   rfl
theorem plain_pure (l : List Int) (hl : l.length = 40) (hb : By l) : Pure Try.prog 108 [blD l] (bD (psum l 38 % 253)) := by
 have hone : (List.map A.d (List.map bD l)).all A.one = true := by rw [List.all_eq_true]; intro x hx; simp only [List.map_map, List.mem_map] at hx; obtain ⟨y, _, rfl⟩ := hx; rfl
 have hcs : ((l.take 38).map byC).length = 38 := by rw [List.length_map, List.length_take]; omega
 have hm : (((l.take 38).map byC).length : Int) = 38 := by rw [hcs]; rfl
 have hg : ∀ k (h : k < 38), ((l.take 38).map byC)[k]? = some (byC (l.getD k 0)) := fun k h => by
  rw [List.getElem?_map, List.getElem?_take_of_lt h, List.getElem?_eq_getElem (by omega)]; simp [List.getD, List.getElem?_eq_getElem (show k < l.length by omega)]
 refine pure_of pg Try.func108 (by kernel_rfl) ?_
 conv => whnf
 (refine ⟨hone, ?_⟩; conv => whnf)
 (refine .l ⟨38, rfl, by decide, (l.take 38).map byC, by rw [flat38, List.map_map]; rfl, fun el h => by rw [List.mem_map] at h; obtain ⟨x, _, rfl⟩ := h; rfl, hcs, ?_⟩; conv => whnf)
 refine ⟨[], [3, 6, 7, 8], [], 0, fun m s => ∃ k : Nat, k + m = 38 ∧ s = ⟨[(3, .d (dI (psum l k))), (6, .d (.seq ((l.take 38).map byC))), (7, .d (dI (((l.take 38).map byC).length : Nat))), (8, .d (dI k))], [], 0⟩, ?_, ?_⟩
 ·conv => whnf
  exact ⟨38, 0, by omega, rfl⟩
 ·rintro m _ ⟨k, hk, rfl⟩
  by_cases hkl : k < 38
  ·have f1 : decide ((k : Int) < (((l.take 38).map byC).length : Int)) = true := decide_eq_true (by rw [hm]; omega)
   have hbk := hb.getD k
   have hs := psum_range hb k (by omega)
   have hs' := psum_range hb (k + 1) (by omega)
   have ew : IntKind.i64.wrap (psum l k + IntKind.i64.wrap (l.getD k 0)) = psum l (k + 1) := by
    rw [psum] at hs'
    rw [wS (z := l.getD k 0) (by omega) (by omega), psum]
    exact wS (by omega) (by omega)
   conv => whnf
   (repeat' (first | (apply kT (by with_reducible first | rfl | assumption); conv => whnf) | (apply kF (by with_reducible first | rfl | assumption); conv => whnf) | (apply kT (by decide); conv => whnf) | (apply kF (by decide); conv => whnf) | (apply kB <;> intro _ <;> conv => whnf) | (refine ⟨k, _, rfl, hg k hkl, rfl, ?_⟩; conv => whnf) | fail))
   refine ⟨m - 1, by omega, k + 1, by omega, ?_⟩
   rw [ew, w1 k (by omega)]
  ·have f1 : decide ((k : Int) < (((l.take 38).map byC).length : Int)) = false := decide_eq_false (by rw [hm]; omega)
   have ek : k = 38 := by omega
   subst ek
   have hs := psum_range hb 38 (by omega)
   have er : psum l 38 % 253 = IntKind.u8.wrap ((psum l 38).tmod 253) := by
    rw [Int.tmod_eq_emod_of_nonneg hs.1, u8w]; omega
   rw [er]
   conv => whnf
   (apply kF (f1); conv => whnf)
   (refine ⟨by decide, ?_⟩; conv => whnf)
   rfl
end Go.Ev.Ytljkplahkokpaaa


set_option linter.unusedVariables false
set_option linter.unusedSimpArgs false
set_option maxRecDepth 100000
namespace Go.Ev.Ytljkplahkokpaaa
open Go.Proofs
attribute [local irreducible] Pure Bor Iter stepL furL wsum psum
abbrev intO (n : Int) : Ob := .var false 3 [.d (dI n)]
abbrev blO (l : List Int) : Ob := .var true 113 (l.map fun n => A.d (bD n))
theorem sums_pure : Pure Try.prog 89 [] (.seq [[.fn (.func 107) [] []], [.fn (.func 108) [] []]]) := by
 refine pure_of pg Try.func89 (by kernel_rfl) ?_
 conv => whnf
 (refine .l ?_; conv => whnf)
 rfl
theorem byL (l : List Int) : ∀ el ∈ l.map byC, el.length = 1 := fun el h => by
 rw [List.mem_map] at h; obtain ⟨x, _, rfl⟩ := h; rfl
theorem flatBy (l : List Int) : ((l.map byC).flatten).map A.d = l.map fun n => A.d (bD n) := by
 induction l with
 | nil => rfl
 | cons a r ih => simp only [List.map_cons, List.flatten_cons, List.map_append, ih]; rfl
theorem onlyB (os : List Nat) (l : List Int) : A.onlyL os (l.map fun n => A.d (bD n)) = true := by
 induction l with
 | nil => rfl
 | cons a r ih => rw [List.map_cons, A.onlyL, ih]; rfl
theorem invB (ρ : List Nat) (l : List Int) : invAL ρ (l.map fun n => A.d (bD n)) = l.map fun n => A.d (bD n) := by
 induction l with
 | nil => rfl
 | cons a r ih => rw [List.map_cons, invAL, ih, invA]
theorem outB (ρ : List Nat) (n : Nat) (l : List Int) : outAL ρ n (l.map fun n => A.d (bD n)) = l.map fun n => A.d (bD n) := by
 induction l with
 | nil => rfl
 | cons a r ih => rw [List.map_cons, outAL, ih, outA]
abbrev blI (ρ : List Nat) (l : List Int) : Ob := .var true 113 (invAL ρ (l.map fun n => A.d (bD n)))
theorem loadB {l : List Int} (hl : l.length = 40) : ((l.map fun n => A.d (bD n)).drop 0).take 40 = (l.map bD).map A.d := by
 rw [List.drop_zero, List.take_of_length_le (by rw [List.length_map, hl]; decide), List.map_map]; rfl
theorem lenB {l : List Int} (hl : l.length = 40) : (l.map bD).length = 40 := by rw [List.length_map, hl]
theorem oneB (l : List Int) : ((l.map bD).map A.d).all A.one = true := by rw [List.all_eq_true]; intro x hx; simp only [List.map_map, List.mem_map] at hx; obtain ⟨y, _, rfl⟩ := hx; rfl
theorem putB {cs : List A} {l : List Int} (hc : cs.length = 40) (hl : l.length = 40) : putAt cs 0 ((l.map bD).map A.d) = (l.map bD).map A.d := by
 rw [putAt, List.take_zero, List.nil_append, List.drop_of_length_le (by simp [hc, hl]), List.append_nil]
theorem againB {cs : List A} {l : List Int} (hc : cs.length = 40) (hl : l.length = 40) : ((putAt cs 0 ((l.map bD).map A.d)).drop 0).take 40 = (l.map bD).map A.d := by
 rw [putB hc hl, List.drop_zero, List.take_of_length_le (by simp [hl])]
theorem setB (l : List Int) (i : Nat) (v : Int) : (l.map fun n => A.d (bD n)).set i (A.d (bD v)) = (l.set i v).map fun n => A.d (bD n) := by
 rw [List.map_set]
theorem put_bor (n : Nat) (o l : List Int) (hn : n + l.length ≤ 38) (ho : o.length = 40) :
  Bor tb Try.prog 87 [.d (bsD l), .ref 0 0, .ref 1 0] [intO n, blO o] 2 (.d (dB true)) [(0, intO (n + l.length : Nat)), (1, blO (o.take n ++ l ++ o.drop (n + l.length)))] := by
 have hm : ((l.map byC).length : Int) = l.length := by rw [List.length_map]
 have ew : IntKind.i64.wrap ((n : Int) + ((l.map byC).length : Int)) = ((n + l.length : Nat) : Int) := by rw [hm, wrapI (by omega) (by omega)]; omega
 have f1 : decide (IntKind.i64.wrap ((n : Int) + ((l.map byC).length : Int)) > 38) = false := decide_eq_false (by rw [ew]; omega)
 have e1 : (l.map byC).take (40 - n) = l.map byC := List.take_of_length_le (by rw [List.length_map]; omega)
 have e2 : putAt (o.map fun n => A.d (bD n)) (n * 1) ((((l.map byC).take (40 - n)).flatten).map A.d) = (o.take n ++ l ++ o.drop (n + l.length)).map fun n => A.d (bD n) := by
  rw [e1, flatBy, putAt, Nat.mul_one]
  simp
 have e3 : IntKind.i64.wrap ((n : Int) + ((min (40 - n) (l.map byC).length : Nat) : Int)) = ((n + l.length : Nat) : Int) := by
  rw [List.length_map, Nat.min_eq_right (by omega), wrapI (by omega) (by omega)]; omega
 refine bor_of pg Try.func87 (by kernel_rfl) ?_
 conv => whnf
 (repeat' (first | (apply kT (by with_reducible first | rfl | assumption); conv => whnf) | (apply kF (by with_reducible first | rfl | assumption); conv => whnf) | (apply kT (by decide); conv => whnf) | (apply kF (by decide); conv => whnf) | (apply kB <;> intro _ <;> conv => whnf) | fail))
 (refine ⟨n, rfl, by omega, ?_⟩; conv => whnf)
 (refine ⟨byL l, by show n * 1 + (40 - n) * 1 ≤ _; rw [List.length_map, ho]; omega, _, e2, ?_⟩; conv => whnf)
 (repeat' (first | (apply kT (by with_reducible first | rfl | assumption); conv => whnf) | (apply kF (by with_reducible first | rfl | assumption); conv => whnf) | (apply kT (by decide); conv => whnf) | (apply kF (by decide); conv => whnf) | (apply kB <;> intro _ <;> conv => whnf) | fail))
 (refine ⟨[], [0, 1], ?_⟩; conv => whnf)
 (refine ⟨onlyB .., ?_⟩; conv => whnf)
 refine ⟨rfl, ?_⟩
 rw [e3]
theorem put_no (n : Nat) (o l : List Int) (hn : 38 < n + l.length) (hl : n + l.length ≤ 100000) :
  Bor tb Try.prog 87 [.d (bsD l), .ref 0 0, .ref 1 0] [intO n, blO o] 2 (.d (dB false)) [(0, intO n), (1, blO o)] := by
 have hm : ((l.map byC).length : Int) = l.length := by rw [List.length_map]
 have ew : IntKind.i64.wrap ((n : Int) + ((l.map byC).length : Int)) = ((n + l.length : Nat) : Int) := by rw [hm, wrapI (by omega) (by omega)]; omega
 have f1 : decide (IntKind.i64.wrap ((n : Int) + ((l.map byC).length : Int)) > 38) = true := decide_eq_true (by rw [ew]; omega)
 refine bor_of pg Try.func87 (by kernel_rfl) ?_
 conv => whnf
 (repeat' (first | (apply kT (by with_reducible first | rfl | assumption); conv => whnf) | (apply kF (by with_reducible first | rfl | assumption); conv => whnf) | (apply kT (by decide); conv => whnf) | (apply kF (by decide); conv => whnf) | (apply kB <;> intro _ <;> conv => whnf) | fail))
 (refine ⟨[], [0, 1], ?_⟩; conv => whnf)
 (refine ⟨onlyB .., ?_⟩; conv => whnf)
 exact ⟨rfl, rfl⟩
theorem put_borI (ρ : List Nat) (n : Nat) (o l : List Int) (hn : n + l.length ≤ 38) (ho : o.length = 40) :
  Bor tb Try.prog 87 [.d (bsD l), .ref 0 0, .ref 1 0] [intO n, blI ρ o] 2 (.d (dB true)) [(0, intO (n + l.length : Nat)), (1, blO (o.take n ++ l ++ o.drop (n + l.length)))] := by
 unfold blI
 rw [invB]
 exact put_bor n o l hn ho
theorem put_noI (ρ : List Nat) (n : Nat) (o l : List Int) (hn : 38 < n + l.length) (hl : n + l.length ≤ 100000) :
  Bor tb Try.prog 87 [.d (bsD l), .ref 0 0, .ref 1 0] [intO n, blI ρ o] 2 (.d (dB false)) [(0, intO n), (1, blO o)] := by
 unfold blI
 rw [invB]
 exact put_no n o l hn hl
structure Cd where
 (n i m : Int)
 (ps : List Pt)
deriving DecidableEq
abbrev cdC (c : Cd) : List D := [dI c.n, dI c.i, dI c.m, ptsD c.ps]
def headL (n i m : Int) (k : Nat) (p : Pt) : List Int := [n / 256 % 256, n % 256, i % 256, m % 256, (k : Int) % 256, p.s / 256 % 256, p.s % 256, p.l / 65536 % 256, p.l / 256 % 256, p.l % 256]
def furs : List Pt → List (List Int)
 | a :: b :: r => furL a b :: furs (b :: r)
 | _ => []
theorem furs_get : ∀ (l : List Pt) (k : Nat) (h : k + 1 < l.length), (furs l)[k]? = some (furL l[k] l[k + 1])
 | a :: b :: r, 0, h => rfl
 | a :: b :: r, k + 1, h => by
  rw [furs, List.getElem?_cons_succ, furs_get (b :: r) k (by simpa using h)]
  rfl
theorem furs_len : ∀ (l : List Pt), (furs l).length = l.length - 1
 | [] => rfl
 | [_] => rfl
 | a :: b :: r => by rw [furs, List.length_cons, furs_len (b :: r)]; simp
def fillF (acc : List Int) : List (List Int) → List Int × Bool
 | [] => (acc, true)
 | p :: ps => if acc.length + p.length ≤ 38 then fillF (acc ++ p) ps else (acc, false)
theorem fillF_acc : ∀ (ps : List (List Int)) (acc : List Int), acc.length ≤ 38 → (fillF acc ps).1.length ≤ 38
 | [], acc, h => h
 | p :: ps, acc, h => by
  rw [fillF]
  split
  ·exact fillF_acc ps _ (by rw [List.length_append]; omega)
  ·exact h
def pad (l : List Int) : List Int := l ++ List.replicate (40 - l.length) 0
def chk2 (o : List Int) : List Int := (o.set 38 (wsum o 38 % 251)).set 39 (psum o 38 % 253)
theorem pad_len {l : List Int} (h : l.length ≤ 40) : (pad l).length = 40 := by unfold pad; rw [List.length_append, List.length_replicate]; omega
def layF (c : Cd) : List Int × Bool := match c.ps with
 | [] => ([], false)
 | p :: r => fillF (headL c.n c.i c.m c.ps.length p) (furs c.ps)
def layB (c : Cd) : List Int := bif (layF c).2 then chk2 (pad (layF c).1) else pad (layF c).1
theorem psum_set (o : List Int) (v : Int) : ∀ k, k ≤ 38 → psum (o.set 38 v) k = psum o k
 | 0, _ => by simp [psum]
 | k + 1, h => by
  rw [psum, psum, psum_set o v k (by omega)]
  congr 1
  simp only [List.getD_eq_getElem?_getD]
  rw [List.getElem?_set_ne (by omega)]
def chkS (o : List Int) : Nat → List Int
 | 0 => o
 | 1 => o.set 38 (wsum o 38 % 251)
 | _ => chk2 o
theorem By.set {l : List Int} (h : By l) {i : Nat} {v : Int} (hv : 0 ≤ v ∧ v < 256) : By (l.set i v) := fun x hx => by
 rcases List.mem_or_eq_of_mem_set hx with h' | rfl
 ·exact h x h'
 ·exact hv
def Run (l : List Pt) : Prop := ∀ i (h : i + 1 < l.length), Fol l[i] l[i + 1]
theorem pad_put (acc l : List Int) (h : acc.length + l.length ≤ 40) : (pad acc).take acc.length ++ l ++ (pad acc).drop (acc.length + l.length) = pad (acc ++ l) := by
 unfold pad
 rw [List.take_left' rfl, List.drop_append, List.drop_of_length_le (by omega), List.nil_append, List.drop_replicate, List.length_append]
 congr 2
 omega
theorem layF_eq (c : Cd) (h0 : 0 < c.ps.length) : layF c = fillF (headL c.n c.i c.m c.ps.length c.ps[0]) (furs c.ps) := by
 unfold layF
 obtain ⟨n, i, m, ps⟩ := c
 cases ps with
 | nil => simp at h0
 | cons p r => rfl
theorem headL_len (n i m : Int) (k : Nat) (p : Pt) : (headL n i m k p).length = 10 := rfl
abbrev z40 : List Int := List.replicate 40 0
abbrev layO (c : Cd) (acc : List Int) : List (Nat × Ob) := [(0, .var false 129 (cdC c |>.map A.d)), (1, blO (pad acc)), (2, intO (acc.length : Nat))]
attribute [local irreducible] headL
theorem lay_pure (c : Cd) (h0 : 0 < c.ps.length) (hl : c.ps.length ≤ 100000) (hr : Run c.ps) (hby : By (pad (layF c).1)) : Pure Try.prog 66 [.agg (cdC c)] (.tup [blD (layB c), dB (layF c).2]) := by
 have hm : ((c.ps.map ptD).length : Int) = c.ps.length := by rw [List.length_map]
 have hraw : [IntKind.u8.wrap (c.n.fdiv (2 ^ (min (8 : Int).toNat IntKind.i64.bits))), IntKind.u8.wrap c.n, IntKind.u8.wrap c.i, IntKind.u8.wrap c.m, IntKind.u8.wrap ((c.ps.map ptD).length : Nat), IntKind.u8.wrap (c.ps[0].s.fdiv (2 ^ (min (8 : Int).toNat IntKind.i64.bits))), IntKind.u8.wrap c.ps[0].s, IntKind.u8.wrap (c.ps[0].l.fdiv (2 ^ (min (16 : Int).toNat IntKind.i64.bits))), IntKind.u8.wrap (c.ps[0].l.fdiv (2 ^ (min (8 : Int).toNat IntKind.i64.bits))), IntKind.u8.wrap c.ps[0].l] = headL c.n c.i c.m c.ps.length c.ps[0] := by
  unfold headL
  simp only [fdiv8, fdiv16, u8w, hm]
 have cp : Bor tb Try.prog 87 [.d (bsD [IntKind.u8.wrap (c.n.fdiv (2 ^ (min (8 : Int).toNat IntKind.i64.bits))), IntKind.u8.wrap c.n, IntKind.u8.wrap c.i, IntKind.u8.wrap c.m, IntKind.u8.wrap ((c.ps.map ptD).length : Nat), IntKind.u8.wrap (c.ps[0].s.fdiv (2 ^ (min (8 : Int).toNat IntKind.i64.bits))), IntKind.u8.wrap c.ps[0].s, IntKind.u8.wrap (c.ps[0].l.fdiv (2 ^ (min (16 : Int).toNat IntKind.i64.bits))), IntKind.u8.wrap (c.ps[0].l.fdiv (2 ^ (min (8 : Int).toNat IntKind.i64.bits))), IntKind.u8.wrap c.ps[0].l]), .ref 0 0, .ref 1 0] [intO 0, blO z40] 2 (.d (dB true)) [(0, intO ((headL c.n c.i c.m c.ps.length c.ps[0]).length : Nat)), (1, blO (pad (headL c.n c.i c.m c.ps.length c.ps[0])))] := by
  rw [hraw]
  have := put_bor 0 z40 (headL c.n c.i c.m c.ps.length c.ps[0]) (by rw [headL_len]; omega) (by simp)
  have e := pad_put [] (headL c.n c.i c.m c.ps.length c.ps[0]) (by rw [headL_len]; decide)
  rw [show pad [] = z40 from rfl] at e
  simp only [List.length_nil, List.nil_append] at e
  rw [e, Nat.zero_add] at this
  exact this
 have hHl := headL_len c.n c.i c.m c.ps.length c.ps[0]
 generalize hH : headL c.n c.i c.m c.ps.length c.ps[0] = H at *
 have hlay := layF_eq c h0
 rw [hH] at hlay
 have hg : ∀ k (h : k + 1 < c.ps.length), (((c.ps.map ptD).take (c.ps.map ptD).length).drop 1)[k]? = some (ptD (c.ps[k + 1])) := fun k h => by
  rw [List.take_length, List.getElem?_drop, List.getElem?_map, Nat.add_comm 1 k, List.getElem?_eq_getElem h]; rfl
 have hm1 : ((((c.ps.map ptD).take (c.ps.map ptD).length).drop 1).length : Int) = c.ps.length - 1 := by rw [List.take_length, List.length_drop, List.length_map]; omega
 refine pure_of pg Try.func66 (by kernel_rfl) ?_
 conv => whnf
 (refine ⟨0, _, rfl, getpt c.ps 0 h0, rfl, ?_⟩; conv => whnf)
 (refine ⟨by decide, ?_⟩; conv => whnf)
 (refine ⟨by decide, ?_⟩; conv => whnf)
 (refine ⟨by decide, ?_⟩; conv => whnf)
 (refine ⟨by decide, ?_⟩; conv => whnf)
 (refine .l ?_; conv => whnf)
 (refine .inr ⟨[2, 1], 2, _, _, cp, ?_⟩; conv => whnf)
 (refine ⟨1, rfl, by rw [List.length_map]; omega, Nat.le_refl _, fun el h => by rw [List.mem_map] at h; obtain ⟨x, _, rfl⟩ := h; rfl, ?_⟩; conv => whnf)
 refine ⟨[], [1, 2, 5, 56, 57, 58], [0, 1, 2], 3, fun m s => ∃ (k : Nat) (acc : List Int), k + m = c.ps.length - 1 ∧ acc.length ≤ 38 ∧ fillF H (furs c.ps) = fillF acc ((furs c.ps).drop k) ∧ s = ⟨[(1, .ref 0 0), (2, .ref 1 0), (5, .fn (.func 87) [] [.ref 2 0, .ref 1 0]), (56, .d (.seq (((c.ps.map ptD).take (c.ps.map ptD).length).drop 1))), (57, .d (dI ((((c.ps.map ptD).take (c.ps.map ptD).length).drop 1).length : Nat))), (58, .d (dI k))], layO c acc, 3⟩, ?_, ?_⟩
 ·conv => whnf
  refine ⟨by rw [outB]; exact onlyB .., ?_⟩
  rw [outB]
  exact ⟨c.ps.length - 1, 0, H, by omega, by omega, rfl, rfl⟩
 ·rintro m _ ⟨k, acc, hk, hacc, hfill, rfl⟩
  by_cases hkl : k + 1 < c.ps.length
  ·have f1 : decide ((k : Int) < ((((c.ps.map ptD).take (c.ps.map ptD).length).drop 1).length : Int)) = true := decide_eq_true (by rw [hm1]; omega)
   have hff : (furs c.ps).drop k = furL c.ps[k] c.ps[k + 1] :: (furs c.ps).drop (k + 1) := by
    have h1 : k < (furs c.ps).length := by rw [furs_len]; omega
    rw [List.drop_eq_getElem_cons h1]
    congr 1
    have := furs_get c.ps k hkl
    rw [List.getElem?_eq_getElem h1] at this
    exact Option.some.inj this
   rw [hff, fillF] at hfill
   have cf := further_pure c.ps[k] c.ps[k + 1] (hr k hkl)
   have hfl := furL_len c.ps[k] c.ps[k + 1]
   by_cases hroom : acc.length + (furL c.ps[k] c.ps[k + 1]).length ≤ 38
   ·rw [if_pos hroom] at hfill
    have cq := put_borI [2, 1] acc.length (pad acc) (furL c.ps[k] c.ps[k + 1]) hroom (pad_len (by omega))
    rw [pad_put _ _ (by omega), ← List.length_append] at cq
    conv => whnf
    (repeat' (first | (apply kT (by with_reducible first | rfl | assumption); conv => whnf) | (apply kF (by with_reducible first | rfl | assumption); conv => whnf) | (apply kT (by decide); conv => whnf) | (apply kF (by decide); conv => whnf) | (apply kB <;> intro _ <;> conv => whnf) | (refine ⟨k, _, rfl, hg k hkl, rfl, ?_⟩; conv => whnf) | (refine ⟨k, _, rfl, getpt c.ps k (by omega), rfl, ?_⟩; conv => whnf) | (refine .inl ⟨_, cf, ?_⟩; conv => whnf) | fail))
    (refine .inr ⟨[2, 1], 2, _, _, cq, ?_⟩; conv => whnf)
    (repeat' (first | (apply kT (by with_reducible first | rfl | assumption); conv => whnf) | (apply kF (by with_reducible first | rfl | assumption); conv => whnf) | (apply kT (by decide); conv => whnf) | (apply kF (by decide); conv => whnf) | (apply kB <;> intro _ <;> conv => whnf) | fail))
    refine ⟨by rw [outB]; exact onlyB .., ?_⟩
    refine ⟨m - 1, by omega, k + 1, acc ++ furL c.ps[k] c.ps[k + 1], by omega, by rw [List.length_append]; omega, hfill, ?_⟩
    rw [outB, w1 k (by omega)]
    rfl
   ·rw [if_neg hroom] at hfill
    have cq := put_noI [2, 1] acc.length (pad acc) (furL c.ps[k] c.ps[k + 1]) (by omega) (by omega)
    have e2 : (layF c).2 = false := by rw [hlay, hfill]
    have e1 : layB c = pad acc := by unfold layB; rw [e2, hlay, hfill]; rfl
    rw [e1, e2]
    conv => whnf
    (repeat' (first | (apply kT (by with_reducible first | rfl | assumption); conv => whnf) | (apply kF (by with_reducible first | rfl | assumption); conv => whnf) | (apply kT (by decide); conv => whnf) | (apply kF (by decide); conv => whnf) | (apply kB <;> intro _ <;> conv => whnf) | (refine ⟨k, _, rfl, hg k hkl, rfl, ?_⟩; conv => whnf) | (refine ⟨k, _, rfl, getpt c.ps k (by omega), rfl, ?_⟩; conv => whnf) | (refine .inl ⟨_, cf, ?_⟩; conv => whnf) | fail))
    (refine .inr ⟨[2, 1], 2, _, _, cq, ?_⟩; conv => whnf)
    (repeat' (first | (apply kT (by with_reducible first | rfl | assumption); conv => whnf) | (apply kF (by with_reducible first | rfl | assumption); conv => whnf) | (apply kT (by decide); conv => whnf) | (apply kF (by decide); conv => whnf) | (apply kB <;> intro _ <;> conv => whnf) | fail))
    (refine ⟨(pad acc).map bD, by rw [outB]; exact loadB (pad_len (by omega)), lenB (pad_len (by omega)), ?_⟩; conv => whnf)
    (refine ⟨((pad acc).map bD).map A.d, rfl, by rw [List.length_map]; exact lenB (pad_len (by omega)), by rw [outB]; simp [pad_len (l := acc) (by omega)], oneB _, ?_⟩; conv => whnf)
    (refine ⟨(pad acc).map bD, by rw [outB]; exact againB (by rw [List.length_map]; exact pad_len (by omega)) (pad_len (by omega)), lenB (pad_len (by omega)), ?_⟩; conv => whnf)
    rfl
  ·have hk1 : k + 1 = c.ps.length := by omega
   have f1 : decide ((k : Int) < ((((c.ps.map ptD).take (c.ps.map ptD).length).drop 1).length : Int)) = false := decide_eq_false (by rw [hm1]; omega)
   have hff : (furs c.ps).drop k = [] := List.drop_eq_nil_of_le (by rw [furs_len]; omega)
   rw [hff, fillF] at hfill
   have e2 : (layF c).2 = true := by rw [hlay, hfill]
   have e0 : (layF c).1 = acc := by rw [hlay, hfill]
   have e1 : layB c = chk2 (pad acc) := by unfold layB; rw [e2, e0]; rfl
   rw [e0] at hby
   have hpl : (pad acc).length = 40 := pad_len (by omega)
   have hb1 : By ((pad acc).set 38 (wsum (pad acc) 38 % 251)) := By.set hby (by omega)
   rw [e1, e2]
   conv => whnf
   (apply kF (f1); conv => whnf)
   (refine .inl ⟨_, sums_pure, ?_⟩; conv => whnf)
   refine ⟨[], [2, 75, 76, 77], [1], 2, fun m s => ∃ k : Nat, k + m = 2 ∧ s = ⟨[(2, .ref 1 0), (75, .d (.seq [[.fn (.func 107) [] []], [.fn (.func 108) [] []]])), (76, .d (dI 2)), (77, .d (dI k))], [(1, blO (chkS (pad acc) k))], 2⟩, ?_, ?_⟩
   ·conv => whnf
    refine ⟨onlyB .., ?_⟩
    exact ⟨2, 0, rfl, rfl⟩
   ·rintro m _ ⟨k, hk, rfl⟩
    have h3 : k = 0 ∨ k = 1 ∨ k = 2 := by omega
    rcases h3 with rfl | rfl | rfl
    ·have cw := weighted_pure (pad acc) hpl hby
     conv => whnf
     (repeat' (first | (apply kT (by with_reducible first | rfl | assumption); conv => whnf) | (apply kF (by with_reducible first | rfl | assumption); conv => whnf) | (apply kT (by decide); conv => whnf) | (apply kF (by decide); conv => whnf) | (apply kB <;> intro _ <;> conv => whnf) | fail))
     (refine ⟨0, _, rfl, rfl, rfl, ?_⟩; conv => whnf)
     (refine ⟨(pad acc).map bD, loadB hpl, lenB hpl, ?_⟩; conv => whnf)
     (refine .inl ⟨_, cw, ?_⟩; conv => whnf)
     (refine ⟨38, rfl, by decide, ?_⟩; conv => whnf)
     (refine ⟨by rw [List.length_map]; show 0 + 38 * 1 < (pad acc).length; rw [hpl]; decide, ?_⟩; conv => whnf)
     have es := setB (pad acc) 38 (wsum (pad acc) 38 % 251)
     refine ⟨(congrArg (A.onlyL [1]) es).trans (onlyB ..), ?_⟩
     refine ⟨m - 1, by omega, 1, by omega, ?_⟩
     exact congrArg (fun c => St.mk _ [(1, Ob.var true 113 c)] 2) es
    ·have cw := plain_pure ((pad acc).set 38 (wsum (pad acc) 38 % 251)) (by rw [List.length_set]; exact hpl) hb1
     rw [psum_set _ _ _ (by omega)] at cw
     conv => whnf
     (repeat' (first | (apply kT (by with_reducible first | rfl | assumption); conv => whnf) | (apply kF (by with_reducible first | rfl | assumption); conv => whnf) | (apply kT (by decide); conv => whnf) | (apply kF (by decide); conv => whnf) | (apply kB <;> intro _ <;> conv => whnf) | fail))
     (refine ⟨1, _, rfl, rfl, rfl, ?_⟩; conv => whnf)
     (refine ⟨((pad acc).set 38 (wsum (pad acc) 38 % 251)).map bD, loadB (l := (pad acc).set 38 (wsum (pad acc) 38 % 251)) (by rw [List.length_set]; exact hpl), lenB (by rw [List.length_set]; exact hpl), ?_⟩; conv => whnf)
     (refine .inl ⟨_, cw, ?_⟩; conv => whnf)
     (refine ⟨39, rfl, by decide, ?_⟩; conv => whnf)
     (refine ⟨by rw [List.length_map]; show 0 + 39 * 1 < _; show 39 < ((pad acc).set 38 (wsum (pad acc) 38 % 251)).length; rw [List.length_set, hpl]; decide, ?_⟩; conv => whnf)
     have es : _ = (chk2 (pad acc)).map fun n => A.d (bD n) := setB ((pad acc).set 38 (wsum (pad acc) 38 % 251)) 39 (psum (pad acc) 38 % 253)
     refine ⟨(congrArg (A.onlyL [1]) es).trans (onlyB ..), ?_⟩
     refine ⟨m - 1, by omega, 2, by omega, ?_⟩
     exact congrArg (fun c => St.mk _ [(1, Ob.var true 113 c)] 2) es
    ·have hc : (chk2 (pad acc)).length = 40 := by unfold chk2; rw [List.length_set, List.length_set, hpl]
     conv => whnf
     (repeat' (first | (apply kT (by with_reducible first | rfl | assumption); conv => whnf) | (apply kF (by with_reducible first | rfl | assumption); conv => whnf) | (apply kT (by decide); conv => whnf) | (apply kF (by decide); conv => whnf) | (apply kB <;> intro _ <;> conv => whnf) | fail))
     (refine ⟨(chk2 (pad acc)).map bD, loadB hc, lenB hc, ?_⟩; conv => whnf)
     (refine ⟨((chk2 (pad acc)).map bD).map A.d, rfl, by rw [List.length_map]; exact lenB hc, by rw [List.length_map, List.length_map, List.length_map]; show 0 + (chk2 (pad acc)).length ≤ (chk2 (pad acc)).length; omega, oneB _, ?_⟩; conv => whnf)
     (refine ⟨(chk2 (pad acc)).map bD, againB (by rw [List.length_map]; exact hc) hc, lenB hc, ?_⟩; conv => whnf)
     rfl
end Go.Ev.Ytljkplahkokpaaa


set_option linter.unusedVariables false
set_option linter.unusedSimpArgs false
set_option maxRecDepth 100000
namespace Go.Ev.Ytljkplahkokpaaa
open Go.Proofs
attribute [local irreducible] Pure Bor Iter stepL furL wsum psum
def growN (room : Nat) : List Pt → Nat
 | a :: b :: r => if room + (furL a b).length ≤ 38 then 1 + growN (room + (furL a b).length) (b :: r) else 0
 | _ => 0
def cutN (l : List Pt) : Nat := 1 + growN 10 l
theorem growN_le (l : List Pt) : ∀ room, growN room l ≤ l.length - 1 := by
 induction l with
 | nil => intro room; exact Nat.zero_le _
 | cons a r ih =>
  intro room
  cases r with
  | nil => exact Nat.le_refl _
  | cons b r =>
   rw [growN]
   split
   ·have := ih (room + (furL a b).length)
    simp only [List.length_cons] at this ⊢
    omega
   ·exact Nat.zero_le _
theorem cutN_le {l : List Pt} (h : 0 < l.length) : 1 ≤ cutN l ∧ cutN l ≤ l.length := by
 have := growN_le l 10
 unfold cutN
 omega
def cutsF : Nat → List Pt → List (List Pt)
 | 0, _ => []
 | f + 1, l => if l.length = 0 then [] else l.take (cutN l) :: cutsF f (l.drop (cutN l))
def cuts (l : List Pt) : List (List Pt) := cutsF l.length l
theorem cutsF_nil : ∀ f, cutsF f [] = []
 | 0 => rfl
 | f + 1 => rfl
def cds (n m : Int) (k : Nat) : List (List Pt) → List Cd
 | [] => []
 | p :: r => ⟨n, k, m, p⟩ :: cds n m (k + 1) r
theorem cds_append (n m : Int) : ∀ (a b : List (List Pt)) (k : Nat), cds n m k (a ++ b) = cds n m k a ++ cds n m (k + a.length) b
 | [], b, k => rfl
 | p :: r, b, k => by
  rw [List.cons_append, cds, cds, cds_append n m r b (k + 1), List.cons_append, List.length_cons, show k + 1 + r.length = k + (r.length + 1) from by omega]
theorem cds_len (n m : Int) : ∀ (a : List (List Pt)) (k : Nat), (cds n m k a).length = a.length
 | [], k => rfl
 | p :: r, k => by rw [cds, List.length_cons, cds_len n m r, List.length_cons]
theorem cds_get (n m : Int) : ∀ (a : List (List Pt)) (k i : Nat) (h : i < a.length), (cds n m k a)[i]? = some ⟨n, (k + i : Nat), m, a[i]⟩
 | p :: r, k, 0, h => rfl
 | p :: r, k, i + 1, h => by
  rw [cds, List.getElem?_cons_succ, cds_get n m r (k + 1) i (by simpa using h), show k + 1 + i = k + (i + 1) from by omega]
  rfl
def cardsL (s : Sh) : List Cd := cds s.n (cuts s.ps).length 0 (cuts s.ps)
def cdsK (n : Int) (l : List (List Pt)) (k : Nat) : List Cd := cds n l.length 0 (l.take k) ++ cds n 0 k (l.drop k)
theorem cds_nil (n m : Int) (k : Nat) : cds n m k [] = [] := rfl
theorem cds_cons (n m : Int) (k : Nat) (p : List Pt) (r : List (List Pt)) : cds n m k (p :: r) = ⟨n, k, m, p⟩ :: cds n m (k + 1) r := rfl
theorem growN_cons (room : Nat) (a b : Pt) (r : List Pt) : growN room (a :: b :: r) = if room + (furL a b).length ≤ 38 then 1 + growN (room + (furL a b).length) (b :: r) else 0 := by rw [growN]
theorem growN_one (room : Nat) (a : Pt) : growN room [a] = 0 := by rw [growN]; simp
theorem growN_at {l : List Pt} {k room : Nat} (h : k + 1 < l.length) : growN room (l.drop k) = if room + (furL l[k] l[k + 1]).length ≤ 38 then 1 + growN (room + (furL l[k] l[k + 1]).length) (l.drop (k + 1)) else 0 := by
 rw [List.drop_eq_getElem_cons (by omega : k < l.length), List.drop_eq_getElem_cons h, growN_cons]
theorem growN_last {l : List Pt} {k room : Nat} (h : k + 1 = l.length) : growN room (l.drop k) = 0 := by
 rw [List.drop_eq_getElem_cons (by omega : k < l.length), List.drop_of_length_le (by omega), growN_one]
theorem cutN_eq {l : List Pt} : cutN l = 1 + growN 10 (l.drop 0) := rfl
attribute [local irreducible] growN cutN cds
theorem cdsK_0 (n : Int) (l : List (List Pt)) : cdsK n l 0 = cds n 0 0 l := by unfold cdsK; rw [List.take_zero, List.drop_zero, cds_nil, List.nil_append]
theorem cdsK_all (n : Int) (l : List (List Pt)) : cdsK n l l.length = cds n l.length 0 l := by unfold cdsK; rw [List.take_length, List.drop_length, cds_nil, List.append_nil]
theorem cdsK_len (n : Int) (l : List (List Pt)) (k : Nat) : (cdsK n l k).length = l.length := by
 unfold cdsK; rw [List.length_append, cds_len, cds_len, ← List.length_append, List.take_append_drop]
theorem cdsK_get (n : Int) (l : List (List Pt)) (k : Nat) (h : k < l.length) : (cdsK n l k)[k]? = some ⟨n, k, 0, l[k]⟩ := by
 unfold cdsK
 rw [List.getElem?_append_right (by rw [cds_len, List.length_take]; omega), cds_len, List.length_take, Nat.min_eq_left (by omega), Nat.sub_self, cds_get n 0 _ k 0 (by rw [List.length_drop]; omega)]
 simp
theorem cdsK_set (n : Int) (l : List (List Pt)) (k : Nat) (h : k < l.length) : (cdsK n l k).set k ⟨n, k, l.length, l[k]⟩ = cdsK n l (k + 1) := by
 unfold cdsK
 rw [List.set_append_right _ _ (by rw [cds_len, List.length_take]; omega), cds_len, List.length_take, Nat.min_eq_left (by omega), Nat.sub_self]
 rw [List.drop_eq_getElem_cons h, List.take_add_one, List.getElem?_eq_getElem h, cds_append, List.length_take, Nat.min_eq_left (by omega), Nat.zero_add]
 rw [show (some l[k]).toList = [l[k]] from rfl, cds_cons, cds_cons, cds_nil, List.set_cons_zero, List.append_assoc]
 rfl
theorem ptL (l : List Pt) : ∀ el ∈ l.map ptD, el.length = 2 := fun el h => by
 rw [List.mem_map] at h; obtain ⟨x, _, rfl⟩ := h; rfl
theorem Run.drop {l : List Pt} (h : Run l) (n : Nat) : Run (l.drop n) := fun i hi => by
 rw [List.length_drop] at hi
 have := h (n + i) (by omega)
 simpa [Nat.add_assoc] using this
theorem cut_e1 (l : List Pt) (n : Nat) : ((l.map ptD).take (l.map ptD).length).drop n = (l.drop n).map ptD := by rw [List.take_length, List.map_drop]
theorem cut_e2 (k : Int) (done : List (List Pt)) (l : List Pt) (n : Nat) : (cds k 0 0 done).map cdC ++ [[dI k, dI (((cds k 0 0 done).map cdC).length : Nat), dI 0, .seq (((l.map ptD).take n).drop 0)]] = (cds k 0 0 (done ++ [l.take n])).map cdC := by
 rw [cds_append, List.map_append, List.length_map, cds_len, Nat.zero_add]
 rw [cds_cons, cds_nil, List.drop_zero, ← List.map_take]
 rfl
theorem cards_pure (s : Sh) (hl : s.ps.length ≤ 100000) (hr : Run s.ps) : Pure Try.prog 69 [.agg (shC s)] (.seq ((cardsL s).map cdC)) := by
 refine pure_of pg Try.func69 (by kernel_rfl) ?_
 conv => whnf
 refine ⟨[.own 2 129, .rex], [1, 2, 3], [0, 1], 2, fun m t => ∃ (done : List (List Pt)) (rest : List Pt), rest.length ≤ m ∧ rest.length ≤ 100000 ∧ done.length + rest.length ≤ 100000 ∧ Run rest ∧ cuts s.ps = done ++ cutsF m rest ∧ t = ⟨[(1, .ref 0 0), (2, .own 1), (3, .d (ptsD rest))],
  [(0, .var false 50 ((shC s).map A.d)), (1, .arr 129 ((cds s.n 0 0 done).map cdC))], 2⟩, ?_, ?_⟩
 ·conv => whnf
  exact ⟨s.ps.length, [], s.ps, by omega, by omega, by simpa using hl, hr, rfl, by rw [cds_nil]; rfl⟩
 ·rintro m _ ⟨done, rest, hm, hrl, hdl, hrr, hcut, rfl⟩
  have hrm : ((rest.map ptD).length : Int) = rest.length := by rw [List.length_map]
  by_cases h0 : 0 < rest.length
  ·have f1 : decide (((rest.map ptD).length : Int) > 0) = true := decide_eq_true (by rw [hrm]; omega)
   have hcl := cutN_le h0
   conv => whnf
   (repeat' (first | (apply kT (by with_reducible first | rfl | assumption); conv => whnf) | (apply kF (by with_reducible first | rfl | assumption); conv => whnf) | (apply kT (by decide); conv => whnf) | (apply kF (by decide); conv => whnf) | (apply kB <;> intro _ <;> conv => whnf) | fail))
   refine ⟨[], [1, 2, 3, 4, 5], [0, 1], 2, fun q t => ∃ (n room : Nat), n + q = rest.length ∧ 1 ≤ n ∧ room ≤ 38 ∧ cutN rest = n + growN room (rest.drop (n - 1)) ∧ t = ⟨[(1, .ref 0 0), (2, .own 1), (3, .d (ptsD rest)), (4, .d (dI n)), (5, .d (dI room))],
    [(0, .var false 50 ((shC s).map A.d)), (1, .arr 129 ((cds s.n 0 0 done).map cdC))], 2⟩, ?_, ?_⟩
   ·conv => whnf
    exact ⟨rest.length - 1, 1, 10, by omega, by omega, by omega, cutN_eq, rfl⟩
   ·rintro q _ ⟨n, room, hn, hn1, hroom, hcn, rfl⟩
    by_cases hnl : n < rest.length
    ·have f2 : decide ((n : Int) < ((rest.map ptD).length : Int)) = true := decide_eq_true (by rw [hrm]; omega)
     have wn : IntKind.i64.wrap ((n : Int) - 1) = ((n - 1 : Nat) : Int) := by rw [wrapI (by omega) (by omega)]; omega
     have en : n - 1 + 1 = n := by omega
     have hg := growN_at (l := rest) (k := n - 1) (room := room) (by omega)
     simp only [en] at hg
     have hfl := furL_len rest[n - 1] rest[n]
     have hfol := hrr (n - 1) (by omega)
     simp only [en] at hfol
     have cf := further_pure rest[n - 1] rest[n] hfol
     have ew : IntKind.i64.wrap ((room : Int) + (((furL rest[n - 1] rest[n]).map byC).length : Int)) = ((room + (furL rest[n - 1] rest[n]).length : Nat) : Int) := by rw [List.length_map, wrapI (by omega) (by omega)]; omega
     by_cases hrm2 : room + (furL rest[n - 1] rest[n]).length ≤ 38
     ·rw [if_pos hrm2] at hg
      have f3 : decide (IntKind.i64.wrap ((room : Int) + (((furL rest[n - 1] rest[n]).map byC).length : Int)) > 38) = false := decide_eq_false (by rw [ew]; omega)
      conv => whnf
      (repeat' (first | (apply kT (by with_reducible first | rfl | assumption); conv => whnf) | (apply kF (by with_reducible first | rfl | assumption); conv => whnf) | (apply kT (by decide); conv => whnf) | (apply kF (by decide); conv => whnf) | (apply kB <;> intro _ <;> conv => whnf) | (refine ⟨n - 1, _, wn, getpt rest (n - 1) (by omega), rfl, ?_⟩; conv => whnf) | (refine ⟨n, _, rfl, getpt rest n hnl, rfl, ?_⟩; conv => whnf) | (refine .inl ⟨_, cf, ?_⟩; conv => whnf) | fail))
      refine ⟨q - 1, by omega, n + 1, room + (furL rest[n - 1] rest[n]).length, by omega, by omega, hrm2, by rw [hcn, hg, show n + 1 - 1 = n from rfl]; omega, ?_⟩
      rw [ew, w1 n (by omega)]
      rfl
     ·rw [if_neg hrm2] at hg
      have f3 : decide (IntKind.i64.wrap ((room : Int) + (((furL rest[n - 1] rest[n]).map byC).length : Int)) > 38) = true := decide_eq_true (by rw [ew]; omega)
      have hcn2 : cutN rest = n := by rw [hcn, hg]; rfl
      conv => whnf
      (repeat' (first | (apply kT (by with_reducible first | rfl | assumption); conv => whnf) | (apply kF (by with_reducible first | rfl | assumption); conv => whnf) | (apply kT (by decide); conv => whnf) | (apply kF (by decide); conv => whnf) | (apply kB <;> intro _ <;> conv => whnf) | (refine ⟨n - 1, _, wn, getpt rest (n - 1) (by omega), rfl, ?_⟩; conv => whnf) | (refine ⟨n, _, rfl, getpt rest n hnl, rfl, ?_⟩; conv => whnf) | (refine .inl ⟨_, cf, ?_⟩; conv => whnf) | fail))
      (refine ⟨n, rfl, Nat.zero_le _, by rw [List.length_map]; omega, ptL rest, ?_⟩; conv => whnf)
      (refine .l ?_; conv => whnf)
      (refine ⟨fun el h => by rw [List.mem_singleton.1 h]; rfl, by rw [List.length_map, cds_len]; show (done.length + 1) * 48 ≤ _; omega, ?_⟩; conv => whnf)
      (refine ⟨n, rfl, by rw [List.length_map]; omega, Nat.le_refl _, ptL rest, ?_⟩; conv => whnf)
      (refine ⟨[0, 194], ?_⟩; conv => whnf)
      refine ⟨m - 1, by omega, done ++ [rest.take n], rest.drop n, by rw [List.length_drop]; omega, by rw [List.length_drop]; omega, by rw [List.length_append, List.length_singleton, List.length_drop]; omega, hrr.drop n, ?_, ?_⟩
      ·rw [hcut, List.append_assoc, show m = m - 1 + 1 from by omega, cutsF, if_neg (by omega), hcn2]; rfl
      ·rw [cut_e1 rest n, cut_e2 s.n done rest n]; rfl
    ·have hnr : n = rest.length := by omega
     have hcn2 : cutN rest = n := by rw [hcn, growN_last (by omega)]; rfl
     have f2 : decide ((n : Int) < ((rest.map ptD).length : Int)) = false := decide_eq_false (by rw [hrm]; omega)
     conv => whnf
     (repeat' (first | (apply kT (by with_reducible first | rfl | assumption); conv => whnf) | (apply kF (by with_reducible first | rfl | assumption); conv => whnf) | (apply kT (by decide); conv => whnf) | (apply kF (by decide); conv => whnf) | (apply kB <;> intro _ <;> conv => whnf) | fail))
     (refine ⟨n, rfl, Nat.zero_le _, by rw [List.length_map]; omega, ptL rest, ?_⟩; conv => whnf)
     (refine .l ?_; conv => whnf)
     (refine ⟨fun el h => by rw [List.mem_singleton.1 h]; rfl, by rw [List.length_map, cds_len]; show (done.length + 1) * 48 ≤ _; omega, ?_⟩; conv => whnf)
     (refine ⟨n, rfl, by rw [List.length_map]; omega, Nat.le_refl _, ptL rest, ?_⟩; conv => whnf)
     (refine ⟨[0, 82], ?_⟩; conv => whnf)
     refine ⟨m - 1, by omega, done ++ [rest.take n], rest.drop n, by rw [List.length_drop]; omega, by rw [List.length_drop]; omega, by rw [List.length_append, List.length_singleton, List.length_drop]; omega, hrr.drop n, ?_, ?_⟩
     ·rw [hcut, List.append_assoc, show m = m - 1 + 1 from by omega, cutsF, if_neg (by omega), hcn2]; rfl
     ·rw [cut_e1 rest n, cut_e2 s.n done rest n]; rfl
  ·have f1 : decide (((rest.map ptD).length : Int) > 0) = false := decide_eq_false (by rw [hrm]; omega)
   conv => whnf
   (repeat' (first | (apply kT (by with_reducible first | rfl | assumption); conv => whnf) | (apply kF (by with_reducible first | rfl | assumption); conv => whnf) | (apply kT (by decide); conv => whnf) | (apply kF (by decide); conv => whnf) | (apply kB <;> intro _ <;> conv => whnf) | fail))
   have hr0 : rest = [] := List.eq_nil_of_length_eq_zero (by omega)
   have hdone : done = cuts s.ps := by rw [hcut, hr0, cutsF_nil, List.append_nil]
   subst hr0
   have hdl' : done.length ≤ 100000 := by simpa using hdl
   have hdm : (((cds s.n 0 0 done).map cdC).length : Int) = done.length := by rw [List.length_map, cds_len]
   refine ⟨[], [2, 48, 49], [1], 2, fun m t => ∃ k : Nat, k + m = done.length ∧ t = ⟨[(2, .own 1), (48, .d (dI done.length)), (49, .d (dI k))], [(1, .arr 129 ((cdsK s.n done k).map cdC))], 2⟩, ?_, ?_⟩
   ·conv => whnf
    refine ⟨done.length, 0, by omega, ?_⟩
    rw [hdm, cdsK_0]
    rfl
   ·rintro m _ ⟨k, hk, rfl⟩
    by_cases hkl : k < done.length
    ·have f2 : decide ((k : Int) < (done.length : Int)) = true := decide_eq_true (by omega)
     conv => whnf
     (repeat' (first | (apply kT (by with_reducible first | rfl | assumption); conv => whnf) | (apply kF (by with_reducible first | rfl | assumption); conv => whnf) | (apply kT (by decide); conv => whnf) | (apply kF (by decide); conv => whnf) | (apply kB <;> intro _ <;> conv => whnf) | fail))
     have hg : ((cdsK s.n done k).map cdC)[k]? = some (cdC ⟨s.n, k, 0, done[k]⟩) := by rw [List.getElem?_map, cdsK_get s.n done k hkl]; rfl
     have es : ((cdsK s.n done k).map cdC).set k ((cdC ⟨s.n, k, 0, done[k]⟩).take (0 + 2) ++ [dI (((cdsK s.n done k).map cdC).length : Nat)] ++ (cdC ⟨s.n, k, 0, done[k]⟩).drop (0 + 2 + 1)) = (cdsK s.n done (k + 1)).map cdC := by
      rw [← cdsK_set s.n done k hkl, List.map_set, List.length_map, cdsK_len]; rfl
     (refine ⟨k, rfl, by rw [List.length_map, cdsK_len]; exact hkl, ?_⟩; conv => whnf)
     (refine ⟨_, hg, rfl, by show 0 + 2 + 1 ≤ 4; decide, _, es, ?_⟩; conv => whnf)
     refine ⟨m - 1, by omega, k + 1, by omega, ?_⟩
     rw [w1 k (by omega)]
    ·have f2 : decide ((k : Int) < (done.length : Int)) = false := decide_eq_false (by omega)
     have e : cardsL s = cdsK s.n done k := by rw [show k = done.length from by omega, cdsK_all, cardsL, hdone]
     rw [e]
     conv => whnf
     (repeat' (first | (apply kT (by with_reducible first | rfl | assumption); conv => whnf) | (apply kF (by with_reducible first | rfl | assumption); conv => whnf) | (apply kT (by decide); conv => whnf) | (apply kF (by decide); conv => whnf) | (apply kB <;> intro _ <;> conv => whnf) | fail))
     rfl
end Go.Ev.Ytljkplahkokpaaa


set_option linter.unusedVariables false
set_option linter.unusedSimpArgs false
set_option maxRecDepth 100000
namespace Go.Ev.Ytljkplahkokpaaa
open Go.Proofs
attribute [local irreducible] Pure Bor Iter furL wsum psum cuts cds
theorem By.app {a b : List Int} (ha : By a) (hb : By b) : By (a ++ b) := fun x hx => by
 rcases List.mem_append.1 hx with h | h
 ·exact ha x h
 ·exact hb x h
theorem By.nil : By [] := fun x hx => by simp at hx
theorem By.cons {x : Int} {l : List Int} (h1 : 0 ≤ x ∧ x < 256) (h2 : By l) : By (x :: l) := fun y hy => by
 rcases List.mem_cons.1 hy with rfl | h
 ·exact h1
 ·exact h2 y h
theorem By.pad {l : List Int} (h : By l) : By (pad l) := h.app fun x hx => by
 rw [List.eq_of_mem_replicate hx]; omega
theorem stepL_by {d : Int} (h1 : -16383 ≤ d) (h2 : d ≤ 16383) : By (stepL d) := by
 have := foldI_range h1 h2
 unfold stepL
 split
 ·exact .cons (by omega) .nil
 ·exact .cons (by omega) (.cons (by omega) .nil)
theorem furL_by {a b : Pt} (h : Fol a b) : By (furL a b) := by
 obtain ⟨h1, h2, h3, h4⟩ := h
 unfold furL
 exact .cons (by omega) (stepL_by h3 h4)
theorem Run.tail {a : Pt} {l : List Pt} (h : Run (a :: l)) : Run l := fun i hi => by
 have := h (i + 1) (by simpa using hi)
 simpa using this
theorem furs_by : ∀ {l : List Pt}, Run l → ∀ p ∈ furs l, By p
 | [], _, p, hp => by simp [furs] at hp
 | [_], _, p, hp => by simp [furs] at hp
 | a :: b :: r, h, p, hp => by
  rw [furs] at hp
  rcases List.mem_cons.1 hp with rfl | hp
  ·exact furL_by (by simpa using h 0 (by simp))
  ·exact furs_by h.tail p hp
theorem fillF_by : ∀ (ps : List (List Int)) (acc : List Int), By acc → (∀ p ∈ ps, By p) → By (fillF acc ps).1
 | [], acc, h, _ => h
 | p :: ps, acc, h, hp => by
  rw [fillF]
  split
  ·exact fillF_by ps _ (h.app (hp p (by simp))) fun q hq => hp q (by simp [hq])
  ·exact h
theorem headL_by (n i m : Int) (k : Nat) (p : Pt) : By (headL n i m k p) := by
 unfold headL
 repeat first | exact .nil | refine .cons (by omega) ?_
theorem lay_by {c : Cd} (h0 : 0 < c.ps.length) (hr : Run c.ps) : By (pad (layF c).1) := by
 rw [layF_eq c h0]
 exact (fillF_by _ _ (headL_by _ _ _ _ _) fun p hp => furs_by hr p hp).pad
theorem lay_len {c : Cd} (h0 : 0 < c.ps.length) : (layB c).length = 40 := by
 have h : (pad (layF c).1).length = 40 := pad_len (by
  rw [layF_eq c h0]
  have := fillF_acc (furs c.ps) (headL c.n c.i c.m c.ps.length c.ps[0]) (by rw [headL_len]; omega)
  omega)
 unfold layB
 cases (layF c).2 with
 | false => exact h
 | true => show (chk2 _).length = 40; unfold chk2; rw [List.length_set, List.length_set, h]
theorem lay_pure' (c : Cd) (h0 : 0 < c.ps.length) (hl : c.ps.length ≤ 100000) (hr : Run c.ps) : Pure Try.prog 66 [.agg (cdC c)] (.tup [blD (layB c), dB (layF c).2]) := lay_pure c h0 hl hr (lay_by h0 hr)
theorem cutsF_ok : ∀ (f : Nat) (l : List Pt), Run l → l.length ≤ f → (∀ p ∈ cutsF f l, 0 < p.length ∧ p.length ≤ l.length ∧ Run p) ∧ (cutsF f l).flatten = l ∧ (cutsF f l).length ≤ l.length
 | 0, l, hr, hf => ⟨fun p hp => by simp [cutsF] at hp, by rw [cutsF, List.eq_nil_of_length_eq_zero (by omega : l.length = 0)]; rfl, by simp [cutsF]⟩
 | f + 1, l, hr, hf => by
  rw [cutsF]
  split
  ·rename_i h0
   rw [List.eq_nil_of_length_eq_zero h0]
   exact ⟨fun p hp => by simp at hp, rfl, by simp⟩
  ·rename_i h0
   have hc := cutN_le (l := l) (by omega)
   obtain ⟨h1, h2, h3⟩ := cutsF_ok f (l.drop (cutN l)) (hr.drop _) (by rw [List.length_drop]; omega)
   rw [List.length_drop] at h3
   refine ⟨fun p hp => ?_, ?_, ?_⟩
   ·rcases List.mem_cons.1 hp with rfl | hp
    ·refine ⟨by rw [List.length_take]; omega, by rw [List.length_take]; omega, fun i hi => ?_⟩
     rw [List.length_take] at hi
     have := hr i (by omega)
     simpa using this
    ·have := h1 p hp
     rw [List.length_drop] at this
     exact ⟨this.1, by omega, this.2.2⟩
   ·rw [List.flatten_cons, h2, List.take_append_drop]
   ·rw [List.length_cons]; omega
theorem cuts_ok {l : List Pt} (hr : Run l) : (∀ p ∈ cuts l, 0 < p.length ∧ p.length ≤ l.length ∧ Run p) ∧ (cuts l).flatten = l ∧ (cuts l).length ≤ l.length := by
 unfold cuts
 exact cutsF_ok _ l hr (Nat.le_refl _)
theorem mem_cds {n m : Int} {c : Cd} : ∀ {l : List (List Pt)} {k : Nat}, c ∈ cds n m k l → c.ps ∈ l
 | [], k, h => by rw [cds_nil] at h; simp at h
 | p :: r, k, h => by
  rw [cds_cons] at h
  rcases List.mem_cons.1 h with rfl | h
  ·simp
  ·exact List.mem_cons_of_mem _ (mem_cds h)
theorem cardsL_ok {s : Sh} (hr : Run s.ps) : (∀ c ∈ cardsL s, 0 < c.ps.length ∧ c.ps.length ≤ s.ps.length ∧ Run c.ps) ∧ (cardsL s).length ≤ s.ps.length := by
 obtain ⟨h1, h2, h3⟩ := cuts_ok hr
 refine ⟨fun c hc => h1 _ (mem_cds hc), ?_⟩
 unfold cardsL
 rw [cds_len]
 exact h3
theorem getcd (l : List Cd) (k : Nat) (h : k < l.length) : (l.map cdC)[k]? = some (cdC l[k]) := by simp [h]
abbrev rowC (c : Cd) : List D := (layB c).map bD
attribute [local irreducible] layB layF cardsL
theorem blocks_pure (s : Sh) (hl : s.ps.length ≤ 100000) (hr : Run s.ps) : Pure Try.prog 56 [.agg (shC s)] (.seq ((cardsL s).map rowC)) := by
 have cc := cards_pure s hl hr
 obtain ⟨hc1, hc2⟩ := cardsL_ok hr
 have hm : (((cardsL s).map cdC).length : Int) = (cardsL s).length := by rw [List.length_map]
 refine pure_of pg Try.func56 (by kernel_rfl) ?_
 conv => whnf
 (repeat' (first | (apply kT (by with_reducible first | rfl | assumption); conv => whnf) | (apply kF (by with_reducible first | rfl | assumption); conv => whnf) | (apply kT (by decide); conv => whnf) | (apply kF (by decide); conv => whnf) | (apply kB <;> intro _ <;> conv => whnf) | (refine .inl ⟨_, cc, ?_⟩; conv => whnf) | fail))
 refine ⟨[.own 2 113], [2, 8, 9, 10], [1], 2, fun m t => ∃ k : Nat, k + m = (cardsL s).length ∧ t = ⟨[(2, .own 1), (8, .d (.seq ((cardsL s).map cdC))), (9, .d (dI ((cardsL s).map cdC).length)), (10, .d (dI k))], [(1, .arr 113 (((cardsL s).take k).map rowC))], 2⟩, ?_, ?_⟩
 ·conv => whnf
  exact ⟨(cardsL s).length, 0, by omega, rfl⟩
 ·rintro m _ ⟨k, hk, rfl⟩
  by_cases hkl : k < (cardsL s).length
  ·have f1 : decide ((k : Int) < (((cardsL s).map cdC).length : Int)) = true := decide_eq_true (by rw [hm]; omega)
   have hck := hc1 _ (List.getElem_mem hkl)
   have cl := lay_pure' (cardsL s)[k] hck.1 (by omega) hck.2.2
   conv => whnf
   (repeat' (first | (apply kT (by with_reducible first | rfl | assumption); conv => whnf) | (apply kF (by with_reducible first | rfl | assumption); conv => whnf) | (apply kT (by decide); conv => whnf) | (apply kF (by decide); conv => whnf) | (apply kB <;> intro _ <;> conv => whnf) | (refine ⟨k, _, rfl, getcd _ k hkl, rfl, ?_⟩; conv => whnf) | (refine .inl ⟨_, cl, ?_⟩; conv => whnf) | fail))
   have hll := lay_len hck.1
   (refine ⟨((layB (cardsL s)[k]).map bD).map A.d, rfl, by rw [List.length_map]; exact lenB hll, by rw [List.length_map, lenB hll]; decide, oneB _, ?_⟩; conv => whnf)
   (refine ⟨(layB (cardsL s)[k]).map bD, againB rfl hll, lenB hll, ?_⟩; conv => whnf)
   (refine ⟨lenB hll, oneB _, ?_⟩; conv => whnf)
   (refine .l ?_; conv => whnf)
   (refine ⟨fun el h => by rw [List.mem_singleton.1 h]; exact lenB hll, by rw [List.length_map, List.length_take]; show (min k _ + 1) * 40 ≤ _; omega, ?_⟩; conv => whnf)
   refine ⟨m - 1, by omega, k + 1, by omega, ?_⟩
   rw [w1 k (by omega), List.take_add_one, List.getElem?_eq_getElem hkl, List.map_append]
   rfl
  ·have f1 : decide ((k : Int) < (((cardsL s).map cdC).length : Int)) = false := decide_eq_false (by rw [hm]; omega)
   have ek : k = (cardsL s).length := by omega
   subst ek
   rw [List.take_length]
   conv => whnf
   (apply kF (f1); conv => whnf)
   rfl
theorem cloneB_pure (l : List Int) (h0 : 0 < l.length) (hl : l.length ≤ 100000) : Pure Try.prog 57 [bsD l] (bsD l) := by
 have hne : l.map byC ≠ [] := by intro h; rw [List.map_eq_nil_iff] at h; rw [h] at h0; simp at h0
 have hel : ∀ x ∈ l.map byC, x.length = 1 := fun x h => by rw [List.mem_map] at h; obtain ⟨y, _, rfl⟩ := h; rfl
 have hb : (0 + (l.map byC).length) * 1 ≤ 140737488355328 := by rw [List.length_map]; omega
 refine pure_of pg Try.func57 (by kernel_rfl) ?_
 conv => whnf
 (refine ⟨hne, ?_⟩; conv => whnf)
 (repeat' (first | (apply kT (by with_reducible first | rfl | assumption); conv => whnf) | (apply kF (by with_reducible first | rfl | assumption); conv => whnf) | (apply kT (by decide); conv => whnf) | (apply kF (by decide); conv => whnf) | (apply kB <;> intro _ <;> conv => whnf) | fail))
 (refine ⟨hel, hb, ?_⟩; conv => whnf)
 rfl
abbrev bytesRow (c : Cd) : List D := [bsD (layB c)]
theorem ptB_ok {p : Pt} : ptB p = true ↔ 0 ≤ p.s ∧ p.s ≤ 65535 ∧ 0 ≤ p.l ∧ p.l ≤ 1000000 := by
 unfold ptB inB
 simp only [Bool.and_eq_true, decide_eq_true_eq]
 omega
theorem folB_ok {a b : Pt} (ha : ptB a = true) (hb : ptB b = true) : folB a b = true ↔ Fol a b := by
 rw [ptB_ok] at ha hb
 unfold folB inB Fol wI
 rw [wS (z := b.s - a.s) (by omega) (by omega), wS (z := b.l - a.l) (by omega) (by omega)]
 simp only [Bool.and_eq_true, decide_eq_true_eq]
 omega
theorem runB_ok {l : List Pt} : runB l = true ↔ 0 < l.length ∧ (∀ p ∈ l, ptB p = true) ∧ Run l := by
 unfold runB
 rw [Bool.and_eq_true, Bool.and_eq_true, decide_eq_true_eq, List.all_eq_true]
 constructor
 ·rintro ⟨h1, h2, h3⟩
  exact ⟨h2, h3, fun i hi => (folB_ok (h3 _ (List.getElem_mem _)) (h3 _ (List.getElem_mem _))).1 (adjB_iff.1 h1 i hi)⟩
 ·rintro ⟨h2, h3, h4⟩
  exact ⟨adjB_iff.2 fun i hi => (folB_ok (h3 _ (List.getElem_mem _)) (h3 _ (List.getElem_mem _))).2 (h4 i hi), h2, h3⟩
theorem shB_ok {s : Sh} : shB s = true ↔ 0 ≤ s.n ∧ s.n ≤ 9999 ∧ runB s.ps = true := by
 unfold shB inB
 simp only [Bool.and_eq_true, decide_eq_true_eq, and_assoc]
theorem checkI_ok {l : List Sh} : checkI l = 0 ↔ l.length ≤ 10 ∧ ∀ s ∈ l, s.ps.length ≤ 100 ∧ shB s = true := by
 unfold checkI
 constructor
 ·intro h
  split at h
  ·omega
  ·rename_i h1
   split at h
   ·rename_i h2
    simp only [not_or, Nat.not_lt, Bool.not_eq_false] at h1
    rw [List.all_eq_true] at h2
    have h3 := h1.2
    rw [List.all_eq_true] at h3
    refine ⟨h1.1, fun s hs => ⟨?_, h2 s hs⟩⟩
    have := h3 s hs
    unfold shortB at this
    simpa using this
   ·omega
 ·rintro ⟨h1, h2⟩
  have h3 : l.all shortB = true := List.all_eq_true.2 fun s hs => by unfold shortB; simpa using (h2 s hs).1
  rw [if_neg (by rw [h3]; simp; omega), if_pos (List.all_eq_true.2 fun s hs => (h2 s hs).2)]
theorem Cards_bad (s : Sh) (hl : s.ps.length ≤ 100000) (h : checkI [s] ≠ 0) : Pure Try.prog 26 [.agg (shC s)] (.tup [.seq [], dI (checkI [s])]) := by
 have ck := check_pure [s] (by simp) (by simpa using hl)
 have f1 : (checkI [s] != 0) = true := by simpa using h
 refine pure_of pg Try.func26 (by kernel_rfl) ?_
 conv => whnf
 (refine .l ?_; conv => whnf)
 (repeat' (first | (apply kT (by with_reducible first | rfl | assumption); conv => whnf) | (apply kF (by with_reducible first | rfl | assumption); conv => whnf) | (apply kT (by decide); conv => whnf) | (apply kF (by decide); conv => whnf) | (apply kB <;> intro _ <;> conv => whnf) | (refine .inl ⟨_, ck, ?_⟩; conv => whnf) | fail))
 rfl
theorem sliceB {cs : List A} {l : List Int} (hc : cs.length = 40) (hl : l.length = 40) : (putAt cs 0 ((l.map bD).map A.d)).take (40 * 1) = ((l.map byC).flatten).map A.d := by
 rw [putB hc hl, List.take_of_length_le (by simp [hl]), flatBy, List.map_map]; rfl
theorem Cards_ok (s : Sh) (h : checkI [s] = 0) : Pure Try.prog 26 [.agg (shC s)] (.tup [.seq ((cardsL s).map bytesRow), dI 0]) := by
 have h1 := (checkI_ok.1 h).2 s (by simp)
 have hr := (runB_ok.1 (shB_ok.1 h1.2).2.2).2.2
 have ck := check_pure [s] (by simp) (by simpa using (show s.ps.length ≤ 100000 by omega))
 rw [h] at ck
 have cb := blocks_pure s (by omega) hr
 obtain ⟨hc1, hc2⟩ := cardsL_ok hr
 have hm : (((cardsL s).map rowC).length : Int) = (cardsL s).length := by rw [List.length_map]
 refine pure_of pg Try.func26 (by kernel_rfl) ?_
 conv => whnf
 (refine .l ?_; conv => whnf)
 (repeat' (first | (apply kT (by with_reducible first | rfl | assumption); conv => whnf) | (apply kF (by with_reducible first | rfl | assumption); conv => whnf) | (apply kT (by decide); conv => whnf) | (apply kF (by decide); conv => whnf) | (apply kB <;> intro _ <;> conv => whnf) | (refine .inl ⟨_, ck, ?_⟩; conv => whnf) | (refine .inl ⟨_, cb, ?_⟩; conv => whnf) | fail))
 refine ⟨[.own 5 22], [5, 15, 16, 17], [1], 2, fun m t => ∃ k : Nat, k + m = (cardsL s).length ∧ t = ⟨[(5, .own 1), (15, .d (.seq ((cardsL s).map rowC))), (16, .d (dI ((cardsL s).map rowC).length)), (17, .d (dI k))], [(1, .arr 22 (((cardsL s).take k).map bytesRow))], 2⟩, ?_, ?_⟩
 ·conv => whnf
  exact ⟨(cardsL s).length, 0, by omega, rfl⟩
 ·rintro m _ ⟨k, hk, rfl⟩
  by_cases hkl : k < (cardsL s).length
  ·have f1 : decide ((k : Int) < (((cardsL s).map rowC).length : Int)) = true := decide_eq_true (by rw [hm]; omega)
   have hck := hc1 _ (List.getElem_mem hkl)
   have hg : ((cardsL s).map rowC)[k]? = some (rowC (cardsL s)[k]) := by simp [hkl]
   have hll := lay_len hck.1
   have cc := cloneB_pure (layB (cardsL s)[k]) (by omega) (by omega)
   conv => whnf
   (repeat' (first | (apply kT (by with_reducible first | rfl | assumption); conv => whnf) | (apply kF (by with_reducible first | rfl | assumption); conv => whnf) | (apply kT (by decide); conv => whnf) | (apply kF (by decide); conv => whnf) | (apply kB <;> intro _ <;> conv => whnf) | (refine ⟨k, _, rfl, hg, lenB hll, ?_⟩; conv => whnf) | fail))
   (refine ⟨rowC (cardsL s)[k], List.take_of_length_le (Nat.le_of_eq (lenB hll)), lenB hll, ?_⟩; conv => whnf)
   (refine ⟨((layB (cardsL s)[k]).map bD).map A.d, rfl, by rw [List.length_map]; exact lenB hll, by rw [List.length_map, lenB hll]; decide, oneB _, ?_⟩; conv => whnf)
   (refine .l ⟨by decide, (layB (cardsL s)[k]).map byC, sliceB rfl hll, byL _, by rw [List.length_map]; exact hll, ?_⟩; conv => whnf)
   (refine .inl ⟨_, cc, ?_⟩; conv => whnf)
   (refine .l ?_; conv => whnf)
   (refine ⟨fun el h => by rw [List.mem_singleton.1 h]; rfl, by rw [List.length_map, List.length_take]; show (min k _ + 1) * 24 ≤ _; omega, ?_⟩; conv => whnf)
   refine ⟨m - 1, by omega, k + 1, by omega, ?_⟩
   rw [w1 k (by omega), List.take_add_one, List.getElem?_eq_getElem hkl, List.map_append]
   rfl
  ·have f1 : decide ((k : Int) < (((cardsL s).map rowC).length : Int)) = false := decide_eq_false (by rw [hm]; omega)
   have ek : k = (cardsL s).length := by omega
   subst ek
   rw [List.take_length]
   conv => whnf
   (apply kF (f1); conv => whnf)
   rfl
end Go.Ev.Ytljkplahkokpaaa


set_option linter.unusedVariables false
set_option linter.unusedSimpArgs false
set_option maxRecDepth 100000
namespace Go.Ev.Ytljkplahkokpaaa
open Go.Proofs
attribute [local irreducible] Pure Bor Iter furL wsum psum cuts cds layB layF cardsL checkI
def sheetL (s : Sh) : List Int := ((cardsL s).map layB).flatten
def fileL (l : List Sh) : List Int := (l.map sheetL).flatten
abbrev seenL (l : List Int) : List (D × D) := l.map fun n => (dI n, dB true)
theorem seen_get (l : List Int) (x : Int) : mapGet (seenL l) (dI x) = if x ∈ l then some (dB true) else none := by
 induction l with
 | nil => simp [seenL, mapGet]
 | cons a r ih =>
  simp only [seenL, List.map_cons, mapGet, keyEq, decide_true, Bool.true_and] at ih ⊢
  by_cases h : x = a
  ·subst h; simp
  ·have : (x == a) = false := by rw [beq_eq_false_iff_ne]; exact h
   rw [this, cond_false, ih]
   simp [h]
theorem seen_set (l : List Int) (x : Int) (h : x ∉ l) : mapSet (seenL l) (dI x) (dB true) = seenL (l ++ [x]) := by
 induction l with
 | nil => rfl
 | cons a r ih =>
  simp only [List.mem_cons, not_or] at h
  simp only [seenL, List.map_cons, List.cons_append, mapSet, keyEq, decide_true, Bool.true_and] at ih ⊢
  have : (x == a) = false := by rw [beq_eq_false_iff_ne]; exact h.1
  rw [this, cond_false, ih h.2]
theorem flat_len : ∀ (l : List (List Int)) (n : Nat), (∀ x ∈ l, x.length ≤ n) → l.flatten.length ≤ l.length * n
 | [], n, h => by simp
 | x :: r, n, h => by
  have := flat_len r n fun y hy => h y (by simp [hy])
  have := h x (by simp)
  rw [List.flatten_cons, List.length_append, List.length_cons, Nat.add_mul]
  omega
theorem sheetL_len {s : Sh} (hr : Run s.ps) (hl : s.ps.length ≤ 100) : (sheetL s).length ≤ 4000 := by
 obtain ⟨h1, h2⟩ := cardsL_ok hr
 have := flat_len ((cardsL s).map layB) 40 fun x hx => by
  rw [List.mem_map] at hx; obtain ⟨c, hc, rfl⟩ := hx
  exact Nat.le_of_eq (lay_len (h1 c hc).1)
 rw [List.length_map] at this
 unfold sheetL
 omega
theorem Write_bad (l : List Sh) (hl : l.length ≤ 100000) (hp : ∀ s ∈ l, s.ps.length ≤ 100000) (h : checkI l ≠ 0) : Pure Try.prog 29 [shsD l] (.tup [.seq [], dI (checkI l)]) := by
 have ck := check_pure l hl hp
 have f1 : (checkI l != 0) = true := by simpa using h
 refine pure_of pg Try.func29 (by kernel_rfl) ?_
 conv => whnf
 (repeat' (first | (apply kT (by with_reducible first | rfl | assumption); conv => whnf) | (apply kF (by with_reducible first | rfl | assumption); conv => whnf) | (apply kT (by decide); conv => whnf) | (apply kF (by decide); conv => whnf) | (apply kB <;> intro _ <;> conv => whnf) | (refine .inl ⟨_, ck, ?_⟩; conv => whnf) | fail))
 rfl
def writeI (l : List Sh) : List Int × Int := if (l.map Sh.n).Nodup then (fileL l, 0) else ([], 6)
theorem nodup_take {l : List Int} {k : Nat} (hk : k < l.length) (hm : l[k] ∈ l.take k) : ¬ l.Nodup := fun h => by
 rw [List.mem_take_iff_getElem] at hm
 obtain ⟨i, hi, e⟩ := hm
 exact (List.pairwise_iff_getElem.1 h) i k (by omega) hk (by omega) e
theorem Write_ok (l : List Sh) (h : checkI l = 0) : Pure Try.prog 29 [shsD l] (.tup [bsD (writeI l).1, dI (writeI l).2]) := by
 obtain ⟨h10, hsh⟩ := checkI_ok.1 h
 have ck := check_pure l (by omega) fun s hs => by have := hsh s hs; omega
 rw [h] at ck
 have hm : ((l.map shC).length : Int) = l.length := by rw [List.length_map]
 have hns : ∀ k (hk : k < l.length), (l.map Sh.n)[k]'(by rw [List.length_map]; exact hk) = l[k].n := fun k hk => by simp
 have hfl : ∀ k, (fileL (l.take k)).length ≤ 40000 := fun k => by
  have := flat_len ((l.take k).map sheetL) 4000 fun x hx => by
   rw [List.mem_map] at hx; obtain ⟨s, hs, rfl⟩ := hx
   have h1 := hsh s (List.mem_of_mem_take hs)
   exact sheetL_len (runB_ok.1 (shB_ok.1 h1.2).2.2).2.2 h1.1
  rw [List.length_map, List.length_take] at this
  unfold fileL
  omega
 refine pure_of pg Try.func29 (by kernel_rfl) ?_
 conv => whnf
 (repeat' (first | (apply kT (by with_reducible first | rfl | assumption); conv => whnf) | (apply kF (by with_reducible first | rfl | assumption); conv => whnf) | (apply kT (by decide); conv => whnf) | (apply kF (by decide); conv => whnf) | (apply kB <;> intro _ <;> conv => whnf) | (refine .inl ⟨_, ck, ?_⟩; conv => whnf) | fail))
 refine ⟨[.seq 6], [5, 6, 17, 18, 19], [0], 1, fun m t => ∃ k : Nat, k + m = l.length ∧ ((l.map Sh.n).take k).Nodup ∧ t = ⟨[(5, .own 0), (6, .d (bsD (fileL (l.take k)))), (17, .d (shsD l)), (18, .d (dI (l.map shC).length)), (19, .d (dI k))], [(0, .map 3 4 (seenL ((l.map Sh.n).take k)))], 1⟩, ?_, ?_⟩
 ·conv => whnf
  exact ⟨l.length, 0, by omega, by simp, rfl⟩
 ·rintro m _ ⟨k, hk, hnd, rfl⟩
  by_cases hkl : k < l.length
  ·have f1 : decide ((k : Int) < ((l.map shC).length : Int)) = true := decide_eq_true (by rw [hm]; omega)
   have hsk := hsh _ (List.getElem_mem hkl)
   have hrk := (runB_ok.1 (shB_ok.1 hsk.2).2.2).2.2
   have cb := blocks_pure l[k] (by omega) hrk
   have hg := seen_get ((l.map Sh.n).take k) l[k].n
   by_cases hin : l[k].n ∈ (l.map Sh.n).take k
   ·rw [if_pos hin] at hg
    have hno : ¬ (l.map Sh.n).Nodup := nodup_take (k := k) (by rw [List.length_map]; exact hkl) (by rw [hns k hkl]; exact hin)
    have e : writeI l = ([], 6) := if_neg hno
    rw [e]
    conv => whnf
    (repeat' (first | (apply kT (by with_reducible first | rfl | assumption); conv => whnf) | (apply kF (by with_reducible first | rfl | assumption); conv => whnf) | (apply kT (by decide); conv => whnf) | (apply kF (by decide); conv => whnf) | (apply kB <;> intro _ <;> conv => whnf) | (refine ⟨k, _, rfl, getsh l k hkl, rfl, ?_⟩; conv => whnf) | fail))
    (refine ⟨_, hg, ?_⟩; conv => whnf)
    (repeat' (first | (apply kT (by with_reducible first | rfl | assumption); conv => whnf) | (apply kF (by with_reducible first | rfl | assumption); conv => whnf) | (apply kT (by decide); conv => whnf) | (apply kF (by decide); conv => whnf) | (apply kB <;> intro _ <;> conv => whnf) | fail))
    rfl
   ·rw [if_neg hin] at hg
    have hs := seen_set ((l.map Sh.n).take k) l[k].n hin
    conv => whnf
    (repeat' (first | (apply kT (by with_reducible first | rfl | assumption); conv => whnf) | (apply kF (by with_reducible first | rfl | assumption); conv => whnf) | (apply kT (by decide); conv => whnf) | (apply kF (by decide); conv => whnf) | (apply kB <;> intro _ <;> conv => whnf) | (refine ⟨k, _, rfl, getsh l k hkl, rfl, ?_⟩; conv => whnf) | fail))
    (refine ⟨_, hg, ?_⟩; conv => whnf)
    (repeat' (first | (apply kT (by with_reducible first | rfl | assumption); conv => whnf) | (apply kF (by with_reducible first | rfl | assumption); conv => whnf) | (apply kT (by decide); conv => whnf) | (apply kF (by decide); conv => whnf) | (apply kB <;> intro _ <;> conv => whnf) | fail))
    (refine ⟨_, hs, ?_⟩; conv => whnf)
    (repeat' (first | (apply kT (by with_reducible first | rfl | assumption); conv => whnf) | (apply kF (by with_reducible first | rfl | assumption); conv => whnf) | (apply kT (by decide); conv => whnf) | (apply kF (by decide); conv => whnf) | (apply kB <;> intro _ <;> conv => whnf) | (refine .inl ⟨_, cb, ?_⟩; conv => whnf) | fail))
    obtain ⟨hc1, hc2⟩ := cardsL_ok hrk
    have hmr : (((cardsL l[k]).map rowC).length : Int) = (cardsL l[k]).length := by rw [List.length_map]
    have hpl : ∀ j, (((cardsL l[k]).take j).map layB).flatten.length ≤ 4000 := fun j => by
     have := flat_len (((cardsL l[k]).take j).map layB) 40 fun x hx => by
      rw [List.mem_map] at hx; obtain ⟨c, hc, rfl⟩ := hx
      exact Nat.le_of_eq (lay_len (hc1 c (List.mem_of_mem_take hc)).1)
     rw [List.length_map, List.length_take] at this
     omega
    have hk1 := hfl k
    refine ⟨[], [5, 6, 17, 18, 19, 31, 32, 33], [0], 1, fun q t => ∃ j : Nat, j + q = (cardsL l[k]).length ∧ t = ⟨[(5, .own 0), (6, .d (bsD (fileL (l.take k) ++ (((cardsL l[k]).take j).map layB).flatten))), (17, .d (shsD l)), (18, .d (dI (l.map shC).length)), (19, .d (dI k)), (31, .d (.seq ((cardsL l[k]).map rowC))), (32, .d (dI ((cardsL l[k]).map rowC).length)), (33, .d (dI j))], [(0, .map 3 4 (seenL ((l.map Sh.n).take k ++ [l[k].n])))], 1⟩, ?_, ?_⟩
    ·conv => whnf
     refine ⟨(cardsL l[k]).length, 0, by omega, ?_⟩
     rw [List.take_zero, List.map_nil, List.flatten_nil, List.append_nil]
     rfl
    ·rintro q _ ⟨j, hj, rfl⟩
     by_cases hjl : j < (cardsL l[k]).length
     ·have f2 : decide ((j : Int) < (((cardsL l[k]).map rowC).length : Int)) = true := decide_eq_true (by rw [hmr]; omega)
      have hck := hc1 _ (List.getElem_mem hjl)
      have hg2 : ((cardsL l[k]).map rowC)[j]? = some (rowC (cardsL l[k])[j]) := by simp [hjl]
      have hll := lay_len hck.1
      have hpj := hpl j
      have cj := join_pure [fileL (l.take k) ++ (((cardsL l[k]).take j).map layB).flatten, layB (cardsL l[k])[j]] (by simp) (by
       simp only [List.flatten_cons, List.flatten_nil, List.append_nil, List.length_append]
       rw [hll]
       omega)
      simp only [List.flatten_cons, List.flatten_nil, List.append_nil] at cj
      conv => whnf
      (repeat' (first | (apply kT (by with_reducible first | rfl | assumption); conv => whnf) | (apply kF (by with_reducible first | rfl | assumption); conv => whnf) | (apply kT (by decide); conv => whnf) | (apply kF (by decide); conv => whnf) | (apply kB <;> intro _ <;> conv => whnf) | (refine ⟨j, _, rfl, hg2, lenB hll, ?_⟩; conv => whnf) | fail))
      (refine ⟨rowC (cardsL l[k])[j], List.take_of_length_le (Nat.le_of_eq (lenB hll)), lenB hll, ?_⟩; conv => whnf)
      (refine ⟨((layB (cardsL l[k])[j]).map bD).map A.d, rfl, by rw [List.length_map]; exact lenB hll, by rw [List.length_map, lenB hll]; decide, oneB _, ?_⟩; conv => whnf)
      (refine .l ⟨by decide, (layB (cardsL l[k])[j]).map byC, sliceB rfl hll, byL _, by rw [List.length_map]; exact hll, ?_⟩; conv => whnf)
      (refine .l ?_; conv => whnf)
      (refine .inl ⟨_, cj, ?_⟩; conv => whnf)
      refine ⟨q - 1, by omega, j + 1, by omega, ?_⟩
      have eo : fileL (l.take k) ++ (((cardsL l[k]).take (j + 1)).map layB).flatten = fileL (l.take k) ++ (((cardsL l[k]).take j).map layB).flatten ++ layB (cardsL l[k])[j] := by
       rw [List.take_add_one, List.getElem?_eq_getElem hjl, List.map_append, List.flatten_append, ← List.append_assoc]
       simp only [Option.toList_some, List.map_cons, List.map_nil, List.flatten_cons, List.flatten_nil, List.append_nil]
      rw [w1 j (by omega), eo]
     ·have f2 : decide ((j : Int) < (((cardsL l[k]).map rowC).length : Int)) = false := decide_eq_false (by rw [hmr]; omega)
      have et : (l.map Sh.n).take (k + 1) = (l.map Sh.n).take k ++ [l[k].n] := by
       rw [List.take_add_one, List.getElem?_eq_getElem (by rw [List.length_map]; exact hkl), hns k hkl]; rfl
      have ef : fileL (l.take (k + 1)) = fileL (l.take k) ++ (((cardsL l[k]).take j).map layB).flatten := by
       rw [List.take_of_length_le (show (cardsL l[k]).length ≤ j by omega), List.take_add_one, List.getElem?_eq_getElem hkl]
       unfold fileL
       rw [List.map_append, List.flatten_append]
       simp only [Option.toList_some, List.map_cons, List.map_nil, List.flatten_cons, List.flatten_nil, List.append_nil]
       rfl
      conv => whnf
      (apply kF (f2); conv => whnf)
      refine ⟨m - 1, by omega, k + 1, by omega, by rw [et, List.nodup_append]; exact ⟨hnd, by simp, fun a ha b hb => by rw [List.mem_singleton.1 hb]; rintro rfl; exact hin ha⟩, ?_⟩
      rw [et, ef, w1 k (by omega)]
  ·have f1 : decide ((k : Int) < ((l.map shC).length : Int)) = false := decide_eq_false (by rw [hm]; omega)
   have ek : k = l.length := by omega
   rw [List.take_of_length_le (by rw [List.length_map]; omega)] at hnd
   have e : writeI l = (fileL (l.take k), 0) := by rw [List.take_of_length_le (by omega)]; exact if_pos hnd
   rw [e]
   conv => whnf
   (apply kF (f1); conv => whnf)
   rfl
end Go.Ev.Ytljkplahkokpaaa


set_option linter.unusedVariables false
set_option linter.unusedSimpArgs false
set_option maxRecDepth 100000
namespace Go.Ev.Ytljkplahkokpaaa
open Go.Proofs
attribute [local irreducible] Pure Bor Iter Pan
abbrev rdO (l : List Int) : Ob := .var false 171 [.d (bsD l)]
abbrev shortV : Value := .iface 167 (.agg #[])
theorem next_pan : Pan tb Try.prog 101 [.ref 0 0] [rdO []] shortV := by
 refine pan_of pg (pre := [rdO []]) Try.func101 (by kernel_rfl) ?_
 conv => whnf
 (repeat' (first | (apply kT (by with_reducible first | rfl | assumption); conv => whnf) | (apply kF (by with_reducible first | rfl | assumption); conv => whnf) | (apply kT (by decide); conv => whnf) | (apply kF (by decide); conv => whnf) | (apply kB <;> intro _ <;> conv => whnf) | fail))
 (refine ⟨_, [], ⟨rfl, trivial⟩, rfl, ?_⟩; conv => whnf)
theorem next_bor (c : Int) (r : List Int) (hc : 0 ≤ c ∧ c < 256) (hl : r.length ≤ 100000) : Bor tb Try.prog 101 [.ref 0 0] [rdO (c :: r)] 1 (.d (dI c)) [(0, rdO r)] := by
 have f1 : ((((c :: r).map byC).length : Int) == 0) = false := by rw [beq_eq_false_iff_ne, List.length_map, List.length_cons]; omega
 have e1 : (((c :: r).map byC).take ((c :: r).map byC).length).drop 1 = r.map byC := by rw [List.take_length]; rfl
 have e2 : IntKind.i64.wrap c = c := wS (by omega) (by omega)
 refine bor_of pg Try.func101 (by kernel_rfl) ?_
 conv => whnf
 (repeat' (first | (apply kT (by with_reducible first | rfl | assumption); conv => whnf) | (apply kF (by with_reducible first | rfl | assumption); conv => whnf) | (apply kT (by decide); conv => whnf) | (apply kF (by decide); conv => whnf) | (apply kB <;> intro _ <;> conv => whnf) | fail))
 (refine ⟨0, byC c, rfl, rfl, rfl, ?_⟩; conv => whnf)
 (refine ⟨1, rfl, by rw [List.length_map, List.length_cons]; omega, Nat.le_refl _, byL _, ?_⟩; conv => whnf)
 (refine ⟨[], [0], ?_⟩; conv => whnf)
 refine ⟨?_, ?_⟩
 ·rw [e2]; rfl
 ·rw [e1]
def numB : List Int → Int → Int
 | [], n => n
 | c :: r, n => numB r (n * 256 + c)
theorem orI {a c : Int} (ha : 0 ≤ a) (ha2 : a ≤ 1000000000) (hc : 0 ≤ c ∧ c < 256) : IntKind.i64.wrap (((BitVec.ofInt IntKind.i64.bits (IntKind.i64.wrap (a * 2 ^ (min (8 : Int).toNat IntKind.i64.bits))) ||| BitVec.ofInt IntKind.i64.bits c).toNat : Nat) : Int) = a * 256 + c := by
 obtain ⟨x, rfl⟩ : ∃ x : Nat, a = x := ⟨a.toNat, by omega⟩
 obtain ⟨y, rfl⟩ : ∃ y : Nat, c = y := ⟨c.toNat, by omega⟩
 rw [show ((2 : Int) ^ (min (8 : Int).toNat IntKind.i64.bits)) = 256 from rfl, wrapI (n := (x : Int) * 256) (by omega) (by omega)]
 have h1 : (BitVec.ofInt IntKind.i64.bits ((x : Int) * 256)).toNat = x <<< 8 := by
  rw [BitVec.toNat_ofInt, Nat.shiftLeft_eq]
  show (((x : Int) * 256) % ((2 ^ 64 : Nat) : Int)).toNat = _
  omega
 have h2 : (BitVec.ofInt IntKind.i64.bits (y : Int)).toNat = y := by
  rw [BitVec.toNat_ofInt]
  show ((y : Int) % ((2 ^ 64 : Nat) : Int)).toNat = _
  omega
 rw [BitVec.toNat_or, h1, h2, ← Nat.shiftLeft_add_eq_or_of_lt (show y < 2 ^ 8 by omega), Nat.shiftLeft_eq]
 rw [wrapI (by omega) (by omega)]
 omega
theorem numB_append : ∀ (a b : List Int) (n : Int), numB (a ++ b) n = numB b (numB a n)
 | [], b, n => rfl
 | c :: r, b, n => numB_append r b _
theorem numB_range (l : List Int) (hb : By l) (hl : l.length ≤ 3) : 0 ≤ numB l 0 ∧ numB l 0 ≤ 16777215 := by
 match l, hl with
 | [], _ => simp [numB]
 | [a], _ =>
  have := hb a (by simp)
  simp only [numB]; omega
 | [a, b], _ =>
  have := hb a (by simp)
  have := hb b (by simp)
  simp only [numB]; omega
 | [a, b, c], _ =>
  have := hb a (by simp)
  have := hb b (by simp)
  have := hb c (by simp)
  simp only [numB]; omega
theorem number_bor (k : Nat) (l : List Int) (hk : k ≤ 3) (hkl : k ≤ l.length) (hb : By l) (hl : l.length ≤ 100000) : Bor tb Try.prog 100 [.ref 0 0, .d (dI k)] [rdO l] 1 (.d (dI (numB (l.take k) 0))) [(0, rdO (l.drop k))] := by
 refine bor_of pg Try.func100 (by kernel_rfl) ?_
 conv => whnf
 refine ⟨[], [0, 4, 5, 6], [0], 1, fun m s => ∃ j : Nat, j + m = k ∧ s = ⟨[(0, .ref 0 0), (4, .d (dI (numB (l.take j) 0))), (5, .d (dI k)), (6, .d (dI j))], [(0, rdO (l.drop j))], 1⟩, ?_, ?_⟩
 ·conv => whnf
  exact ⟨k, 0, by omega, rfl⟩
 ·rintro m _ ⟨j, hj, rfl⟩
  by_cases hjk : j < k
  ·have f1 : decide ((j : Int) < (k : Int)) = true := decide_eq_true (by omega)
   have hd : l.drop j = l[j] :: l.drop (j + 1) := List.drop_eq_getElem_cons (by omega)
   have hc := hb l[j] (List.getElem_mem _)
   have cn := next_bor l[j] (l.drop (j + 1)) hc (by rw [List.length_drop]; omega)
   have hr := numB_range (l.take j) (fun x hx => hb x (List.mem_of_mem_take hx)) (by rw [List.length_take]; omega)
   have ho := orI hr.1 (by omega) hc
   have en : numB (l.take (j + 1)) 0 = numB (l.take j) 0 * 256 + l[j] := by
    rw [List.take_add_one, List.getElem?_eq_getElem (by omega), numB_append]; rfl
   rw [hd]
   conv => whnf
   (repeat' (first | (apply kT (by with_reducible first | rfl | assumption); conv => whnf) | (apply kF (by with_reducible first | rfl | assumption); conv => whnf) | (apply kT (by decide); conv => whnf) | (apply kF (by decide); conv => whnf) | (apply kB <;> intro _ <;> conv => whnf) | fail))
   (refine ⟨by decide, ?_⟩; conv => whnf)
   (refine .inr ⟨[0], 1, _, _, cn, ?_⟩; conv => whnf)
   refine ⟨m - 1, by omega, j + 1, by omega, ?_⟩
   rw [ho, en, w1 j (by omega)]
  ·have f1 : decide ((j : Int) < (k : Int)) = false := decide_eq_false (by omega)
   have ej : j = k := by omega
   subst ej
   conv => whnf
   (apply kF (f1); conv => whnf)
   (refine ⟨[], [0], ?_⟩; conv => whnf)
   exact ⟨rfl, rfl⟩
def unF (n : Int) : Int := if n % 2 = 1 then -((n + 1) / 2) else n / 2
def stepS (c : Int) : List Int → Option (Int × List Int)
 | [] => none
 | d :: q => some (unF ((c - 128) * 256 + d), q)
def stepR : List Int → Option (Int × List Int)
 | [] => none
 | c :: r => if c < 128 then some (unF c, r) else stepS c r
theorem orI2 {c d : Int} (hc : 128 ≤ c ∧ c < 256) (hd : 0 ≤ d ∧ d < 256) : IntKind.i64.wrap (((BitVec.ofInt IntKind.i64.bits (IntKind.i64.wrap (IntKind.i64.wrap (c - 128) * 2 ^ (min (8 : Int).toNat IntKind.i64.bits))) ||| BitVec.ofInt IntKind.i64.bits d).toNat : Nat) : Int) = (c - 128) * 256 + d := by
 rw [wS (z := c - 128) (by omega) (by omega)]
 exact orI (by omega) (by omega) hd
theorem unF_odd {n : Int} (h0 : 0 ≤ n) (h : n ≤ 100000) (h2 : n % 2 = 1) : IntKind.i64.wrap ((IntKind.i64.wrap (0 - IntKind.i64.wrap (n + 1))).tdiv 2) = unF n := by
 rw [wS (z := n + 1) (by omega) (by omega), wS (z := 0 - (n + 1)) (by omega) (by omega)]
 have e : (0 - (n + 1)).tdiv 2 = -((n + 1) / 2) := by
  rw [Int.zero_sub, Int.neg_tdiv, Int.tdiv_eq_ediv_of_nonneg (by omega)]
 rw [e, unF, if_pos h2]
 exact wS (by omega) (by omega)
theorem unF_even {n : Int} (h0 : 0 ≤ n) (h : n ≤ 100000) (h2 : ¬ n % 2 = 1) : IntKind.i64.wrap (n.tdiv 2) = unF n := by
 rw [Int.tdiv_eq_ediv_of_nonneg h0, unF, if_neg h2]
 exact wS (by omega) (by omega)
theorem step_bor {l r : List Int} {v : Int} (hb : By l) (hl : l.length ≤ 100000) (h : stepR l = some (v, r)) : Bor tb Try.prog 102 [.ref 0 0] [rdO l] 1 (.d (dI v)) [(0, rdO r)] := by
 cases l with
 | nil => cases h
 | cons c q =>
  have hc := hb c (by simp)
  have hql : q.length ≤ 100000 := by simp at hl; omega
  have cn := next_bor c q hc hql
  rw [stepR] at h
  by_cases h128 : c < 128
  ·rw [if_pos h128] at h
   cases h
   have f1 : decide (c ≥ 128) = false := decide_eq_false (by omega)
   by_cases h2 : c % 2 = 1
   ·have f2 : (c.tmod 2 == 1) = true := by rw [Int.tmod_eq_emod_of_nonneg hc.1, h2]; rfl
    rw [← unF_odd hc.1 (by omega) h2]
    refine bor_of pg Try.func102 (by kernel_rfl) ?_
    conv => whnf
    (refine .inr ⟨[0], 1, _, _, cn, ?_⟩; conv => whnf)
    (repeat' (first | (apply kT (by with_reducible first | rfl | assumption); conv => whnf) | (apply kF (by with_reducible first | rfl | assumption); conv => whnf) | (apply kT (by decide); conv => whnf) | (apply kF (by decide); conv => whnf) | (apply kB <;> intro _ <;> conv => whnf) | fail))
    (refine ⟨by decide, ?_⟩; conv => whnf)
    (repeat' (first | (apply kT (by with_reducible first | rfl | assumption); conv => whnf) | (apply kF (by with_reducible first | rfl | assumption); conv => whnf) | (apply kT (by decide); conv => whnf) | (apply kF (by decide); conv => whnf) | (apply kB <;> intro _ <;> conv => whnf) | fail))
    (refine ⟨by decide, ?_⟩; conv => whnf)
    (refine ⟨[], [0], ?_⟩; conv => whnf)
    exact ⟨rfl, rfl⟩
   ·have f2 : (c.tmod 2 == 1) = false := by rw [Int.tmod_eq_emod_of_nonneg hc.1, beq_eq_false_iff_ne]; exact h2
    rw [← unF_even hc.1 (by omega) h2]
    refine bor_of pg Try.func102 (by kernel_rfl) ?_
    conv => whnf
    (refine .inr ⟨[0], 1, _, _, cn, ?_⟩; conv => whnf)
    (repeat' (first | (apply kT (by with_reducible first | rfl | assumption); conv => whnf) | (apply kF (by with_reducible first | rfl | assumption); conv => whnf) | (apply kT (by decide); conv => whnf) | (apply kF (by decide); conv => whnf) | (apply kB <;> intro _ <;> conv => whnf) | fail))
    (refine ⟨by decide, ?_⟩; conv => whnf)
    (repeat' (first | (apply kT (by with_reducible first | rfl | assumption); conv => whnf) | (apply kF (by with_reducible first | rfl | assumption); conv => whnf) | (apply kT (by decide); conv => whnf) | (apply kF (by decide); conv => whnf) | (apply kB <;> intro _ <;> conv => whnf) | fail))
    (refine ⟨by decide, ?_⟩; conv => whnf)
    (refine ⟨[], [0], ?_⟩; conv => whnf)
    exact ⟨rfl, rfl⟩
  ·rw [if_neg h128] at h
   have f1 : decide (c ≥ 128) = true := decide_eq_true (by omega)
   cases q with
   | nil => cases h
   | cons d q =>
    have hd := hb d (by simp)
    have cn2 := next_bor d q hd (by simp at hql; omega)
    cases h
    have ho := orI2 (c := c) (d := d) (by omega) hd
    have h0 : 0 ≤ (c - 128) * 256 + d ∧ (c - 128) * 256 + d ≤ 100000 := by omega
    generalize hz : (c - 128) * 256 + d = z at *
    by_cases h2 : z % 2 = 1
    ·have f2 : ((IntKind.i64.wrap (((BitVec.ofInt IntKind.i64.bits (IntKind.i64.wrap (IntKind.i64.wrap (c - 128) * 2 ^ (min (8 : Int).toNat IntKind.i64.bits))) ||| BitVec.ofInt IntKind.i64.bits d).toNat : Nat) : Int)).tmod 2 == 1) = true := by rw [ho, Int.tmod_eq_emod_of_nonneg h0.1, h2]; rfl
     rw [← unF_odd h0.1 h0.2 h2]
     rw [← ho]
     refine bor_of pg Try.func102 (by kernel_rfl) ?_
     conv => whnf
     (refine .inr ⟨[0], 1, _, _, cn, ?_⟩; conv => whnf)
     (repeat' (first | (apply kT (by with_reducible first | rfl | assumption); conv => whnf) | (apply kF (by with_reducible first | rfl | assumption); conv => whnf) | (apply kT (by decide); conv => whnf) | (apply kF (by decide); conv => whnf) | (apply kB <;> intro _ <;> conv => whnf) | fail))
     (refine ⟨by decide, ?_⟩; conv => whnf)
     (refine .inr ⟨[0], 1, _, _, cn2, ?_⟩; conv => whnf)
     (refine ⟨by decide, ?_⟩; conv => whnf)
     (repeat' (first | (apply kT (by with_reducible first | rfl | assumption); conv => whnf) | (apply kF (by with_reducible first | rfl | assumption); conv => whnf) | (apply kT (by decide); conv => whnf) | (apply kF (by decide); conv => whnf) | (apply kB <;> intro _ <;> conv => whnf) | fail))
     (refine ⟨by decide, ?_⟩; conv => whnf)
     (refine ⟨[], [0], ?_⟩; conv => whnf)
     exact ⟨rfl, rfl⟩
    ·have f2 : ((IntKind.i64.wrap (((BitVec.ofInt IntKind.i64.bits (IntKind.i64.wrap (IntKind.i64.wrap (c - 128) * 2 ^ (min (8 : Int).toNat IntKind.i64.bits))) ||| BitVec.ofInt IntKind.i64.bits d).toNat : Nat) : Int)).tmod 2 == 1) = false := by rw [ho, Int.tmod_eq_emod_of_nonneg h0.1, beq_eq_false_iff_ne]; exact h2
     rw [← unF_even h0.1 h0.2 h2]
     rw [← ho]
     refine bor_of pg Try.func102 (by kernel_rfl) ?_
     conv => whnf
     (refine .inr ⟨[0], 1, _, _, cn, ?_⟩; conv => whnf)
     (repeat' (first | (apply kT (by with_reducible first | rfl | assumption); conv => whnf) | (apply kF (by with_reducible first | rfl | assumption); conv => whnf) | (apply kT (by decide); conv => whnf) | (apply kF (by decide); conv => whnf) | (apply kB <;> intro _ <;> conv => whnf) | fail))
     (refine ⟨by decide, ?_⟩; conv => whnf)
     (refine .inr ⟨[0], 1, _, _, cn2, ?_⟩; conv => whnf)
     (refine ⟨by decide, ?_⟩; conv => whnf)
     (repeat' (first | (apply kT (by with_reducible first | rfl | assumption); conv => whnf) | (apply kF (by with_reducible first | rfl | assumption); conv => whnf) | (apply kT (by decide); conv => whnf) | (apply kF (by decide); conv => whnf) | (apply kB <;> intro _ <;> conv => whnf) | fail))
     (refine ⟨by decide, ?_⟩; conv => whnf)
     (refine ⟨[], [0], ?_⟩; conv => whnf)
     exact ⟨rfl, rfl⟩
theorem step_pan {l : List Int} (hb : By l) (h : stepR l = none) : Pan tb Try.prog 102 [.ref 0 0] [rdO l] shortV := by
 cases l with
 | nil =>
  refine pan_of pg (pre := [rdO []]) Try.func102 (by kernel_rfl) ?_
  conv => whnf
  (refine .pan ⟨trivial, [0], _, next_pan, ?_⟩; conv => whnf)
  (refine ⟨_, [], ⟨rfl, trivial⟩, rfl, ?_⟩; conv => whnf)
 | cons c q =>
  rw [stepR] at h
  have hc := hb c (by simp)
  by_cases h128 : c < 128
  ·rw [if_pos h128] at h; cases h
  ·rw [if_neg h128] at h
   cases q with
   | cons d q => cases h
   | nil =>
    have f1 : decide (c ≥ 128) = true := decide_eq_true (by omega)
    have cn := next_bor c [] hc (by simp)
    refine pan_of pg (pre := [rdO [c]]) Try.func102 (by kernel_rfl) ?_
    conv => whnf
    (refine .inr ⟨[0], 1, _, _, cn, ?_⟩; conv => whnf)
    (repeat' (first | (apply kT (by with_reducible first | rfl | assumption); conv => whnf) | (apply kF (by with_reducible first | rfl | assumption); conv => whnf) | (apply kT (by decide); conv => whnf) | (apply kF (by decide); conv => whnf) | (apply kB <;> intro _ <;> conv => whnf) | fail))
    (refine ⟨by decide, ?_⟩; conv => whnf)
    (refine .pan ⟨trivial, [0], _, next_pan, ?_⟩; conv => whnf)
    (refine ⟨_, [], ⟨rfl, trivial⟩, rfl, ?_⟩; conv => whnf)
end Go.Ev.Ytljkplahkokpaaa


set_option linter.unusedVariables false
set_option linter.unusedSimpArgs false
set_option maxRecDepth 100000
namespace Go.Ev.Ytljkplahkokpaaa
open Go.Proofs
theorem close_idle (v2 v3 : Value) (w : World) : CallsDIn Fence.wide 0 Try.prog 99 #[v2, v3] .returning w fun e u' w' => e = .returned (.tuple #[]) ∧ u' = .returning ∧ w' = w := by
 refine callsDIn_of_wpSIn Try.func99 rfl trivial fun c₀ cs hu => ?_
 apply wpSIn_seq
 apply wpSIn_region
 simp [wpOpsSIn, go_sem, recoverD, hu, Try.ntmps99, Exit.thenS]
 apply wpSIn_seq
 apply wpSIn_region
 simp [wpOpsSIn, go_sem, Exit.thenS]
 refine wpSIn_cond (t := false) (by simp [Act.eval, Array.replicate]) ?_
 simp only [Bool.false_eq_true, if_false]
 refine wpSIn_of_wpIn rfl (wpIn_skip ?_)
 cases c₀
 simp_all [bodyPostS, results, Try.results99, go_sem]
abbrev zCard : Ob := .var false 129 [.d (dI 0), .d (dI 0), .d (dI 0), .d (.v (.slice none 0 0))]
abbrev boolO (b : Bool) : Ob := .var false 4 [.d (dB b)]
theorem close_pan {w : World} {I : Nat → Prop} {G : Nat → Option GR} {k0 k1 k2 k3 b : A} {v2 v3 : Value} (mp : Mod tb (Ctx.call w I [.var false 129 [k0, k1, k2, k3], .var false 4 [b]] G 0) noG (fun i => [Ob.var false 129 [k0, k1, k2, k3], Ob.var false 4 [b]][i]?) noAct w G I) (rep : RepAL G I w.heap [.ref 0 0, .ref 1 0] [v2, v3]) :
  CallsDIn Fence.wide 0 Try.prog 99 #[v2, v3] (.panicking [{ v := shortV, recovered := false }]) w fun e u' w' => e = .returned (.tuple #[]) ∧ u' = .panicking [{ v := shortV, recovered := true }] ∧
   ∃ G' I', Mod tb (Ctx.call w I [.var false 129 [k0, k1, k2, k3], .var false 4 [b]] G 0) noG (lookO [(0, zCard), (1, boolO false)]) noAct w' G' I' := by
 refine callsDIn_of_wpSIn Try.func99 rfl trivial fun c₀ cs0 hu => ?_
 apply wpSIn_seq
 apply wpSIn_region
 simp [wpOpsSIn, go_sem, recoverD, hu, Try.ntmps99, Exit.thenS]
 apply wpSIn_seq
 apply wpSIn_region
 simp [wpOpsSIn, go_sem, Exit.thenS]
 refine wpSIn_cond (t := true) (by simp [Act.eval, Array.replicate]) ?_
 simp only [if_true]
 refine wpSIn_of_wpIn rfl ?_
 have hW : Wide Fence.wide := ⟨fun _ => trivial, rfl, rfl⟩
 obtain ⟨X, hX⟩ : ∃ X : Ctx, X = { Ctx.call w I [.var false 129 [k0, k1, k2, k3], .var false 4 [b]] G 17 with nd := true } := ⟨_, rfl⟩
 generalize ht : (#[v2, v3] ++ ((((Array.replicate 15 undef).setIfInBounds 3 shortV).setIfInBounds 0 shortV).setIfInBounds 4 shortV).setIfInBounds 5 (Value.bool true) : Array Value) = ts
 have m0 : Mod tb X (St.get ⟨[(0, .ref 0 0), (1, .ref 1 0), (2, .d (.v shortV))], [(0, .var false 129 [k0, k1, k2, k3]), (1, .var false 4 [b])], 2⟩) (St.obj ⟨[(0, .ref 0 0), (1, .ref 1 0), (2, .d (.v shortV))], [(0, .var false 129 [k0, k1, k2, k3]), (1, .var false 4 [b])], 2⟩) { tmps := ts, defers := [] } w G I := by
  subst hX
  have hobj : St.obj ⟨[(0, .ref 0 0), (1, .ref 1 0), (2, .d (.v shortV))], [(0, .var false 129 [k0, k1, k2, k3]), (1, .var false 4 [b])], 2⟩ = fun i => [Ob.var false 129 [k0, k1, k2, k3], Ob.var false 4 [b]][i]? := by
   funext i
   match i with
   | 0 => rfl
   | 1 => rfl
   | n + 2 => rfl
  rw [hobj]
  obtain ⟨u2, q2, e2, r2, rep'⟩ := rep.uncons
  obtain ⟨u3, q3, e3, r3, rep''⟩ := rep'.uncons
  simp only [List.cons.injEq] at e2
  obtain ⟨rfl, rfl⟩ := e2
  simp only [List.cons.injEq] at e3
  obtain ⟨rfl, rfl⟩ := e3
  refine ⟨by rw [← ht]; simp [Ctx.call], fun t => ?_, mp.objs, mp.dom, mp.sep, mp.own, mp.bor, mp.isz, mp.i0, mp.inew, mp.frame, mp.os, mp.tape, mp.output, mp.wsz, mp.barr, mp.env, fun _ => rfl⟩
  match t with
  | 0 => rw [show ts.getD 0 undef = v2 from by rw [← ht]; simp]; exact r2
  | 1 => rw [show ts.getD 1 undef = v3 from by rw [← ht]; simp]; exact r3
  | 2 => rw [show ts.getD 2 undef = shortV from by rw [← ht]; simp]; show RepA G I w.heap (.d (.v shortV)) _; rw [RepA, RepD]
  | n + 3 => show RepA G I w.heap .unk _; rw [RepA]; trivial
 refine ev_sound (Wn := 1000000) (Y := fun _ _ _ => False) rfl pg _ (X := X) hW (by subst hX; exact envOK_no _ _) (fx := [0, 1]) (rf := false) (nb := 2) (K := fun e s => e = .nrm ∧ gN s fun n => keep 2 [0, 1] [] [0, 1] n s fun s => s.ob = [(0, zCard), (1, boolO false)]) ?_ ?_ ?_ ?_ ?_ m0 ?_ ?_ ?_
 ·intro i hi _
  subst hX
  have : i < 2 := hi
  match i, this with
  | 0, _ => simp
  | 1, _ => simp
 ·subst hX; exact Nat.le_refl _
 ·subst hX; rfl
 ·intro i hi
  match i, hi with
  | n + 2, _ => rfl
 ·exact Nat.le_refl _
 ·intro h; cases h
 ·conv => whnf
  (repeat' (first | (apply kT (by with_reducible first | rfl | assumption); conv => whnf) | (apply kF (by with_reducible first | rfl | assumption); conv => whnf) | (apply kT (by decide); conv => whnf) | (apply kF (by decide); conv => whnf) | (apply kB <;> intro _ <;> conv => whnf) | fail))
  exact ⟨rfl, rfl⟩
 ·intro e a' w' s' G' I' m ok hn hK
  obtain ⟨rfl, hK⟩ := hK
  subst hX
  rw [gN_eq] at hK
  obtain ⟨s3, hp, _, _, _, _, _, _, _, G3, m3, hG3⟩ := keep_sound (X := { Ctx.call w I [.var false 129 [k0, k1, k2, k3], .var false 4 [b]] G 17 with nd := true }) (fun i hi _ => by
   have : i < 2 := hi
   match i, this with
   | 0, _ => simp
   | 1, _ => simp) m hK
  have e5 : s3.obj = lookO [(0, zCard), (1, boolO false)] := by rw [← hp]; rfl
  rw [e5] at m3
  have hdf : a'.defers = [] := m3.nd rfl
  have menv := m3.env
  rw [hdf] at menv
  refine ⟨hdf, _, rfl, _, by simp [results, Try.results99, go_sem], rfl, rfl, G3, I', ?_⟩
  exact ⟨rfl, fun t => by rw [RepA]; trivial, m3.objs, m3.dom, m3.sep, m3.own, m3.bor, m3.isz, m3.i0, m3.inew, m3.frame, m3.os, m3.tape, m3.output, m3.wsz, m3.barr, menv, fun _ => rfl⟩
end Go.Ev.Ytljkplahkokpaaa


set_option linter.unusedVariables false
set_option linter.unusedSimpArgs false
set_option maxRecDepth 100000
namespace Go.Ev.Ytljkplahkokpaaa
open Go.Proofs
def ptsR : Nat → Pt → List Int → Option (List Pt)
 | 0, _, _ => some []
 | j + 1, p, rest => match rest with
  | [] => none
  | c :: r => match stepR r with
   | none => none
   | some (d, q) => match ptsR j ⟨p.s + c, p.l + d⟩ q with
    | none => none
    | some l => some (⟨p.s + c, p.l + d⟩ :: l)
def rawR (l : List Int) : Option Cd :=
 match ptsR ((l.getD 4 0).toNat - 1) ⟨numB ((l.drop 5).take 2) 0, numB ((l.drop 7).take 3) 0⟩ ((l.take 38).drop 10) with
 | none => none
 | some r => some ⟨numB (l.take 2) 0, l.getD 2 0, l.getD 3 0, ⟨numB ((l.drop 5).take 2) 0, numB ((l.drop 7).take 3) 0⟩ :: r⟩
def cdB (k : Int) (c : Cd) : Bool := inB c.n 0 9999 && inB c.m 1 20 && decide (c.i < c.m) && k != 0 && runB c.ps
def readR (l : List Int) : Option Cd :=
 match rawR l with
 | none => none
 | some c => if cdB (l.getD 4 0) c = true ∧ (layF c).2 = true ∧ layB c = l then some c else none
theorem stepR_len : ∀ {l : List Int} {d : Int} {q : List Int}, stepR l = some (d, q) → q.length < l.length ∧ ∀ x ∈ q, x ∈ l
 | [], _, _, h => by cases h
 | c :: r, d, q, h => by
  rw [stepR] at h
  by_cases h1 : c < 128
  ·rw [if_pos h1] at h
   cases h
   exact ⟨by simp, fun x hx => by simp [hx]⟩
  ·rw [if_neg h1] at h
   cases r with
   | nil => cases h
   | cons e r =>
    cases h
    exact ⟨by simp only [List.length_cons]; omega, fun x hx => by simp [hx]⟩
end Go.Ev.Ytljkplahkokpaaa


set_option linter.unusedVariables false
set_option linter.unusedSimpArgs false
set_option maxRecDepth 100000
namespace Go.Ev.Ytljkplahkokpaaa
open Go.Proofs
def restOf : Code → Code
 | .seq _ (.seq _ r) => r
 | c => c
def opsA : Code → Array Oper
 | .seq (.region _ o _) _ => o
 | _ => #[]
def opsB : Code → Array Oper
 | .seq _ (.seq (.region _ o _) _) => o
 | _ => #[]
theorem body83 : Try.f83.body = some (.seq (.region 0 (opsA (bodyOf Try.f83)) false) (.seq (.region 1 (opsB (bodyOf Try.f83)) false) (restOf (bodyOf Try.f83)))) := by kernel_rfl
def rdK (R : D → Prop) (e : Ex) (s : St) : Prop :=
 match e with
 | .ex _ => False
 | .pan v => v = shortV ∧ s.get 2 = .ref 1 0 ∧ s.get 3 = .ref 2 0 ∧ (∃ k0 k1 k2 k3, s.obj 1 = some (.var false 129 [k0, k1, k2, k3])) ∧ (∃ b, s.obj 2 = some (.var false 4 [b])) ∧ R (.tup [.agg [dI 0, dI 0, dI 0, .v (.slice none 0 0)], dB false])
 | _ => resL tb s.get s.obj [.cell 2 129, .cell 3 4] fun xs => match toDs (handL true s.obj xs).1 with
  | some ds => R (oneD ds)
  | none => False
abbrev blP (l : List Int) : Ob := .var true 113 ((l.map bD).map A.d)
abbrev st83 (l : List Int) : St := ⟨[(1, .ref 0 0), (2, .ref 1 0), (3, .ref 2 0)], [(0, blP l), (1, zCard), (2, boolO false)], 3⟩
theorem def83 {a : Act} {w : World} {Q : Exit → Act → World → Prop} (ht : a.tmps.size = 92) (h : Q .normal { tmps := a.tmps.setIfInBounds 9 (.func (.func 99) #[] #[a.tmps.getD 2 undef, a.tmps.getD 3 undef]), defers := ⟨.fn (.func 99) #[a.tmps.getD 2 undef, a.tmps.getD 3 undef], #[]⟩ :: a.defers } w) : (Code.region 1 (opsB (bodyOf Try.f83)) false).wpIn Fence.wide 0 Try.prog Q a w := by
 apply wpIn_region
 have hmf : ∀ (fn : Fn) (first cap : Array Value) (w : World), (Instr.makeFunc fn first cap).run Try.prog w = .ok (.func fn first cap) w := fun _ _ _ _ => rfl
 obtain ⟨o, ho⟩ : ∃ o, o = opsB (bodyOf Try.f83) := ⟨_, rfl⟩
 rw [← ho]
 conv at ho => rhs; whnf
 subst ho
 simpa [wpOpsIn, go_sem, hmf, ht] using h
theorem read_of (l : List Int) (hl : l.length = 40) {r : D} (h : ev tb (Con Try.prog tb 1000000 fun _ _ _ => False) 3 [0, 1, 2] false (restOf (bodyOf Try.f83)) (st83 l) (rdK fun d => d = r)) : Pure Try.prog 83 [blD l] r := by
 refine ⟨⟨Try.f83, Try.func83, by kernel_rfl, by kernel_rfl⟩, fun w I vs hI rep => callsIn_wide.1 (callsIn_of_wp_marks (F := Fence.wide) (n := 0) Try.func83 body83 trivial ?_)⟩
 have hlen := RepL.length rep
 obtain ⟨v0, rfl⟩ : ∃ v0, vs = [v0] := by
  match vs, hlen with
  | [v], _ => exact ⟨v, rfl⟩
 have hW : Wide Fence.wide := ⟨fun _ => trivial, rfl, rfl⟩
 obtain ⟨X, hX⟩ : ∃ X : Ctx, X = { Ctx.call w I [] (fun _ => none) 92 with nd := true } := ⟨_, rfl⟩
 have m0 : Mod tb X (St.get ⟨[(0, .d (blD l))], [], 0⟩) (St.obj ⟨[(0, .d (blD l))], [], 0⟩) { tmps := [v0].toArray ++ Array.replicate (Try.f83.ntmps - [v0].toArray.size) undef, defers := [] } w (fun _ => none) I := by
  subst hX
  refine ⟨by simp [Ctx.call, Try.ntmps83], fun t => ?_, fun i ob h => (nomatch h), fun i gr h => (nomatch h), fun i j oi oj gi gj b h => (nomatch h), fun i oi gi b h => (nomatch h), fun i hi _ => rfl, hI, fun b h => h, fun b h => .inl h, fun b _ _ => rfl, rfl, rfl, rfl, Nat.le_refl _, fun i T es hi => (nomatch hi), ⟨0, fun _ => False, trivM _ _ _ _, fun b hf => hf.elim, fun _ _ _ _ _ _ _ _ hf => hf, fun i k h => (nomatch h)⟩, fun _ => rfl⟩
  match t with
  | 0 =>
   rw [RepL] at rep
   obtain ⟨v, q, e, r1, r2⟩ := rep
   cases e
   show RepA _ I w.heap (.d (blD l)) _
   rw [RepA]
   simpa using r1
  | n + 1 => show RepA _ I w.heap .unk _; rw [RepA]; trivial
 apply wpIn_seq
 refine ev_sound (Wn := 1000000) (Y := fun _ _ _ => False) rfl pg (.region 0 (opsA (bodyOf Try.f83)) false) (X := X) hW (by subst hX; exact envOK_no _ _) (fx := []) (rf := false) (nb := 0) (K := fun e s => e = .nrm ∧ s = ⟨[(3, .ref 2 0), (2, .ref 1 0), (1, .ref 0 0), (0, .d (blD l))], [(2, boolO false), (1, zCard), (0, blP l)], 3⟩) (fun i hi => by subst hX; exact (nomatch hi)) (by subst hX; exact Nat.le_refl _) (by subst hX; rfl) (fun i _ => rfl) (Nat.le_refl _) m0 (fun h => (nomatch h)) ?_ fun e a1 w1 s1 G1 I1 m1 ok1 hn1 hK1 => ?_
 ·conv => whnf
  (refine ⟨oneB l, ?_⟩; conv => whnf)
  exact ⟨rfl, rfl⟩
 obtain ⟨rfl, rfl⟩ := hK1
 have hd1 : a1.defers = [] := m1.nd (by subst hX; rfl)
 have ht1 : a1.tmps.size = 92 := by have := m1.tsize; subst hX; exact this
 show Code.wpIn _ _ _ _ _ _ _
 apply wpIn_seq
 refine def83 ht1 ?_
 rw [hd1]
 generalize hv2 : a1.tmps.getD 2 undef = v2
 generalize hv3 : a1.tmps.getD 3 undef = v3
 have r1 := m1.slots 1
 have r2 := m1.slots 2
 have r3 := m1.slots 3
 rw [hv2] at r2
 rw [hv3] at r3
 obtain ⟨X', hX'⟩ : ∃ X' : Ctx, X' = { Ctx.call w1 I1 [blP l, zCard, boolO false] G1 92 with E := { trivE with base := [⟨.fn (.func 99) #[v2, v3], #[]⟩] } } := ⟨_, rfl⟩
 have hobj : St.obj (st83 l) = St.obj ⟨[(3, .ref 2 0), (2, .ref 1 0), (1, .ref 0 0), (0, .d (blD l))], [(2, boolO false), (1, zCard), (0, blP l)], 3⟩ := by
  funext i
  match i with
  | 0 => rfl
  | 1 => rfl
  | 2 => rfl
  | n + 3 => rfl
 have mb : Mod tb X' (st83 l).get (st83 l).obj { tmps := a1.tmps.setIfInBounds 9 (.func (.func 99) #[] #[v2, v3]), defers := [⟨.fn (.func 99) #[v2, v3], #[]⟩] } w1 G1 I1 := by
  rw [hobj]
  subst hX'
  subst hX
  refine ⟨by simp [Ctx.call, ht1], fun t => ?_, m1.objs, m1.dom, m1.sep, fun i oi gi b h1 h2 h3 h4 => ?_, fun _ _ _ => rfl, m1.isz, fun _ h => h, fun _ h => .inl h, fun _ _ _ => rfl, rfl, rfl, rfl, Nat.le_refl _, fun i T es hi hb => ?_, ⟨0, fun _ => False, ⟨[], fun _ => False, rfl, List.nodup_nil, fun r hr => (nomatch hr), fun b => by simp, fun b h => h⟩, fun b hf => hf.elim, fun _ _ _ _ _ _ _ _ hf => hf, fun i k' h => ?_⟩, fun h => (nomatch h)⟩
  ·match t with
   | 1 => rw [show (a1.tmps.setIfInBounds 9 (Value.func (.func 99) #[] #[v2, v3])).getD 1 undef = a1.tmps.getD 1 undef from by simp [ht1]]; exact r1
   | 2 => rw [show (a1.tmps.setIfInBounds 9 (Value.func (.func 99) #[] #[v2, v3])).getD 2 undef = v2 from by rw [← hv2]; simp [ht1]]; exact r2
   | 3 => rw [show (a1.tmps.setIfInBounds 9 (Value.func (.func 99) #[] #[v2, v3])).getD 3 undef = v3 from by rw [← hv3]; simp [ht1]]; exact r3
   | 0 => show RepA G1 I1 w1.heap .unk _; rw [RepA]; trivial
   | n + 4 => show RepA G1 I1 w1.heap .unk _; rw [RepA]; trivial
  ·obtain ⟨q1, q2, q3⟩ := m1.own i oi gi b h1 h2 h3 h4
   refine ⟨q1, q2, .inr ⟨i, gi, ?_, h3, h4⟩⟩
   match i, h1 with
   | 0, _ => simp
   | 1, _ => simp
   | 2, _ => simp
   | n + 3, h => cases h
  ·intro h
   match i, h with
   | 0, h => cases h
   | 1, h => cases h
   | 2, h => cases h
   | n + 3, h => cases h
  ·match i, h with
   | 0, h => cases h
   | 1, h => cases h
   | 2, h => cases h
   | n + 3, h => cases h
 have hmine : ∀ i gr b, G1 i = some gr → gr.blk = some b → w.heap.size ≤ b := fun i gr b h1 h2 => by
  have hs := m1.dom i gr h1
  have key : ∀ ob, St.obj ⟨[(3, .ref 2 0), (2, .ref 1 0), (1, .ref 0 0), (0, .d (blD l))], [(2, boolO false), (1, zCard), (0, blP l)], 3⟩ i = some ob → ob.live = true := fun ob ho => by
   match i, ho with
   | 0, ho => cases ho; rfl
   | 1, ho => cases ho; rfl
   | 2, ho => cases ho; rfl
   | n + 3, ho => cases ho
  obtain ⟨ob, ho⟩ := Option.isSome_iff_exists.1 hs
  obtain ⟨q1, q2, q3⟩ := m1.own i ob gr b ho (key ob ho) h1 h2
  subst hX
  rcases q3 with q3 | ⟨j, gj, hj, _⟩
  ·exact q3
  ·exact (nomatch hj)
 have hw1 : RowKit.Below w.heap.size w w1 := by
  subst hX
  exact ⟨m1.os, m1.tape, m1.output, m1.wsz, fun k hk => m1.frame k hk (.inr ⟨fun h => h, fun ⟨i, gr, hi, _⟩ => (nomatch hi)⟩)⟩
 have hi1 : (∀ b, I b → I1 b) ∧ (∀ b, I1 b → I b ∨ w.heap.size ≤ b) := by
  subst hX
  refine ⟨m1.i0, fun b hb => ?_⟩
  rcases m1.inew b hb with h | h | ⟨i, gr, hi, _⟩ | h
  ·exact .inl h
  ·exact h.elim
  ·exact (nomatch hi)
  ·exact .inr h
 have hA : ∀ {g : Nat → A} {o : Nat → Option Ob} {a2 : Act} {w2 : World} {G2 : Nat → Option GR} {I2 : Nat → Prop}, Mod tb X' g o a2 w2 G2 I2 → (∀ b, I b → I2 b) ∧ (∀ b, I2 b → I b ∨ w.heap.size ≤ b) ∧ (∀ b, I2 b → b < w2.heap.size) ∧ RowKit.Below w.heap.size w w2 := by
  intro g o a2 w2 G2 I2 m2
  subst hX'
  refine ⟨fun b hb => m2.i0 b (hi1.1 b hb), fun b hb => ?_, m2.isz, ⟨m2.os.trans hw1.os, m2.tape.trans hw1.tape, m2.output.trans hw1.output, Nat.le_trans hw1.size m2.wsz, fun k hk => ?_⟩⟩
  ·rcases m2.inew b hb with h | h | ⟨i, gr, hi, hg, hb⟩ | h
   ·exact hi1.2 b h
   ·exact h.elim
   ·exact .inr (hmine i gr b hg hb)
   ·exact .inr (Nat.le_trans hw1.size h)
  ·rw [m2.frame k (Nat.lt_of_lt_of_le hk hw1.size) (.inr ⟨fun h => h, fun ⟨i, gr, hi, hg, hb⟩ => absurd (hmine i gr k hg hb) (by omega)⟩)]
   exact hw1.block k hk
 have hinv : ∀ w2 : World, (invoke (.fn (.func 99) #[v2, v3]) #[]).run Try.prog w2 = .ok (.enter 99 #[v2, v3]) w2 := fun w2 => by simp [go_sem]
 refine ev_sound (Wn := 1000000) (Y := fun _ _ _ => False) rfl pg _ (X := X') hW (by subst hX'; exact envOK_no _ _) (fx := [0, 1, 2]) (rf := false) (nb := 3) (K := rdK fun d => d = r) (fun i hi _ => ?_) (by subst hX'; exact Nat.le_refl _) (by subst hX'; kernel_rfl) (fun i hi => ?_) (Nat.le_refl _) mb (fun h => (nomatch h)) h fun e a' w' s' G' I' m ok hn hK => ?_
 ·subst hX'
  have : i < 3 := hi
  match i, this with
  | 0, _ => simp
  | 1, _ => simp
  | 2, _ => simp
 ·match i, hi with
  | n + 3, _ => rfl
 have main : resL tb s'.get s'.obj [.cell 2 129, .cell 3 4] (fun xs => match toDs (handL true s'.obj xs).1 with | some ds => oneD ds = r | none => False) → bodyPostM Fence.wide 0 Try.prog Try.f83 (fun e w'' => ∃ v, e = .returned v ∧ ∃ I', RepD I' w''.heap r v ∧ (∀ b, I b → I' b) ∧ (∀ b, I' b → I b ∨ w.heap.size ≤ b) ∧ (∀ b, I' b → b < w''.heap.size) ∧ RowKit.Below w.heap.size w w'') .ret a' w' := by
  intro hK
  refine leaves_marks (fun e => by cases e) _ a'.defers (Nat.le_refl _) rfl m fun a2 w2 m2 et eb => ?_
  rw [show X'.E.base = [⟨.fn (.func 99) #[v2, v3], #[]⟩] from by subst hX'; rfl]
  refine ⟨(fun e => by cases e), .inr ⟨(fun h => (nomatch h)), _, _, 99, #[v2, v3], rfl, hinv w2, (fun _ _ => trivial), (close_idle v2 v3 w2).mono ?_⟩⟩
  rintro e u' w3 ⟨rfl, rfl, rfl⟩
  obtain ⟨xs, us, h1, h2, h3, h4⟩ := resL_run pg m2 _ hK
  split at h1
  ·rename_i ds hds
   have hz := handL_zok (cv := true) (o := s'.obj) xs
   have hrep := handL_rep (cv := true) hz m2.objs (fun p hp => hp) h2
   rw [toDs_eq hds] at hrep
   have hrep := RepAL.of_d.1 hrep
   have m3 := m2.freeze hz.frz
   obtain ⟨q1, q2, q3, q4⟩ := hA m3
   rw [← et]
   refine ⟨_, run_results (by rw [Try.results83]; exact h4), _, rfl, _, ?_, q1, q2, q3, q4⟩
   rw [← h1]
   exact oneD_rep hrep
  ·exact h1.elim
 cases e with
 | ex i => exact hK.elim
 | nrm => exact main hK
 | ret => exact main hK
 | pan v =>
  obtain ⟨rfl, e2, e3, ⟨k0, k1, k2, k3, o1⟩, ⟨b, o2⟩, hR⟩ := hK
  have hR : D.tup [.agg [dI 0, dI 0, dI 0, .v (.slice none 0 0)], dB false] = r := hR
  subst hR
  refine leaves_marks (fun e => by cases e) _ a'.defers (Nat.le_refl _) rfl m fun a2 w2 m2 et eb => ?_
  rw [show X'.E.base = [⟨.fn (.func 99) #[v2, v3], #[]⟩] from by subst hX'; rfl]
  have hG1 : G' 1 = G1 1 := by have := m2.bor 1 (by subst hX'; exact (by decide : 1 < 3)) (by subst hX'; rfl); rw [this]; subst hX'; rfl
  have hG2 : G' 2 = G1 2 := by have := m2.bor 2 (by subst hX'; exact (by decide : 2 < 3)) (by subst hX'; rfl); rw [this]; subst hX'; rfl
  have q1 := ObOK.invO (ρ := [1, 2]) (i := 0) (j := 1) m2.objs rfl
  have q2 := ObOK.invO (ρ := [1, 2]) (i := 1) (j := 2) m2.objs rfl
  rw [o1] at q1
  rw [o2] at q2
  have mL := m2.lend (ρ := [1, 2]) (pre := [.var false 129 [invA [1, 2] k0, invA [1, 2] k1, invA [1, 2] k2, invA [1, 2] k3], .var false 4 [invA [1, 2] b]]) rfl rfl (fun ob hob => by
   simp only [List.mem_cons, List.not_mem_nil, or_false] at hob
   rcases hob with rfl | rfl <;> rfl) (fun i ob j hi hj => by
   match i, hi, hj with
   | 0, hi, hj => cases hi; cases hj; exact ⟨q1, fun _ => ⟨_, o1, rfl⟩⟩
   | 1, hi, hj => cases hi; cases hj; exact ⟨q2, fun _ => ⟨_, o2, rfl⟩⟩
   | n + 2, hi, hj => cases hi)
  have rep2 : RepAL (subG [1, 2] G') I' w2.heap [.ref 0 0, .ref 1 0] [v2, v3] := by
   refine RepAL.cons ?_ (RepAL.cons ?_ RepAL.nil)
   ·have r2 : RepA G1 I1 w1.heap (.ref 1 0) v2 := r2
    rw [RepA] at r2 ⊢
    rw [show subG [1, 2] G' 0 = G1 1 from hG1]; exact r2
   ·have r3 : RepA G1 I1 w1.heap (.ref 2 0) v3 := r3
    rw [RepA] at r3 ⊢
    rw [show subG [1, 2] G' 1 = G1 2 from hG2]; exact r3
  refine ⟨(fun e => by cases e), .inr ⟨(fun h => (nomatch h)), _, _, 99, #[v2, v3], rfl, hinv w2, (fun _ _ => trivial), (close_pan mL rep2).mono ?_⟩⟩
  rintro e u' w3 ⟨rfl, rfl, G3, I3, m3⟩
  show LeavesInM Fence.wide 0 Try.prog Try.f83 a'.tmps _ [] .returning w3
  have hb0 : G3 0 = G' 1 := m3.bor 0 (by decide : 0 < 2) rfl
  have hb1 : G3 1 = G' 2 := m3.bor 1 (by decide : 1 < 2) rfl
  have s2 := m.slots 2
  have s3 := m.slots 3
  rw [e2] at s2
  rw [e3] at s3
  have m4 : Mod tb { Ctx.call w2 I' [.var false 129 [invA [1, 2] k0, invA [1, 2] k1, invA [1, 2] k2, invA [1, 2] k3], .var false 4 [invA [1, 2] b]] (subG [1, 2] G') 0 with nt := a'.tmps.size } (lookA [(2, .ref 0 0), (3, .ref 1 0)]) (lookO [(0, zCard), (1, boolO false)]) { tmps := a'.tmps, defers := [] } w3 G3 I3 := by
   refine ⟨rfl, fun t => ?_, m3.objs, m3.dom, m3.sep, m3.own, m3.bor, m3.isz, m3.i0, m3.inew, m3.frame, m3.os, m3.tape, m3.output, m3.wsz, m3.barr, m3.env, fun _ => rfl⟩
   match t with
   | 2 =>
    show RepA G3 I3 w3.heap (.ref 0 0) _
    rw [RepA] at s2 ⊢
    rw [hb0]; exact s2
   | 3 =>
    show RepA G3 I3 w3.heap (.ref 1 0) _
    rw [RepA] at s3 ⊢
    rw [hb1]; exact s3
   | 0 => show RepA G3 I3 w3.heap .unk _; rw [RepA]; trivial
   | 1 => show RepA G3 I3 w3.heap .unk _; rw [RepA]; trivial
   | n + 4 => show RepA G3 I3 w3.heap .unk _; rw [RepA]; trivial
  have hres : resL tb (lookA [(2, .ref 0 0), (3, .ref 1 0)]) (lookO [(0, zCard), (1, boolO false)]) [.cell 2 129, .cell 3 4] (fun xs => xs = [D.agg [dI 0, dI 0, dI 0, .v (.slice none 0 0)], dB false].map A.d) := by
   conv => whnf
   rfl
  obtain ⟨xs, us, h1, h2, h3, h4⟩ := resL_run pg m4 _ hres
  subst h1
  have hrep := RepAL.of_d.1 h2
  obtain ⟨p1, p2, p3, p4⟩ := hA m2
  refine ⟨_, run_results (by rw [Try.results83]; exact h4), _, rfl, I3, oneD_rep hrep, fun b hb => m3.i0 b (p1 b hb), fun b hb => ?_, m3.isz, ⟨m3.os.trans p4.os, m3.tape.trans p4.tape, m3.output.trans p4.output, Nat.le_trans p4.size m3.wsz, fun k hk => ?_⟩⟩
  ·rcases m3.inew b hb with h | h | ⟨i, gr, hi, hg, hb⟩ | h
   ·exact p2 b h
   ·exact h.elim
   ·right
    have hi : i < 2 := hi
    match i, hi, hg with
    | 0, _, hg => exact hmine 1 gr b (by rw [← hG1]; exact hg) hb
    | 1, _, hg => exact hmine 2 gr b (by rw [← hG2]; exact hg) hb
   ·exact .inr (Nat.le_trans p4.size h)
  ·rw [m3.frame k (Nat.lt_of_lt_of_le hk p4.size) (.inr ⟨fun h => h, fun ⟨i, gr, hi, hg, hb⟩ => ?_⟩)]
   ·exact p4.block k hk
   ·have hi : i < 2 := hi
    match i, hi, hg with
    | 0, _, hg => exact absurd (hmine 1 gr k (by rw [← hG1]; exact hg) hb) (by omega)
    | 1, _, hg => exact absurd (hmine 2 gr k (by rw [← hG2]; exact hg) hb) (by omega)
end Go.Ev.Ytljkplahkokpaaa


set_option linter.unusedVariables false
set_option linter.unusedSimpArgs false
set_option maxRecDepth 100000
namespace Go.Ev.Ytljkplahkokpaaa
open Go.Proofs
attribute [local irreducible] Pure Bor Iter Pan stepR ptsR numB runB layF layB
theorem By.take {l : List Int} (h : By l) (n : Nat) : By (l.take n) := fun x hx => h x (List.mem_of_mem_take hx)
theorem By.drop {l : List Int} (h : By l) (n : Nat) : By (l.drop n) := fun x hx => h x (List.mem_of_mem_drop hx)
abbrev rdL (l : List Int) (n : Nat) : List Int := (l.take 38).drop n
theorem rdL_len {l : List Int} (hl : l.length = 40) (n : Nat) : (rdL l n).length = 38 - n := by simp [hl]
theorem rd_num {l : List Int} (hl : l.length = 40) (hb : By l) (n k : Nat) (hk : k ≤ 3) (hn : n + k ≤ 38) : Bor tb Try.prog 100 [.ref 0 0, .d (dI k)] [rdO (rdL l n)] 1 (.d (dI (numB ((l.drop n).take k) 0))) [(0, rdO (rdL l (n + k)))] := by
 have := number_bor k (rdL l n) hk (by rw [rdL_len hl]; omega) ((hb.take _).drop _) (by rw [rdL_len hl]; omega)
 have e1 : (rdL l n).take k = (l.drop n).take k := by
  rw [rdL, List.drop_take, List.take_take, Nat.min_eq_left (by omega)]
 have e2 : (rdL l n).drop k = rdL l (n + k) := by rw [rdL, rdL, List.drop_drop]
 rw [e1, e2] at this
 exact this
theorem rd_one {l : List Int} (hl : l.length = 40) (hb : By l) (n : Nat) (hn : n + 1 ≤ 38) : Bor tb Try.prog 100 [.ref 0 0, .d (dI 1)] [rdO (rdL l n)] 1 (.d (dI (l.getD n 0))) [(0, rdO (rdL l (n + 1)))] := by
 have := rd_num hl hb n 1 (by omega) hn
 have e : numB ((l.drop n).take 1) 0 = l.getD n 0 := by
  have e1 : (l.drop n).take 1 = [l.getD n 0] := by
   rw [List.drop_eq_getElem_cons (by omega), List.take_succ_cons, List.take_zero]
   simp [show n < l.length by omega]
  rw [e1, numB, numB]; omega
 rw [e] at this
 exact this
theorem rd_next {l : List Int} (hl : l.length = 40) (hb : By l) (n : Nat) (hn : n + 1 ≤ 38) : Bor tb Try.prog 101 [.ref 0 0] [rdO (rdL l n)] 1 (.d (dI (l.getD n 0))) [(0, rdO (rdL l (n + 1)))] := by
 have hn2 : n < (rdL l n).length + n := by rw [rdL_len hl]; omega
 have e : rdL l n = l.getD n 0 :: rdL l (n + 1) := by
  rw [rdL, List.drop_eq_getElem_cons (by simp; omega)]
  simp [show n < l.length by omega]
 rw [e]
 exact next_bor _ _ (hb.getD n) (by rw [rdL_len hl]; omega)
theorem onlyP (os : List Nat) (l : List Int) : A.onlyL os ((l.map bD).map A.d) = true := by rw [List.map_map]; exact onlyB os l
theorem clrP (os : List Nat) (l : List Int) : clrAL os ((l.map bD).map A.d) = (l.map bD).map A.d := by
 induction l with
 | nil => rfl
 | cons a r ih => rw [List.map_cons, List.map_cons, clrAL, ih]; rfl
theorem unF_range {n : Int} (h0 : 0 ≤ n) (h : n < 32768) : -16384 ≤ unF n ∧ unF n ≤ 16384 := by unfold unF; split <;> omega
theorem stepR_range {l : List Int} {d : Int} {q : List Int} (hb : By l) (h : stepR l = some (d, q)) : -16384 ≤ d ∧ d ≤ 16384 := by
 cases l with
 | nil => rw [stepR] at h; cases h
 | cons c r =>
  have hc := hb c (by simp)
  rw [stepR] at h
  by_cases h1 : c < 128
  ·rw [if_pos h1] at h
   cases h
   exact unF_range hc.1 (by omega)
  ·rw [if_neg h1] at h
   cases r with
   | nil => cases h
   | cons e r =>
    cases h
    have he := hb e (by simp)
    exact unF_range (by omega) (by omega)
theorem ptsR_0 (p : Pt) (rest : List Int) : ptsR 0 p rest = some [] := by rw [ptsR]
theorem ptsR_nil (j : Nat) (p : Pt) : ptsR (j + 1) p [] = none := by rw [ptsR]
theorem ptsR_no {j : Nat} {p : Pt} {c : Int} {r : List Int} (h : stepR r = none) : ptsR (j + 1) p (c :: r) = none := by rw [ptsR, h]
theorem ptsR_go {j : Nat} {p : Pt} {c d : Int} {r q : List Int} (h : stepR r = some (d, q)) : ptsR (j + 1) p (c :: r) = match ptsR j ⟨p.s + c, p.l + d⟩ q with
  | none => none
  | some l => some (⟨p.s + c, p.l + d⟩ :: l) := by
 rw [ptsR, h]
 try rfl
def rawA (l : List Int) (acc : List Pt) : Option (List Pt) → Option Cd
 | none => none
 | some r => some ⟨numB (l.take 2) 0, l.getD 2 0, l.getD 3 0, acc ++ r⟩
abbrev pt0 (l : List Int) : Pt := ⟨numB ((l.drop 5).take 2) 0, numB ((l.drop 7).take 3) 0⟩
theorem rawR_eq (l : List Int) : rawR l = rawA l [pt0 l] (ptsR ((l.getD 4 0).toNat - 1) (pt0 l) (rdL l 10)) := by
 rw [rawR]
 cases ptsR ((l.getD 4 0).toNat - 1) (pt0 l) (rdL l 10) <;> rfl
def readD (l : List Int) : D := match rawR l with
 | none => .tup [.agg [dI 0, dI 0, dI 0, .v (.slice none 0 0)], dB false]
 | some c => bif cdB (l.getD 4 0) c then .tup [.agg (cdC c), dB ((layF c).2 && decide (layB c = l))] else .tup [.agg [dI 0, dI 0, dI 0, .v (.slice none 0 0)], dB false]
theorem readD_none {l : List Int} (h : rawR l = none) : readD l = .tup [.agg [dI 0, dI 0, dI 0, .v (.slice none 0 0)], dB false] := by rw [readD, h]
theorem readD_bad {l : List Int} {c : Cd} (h : rawR l = some c) (h2 : cdB (l.getD 4 0) c = false) : readD l = .tup [.agg [dI 0, dI 0, dI 0, .v (.slice none 0 0)], dB false] := by rw [readD, h]; simp only [h2, cond_false]
theorem readD_ok {l : List Int} {c : Cd} (h : rawR l = some c) (h2 : cdB (l.getD 4 0) c = true) : readD l = .tup [.agg (cdC c), dB ((layF c).2 && decide (layB c = l))] := by rw [readD, h]; simp only [h2, cond_true]
theorem readD_some {l : List Int} {c : Cd} (h : readR l = some c) : readD l = .tup [.agg (cdC c), dB true] := by
 rw [readR] at h
 cases hr : rawR l with
 | none => rw [hr] at h; cases h
 | some q =>
  rw [hr] at h
  simp only at h
  split at h
  ·rename_i hc
   cases h
   rw [readD_ok hr hc.1, hc.2.1, decide_eq_true hc.2.2]; rfl
  ·cases h
theorem againB' {l : List Int} (hl : l.length = 40) : ((putAt (z40.map fun x => A.d (bD x)) 0 ((l.map bD).map A.d)).drop 0).take 40 = (l.map bD).map A.d := againB (by simp) hl
theorem frzP (z : List (Nat × D)) (l : List Int) : frzAL z ((l.map bD).map A.d) = (l.map bD).map A.d := by
 induction l with
 | nil => rfl
 | cons a r ih => rw [List.map_cons, List.map_cons, frzAL, ih]; rfl
theorem rowB {z : List (Nat × D)} {l : List Int} (hl : l.length = 40) : ((frzAL z ((l.map bD).map A.d)).drop 0).take 40 = (l.map bD).map A.d := by rw [frzP, List.drop_zero, List.take_of_length_le (by simp [hl])]
theorem eqC_bD : ∀ (a b : List Int), a.length = b.length → eqC (a.map bD) (b.map bD) = some (decide (a = b))
 | [], [], _ => rfl
 | x :: a, y :: b, h => by
  have := eqC_bD a b (by simpa using h)
  simp only [List.map_cons, bD, eqC, decide_true, cond_true] at this ⊢
  rw [this]
  simp only [Option.some.injEq, List.cons.injEq, Bool.decide_and]
  congr 1
theorem fitC_bD : ∀ (n : Nat) (l : List Int), l.length = n → fitC (List.replicate n (.int .u8 0)) (l.map bD) = true
 | 0, [], _ => rfl
 | n + 1, x :: l, h => by
  rw [List.replicate_succ, List.map_cons]
  exact fitC_bD n l (by simpa using h)
theorem read_pure (l : List Int) (hl : l.length = 40) (hb : By l) : Pure Try.prog 83 [blD l] (readD l) := by
 have k1 := rd_num hl hb 0 2 (by omega) (by omega)
 have k2 := rd_one hl hb 2 (by omega)
 have k3 := rd_one hl hb 3 (by omega)
 have k4 := rd_next hl hb 4 (by omega)
 have k5 := rd_num hl hb 5 2 (by omega) (by omega)
 have k6 := rd_num hl hb 7 3 (by omega) (by omega)
 have es : ((l.map bD).map A.d).take (38 * 1) = (((l.take 38).map byC).flatten).map A.d := by
  rw [flatBy, Nat.mul_one, List.map_take, List.map_map]; rfl
 have hk := hb.getD 4
 have ek : IntKind.i64.wrap (l.getD 4 0 - 1) = l.getD 4 0 - 1 := wS (by omega) (by omega)
 have hp1 := numB_range ((l.drop 5).take 2) ((hb.drop _).take _) (by simp; omega)
 have hp2 := numB_range ((l.drop 7).take 3) ((hb.drop _).take _) (by simp; omega)
 refine read_of l hl ?_
 conv => whnf
 (refine .l ⟨38, rfl, by decide, _, es, byL _, by simp [hl], ?_⟩; conv => whnf)
 (refine .inr ⟨[3], 1, _, _, k1, ?_⟩; conv => whnf)
 (refine .inr ⟨[3], 1, _, _, k2, ?_⟩; conv => whnf)
 (refine .inr ⟨[3], 1, _, _, k3, ?_⟩; conv => whnf)
 (refine .inr ⟨[3], 1, _, _, k4, ?_⟩; conv => whnf)
 (refine .inr ⟨[3], 1, _, _, k5, ?_⟩; conv => whnf)
 (refine .inr ⟨[3], 1, _, _, k6, ?_⟩; conv => whnf)
 (refine .r ⟨by decide, ?_⟩; conv => whnf)
 refine ⟨[], [1, 2, 3, 4, 5, 6, 31, 32], [0, 1, 2, 3, 4, 5], 6, fun m s => ∃ (j : Nat) (acc : List Pt) (p : Pt) (rest : List Int), j + m = (l.getD 4 0).toNat - 1 ∧ rawR l = rawA l acc (ptsR m p rest) ∧ By rest ∧ rest.length ≤ 40 ∧ (0 ≤ p.s ∧ p.s ≤ 16777215 + 255 * j) ∧ (-16384 * j ≤ p.l ∧ p.l ≤ 16777215 + 16384 * j) ∧ acc.length = j + 1 ∧
   s = ⟨[(1, .ref 0 0), (2, .ref 1 0), (3, .ref 2 0), (4, .ref 3 0), (5, .d (dI (l.getD 4 0))), (6, .ref 4 0), (31, .d (dI (l.getD 4 0 - 1))), (32, .d (dI j))],
    [(0, .ro 113 ((l.map bD).map A.d)), (1, .var false 129 [.d (dI (numB (l.take 2) 0)), .d (dI (l.getD 2 0)), .d (dI (l.getD 3 0)), .own 5]), (2, boolO false), (3, rdO rest), (4, .var false 74 [.d (dI p.s), .d (dI p.l)]), (5, .arr 74 (acc.map ptD))], 6⟩, ?_, ?_⟩
 ·conv => whnf
  (refine ⟨onlyP _ l, ?_⟩; conv => whnf)
  refine ⟨(l.getD 4 0).toNat - 1, 0, [pt0 l], pt0 l, rdL l 10, by omega, rawR_eq l, (hb.take _).drop _, by rw [rdL_len hl]; omega, ⟨hp1.1, by have := hp1.2; simp only [pt0]; omega⟩, ⟨by have := hp2.1; simp only [pt0]; omega, by have := hp2.2; simp only [pt0]; omega⟩, rfl, ?_⟩
  rw [ek]
  rfl
 ·rintro m _ ⟨j, acc, p, rest, hj, hraw, hbr, hrl, hs, hpl, hacc, rfl⟩
  by_cases hm : 0 < m
  ·have f1 : decide ((j : Int) < l.getD 4 0 - 1) = true := decide_eq_true (by omega)
   obtain ⟨q, rfl⟩ : ∃ q, m = q + 1 := ⟨m - 1, by omega⟩
   cases rest with
   | nil =>
    rw [ptsR_nil] at hraw
    have hn := readD_none hraw
    conv => whnf
    (repeat' (first | (apply kT (by with_reducible first | rfl | assumption); conv => whnf) | (apply kF (by with_reducible first | rfl | assumption); conv => whnf) | (apply kT (by decide); conv => whnf) | (apply kF (by decide); conv => whnf) | (apply kB <;> intro _ <;> conv => whnf) | fail))
    (refine .pan ⟨trivial, [3], _, next_pan, ?_⟩; conv => whnf)
    (refine .pan ⟨trivial, [3], _, step_pan By.nil (by rw [stepR]), ?_⟩; conv => whnf)
    (refine ⟨_, [0, 1, 2], ⟨rfl, rfl, trivial⟩, rfl, ?_⟩; conv => whnf)
    exact ⟨rfl, rfl, rfl, ⟨_, _, _, _, rfl⟩, ⟨_, rfl⟩, hn.symm⟩
   | cons c r =>
    have hc := hbr c (by simp)
    have hbr2 : By r := fun x hx => hbr x (by simp [hx])
    have hrl2 : r.length ≤ 40 := by simp at hrl; omega
    have cn := next_bor c r hc (by omega)
    cases hst : stepR r with
    | none =>
     rw [ptsR_no hst] at hraw
     have hn := readD_none hraw
     have cp := step_pan hbr2 hst
     conv => whnf
     (repeat' (first | (apply kT (by with_reducible first | rfl | assumption); conv => whnf) | (apply kF (by with_reducible first | rfl | assumption); conv => whnf) | (apply kT (by decide); conv => whnf) | (apply kF (by decide); conv => whnf) | (apply kB <;> intro _ <;> conv => whnf) | fail))
     (refine .inr ⟨[3], 1, _, _, cn, ?_⟩; conv => whnf)
     (repeat' (first | (apply kT (by with_reducible first | rfl | assumption); conv => whnf) | (apply kF (by with_reducible first | rfl | assumption); conv => whnf) | (apply kT (by decide); conv => whnf) | (apply kF (by decide); conv => whnf) | (apply kB <;> intro _ <;> conv => whnf) | fail))
     (refine .pan ⟨trivial, [3], _, cp, ?_⟩; conv => whnf)
     (refine ⟨_, [0, 1, 2], ⟨rfl, trivial⟩, rfl, ?_⟩; conv => whnf)
     exact ⟨rfl, rfl, rfl, ⟨_, _, _, _, rfl⟩, ⟨_, rfl⟩, hn.symm⟩
    | some z =>
     obtain ⟨d, t⟩ := z
     have cs := step_bor hbr2 (by omega) hst
     rw [ptsR_go hst] at hraw
     conv => whnf
     (repeat' (first | (apply kT (by with_reducible first | rfl | assumption); conv => whnf) | (apply kF (by with_reducible first | rfl | assumption); conv => whnf) | (apply kT (by decide); conv => whnf) | (apply kF (by decide); conv => whnf) | (apply kB <;> intro _ <;> conv => whnf) | fail))
     (refine .inr ⟨[3], 1, _, _, cn, ?_⟩; conv => whnf)
     (repeat' (first | (apply kT (by with_reducible first | rfl | assumption); conv => whnf) | (apply kF (by with_reducible first | rfl | assumption); conv => whnf) | (apply kT (by decide); conv => whnf) | (apply kF (by decide); conv => whnf) | (apply kB <;> intro _ <;> conv => whnf) | fail))
     (refine .inr ⟨[3], 1, _, _, cs, ?_⟩; conv => whnf)
     (repeat' (first | (apply kT (by with_reducible first | rfl | assumption); conv => whnf) | (apply kF (by with_reducible first | rfl | assumption); conv => whnf) | (apply kT (by decide); conv => whnf) | (apply kF (by decide); conv => whnf) | (apply kB <;> intro _ <;> conv => whnf) | fail))
     (refine .l ?_; conv => whnf)
     (refine ⟨fun el h => by rw [List.mem_singleton.1 h]; rfl, by rw [List.length_map, hacc]; show (j + 1 + 1) * 16 ≤ _; omega, ?_⟩; conv => whnf)
     have hd := stepR_range hbr2 hst
     have ht : By t ∧ t.length ≤ 40 := by
      obtain ⟨q1, q2⟩ := stepR_len hst
      exact ⟨fun x hx => hbr2 x (q2 x hx), by omega⟩
     have e1 : IntKind.i64.wrap (p.s + c) = p.s + c := wS (by omega) (by omega)
     have e2 : IntKind.i64.wrap (p.l + d) = p.l + d := wS (by omega) (by omega)
     (refine ⟨by rw [clrP]; exact onlyP .., ?_⟩; conv => whnf)
     refine ⟨q, by omega, j + 1, acc ++ [⟨p.s + c, p.l + d⟩], ⟨p.s + c, p.l + d⟩, t, by omega, ?_, ht.1, ht.2, ⟨by show 0 ≤ p.s + c; omega, by show p.s + c ≤ _; omega⟩, ⟨by show _ ≤ p.l + d; omega, by show p.l + d ≤ _; omega⟩, by simp [hacc], ?_⟩
     ·rw [hraw]
      cases ptsR q ⟨p.s + c, p.l + d⟩ t with
      | none => rfl
      | some z => simp [rawA]
     ·rw [clrP, e1, e2, w1 j (by omega), List.map_append]
      rfl
  ·have hm0 : m = 0 := by omega
   subst hm0
   rw [ptsR_0] at hraw
   have hraw : rawR l = some ⟨numB (l.take 2) 0, l.getD 2 0, l.getD 3 0, acc⟩ := by rw [hraw, rawA, List.append_nil]
   have f1 : decide ((j : Int) < l.getD 4 0 - 1) = false := decide_eq_false (by omega)
   have w1 := within_pure (numB (l.take 2) 0) 0 9999
   have w2 := within_pure (l.getD 3 0) 1 20
   have w3 := run_pure acc (by omega)
   by_cases hcd : cdB (l.getD 4 0) ⟨numB (l.take 2) 0, l.getD 2 0, l.getD 3 0, acc⟩ = true
   ·have hcd2 := hcd
    simp only [cdB, Bool.and_eq_true, bne_iff_ne, decide_eq_true_eq] at hcd2
    obtain ⟨⟨⟨⟨f2, f3⟩, f4⟩, f5⟩, f6⟩ := hcd2
    have f4 : decide (l.getD 2 0 ≥ l.getD 3 0) = false := decide_eq_false (by omega)
    have f5 : (l.getD 4 0 == 0) = false := by rw [beq_eq_false_iff_ne]; exact f5
    obtain ⟨g1, g2, g3⟩ := runB_ok.1 f6
    have f2 : (!inB (numB (l.take 2) 0) 0 9999) = false := by rw [f2]; rfl
    have f3 : (!inB (l.getD 3 0) 1 20) = false := by rw [f3]; rfl
    have f6 : (!runB acc) = false := by rw [f6]; rfl
    have w4 := lay_pure' ⟨numB (l.take 2) 0, l.getD 2 0, l.getD 3 0, acc⟩ g1 (by show acc.length ≤ _; omega) g3
    have hn := readD_ok hraw hcd
    have h0 : 0 < acc.length := by omega
    have hll : (layB ⟨numB (l.take 2) 0, l.getD 2 0, l.getD 3 0, acc⟩).length = 40 := lay_len h0
    rcases Bool.eq_false_or_eq_true (layF ⟨numB (l.take 2) 0, l.getD 2 0, l.getD 3 0, acc⟩).2 with hf | hf
    ·rw [hf] at hn w4
     have ec := eqC_bD (layB ⟨numB (l.take 2) 0, l.getD 2 0, l.getD 3 0, acc⟩) l (by rw [hll, hl])
     have fc := fitC_bD 40 _ hll
     conv => whnf
     (repeat' (first | (apply kT (by with_reducible first | rfl | assumption); conv => whnf) | (apply kF (by with_reducible first | rfl | assumption); conv => whnf) | (apply kT (by decide); conv => whnf) | (apply kF (by decide); conv => whnf) | (apply kB <;> intro _ <;> conv => whnf) | (refine .inl ⟨_, w1, ?_⟩; conv => whnf) | (refine .inl ⟨_, w2, ?_⟩; conv => whnf) | (refine .inl ⟨_, w3, ?_⟩; conv => whnf) | fail))
     (refine .r ?_; conv => whnf)
     (repeat' (first | (apply kT (by with_reducible first | rfl | assumption); conv => whnf) | (apply kF (by with_reducible first | rfl | assumption); conv => whnf) | (apply kT (by decide); conv => whnf) | (apply kF (by decide); conv => whnf) | (apply kB <;> intro _ <;> conv => whnf) | (refine .inl ⟨_, w4, ?_⟩; conv => whnf) | fail))
     (refine ⟨_, rfl, by rw [List.length_map]; exact lenB hll, by rw [List.length_map, lenB hll]; decide, oneB _, ?_⟩; conv => whnf)
     (repeat' (first | (apply kT (by with_reducible first | rfl | assumption); conv => whnf) | (apply kF (by with_reducible first | rfl | assumption); conv => whnf) | (apply kT (by decide); conv => whnf) | (apply kF (by decide); conv => whnf) | (apply kB <;> intro _ <;> conv => whnf) | (refine ⟨_, againB' hll, lenB hll, ?_⟩; conv => whnf) | (refine ⟨l.map bD, rowB hl, lenB hl, ?_⟩; conv => whnf) | fail))
     (refine ⟨rfl, fc, _, ec, ?_⟩; conv => whnf)
     (repeat' (first | (apply kT (by with_reducible first | rfl | assumption); conv => whnf) | (apply kF (by with_reducible first | rfl | assumption); conv => whnf) | (apply kT (by decide); conv => whnf) | (apply kF (by decide); conv => whnf) | (apply kB <;> intro _ <;> conv => whnf) | fail))
     exact hn.symm
    ·rw [hf] at hn w4
     conv => whnf
     (repeat' (first | (apply kT (by with_reducible first | rfl | assumption); conv => whnf) | (apply kF (by with_reducible first | rfl | assumption); conv => whnf) | (apply kT (by decide); conv => whnf) | (apply kF (by decide); conv => whnf) | (apply kB <;> intro _ <;> conv => whnf) | (refine .inl ⟨_, w1, ?_⟩; conv => whnf) | (refine .inl ⟨_, w2, ?_⟩; conv => whnf) | (refine .inl ⟨_, w3, ?_⟩; conv => whnf) | fail))
     (refine .r ?_; conv => whnf)
     (repeat' (first | (apply kT (by with_reducible first | rfl | assumption); conv => whnf) | (apply kF (by with_reducible first | rfl | assumption); conv => whnf) | (apply kT (by decide); conv => whnf) | (apply kF (by decide); conv => whnf) | (apply kB <;> intro _ <;> conv => whnf) | (refine .inl ⟨_, w4, ?_⟩; conv => whnf) | fail))
     (refine ⟨_, rfl, by rw [List.length_map]; exact lenB hll, by rw [List.length_map, lenB hll]; decide, oneB _, ?_⟩; conv => whnf)
     (repeat' (first | (apply kT (by with_reducible first | rfl | assumption); conv => whnf) | (apply kF (by with_reducible first | rfl | assumption); conv => whnf) | (apply kT (by decide); conv => whnf) | (apply kF (by decide); conv => whnf) | (apply kB <;> intro _ <;> conv => whnf) | fail))
     exact hn.symm
   ·rw [Bool.not_eq_true] at hcd
    have hn := readD_bad hraw hcd
    conv => whnf
    (repeat' (first | (apply kT (by with_reducible first | rfl | assumption); conv => whnf) | (apply kF (by with_reducible first | rfl | assumption); conv => whnf) | (apply kT (by decide); conv => whnf) | (apply kF (by decide); conv => whnf) | (apply kB <;> intro _ <;> conv => whnf) | (refine .inl ⟨_, w1, ?_⟩; conv => whnf) | (refine .inl ⟨_, w2, ?_⟩; conv => whnf) | (refine .inl ⟨_, w3, ?_⟩; conv => whnf) | fail))
    ·exact (hn.symm)
    ·exact (hn.symm)
    ·exact (hn.symm)
    ·exact (hn.symm)
    (refine .r ?_; conv => whnf)
    (repeat' (first | (apply kT (by with_reducible first | rfl | assumption); conv => whnf) | (apply kF (by with_reducible first | rfl | assumption); conv => whnf) | (apply kT (by decide); conv => whnf) | (apply kF (by decide); conv => whnf) | (apply kB <;> intro _ <;> conv => whnf) | fail))
    ·exact (hn.symm)
    rename_i h1 h2 h3 h4 h5
    exfalso
    simp at h1 h2 h3 h4 h5
    simp [cdB, h1, h2, h4, h5] at hcd
    omega
end Go.Ev.Ytljkplahkokpaaa


set_option linter.unusedVariables false
set_option linter.unusedSimpArgs false
set_option maxRecDepth 100000
namespace Go.Ev.Ytljkplahkokpaaa
open Go.Proofs
theorem fillF_room : ∀ (ps : List (List Int)) (acc : List Int), acc.length ≤ 38 →
  (acc.length + ps.flatten.length ≤ 38 → fillF acc ps = (acc ++ ps.flatten, true)) ∧ (38 < acc.length + ps.flatten.length → (fillF acc ps).2 = false)
 | [], acc, h => ⟨fun _ => by simp [fillF], fun h2 => by simp at h2; omega⟩
 | p :: ps, acc, h => by
  rw [fillF, List.flatten_cons, List.length_append]
  split
  ·rename_i h1
   have := fillF_room ps (acc ++ p) (by rw [List.length_append]; exact h1)
   rw [List.length_append] at this
   refine ⟨fun h2 => ?_, fun h2 => this.2 (by omega)⟩
   rw [this.1 (by omega), List.append_assoc]
  ·exact ⟨fun h2 => by omega, fun _ => rfl⟩
def bodyL : List Pt → List Int
 | [] => []
 | p :: r => [((r.length + 1 : Nat) : Int) % 256, p.s / 256 % 256, p.s % 256, p.l / 65536 % 256, p.l / 256 % 256, p.l % 256] ++ (furs (p :: r)).flatten
def cardRaw (c : Cd) : List Int := [c.n / 256 % 256, c.n % 256, c.i % 256, c.m % 256] ++ bodyL c.ps
def pad38 (l : List Int) : List Int := l ++ List.replicate (38 - l.length) 0
def refCard (c : Cd) : List Int := if 38 < (cardRaw c).length then [] else pad38 (cardRaw c) ++ [wsum (pad38 (cardRaw c)) 38 % 251, psum (pad38 (cardRaw c)) 38 % 253]
theorem wsum_congr {a b : List Int} : ∀ k, (∀ i, i < k → a.getD i 0 = b.getD i 0) → wsum a k = wsum b k
 | 0, _ => rfl
 | k + 1, h => by rw [wsum, wsum, wsum_congr k fun i hi => h i (by omega), h k (by omega)]
theorem psum_congr {a b : List Int} : ∀ k, (∀ i, i < k → a.getD i 0 = b.getD i 0) → psum a k = psum b k
 | 0, _ => rfl
 | k + 1, h => by rw [psum, psum, psum_congr k fun i hi => h i (by omega), h k (by omega)]
theorem pad38_len {l : List Int} (h : l.length ≤ 38) : (pad38 l).length = 38 := by unfold pad38; rw [List.length_append, List.length_replicate]; omega
theorem pad_38 {l : List Int} (h : l.length ≤ 38) : pad l = pad38 l ++ [0, 0] := by
 unfold pad pad38
 rw [List.append_assoc, show 40 - l.length = (38 - l.length) + 2 from by omega, ← List.replicate_append_replicate]
 rfl
theorem getD_app {a b : List Int} {i : Nat} (h : i < a.length) : (a ++ b).getD i 0 = a.getD i 0 := by
 simp only [List.getD_eq_getElem?_getD, List.getElem?_append_left h]
theorem chk2_pad {l : List Int} (h : l.length ≤ 38) : chk2 (pad l) = pad38 l ++ [wsum (pad38 l) 38 % 251, psum (pad38 l) 38 % 253] := by
 have h38 := pad38_len h
 rw [pad_38 h]
 unfold chk2
 have e1 : wsum (pad38 l ++ [0, 0]) 38 = wsum (pad38 l) 38 := wsum_congr 38 fun i hi => getD_app (by omega)
 have e2 : psum (pad38 l ++ [0, 0]) 38 = psum (pad38 l) 38 := psum_congr 38 fun i hi => getD_app (by omega)
 rw [e1, e2, List.set_append_right _ _ (by omega), List.set_append_right _ _ (by omega), h38]
 rfl
theorem headL_raw (c : Cd) (h0 : 0 < c.ps.length) : headL c.n c.i c.m c.ps.length c.ps[0] ++ (furs c.ps).flatten = cardRaw c := by
 obtain ⟨n, i, m, ps⟩ := c
 cases ps with
 | nil => simp at h0
 | cons p r => rfl
theorem raw_len {c : Cd} (h0 : 0 < c.ps.length) : (cardRaw c).length = 10 + (furs c.ps).flatten.length := by
 rw [← headL_raw c h0, List.length_append, headL_len]
theorem layF_room {c : Cd} (h0 : 0 < c.ps.length) (h : (cardRaw c).length ≤ 38) : layF c = (cardRaw c, true) := by
 rw [layF_eq c h0, (fillF_room (furs c.ps) _ (by rw [headL_len]; omega)).1 (by rw [headL_len]; rw [raw_len h0] at h; exact h), headL_raw c h0]
theorem layF_no {c : Cd} (h0 : 0 < c.ps.length) (h : 38 < (cardRaw c).length) : (layF c).2 = false := by
 rw [layF_eq c h0, (fillF_room (furs c.ps) _ (by rw [headL_len]; omega)).2 (by rw [headL_len]; rw [raw_len h0] at h; exact h)]
theorem layF_iff {c : Cd} (h0 : 0 < c.ps.length) : (layF c).2 = true ↔ (cardRaw c).length ≤ 38 := by
 constructor
 ·intro h
  rcases Nat.lt_or_ge 38 (cardRaw c).length with h1 | h1
  ·rw [layF_no h0 h1] at h; cases h
  ·exact h1
 ·intro h
  rw [layF_room h0 h]
theorem layB_room {c : Cd} (h0 : 0 < c.ps.length) (h : (cardRaw c).length ≤ 38) : layB c = pad38 (cardRaw c) ++ [wsum (pad38 (cardRaw c)) 38 % 251, psum (pad38 (cardRaw c)) 38 % 253] := by
 unfold layB
 rw [layF_room h0 h]
 exact chk2_pad h
theorem unF_foldI (d : Int) : unF (foldI d) = d := by unfold unF foldI; split <;> split <;> omega
theorem stepR_enc {d : Int} (h1 : -16383 ≤ d) (h2 : d ≤ 16383) (R : List Int) : stepR (stepL d ++ R) = some (d, R) := by
 have hr := foldI_range h1 h2
 unfold stepL
 split
 ·rename_i h
  rw [List.cons_append, stepR, if_pos h, unF_foldI]; rfl
 ·rename_i h
  rw [List.cons_append, stepR, if_neg (by omega), List.cons_append, stepS]
  rw [show (128 + foldI d / 256 - 128) * 256 + foldI d % 256 = foldI d from by omega, unF_foldI]; rfl
theorem ptsR_enc : ∀ (g : List Pt) (p : Pt) (R : List Int), Run (p :: g) → ptsR g.length p ((furs (p :: g)).flatten ++ R) = some g
 | [], p, R, _ => by rw [List.length_nil, ptsR]
 | q :: g, p, R, h => by
  have hf : Fol p q := by simpa using h 0 (by simp)
  rw [furs, List.flatten_cons, furL, List.cons_append, List.cons_append, List.append_assoc, List.length_cons, ptsR_go (stepR_enc hf.2.2.1 hf.2.2.2 _)]
  have e : (⟨p.s + (q.s - p.s), p.l + (q.l - p.l)⟩ : Pt) = q := by
   obtain ⟨a, b⟩ := q
   simp only [Pt.mk.injEq]; omega
  rw [e, ptsR_enc g q R h.tail]
def CdOK (c : Cd) : Prop := (0 ≤ c.n ∧ c.n ≤ 9999) ∧ (1 ≤ c.m ∧ c.m ≤ 20) ∧ (0 ≤ c.i ∧ c.i < c.m) ∧ runB c.ps = true ∧ (cardRaw c).length ≤ 38
theorem furs_flat_len : ∀ (l : List Pt), 2 * (l.length - 1) ≤ (furs l).flatten.length
 | [] => by simp
 | [_] => by simp
 | a :: b :: r => by
  have := furs_flat_len (b :: r)
  have := furL_len a b
  rw [furs, List.flatten_cons, List.length_append]
  simp only [List.length_cons] at *
  omega
theorem CdOK.many {c : Cd} (h : CdOK c) : 0 < c.ps.length ∧ c.ps.length ≤ 15 := by
 obtain ⟨_, _, _, h4, h5⟩ := h
 have h0 := (runB_ok.1 h4).1
 rw [raw_len h0] at h5
 have := furs_flat_len c.ps
 omega
theorem rawR_enc {c : Cd} (h : CdOK c) : rawR (layB c) = some c := by
 obtain ⟨k0, k15⟩ := h.many
 obtain ⟨⟨h1, h2⟩, ⟨h3, h4⟩, ⟨h5, h6⟩, h7, h8⟩ := h
 obtain ⟨_, r2, r3⟩ := runB_ok.1 h7
 rw [layB_room k0 h8]
 obtain ⟨n, i, m, ps⟩ := c
 cases ps with
 | nil => simp at k0
 | cons p g =>
  have hp := ptB_ok.1 (r2 p (by simp))
  simp only [List.length_cons] at k15
  dsimp only at h1 h2 h3 h4 h5 h6
  obtain ⟨Z, hZ⟩ : ∃ Z, Z = List.replicate (38 - (cardRaw ⟨n, i, m, p :: g⟩).length) (0 : Int) := ⟨_, rfl⟩
  have hp38 : pad38 (cardRaw ⟨n, i, m, p :: g⟩) = cardRaw ⟨n, i, m, p :: g⟩ ++ Z := by rw [hZ]; rfl
  have hpts := ptsR_enc g p Z r3
  have hl38 := pad38_len h8
  have htake : (pad38 (cardRaw ⟨n, i, m, p :: g⟩) ++ [wsum (pad38 (cardRaw ⟨n, i, m, p :: g⟩)) 38 % 251, psum (pad38 (cardRaw ⟨n, i, m, p :: g⟩)) 38 % 253]).take 38 = pad38 (cardRaw ⟨n, i, m, p :: g⟩) := by
   rw [List.take_left' hl38]
  have hraw : cardRaw ⟨n, i, m, p :: g⟩ = n / 256 % 256 :: n % 256 :: i % 256 :: m % 256 :: ((g.length + 1 : Nat) : Int) % 256 :: p.s / 256 % 256 :: p.s % 256 :: p.l / 65536 % 256 :: p.l / 256 % 256 :: p.l % 256 :: (furs (p :: g)).flatten := rfl
  generalize hT : [wsum (pad38 (cardRaw ⟨n, i, m, p :: g⟩)) 38 % 251, psum (pad38 (cardRaw ⟨n, i, m, p :: g⟩)) 38 % 253] = T at *
  unfold rawR
  rw [htake, hp38, hraw]
  simp only [List.cons_append, List.getD_cons_succ, List.getD_cons_zero, List.drop_succ_cons, List.drop_zero, List.take_succ_cons, List.take_zero, numB]
  have e1 : (((g.length + 1 : Nat) : Int) % 256).toNat - 1 = g.length := by omega
  have e2 : (0 * 256 + p.s / 256 % 256) * 256 + p.s % 256 = p.s := by omega
  have e3 : ((0 * 256 + p.l / 65536 % 256) * 256 + p.l / 256 % 256) * 256 + p.l % 256 = p.l := by omega
  have e4 : (0 * 256 + n / 256 % 256) * 256 + n % 256 = n := by omega
  have e5 : i % 256 = i := by omega
  have e6 : m % 256 = m := by omega
  rw [e1, e2, e3, e4, e5, e6]
  rw [show (⟨p.s, p.l⟩ : Pt) = p from rfl, hpts]
theorem CdOK.cdB {c : Cd} (h : CdOK c) {k : Int} (hk : k ≠ 0) : cdB k c = true := by
 obtain ⟨⟨h1, h2⟩, ⟨h3, h4⟩, ⟨h5, h6⟩, h7, h8⟩ := h
 simp only [Ev.Ytljkplahkokpaaa.cdB, inB, Bool.and_eq_true, decide_eq_true_eq, bne_iff_ne, ne_eq]
 exact ⟨⟨⟨⟨⟨h1, h2⟩, h3, h4⟩, h6⟩, hk⟩, h7⟩
theorem readR_enc {c : Cd} (h : CdOK c) : readR (layB c) = some c := by
 have h0 := h.many
 have hb : (layB c).getD 4 0 ≠ 0 := by
  rw [layB_room h0.1 h.2.2.2.2]
  obtain ⟨n, i, m, ps⟩ := c
  cases ps with
  | nil => simp at h0
  | cons p g =>
   show ((g.length + 1 : Nat) : Int) % 256 ≠ 0
   simp only [List.length_cons] at h0
   omega
 unfold readR
 rw [rawR_enc h]
 exact if_pos ⟨h.cdB hb, (layF_iff h0.1).2 h.2.2.2.2, rfl⟩
theorem readR_ok {x : List Int} (hb : By x) {c : Cd} (h : readR x = some c) : CdOK c ∧ layB c = x := by
 unfold readR at h
 cases hr : rawR x with
 | none => rw [hr] at h; cases h
 | some q =>
  rw [hr] at h
  simp only at h
  split at h
  ·rename_i hc
   cases h
   obtain ⟨h1, h2, h3⟩ := hc
   have hi : 0 ≤ c.i := by
    unfold rawR at hr
    split at hr
    ·cases hr
    ·cases hr; exact (hb.getD 2).1
   simp only [Ev.Ytljkplahkokpaaa.cdB, inB, Bool.and_eq_true, decide_eq_true_eq, bne_iff_ne, ne_eq] at h1
   obtain ⟨⟨⟨⟨⟨q1, q2⟩, q3, q4⟩, q5⟩, q6⟩, q7⟩ := h1
   exact ⟨⟨⟨q1, q2⟩, ⟨q3, q4⟩, ⟨hi, q5⟩, q7, (layF_iff (runB_ok.1 q7).1).1 h2⟩, h3⟩
  ·cases h
end Go.Ev.Ytljkplahkokpaaa


set_option linter.unusedVariables false
set_option linter.unusedSimpArgs false
set_option maxRecDepth 100000
namespace Go.Ev.Ytljkplahkokpaaa
open Go.Proofs
attribute [local irreducible] Pure Bor Iter Pan
def nCh (l : List Int) : Nat := (l.length + 39) / 40
def chAt (l : List Int) (k : Nat) : List Int := (l.drop (40 * k)).take 40
def chL (l : List Int) : List (List Int) := (List.range (nCh l)).map (chAt l)
theorem chL_len (l : List Int) : (chL l).length = nCh l := by unfold chL; rw [List.length_map, List.length_range]
theorem chL_get (l : List Int) {k : Nat} (h : k < nCh l) : (chL l)[k]? = some (chAt l k) := by unfold chL; rw [List.getElem?_map, List.getElem?_range h]; rfl
theorem nCh_lt {l : List Int} {k : Nat} : k < nCh l ↔ 40 * k < l.length := by unfold nCh; omega
abbrev bytesO (l : List Int) : Ob := .var false 22 [.d (bsD l)]
abbrev chE (c : List Int) : List D := [bsD c]
theorem chunk1_iter (l : List Int) (hl : l.length ≤ 100000) (t : Nat) :
  Iter tb Try.prog 113 [.own 0, .ref 1 0, .ref 2 0] [bytesO l, intO 40] ((chL l).map chE) t [(1, bytesO l), (2, intO 40)] := by
 obtain ⟨els, hels⟩ : ∃ els, els = (chL l).map chE := ⟨_, rfl⟩
 have hlen : els.length = nCh l := by rw [hels, List.length_map, chL_len]
 have hel : ∀ k, k < nCh l → els[k]? = some (chE (chAt l k)) := fun k hk => by rw [hels, List.getElem?_map, chL_get l hk]; rfl
 have hm : ((l.map byC).length : Int) = l.length := by rw [List.length_map]
 obtain ⟨n, hn⟩ : ∃ n, n = min (t + 1) els.length := ⟨_, rfl⟩
 rw [← hels]
 refine iter_of pg Try.func113 (by kernel_rfl) ?_
 rw [← hn]
 conv => whnf
 refine ⟨[], [0, 1, 2, 4], [0, 1, 2], 3, fun m s => ∃ k : Nat, k + m = nCh l ∧ k ≤ t ∧ s = ⟨[(0, .own 0), (1, .ref 1 0), (2, .ref 2 0), (4, .d (dI (40 * k : Nat)))], [(0, .env k), (1, bytesO l), (2, intO 40)], 3⟩, ?_, ?_⟩
 ·conv => whnf
  exact ⟨nCh l, 0, by omega, by omega, rfl⟩
 ·rintro m _ ⟨k, hk, hkt, rfl⟩
  by_cases hkl : k < nCh l
  ·have hk40 := nCh_lt.1 hkl
   have f1 : decide (((40 * k : Nat) : Int) < ((l.map byC).length : Int)) = true := decide_eq_true (by rw [hm]; omega)
   have ed : ((l.map byC).take (l.map byC).length).drop (40 * k) = (l.drop (40 * k)).map byC := by rw [List.take_length, List.map_drop]
   have emin : min (40 : Int) ((((l.map byC).take (l.map byC).length).drop (40 * k)).length : Int) = ((chAt l k).length : Int) := by
    rw [ed, List.length_map, List.length_drop, chAt, List.length_take, List.length_drop]; omega
   have hcl : (chAt l k).length = min 40 (l.length - 40 * k) := by rw [chAt, List.length_take, List.length_drop]
   have ew : IntKind.i64.wrap (((40 * k : Nat) : Int) + ((chAt l k).length : Int)) = ((40 * k + (chAt l k).length : Nat) : Int) := by rw [wrapI (by omega) (by omega)]; omega
   have es : ((l.map byC).take (40 * k + (chAt l k).length)).drop (40 * k) = (chAt l k).map byC := by
    rw [← List.map_take, ← List.map_drop, List.drop_take, Nat.add_sub_cancel_left, hcl, chAt]
    congr 1
    rw [← List.length_drop]
    rcases Nat.le_total 40 (l.drop (40 * k)).length with h | h
    ·rw [Nat.min_eq_left h]
    ·rw [Nat.min_eq_right h, List.take_of_length_le h, List.take_length]
   conv => whnf
   (repeat' (first | (apply kT (by with_reducible first | rfl | assumption); conv => whnf) | (apply kF (by with_reducible first | rfl | assumption); conv => whnf) | (apply kT (by decide); conv => whnf) | (apply kF (by decide); conv => whnf) | (apply kB <;> intro _ <;> conv => whnf) | fail))
   (refine ⟨40 * k, rfl, by rw [List.length_map]; omega, Nat.le_refl _, byL l, ?_⟩; conv => whnf)
   rw [emin]
   (refine ⟨40 * k, rfl, 40 * k + (chAt l k).length, ew, 40 * k + (chAt l k).length, ew, by omega, Nat.le_refl _, by rw [List.length_map]; omega, byL l, _, es, ?_⟩; conv => whnf)
   (refine ⟨decide (k < t), ⟨hkt, hel k hkl, rfl⟩, ?_⟩; conv => whnf)
   (apply kB <;> intro h <;> conv => whnf)
   ·have hkt' : k = t := by simp at h; omega
    (refine ⟨[0, 1, 2], ?_⟩; conv => whnf)
    have e : k + 1 = n := by rw [hn, hlen]; omega
    rw [e]
   ·have hkt' : k < t := by simpa using h
    refine ⟨m - 1, by omega, k + 1, by omega, by omega, ?_⟩
    have e4 : IntKind.i64.wrap (((40 * k : Nat) : Int) + 40) = ((40 * (k + 1) : Nat) : Int) := by rw [wrapI (by omega) (by omega)]; omega
    rw [e4]
  ·have hk40 : ¬ 40 * k < l.length := fun h => hkl (nCh_lt.2 h)
   have f1 : decide (((40 * k : Nat) : Int) < ((l.map byC).length : Int)) = false := decide_eq_false (by rw [hm]; omega)
   conv => whnf
   (apply kF (f1); conv => whnf)
   (refine ⟨[0, 1, 2], ?_⟩; conv => whnf)
   have e : k = n := by rw [hn, hlen]; omega
   rw [e]
theorem chunk_bor (l : List Int) : Bor tb Try.prog 98 [.d (bsD l), .d (dI 40)] [] 2 (.fn (.func 113) [] [.ref 0 0, .ref 1 0]) [(0, bytesO l), (1, intO 40)] := by
 refine bor_of pg Try.func98 (by kernel_rfl) ?_
 conv => whnf
 (repeat' (first | (apply kT (by with_reducible first | rfl | assumption); conv => whnf) | (apply kF (by with_reducible first | rfl | assumption); conv => whnf) | (apply kT (by decide); conv => whnf) | (apply kF (by decide); conv => whnf) | (apply kB <;> intro _ <;> conv => whnf) | fail))
 (refine ⟨[], [0, 1], ?_⟩; conv => whnf)
 exact ⟨rfl, rfl⟩
def blks (l : List Int) : List (List Int × Bool) := (chL l).map fun c => (pad c, decide (c.length = 40))
abbrev bkE (p : List Int × Bool) : List D := [blD p.1, dB p.2]
theorem copyB {c : List Int} (h : c.length ≤ 40) : putAt (List.replicate 40 (A.d (bD 0))) 0 ((((c.map byC).take 40).flatten).map A.d) = (pad c).map fun n => A.d (bD n) := by
 rw [List.take_of_length_le (by rw [List.length_map]; exact h), flatBy, putAt, List.take_zero, List.nil_append, List.length_map, List.drop_replicate, pad, List.map_append, List.map_replicate, Nat.zero_add]
theorem chAt_le (l : List Int) (k : Nat) : (chAt l k).length ≤ 40 := by rw [chAt, List.length_take]; omega
theorem eq40 (c : List Int) : (((c.map byC).length : Int) == 40) = decide (c.length = 40) := by
 rw [List.length_map]
 by_cases h : c.length = 40
 ·rw [h]; rfl
 ·rw [decide_eq_false h, beq_eq_false_iff_ne]; omega
theorem blocks1_iter (l : List Int) (hl : l.length ≤ 100000) (t : Nat) :
  Iter tb Try.prog 97 [.own 0, .ref 1 0] [bytesO l] ((blks l).map bkE) t [(1, bytesO l)] := by
 have hlen : ((blks l).map bkE).length = nCh l := by unfold blks; rw [List.length_map, List.length_map, chL_len]
 have hlen2 : ((chL l).map chE).length = nCh l := by rw [List.length_map, chL_len]
 have hel : ∀ k, k < nCh l → ((blks l).map bkE)[k]? = some (bkE (pad (chAt l k), decide ((chAt l k).length = 40))) := fun k hk => by unfold blks; rw [List.getElem?_map, List.getElem?_map, chL_get l hk]; rfl
 generalize (blks l).map bkE = els at *
 obtain ⟨n, hn⟩ : ∃ n, n = min (t + 1) els.length := ⟨_, rfl⟩
 refine iter_of pg Try.func97 (by kernel_rfl) ?_
 rw [← hn]
 conv => whnf
 (refine .inr ⟨[], 2, _, _, chunk_bor l, ?_⟩; conv => whnf)
 refine ⟨[3, 4], [2], [0, 1, 2], _, t, _, fun k ob n => n = 6 ∧ ob = [(0, .env k), (1, bytesO l), (2, .var false 162 [.own 0])], chunk1_iter l hl t, ?_⟩
 conv => whnf
 refine ⟨⟨rfl, rfl⟩, ?_, ?_⟩
 ·rintro k ds ob1 n1 hi hkt ⟨rfl, rfl⟩
  have hk : k < nCh l := by
   have := (List.getElem?_eq_some_iff.1 hi).1
   rwa [hlen2] at this
  have hds : ds = chE (chAt l k) := by
   rw [List.getElem?_map, chL_get l hk] at hi
   exact (Option.some.inj hi).symm
  subst hds
  have hc := chAt_le l k
  have hp := pad_len hc
  have hy := hel k hk
  rw [← eq40] at hy
  refine ⟨rfl, ?_⟩
  conv => whnf
  (refine .r ⟨Nat.le_refl _, ?_⟩; conv => whnf)
  (refine ⟨byL _, by decide, _, copyB hc, ?_⟩; conv => whnf)
  (refine ⟨(pad (chAt l k)).map bD, loadB hp, lenB hp, ?_⟩; conv => whnf)
  (refine ⟨decide (k < t), ⟨hkt, hy, rfl⟩, ?_⟩; conv => whnf)
  (apply kB <;> intro h <;> conv => whnf)
  ·have hkt' : k = t := by simp at h; omega
   refine ⟨[0, 1, 2], 6, rfl, ?_⟩
   conv => whnf
   refine ⟨hkt', [0, 1], ?_⟩
   conv => whnf
   have e : k + 1 = n := by rw [hn, hlen]; omega
   rw [e]
  ·refine ⟨[0, 1, 2], 6, rfl, ?_⟩
   conv => whnf
   exact ⟨by simpa using h, rfl, rfl⟩
 ·rintro ob1 n1 h1 ⟨rfl, rfl⟩
  conv => whnf
  refine ⟨[0, 1], ?_⟩
  conv => whnf
  have e : ((chL l).map chE).length = n := by rw [hn, hlen]; omega
  rw [e]
theorem blocks_bor (l : List Int) : Bor tb Try.prog 82 [.d (bsD l)] [] 1 (.fn (.func 97) [] [.ref 0 0]) [(0, bytesO l)] := by
 refine bor_of pg Try.func82 (by kernel_rfl) ?_
 conv => whnf
 (refine ⟨[], [0], ?_⟩; conv => whnf)
 exact ⟨rfl, rfl⟩
def findC (es : List Cd) (n i : Int) : Option Cd := es.find? fun c => n == c.n && i == c.i
abbrev plD (n i : Int) : D := .agg [dI n, dI i]
abbrev knE (es : List Cd) : List (D × D) := es.map fun c => (plD c.n c.i, .agg (cdC c))
theorem kn_get (es : List Cd) (n i : Int) : mapGet (knE es) (plD n i) = (findC es n i).map fun c => D.agg (cdC c) := by
 induction es with
 | nil => rfl
 | cons c r ih =>
  simp only [knE, List.map_cons, mapGet, plD, keyEq, eqC, decide_true, cond_true, Bool.and_true] at ih ⊢
  unfold findC at ih ⊢
  rw [List.find?_cons]
  cases h : (n == c.n && i == c.i) with
  | true => rfl
  | false => rw [cond_false]; exact ih
theorem kn_set (es : List Cd) (c : Cd) (h : findC es c.n c.i = none) : mapSet (knE es) (plD c.n c.i) (.agg (cdC c)) = knE (es ++ [c]) := by
 induction es with
 | nil => rfl
 | cons d r ih =>
  unfold findC at h ih
  rw [List.find?_cons] at h
  cases hh : (c.n == d.n && c.i == d.i) with
  | true => rw [hh] at h; cases h
  | false =>
   rw [hh] at h
   simp only [knE, List.map_cons, List.cons_append, mapSet, plD, keyEq, eqC, decide_true, cond_true, Bool.and_true] at ih ⊢
   rw [hh, cond_false, ih h]
abbrev knO (es : List Cd) : Ob := .map 148 129 (knE es)
abbrev zCd : List D := [dI 0, dI 0, dI 0, .v (.slice none 0 0)]
theorem get_some (es : List Cd) {n i : Int} {c : Cd} (h : findC es n i = some c) : Bor tb Try.prog 84 [.own 0, .d (plD n i)] [knO es] 1 (.d (.tup [.agg (cdC c), dB true])) [(0, knO es)] := by
 have hg := kn_get es n i
 rw [h, Option.map_some] at hg
 refine bor_of pg Try.func84 (by kernel_rfl) ?_
 conv => whnf
 (refine ⟨_, hg, ?_⟩; conv => whnf)
 (refine ⟨[], [0], ?_⟩; conv => whnf)
 exact ⟨rfl, rfl⟩
theorem get_none (es : List Cd) {n i : Int} (h : findC es n i = none) : Bor tb Try.prog 84 [.own 0, .d (plD n i)] [knO es] 1 (.d (.tup [.agg zCd, dB false])) [(0, knO es)] := by
 have hg := kn_get es n i
 rw [h, Option.map_none] at hg
 refine bor_of pg Try.func84 (by kernel_rfl) ?_
 conv => whnf
 (refine ⟨_, hg, ?_⟩; conv => whnf)
 (refine ⟨[], [0], ?_⟩; conv => whnf)
 exact ⟨rfl, rfl⟩
end Go.Ev.Ytljkplahkokpaaa


set_option linter.unusedVariables false
set_option linter.unusedSimpArgs false
set_option maxRecDepth 100000
namespace Go.Ev.Ytljkplahkokpaaa
open Go.Proofs
structure Tr where
 es : List Cd
 sp : Int
 tw : Bool
def addC (t : Tr) (p : List Int × Bool) : Tr :=
 match readR p.1 with
 | none => ⟨t.es, t.sp + 1, t.tw⟩
 | some c => bif p.2 then (match findC t.es c.n c.i with
   | some old => ⟨t.es, t.sp, t.tw || !decide (layB old = p.1)⟩
   | none => ⟨t.es ++ [c], t.sp, t.tw⟩) else ⟨t.es, t.sp + 1, t.tw⟩
def addK (t : Tr) (l : List Int) (k : Nat) : Tr := ((blks l).take k).foldl addC t
def addL (t : Tr) (l : List Int) : Tr := (blks l).foldl addC t
theorem blks_len (l : List Int) : (blks l).length = nCh l := by unfold blks; rw [List.length_map, chL_len]
theorem blks_get (l : List Int) {k : Nat} (h : k < nCh l) : (blks l)[k]? = some (pad (chAt l k), decide ((chAt l k).length = 40)) := by
 unfold blks; rw [List.getElem?_map, chL_get l h]; rfl
theorem addK_zero (t : Tr) (l : List Int) : addK t l 0 = t := rfl
theorem addK_all (t : Tr) (l : List Int) : addK t l (nCh l) = addL t l := by unfold addK addL; rw [List.take_of_length_le (Nat.le_of_eq (blks_len l))]
theorem addK_succ (t : Tr) (l : List Int) {k : Nat} (h : k < nCh l) : addK t l (k + 1) = addC (addK t l k) (pad (chAt l k), decide ((chAt l k).length = 40)) := by
 unfold addK
 rw [List.take_add_one, blks_get l h, List.foldl_append]; rfl
def TrOK (t : Tr) (b : Int) : Prop := (∀ c ∈ t.es, CdOK c) ∧ 0 ≤ t.sp ∧ t.sp ≤ b
theorem addC_ok {t : Tr} {b : Int} (h : TrOK t b) {p : List Int × Bool} (hb : By p.1) : TrOK (addC t p) (b + 1) := by
 obtain ⟨h1, h2, h3⟩ := h
 unfold addC
 split
 ·exact ⟨h1, by show 0 ≤ t.sp + 1; omega, by show t.sp + 1 ≤ b + 1; omega⟩
 ·rename_i c hc
  cases p.2 with
  | false => exact ⟨h1, by show 0 ≤ t.sp + 1; omega, by show t.sp + 1 ≤ b + 1; omega⟩
  | true =>
   rw [cond_true]
   split
   ·exact ⟨h1, h2, by show t.sp ≤ b + 1; omega⟩
   ·refine ⟨fun d hd => ?_, h2, by show t.sp ≤ b + 1; omega⟩
    rcases List.mem_append.1 hd with hd | hd
    ·exact h1 d hd
    ·rw [List.mem_singleton.1 hd]; exact (readR_ok hb hc).1
theorem chAt_by {l : List Int} (h : By l) (k : Nat) : By (pad (chAt l k)) := ((h.drop _).take _).pad
theorem addK_ok {t : Tr} {b : Int} {l : List Int} (h : TrOK t b) (hb : By l) : ∀ k, k ≤ nCh l → TrOK (addK t l k) (b + k)
 | 0, _ => by rw [addK_zero]; simpa using h
 | k + 1, hk => by
  rw [addK_succ t l (by omega), Int.natCast_add, Int.natCast_one, ← Int.add_assoc]
  exact addC_ok (addK_ok h hb k (by omega)) (chAt_by hb k)
theorem readD_no2 {l : List Int} (h : readR l = none) : readD l = .tup [.agg zCd, dB false] ∨ ∃ c, readD l = .tup [.agg (cdC c), dB false] := by
 rw [readR] at h
 cases hr : rawR l with
 | none => exact .inl (readD_none hr)
 | some q =>
  rw [hr] at h
  simp only at h
  split at h
  ·cases h
  ·rename_i hc
   cases hb : cdB (l.getD 4 0) q with
   | false => exact .inl (readD_bad hr hb)
   | true =>
    have : ((layF q).2 && decide (layB q = l)) = false := by
     cases h1 : (layF q).2 with
     | false => rfl
     | true =>
      rw [Bool.true_and]
      exact decide_eq_false fun h2 => hc ⟨hb, h1, h2⟩
    exact .inr ⟨q, by rw [readD_ok hr hb, this]⟩
theorem find_mem {es : List Cd} {n i : Int} {c : Cd} (h : findC es n i = some c) : c ∈ es ∧ c.n = n ∧ c.i = i := by
 have h1 := List.mem_of_find?_eq_some h
 have h2 := List.find?_some h
 simp only [Bool.and_eq_true, beq_iff_eq] at h2
 exact ⟨h1, h2.1.symm, h2.2.symm⟩
abbrev trO (j : Nat) (t : Tr) : Ob := .var false 123 [.own j, .d (dI t.sp), .d (dB t.tw)]
attribute [local irreducible] Pure Bor Iter Pan layB layF readR readD findC addC addK addL chAt
theorem add_bor (t : Tr) (l : List Int) (hl : l.length ≤ 100000) (hb : By l) (ht : TrOK t 1000000) :
  Bor tb Try.prog 63 [.ref 0 0, .d (bsD l)] [trO 1 t, knO t.es] 2 (.d (.tup [])) [(0, trO 1 (addL t l)), (1, knO (addL t l).es)] := by
 have hlen : ((blks l).map bkE).length = nCh l := by rw [List.length_map, blks_len]
 have hn100 : nCh l ≤ 100000 := by unfold nCh; omega
 refine bor_of pg Try.func63 (by kernel_rfl) ?_
 conv => whnf
 (refine .inr ⟨[], 1, _, _, blocks_bor l, ?_⟩; conv => whnf)
 refine ⟨[3], [2], [0, 1, 2], _, nCh l, _, fun k ob n => k ≤ nCh l ∧ n = 5 ∧ ob = [(0, trO 1 (addK t l k)), (1, knO (addK t l k).es), (2, .var false 119 [.ref 0 0])], blocks1_iter l hl (nCh l), ?_⟩
 conv => whnf
 refine ⟨⟨by omega, rfl, by rw [addK_zero]⟩, ?_, ?_⟩
 ·rintro k ds ob1 n1 hi hkt ⟨_, rfl, rfl⟩
  have hk : k < nCh l := by
   have := (List.getElem?_eq_some_iff.1 hi).1
   rwa [hlen] at this
  have hds : ds = bkE (pad (chAt l k), decide ((chAt l k).length = 40)) := by
   rw [List.getElem?_map, blks_get l hk] at hi
   exact (Option.some.inj hi).symm
  subst hds
  have hx := pad_len (chAt_le l k)
  have hxb := chAt_by hb k
  have hs := addK_succ t l hk
  obtain ⟨o1, o2, o3⟩ := addK_ok ht hb k (by omega)
  obtain ⟨t2, ht2⟩ : ∃ t2, t2 = addK t l (k + 1) := ⟨_, rfl⟩
  rw [← ht2] at hs
  generalize addK t l k = t1 at *
  generalize pad (chAt l k) = x at *
  generalize decide ((chAt l k).length = 40) = w at *
  have cr := read_pure x hx hxb
  refine ⟨rfl, ?_⟩
  cases hr : readR x with
  | none =>
   have e2 : t2 = ⟨t1.es, t1.sp + 1, t1.tw⟩ := by rw [hs, addC]; simp only [hr]
   have ew : IntKind.i64.wrap (t1.sp + 1) = t1.sp + 1 := wS (by omega) (by omega)
   rcases readD_no2 hr with hd | ⟨c, hd⟩
   all_goals
    rw [hd] at cr
    conv => whnf
    (refine ⟨(x.map bD).map A.d, rfl, by rw [List.length_map]; exact lenB hx, by rw [List.length_map, lenB hx]; decide, oneB _, ?_⟩; conv => whnf)
    (refine ⟨x.map bD, againB rfl hx, lenB hx, ?_⟩; conv => whnf)
    (refine .inl ⟨_, cr, ?_⟩; conv => whnf)
    (repeat' (first | (apply kT (by with_reducible first | rfl | assumption); conv => whnf) | (apply kF (by with_reducible first | rfl | assumption); conv => whnf) | (apply kT (by decide); conv => whnf) | (apply kF (by decide); conv => whnf) | (apply kB <;> intro _ <;> conv => whnf) | fail))
    all_goals
     refine ⟨[0, 1, 2], 5, rfl, ?_⟩
     conv => whnf
     exact ⟨hk, by omega, rfl, by rw [← ht2, e2, ew]⟩
  | some c =>
   have hd := readD_some hr
   rw [hd] at cr
   obtain ⟨hc1, hc2⟩ := readR_ok hxb hr
   cases w with
   | false =>
    have e2 : t2 = ⟨t1.es, t1.sp + 1, t1.tw⟩ := by rw [hs, addC]; simp only [hr, cond_false]
    have ew : IntKind.i64.wrap (t1.sp + 1) = t1.sp + 1 := wS (by omega) (by omega)
    have g1 : (!(x, false).snd) = true := rfl
    conv => whnf
    (refine ⟨(x.map bD).map A.d, rfl, by rw [List.length_map]; exact lenB hx, by rw [List.length_map, lenB hx]; decide, oneB _, ?_⟩; conv => whnf)
    (refine ⟨x.map bD, againB rfl hx, lenB hx, ?_⟩; conv => whnf)
    (refine .inl ⟨_, cr, ?_⟩; conv => whnf)
    (repeat' (first | (apply kT (by with_reducible first | rfl | assumption); conv => whnf) | (apply kF (by with_reducible first | rfl | assumption); conv => whnf) | (apply kT (by decide); conv => whnf) | (apply kF (by decide); conv => whnf) | (apply kB <;> intro _ <;> conv => whnf) | fail))
    refine ⟨[0, 1, 2], 5, rfl, ?_⟩
    conv => whnf
    exact ⟨hk, by omega, rfl, by rw [← ht2, e2, ew]⟩
   | true =>
    cases hf : findC t1.es c.n c.i with
    | none =>
     have e2 : t2 = ⟨t1.es ++ [c], t1.sp, t1.tw⟩ := by rw [hs, addC]; simp only [hr, cond_true, hf]
     have cg := get_none t1.es hf
     have cs := kn_set t1.es c hf
     have g1 : (!(x, true).snd) = false := rfl
     conv => whnf
     (refine ⟨(x.map bD).map A.d, rfl, by rw [List.length_map]; exact lenB hx, by rw [List.length_map, lenB hx]; decide, oneB _, ?_⟩; conv => whnf)
     (refine ⟨x.map bD, againB rfl hx, lenB hx, ?_⟩; conv => whnf)
     (refine .inl ⟨_, cr, ?_⟩; conv => whnf)
     (repeat' (first | (apply kT (by with_reducible first | rfl | assumption); conv => whnf) | (apply kF (by with_reducible first | rfl | assumption); conv => whnf) | (apply kT (by decide); conv => whnf) | (apply kF (by decide); conv => whnf) | (apply kB <;> intro _ <;> conv => whnf) | fail))
     (refine .inr ⟨[1], 1, _, _, cg, ?_⟩; conv => whnf)
     (repeat' (first | (apply kT (by with_reducible first | rfl | assumption); conv => whnf) | (apply kF (by with_reducible first | rfl | assumption); conv => whnf) | (apply kT (by decide); conv => whnf) | (apply kF (by decide); conv => whnf) | (apply kB <;> intro _ <;> conv => whnf) | fail))
     (refine ⟨_, cs, ?_⟩; conv => whnf)
     refine ⟨[0, 1, 2], 5, rfl, ?_⟩
     conv => whnf
     exact ⟨hk, by omega, rfl, by rw [← ht2, e2]⟩
    | some old =>
     have e2 : t2 = ⟨t1.es, t1.sp, t1.tw || !decide (layB old = x)⟩ := by rw [hs, addC]; simp only [hr, cond_true, hf]
     have cg := get_some t1.es hf
     obtain ⟨q1, q2, q3⟩ := find_mem hf
     have hold := o1 old q1
     have hm := hold.many
     have cl := lay_pure' old hm.1 (by omega) (runB_ok.1 hold.2.2.2.1).2.2
     have hll := lay_len hm.1
     have ec := eqC_bD (layB old) x (by rw [hll, hx])
     have fc := fitC_bD 40 _ hll
     have g1 : (!(x, true).snd) = false := rfl
     obtain ⟨es1, sp1, tw1⟩ := t1
     dsimp only at e2 cg o1 o2 o3 hf q1
     cases tw1
     all_goals
      conv => whnf
      (refine ⟨(x.map bD).map A.d, rfl, by rw [List.length_map]; exact lenB hx, by rw [List.length_map, lenB hx]; decide, oneB _, ?_⟩; conv => whnf)
      (refine ⟨x.map bD, againB rfl hx, lenB hx, ?_⟩; conv => whnf)
      (refine .inl ⟨_, cr, ?_⟩; conv => whnf)
      (repeat' (first | (apply kT (by with_reducible first | rfl | assumption); conv => whnf) | (apply kF (by with_reducible first | rfl | assumption); conv => whnf) | (apply kT (by decide); conv => whnf) | (apply kF (by decide); conv => whnf) | (apply kB <;> intro _ <;> conv => whnf) | fail))
      (refine .inr ⟨[1], 1, _, _, cg, ?_⟩; conv => whnf)
      (repeat' (first | (apply kT (by with_reducible first | rfl | assumption); conv => whnf) | (apply kF (by with_reducible first | rfl | assumption); conv => whnf) | (apply kT (by decide); conv => whnf) | (apply kF (by decide); conv => whnf) | (apply kB <;> intro _ <;> conv => whnf) | (refine .inl ⟨_, cl, ?_⟩; conv => whnf) | fail))
      (refine ⟨((layB old).map bD).map A.d, rfl, by rw [List.length_map]; exact lenB hll, by rw [List.length_map, lenB hll]; decide, oneB _, ?_⟩; conv => whnf)
      (repeat' (first | (apply kT (by with_reducible first | rfl | assumption); conv => whnf) | (apply kF (by with_reducible first | rfl | assumption); conv => whnf) | (apply kT (by decide); conv => whnf) | (apply kF (by decide); conv => whnf) | (apply kB <;> intro _ <;> conv => whnf) | (refine ⟨(layB old).map bD, againB rfl hll, lenB hll, ?_⟩; conv => whnf) | (refine ⟨x.map bD, againB rfl hx, lenB hx, ?_⟩; conv => whnf) | (refine ⟨rfl, fc, _, ec, ?_⟩; conv => whnf) | fail))
      refine ⟨[0, 1, 2], 5, rfl, ?_⟩
      conv => whnf
      exact ⟨hk, by omega, rfl, by rw [← ht2, e2]; rfl⟩
 ·rintro ob1 n1 _ ⟨_, rfl, rfl⟩
  conv => whnf
  (refine ⟨[], [0, 1], ?_⟩; conv => whnf)
  rw [hlen, addK_all]
  exact ⟨rfl, rfl⟩
end Go.Ev.Ytljkplahkokpaaa


set_option linter.unusedVariables false
set_option linter.unusedSimpArgs false
set_option maxRecDepth 100000
namespace Go.Proofs
open Go.Shelf Go.RowKit Go.Lib Go.Sort
def Try.sortCd_ren : Go.Shelf.Ren := ⟨fun | 6 => 103 | 15 => 115 | 14 => 114 | 28 => 126 | 29 => 127 | 20 => 118 | 21 => 119 | 22 => 120 | 23 => 121 | 24 => 122 | 25 => 123 | 26 => 124 | 27 => 125 | 46 => 129 | 47 => 130 | 48 => 131 | 49 => 132 | 50 => 133 | 57 => 134 | n => n, fun | 22 => 103 | 24 => 129 | 25 => 175 | 3 => 3 | 39 => 67 | 0 => 0 | 53 => 191 | 55 => 80 | 4 => 4 | 46 => 184 | 45 => 183 | 50 => 188 | 5 => 5 | 9 => 9 | 66 => 194 | 70 => 198 | 76 => 200 | 77 => 201 | n => n, fun | n => n⟩
theorem Try.sortCd : Go.Proofs.SlLaysF0.n6 Try.prog Try.sortCd_ren := {
 mixed := by kernel_rfl
 f6 := ⟨Try.f103.name, by decide, Try.func103.trans (congrArg some (by kernel_rfl))⟩
 f14 := ⟨Try.f114.name, by decide, Try.func114.trans (congrArg some (by kernel_rfl))⟩
 f15 := Try.func115.trans (congrArg some (by kernel_rfl))
 f20 := ⟨Try.f118.name, by decide, Try.func118.trans (congrArg some (by kernel_rfl))⟩
 f21 := ⟨Try.f119.name, by decide, Try.func119.trans (congrArg some (by kernel_rfl))⟩
 f22 := ⟨Try.f120.name, by decide, Try.func120.trans (congrArg some (by kernel_rfl))⟩
 f23 := ⟨Try.f121.name, by decide, Try.func121.trans (congrArg some (by kernel_rfl))⟩
 f24 := ⟨Try.f122.name, by decide, Try.func122.trans (congrArg some (by kernel_rfl))⟩
 f25 := ⟨Try.f123.name, by decide, Try.func123.trans (congrArg some (by kernel_rfl))⟩
 f26 := ⟨Try.f124.name, by decide, Try.func124.trans (congrArg some (by kernel_rfl))⟩
 f27 := ⟨Try.f125.name, by decide, Try.func125.trans (congrArg some (by kernel_rfl))⟩
 f28 := Try.func126.trans (congrArg some (by kernel_rfl))
 f29 := Try.func127.trans (congrArg some (by kernel_rfl))
 f46 := ⟨Try.f129.name, by decide, Try.func129.trans (congrArg some (by kernel_rfl))⟩
 f47 := Try.func130.trans (congrArg some (by kernel_rfl))
 f48 := Try.func131.trans (congrArg some (by kernel_rfl))
 f49 := ⟨Try.f132.name, by decide, Try.func132.trans (congrArg some (by kernel_rfl))⟩
 f50 := ⟨Try.f133.name, by decide, Try.func133.trans (congrArg some (by kernel_rfl))⟩
 f57 := ⟨Try.f134.name, by decide, Try.func134.trans (congrArg some (by kernel_rfl))⟩
 t0 := Try.underlying0
 a0 := Try.isAgg0
 z0 := Try.sizeOf0
 v0 := Try.zeroValue0
 t3 := Try.underlying3
 a3 := Try.isAgg3
 z3 := Try.sizeOf3
 v3 := Try.zeroValue3
 t4 := Try.underlying4
 a4 := Try.isAgg4
 z4 := Try.sizeOf4
 v4 := Try.zeroValue4
 t5 := Try.underlying5
 a5 := Try.isAgg5
 z5 := Try.sizeOf5
 v5 := Try.zeroValue5
 t9 := Try.underlying9
 a9 := Try.isAgg9
 z9 := Try.sizeOf9
 v9 := Try.zeroValue9
 t22 := Try.underlying103
 a22 := Try.isAgg103
 z22 := Try.sizeOf103
 v22 := Try.zeroValue103
 t25 := Try.underlying175
 a25 := Try.isAgg175
 z25 := Try.sizeOf175
 v25 := Try.zeroValue175
 t39 := Try.underlying67
 a39 := Try.isAgg67
 z39 := Try.sizeOf67
 v39 := Try.zeroValue67
 t45 := Try.underlying183
 a45 := Try.isAgg183
 z45 := Try.sizeOf183
 v45 := Try.zeroValue183
 t46 := Try.underlying184
 a46 := Try.isAgg184
 z46 := Try.sizeOf184
 v46 := Try.zeroValue184
 t50 := Try.underlying188
 a50 := Try.isAgg188
 z50 := Try.sizeOf188
 v50 := Try.zeroValue188
 t53 := Try.underlying191
 a53 := Try.isAgg191
 z53 := Try.sizeOf191
 v53 := Try.zeroValue191
 t55 := Try.underlying80
 a55 := Try.isAgg80
 z55 := Try.sizeOf80
 v55 := Try.zeroValue80
 t66 := Try.underlying194
 a66 := Try.isAgg194
 z66 := Try.sizeOf194
 v66 := Try.zeroValue194
 t70 := Try.underlying198
 a70 := Try.isAgg198
 z70 := Try.sizeOf198
 v70 := Try.zeroValue198
 t76 := Try.underlying200
 a76 := Try.isAgg200
 z76 := Try.sizeOf200
 v76 := Try.zeroValue200
 t77 := Try.underlying201
 a77 := Try.isAgg201
 z77 := Try.sizeOf201
 v77 := Try.zeroValue201 }
set_option maxHeartbeats 1000000 in
theorem Try.or2 (b : Nat) (x y r : Int) (hr1 : x ≠ 0 → r = x) (hr2 : x = 0 → r = y) (w : World) (h0 : w.cell? ⟨b, 0, none⟩ = some (.int .i64 x)) (h1 : w.cell? ⟨b, 1, none⟩ = some (.int .i64 y)) :
  Calls Try.prog 105 #[.slice (some ⟨b, 0, none⟩) 2 2] w fun e w' => e = .returned (.int .i64 r) ∧ w' = w := by
 go_enter Try.func105, Try.ntmps105
 go_wp2
 go_loop [5, 8] (fun _ i => ∃ k : Nat, k ≤ 2 ∧ i = .int .i64 k ∧ (0 < k → x = 0) ∧ (1 < k → y = 0)) (fun _ i => match i with | .int _ m => 2 - m.toNat | _ => 0)
 case atStart => exact ⟨0, by omega, rfl, by omega, by omega⟩
 case round =>
  obtain ⟨k, hk, rfl, q1, q2⟩ := hrel
  rcases (show k = 0 ∨ k = 1 ∨ k = 2 by omega) with rfl | rfl | rfl
  ·go_wp2
   ·have hx : (x != 0) = true := by assumption
    rw [bne_iff_ne] at hx
    go_ret
    exact ⟨by rw [hr1 hx]; rfl, rfl⟩
   ·have hx : (x != 0) = false := by assumption
    have hx : x = 0 := by simpa using hx
    exact ⟨⟨1, by omega, rfl, fun _ => hx, by omega⟩, by decide⟩
  ·have hx := q1 (by omega)
   go_wp2
   ·go_ret
    exact ⟨by first | rfl | (rw [hr2 hx]; rfl), rfl⟩
   ·have hy : (y != 0) = false := by assumption
    have hy : y = 0 := by simpa using hy
    exact ⟨⟨2, by omega, rfl, fun _ => hx, fun _ => hy⟩, by decide⟩
  ·have hx := q1 (by omega)
   have hy := q2 (by omega)
   go_wp2
   go_ret
   exact ⟨by first | rfl | (rw [hr2 hx, hy]; rfl), rfl⟩
set_option maxHeartbeats 1000000 in
theorem Try.cmp104 (n1 i1 m1 n2 i2 m2 : Int) (v1 v2 : Value) (r : Int) (hr1 : n1 ≠ n2 → r = n1 - n2) (hr2 : n1 = n2 → r = i1 - i2) (b1 : 0 ≤ n1 ∧ n1 ≤ 1000000) (b2 : 0 ≤ n2 ∧ n2 ≤ 1000000) (b3 : 0 ≤ i1 ∧ i1 ≤ 1000000) (b4 : 0 ≤ i2 ∧ i2 ≤ 1000000) (W : World) :
  Calls Try.prog 104 #[.agg #[.int .i64 n1, .int .i64 i1, .int .i64 m1, v1], .agg #[.int .i64 n2, .int .i64 i2, .int .i64 m2, v2]] W fun e w' => e = .returned (.int .i64 r) ∧ ∃ q os', w' = grow (W.drewN q) os' := by
 go_enter Try.func104, Try.ntmps104
 go_wp2_with (go_at_call 105; refine (Try.or2 _ (n1 - n2) (i1 - i2) r (fun h => hr1 (by omega)) (fun h => hr2 (by omega)) _ ((World.cell?_alloc_at _ _ _ _ (by simp)).trans rfl) ((World.cell?_alloc_at _ _ _ _ (by simp)).trans rfl)).mono ?_; rintro e w' ⟨rfl, rfl⟩)
 go_ret
 exact ⟨rfl, 0, _, by rw [alloc_eq_grow, alloc_eq_grow, alloc_eq_grow, grow_grow, grow_grow]; rfl⟩
end Go.Proofs
namespace Go.Ev.Ytljkplahkokpaaa
open Go.Proofs Go.Sort Go.RowKit
structure CV where
 (n i m : Int)
 (v : Value)
 (hn : 0 ≤ n ∧ n ≤ 1000000)
 (hi : 0 ≤ i ∧ i ≤ 1000000)
 (hv : v.oneCell' = true)
instance : Inhabited CV := ⟨⟨0, 0, 0, .int .i64 0, by decide, by decide, rfl⟩⟩
def CV.enc (x : CV) : List Value := [.int .i64 x.n, .int .i64 x.i, .int .i64 x.m, x.v]
def CV.cf (x y : CV) : Int := if x.n = y.n then x.i - y.i else x.n - y.n
theorem CV.lt (x y : CV) : ltOf CV.cf x y = decide (x.n < y.n ∨ x.n = y.n ∧ x.i < y.i) := by
 unfold ltOf CV.cf
 split
 ·rename_i h
  by_cases h2 : x.i < y.i
  ·rw [decide_eq_true (show x.i - y.i < 0 by omega), decide_eq_true (.inr ⟨h, h2⟩)]
  ·rw [decide_eq_false (show ¬ x.i - y.i < 0 by omega), decide_eq_false (by omega)]
 ·rename_i h
  by_cases h2 : x.n < y.n
  ·rw [decide_eq_true (show x.n - y.n < 0 by omega), decide_eq_true (.inl h2)]
  ·rw [decide_eq_false (show ¬ x.n - y.n < 0 by omega), decide_eq_false (by omega)]
theorem CV.swo : SWO (ltOf CV.cf) where
 irrefl x := by rw [CV.lt]; simp
 trans x y z h1 h2 := by rw [CV.lt] at *; simp only [decide_eq_true_eq] at *; omega
 ntrans x y z h1 h2 := by rw [CV.lt] at *; simp only [decide_eq_false_iff_not] at *; omega
def CdSm (c : Cd) : Prop := (0 ≤ c.n ∧ c.n ≤ 1000000) ∧ 0 ≤ c.i ∧ c.i ≤ 1000000
def RelC (I : Nat → Prop) (h : Array Obj) : List Cd → List CV → Prop
 | [], [] => True
 | c :: es, x :: ds => (x.n = c.n ∧ x.i = c.i ∧ x.m = c.m ∧ RepD I h (ptsD c.ps) x.v) ∧ RelC I h es ds
 | _, _ => False
theorem RelC.perm {I : Nat → Prop} {h : Array Obj} {ds ds' : List CV} (hp : ds.Perm ds') : ∀ {es : List Cd}, RelC I h es ds → ∃ es' : List Cd, es.Perm es' ∧ RelC I h es' ds' := by
 induction hp with
 | nil => exact fun {es} r => ⟨es, .refl _, r⟩
 | cons x _ ih =>
  intro es r
  cases es with
  | nil => exact r.elim
  | cons c es =>
   obtain ⟨es', h1, h2⟩ := ih r.2
   exact ⟨c :: es', h1.cons c, r.1, h2⟩
 | swap x y l =>
  intro es r
  match es, r with
  | c :: d :: es, r => exact ⟨d :: c :: es, .swap _ _ _, r.2.1, r.1, r.2.2⟩
  | [c], r => exact r.2.elim
  | [], r => exact r.elim
 | trans _ _ ih1 ih2 =>
  intro es r
  obtain ⟨e1, p1, r1⟩ := ih1 r
  obtain ⟨e2, p2, r2⟩ := ih2 r1
  exact ⟨e2, p1.trans p2, r2⟩
theorem RelC.length {I : Nat → Prop} {h : Array Obj} : ∀ {es : List Cd} {ds : List CV}, RelC I h es ds → ds.length = es.length
 | [], [], _ => rfl
 | c :: es, x :: ds, r => by rw [List.length_cons, List.length_cons, RelC.length r.2]
 | [], _ :: _, r => r.elim
 | _ :: _, [], r => r.elim
theorem RelC.get {I : Nat → Prop} {h : Array Obj} : ∀ {es : List Cd} {ds : List CV}, RelC I h es ds → ∀ (k : Nat) (h1 : k < es.length), (ds[k]!).n = es[k].n ∧ (ds[k]!).i = es[k].i
 | [], [], _, k, h1 => by simp at h1
 | c :: es, x :: ds, r, 0, h1 => ⟨r.1.1, r.1.2.1⟩
 | c :: es, x :: ds, r, k + 1, h1 => RelC.get r.2 k (by simpa using h1)
 | [], _ :: _, r, _, _ => r.elim
 | _ :: _, [], r, _, _ => r.elim
theorem rel_of_rep {I : Nat → Prop} {h : Array Obj} : ∀ (es : List Cd) (vs : List Value), RepR I h 4 (es.map cdC) vs → (∀ c ∈ es, CdSm c) → ∃ ds : List CV, RelC I h es ds ∧ vs.take (4 * es.length) = ds.flatMap CV.enc
 | [], vs, _, _ => ⟨[], trivial, by simp⟩
 | c :: es, vs, r, hs => by
  rw [List.map_cons, RepR] at r
  obtain ⟨_, r1, r2, r3⟩ := r
  obtain ⟨ds, q1, q2⟩ := rel_of_rep es _ r3 fun d hd => hs d (by simp [hd])
  obtain ⟨v1, s1, e1, a1, r1⟩ := r1.uncons
  obtain ⟨v2, s2, e2, a2, r1⟩ := r1.uncons
  obtain ⟨v3, s3, e3, a3, r1⟩ := r1.uncons
  obtain ⟨v4, s4, e4, a4, r1⟩ := r1.uncons
  rw [RepL] at r1
  subst r1 e4 e3 e2
  rw [RepD] at a1 a2 a3
  subst a1 a2 a3
  have hc : (0 ≤ c.n ∧ c.n ≤ 1000000) ∧ 0 ≤ c.i ∧ c.i ≤ 1000000 := hs c (by simp)
  refine ⟨⟨c.n, c.i, c.m, v4, hc.1, hc.2, r2 v4 (by rw [e1]; simp)⟩ :: ds, ⟨⟨rfl, rfl, rfl, a4⟩, q1⟩, ?_⟩
  rw [List.length_cons, show 4 * (es.length + 1) = 4 + 4 * es.length from by omega, List.take_add, q2]
  exact congrArg (· ++ _) e1
theorem rep_of_rel {I : Nat → Prop} {h : Array Obj} : ∀ (es : List Cd) (ds : List CV) (rest : List Value), RelC I h es ds → RepR I h 4 (es.map cdC) (ds.flatMap CV.enc ++ rest)
 | [], _, _, _ => by rw [List.map_nil, RepR]; trivial
 | c :: es, [], _, r => r.elim
 | c :: es, x :: ds, rest, r => by
  obtain ⟨⟨h1, h2, h3, h4⟩, r⟩ := r
  have e : (x :: ds).flatMap CV.enc ++ rest = .int .i64 x.n :: .int .i64 x.i :: .int .i64 x.m :: x.v :: (ds.flatMap CV.enc ++ rest) := rfl
  rw [List.map_cons, RepR, e]
  refine ⟨rfl, ?_, ?_, rep_of_rel es ds rest r⟩
  ·refine RepL.cons (by rw [RepD, h1]) (RepL.cons (by rw [RepD, h2]) (RepL.cons (by rw [RepD, h3]) (RepL.cons h4 ?_)))
   rw [RepL]; rfl
  ·intro v hv
   simp only [List.take_succ_cons, List.take_zero, List.mem_cons, List.not_mem_nil, or_false] at hv
   rcases hv with rfl | rfl | rfl | rfl
   ·rfl
   ·rfl
   ·rfl
   ·exact x.hv
theorem flat_get : ∀ (ds : List CV) (t : Nat), t < ds.length * 4 → (ds.flatMap CV.enc)[t]? = some ((ds[t / 4]!).enc[t % 4]!)
 | [], t, h => by simp at h
 | x :: ds, t, h => by
  rw [List.flatMap_cons]
  rcases Nat.lt_or_ge t 4 with h4 | h4
  ·rw [List.getElem?_append_left (by exact h4), Nat.div_eq_of_lt h4, Nat.mod_eq_of_lt h4]
   match t, h4 with
   | 0, _ => rfl
   | 1, _ => rfl
   | 2, _ => rfl
   | 3, _ => rfl
  ·rw [List.getElem?_append_right (by exact h4)]
   have e : x.enc.length = 4 := rfl
   rw [e, flat_get ds (t - 4) (by rw [List.length_cons] at h; omega)]
   have e1 : t / 4 = (t - 4) / 4 + 1 := by omega
   have e2 : t % 4 = (t - 4) % 4 := by omega
   rw [e1, e2]
   rfl
theorem flatK_list (d : Array CV) : (flatK CV.enc 4 d).toList = d.toList.flatMap CV.enc := by
 apply List.ext_getElem?
 intro t
 have hlen : (d.toList.flatMap CV.enc).length = d.size * 4 := by
  rw [← Array.length_toList]
  induction d.toList with
  | nil => rfl
  | cons x r ih => rw [List.flatMap_cons, List.length_append, ih, List.length_cons]; show 4 + _ = _; omega
 rcases Nat.lt_or_ge t (d.size * 4) with h | h
 ·rw [flat_get _ _ (by rw [Array.length_toList]; exact h)]
  rw [List.getElem?_eq_getElem (by rw [Array.length_toList, size_flatK]; exact h)]
  congr 1
  have := get_flatK CV.enc 4 d t h
  rw [getElem!_pos _ _ (by rw [size_flatK]; exact h)] at this
  rw [Array.getElem_toList, this]
  have e : d[t / 4]! = d.toList[t / 4]! := by rw [Array.getElem!_toList]
  rw [e]
 ·rw [List.getElem?_eq_none (by rw [Array.length_toList, size_flatK]; exact h), List.getElem?_eq_none (by rw [hlen]; exact h)]
def kLt (a b : Cd) : Prop := a.n < b.n ∨ a.n = b.n ∧ a.i < b.i
theorem sorted_one : ∀ (l l' : List Cd), l.Perm l' → l.Pairwise kLt → l'.Pairwise (fun a b => ¬ kLt b a) → l' = l
 | [], l', hp, _, _ => by simpa using hp.symm
 | a :: l, [], hp, _, _ => by simp at hp
 | a :: l, b :: l', hp, h1, h2 => by
  rw [List.pairwise_cons] at h1 h2
  have hab : a = b := by
   rcases List.mem_cons.1 ((hp.mem_iff (a := b)).2 (by simp)) with h | h
   ·exact h.symm
   ·rcases List.mem_cons.1 ((hp.mem_iff (a := a)).1 (by simp)) with h' | h'
    ·exact h'
    ·exact absurd (h1.1 b h) (h2.1 a h')
  subst hab
  rw [sorted_one l l' ((List.perm_cons a).1 hp) h1.2 h2.2]
theorem putCells_drop (z : Nat) (F c : Array Value) (h : z + F.size ≤ c.size) : (putCells id z F c).toList.drop z = F.toList ++ c.toList.drop (z + F.size) := by
 apply List.ext_getElem?
 intro t
 rw [List.getElem?_drop, Array.getElem?_toList, putCells, Array.getElem?_mapIdx]
 rcases Nat.lt_or_ge t F.size with h1 | h1
 ·rw [List.getElem?_append_left (by rw [Array.length_toList]; exact h1), Array.getElem?_toList, Array.getElem?_eq_getElem (by omega), Array.getElem?_eq_getElem h1, Option.map_some, if_pos ⟨by omega, by omega⟩]
  simp [h1]
 ·rw [List.getElem?_append_right (by rw [Array.length_toList]; exact h1), List.getElem?_drop, Array.getElem?_toList, Array.length_toList, show z + F.size + (t - F.size) = z + t from by omega]
  rcases Nat.lt_or_ge (z + t) c.size with h2 | h2
  ·rw [Array.getElem?_eq_getElem h2, Option.map_some, if_neg (by omega)]
  ·rw [Array.getElem?_eq_none h2]; rfl
theorem sort_inp (es es' : List Cd) (hs : ∀ c ∈ es, CdSm c) (hl : es.length ≤ 100000) (hp : es.Perm es') (ho : es'.Pairwise kLt) :
  InPl tb Try.prog 103 [.fn (.func 104) [] []] 129 (es.map cdC) (es'.map cdC) := by
 refine ⟨⟨Try.f103, Try.func103, by kernel_rfl, by kernel_rfl⟩, fun X g o a w G I i vs m hi rep => ?_⟩
 obtain ⟨v0, q0, rfl, r0, rep⟩ := rep.uncons
 rw [List.map_cons, List.map_nil] at rep
 obtain ⟨v1, q1, rfl, r1, rep⟩ := rep.uncons
 rw [RepAL] at rep
 subst rep
 rw [RepA] at r0
 obtain ⟨⟨gr, hg, rfl⟩, _⟩ := r0
 rw [RepA, RepD] at r1
 obtain ⟨fx, fy, rfl, r2, r3⟩ := r1
 rw [RepL] at r2 r3
 have hx : fx = #[] := by rw [← Array.toList_eq_nil_iff]; exact r2
 have hy : fy = #[] := by rw [← Array.toList_eq_nil_iff]; exact r3
 subst hx hy
 have hob : ArrOK tb G I w.heap i 129 (es.map cdC) := m.objs i _ hi
 have fin : ∀ (w' : World), Mod tb X g (updO o i (.arr 129 (es'.map cdC))) a w' G I → ∃ v, Ending.returned (.tuple #[]) = .returned v ∧ v = .tuple #[] ∧ Mod tb X g (updO o i (.arr 129 (es'.map cdC))) a w' G I := fun w' m' =>
  ⟨_, rfl, rfl, m'⟩
 obtain ⟨y, hy, hob⟩ := hob
 have hy4 : y.size = 4 := by
  have : tb 129 = some y := hy
  conv at this => lhs; whnf
  cases this; rfl
 rcases hob with ⟨he, hG⟩ | ⟨b, z, cap, c, hG, hb, hlc, hcm, hcz, hrep⟩
 ·rw [hG] at hg
  cases hg
  have he : es = [] := by simpa using he
  subst he
  have he' : es' = [] := by simpa using hp.symm
  subst he'
  have hcon := AnyF.slices_SortFunc_none (P := Try.prog) (ρ := Try.sortCd_ren) Try.sortCd none 0 (.func (.func 104) #[] #[]) w
  refine hcon.mono ?_
  rintro e w' ⟨rfl, rfl⟩
  refine fin w' ?_
  have e : updO o i (.arr 129 (([] : List Cd).map cdC)) = o := by
   funext j
   unfold updO
   cases h : Nat.beq i j with
   | true => rw [cond_true, ← Nat.eq_of_beq_eq_true h, hi]
   | false => rfl
  rw [e]
  exact m
 ·rw [hG] at hg
  cases hg
  rw [hy4] at hrep hcz
  obtain ⟨ds, hrel, hflat⟩ := rel_of_rep es _ hrep hs
  have hdl := hrel.length
  have hbs : b < w.heap.size := (Array.getElem?_eq_some_iff.1 hb).1
  have hF : (flatK CV.enc 4 ds.toArray).toList = ds.flatMap CV.enc := flatK_list _
  have hFs : (flatK CV.enc 4 ds.toArray).size = 4 * es.length := by rw [size_flatK]; simp [hdl, Nat.mul_comm]
  have hH : HoldsK CV.enc 4 w b z ds.toArray := by
   intro j hj
   rw [hFs] at hj
   refine ⟨?_, ?_⟩
   ·have e1 : w.cell? ⟨b, z + j, none⟩ = c[z + j]? := by
     unfold World.cell?
     rw [hb]; rfl
    rw [e1, getElem!_pos _ _ (by rw [hFs]; exact hj)]
    have e2 : (c.toList.drop z)[j]? = some ((flatK CV.enc 4 ds.toArray)[j]'(by rw [hFs]; exact hj)) := by
     have e3 : ((c.toList.drop z).take (4 * es.length))[j]? = (c.toList.drop z)[j]? := by rw [List.getElem?_take_of_lt hj]
     rw [← e3, hflat, ← hF, Array.getElem?_toList, Array.getElem?_eq_getElem]
    rw [List.getElem?_drop, Array.getElem?_toList] at e2
    exact e2
   ·unfold World.frozen?
    rw [hb]
    simp
  have eg : ∀ args w, (callFunc 104 args).run Try.prog w = .ok (.enter 104 args) w := enters_of Try.func104 (by kernel_rfl) rfl
  have hcmp : CmpLays Try.prog 104 #[] CV.enc 4 CV.cf b z ds.toArray.size w := fun m' os' dk _ x y =>
   Try.cmp104 x.n x.i x.m y.n y.i y.m x.v y.v (CV.cf x y) (fun h => by unfold CV.cf; rw [if_neg h]) (fun h => by unfold CV.cf; rw [if_pos h]) x.hn y.hn x.hi y.hi _
  have hcon := AnyQ.slices_SortFunc (P := Try.prog) (ρ := Try.sortCd_ren) Try.sortCd 4 Try.isAgg129 Try.sizeOf129 CV.enc (fun _ => rfl) (fun x v hv => by
   simp only [CV.enc, List.mem_cons, List.not_mem_nil, or_false] at hv
   rcases hv with rfl | rfl | rfl | rfl
   ·rfl
   ·rfl
   ·rfl
   ·exact x.hv) CV.cf CV.swo 104 #[] b z cap ds.toArray w eg hcmp hH hbs (by simp [hdl]; omega)
  have hcon : Calls Try.prog 103 #[.slice (some ⟨b, z, none⟩) ds.toArray.size cap, .func (.func 104) #[] #[]] w _ := hcon
  have hsz : ds.toArray.size = (es.map cdC).length := by simp [hdl]
  rw [hsz] at hcon
  refine hcon.mono ?_
  rintro e w' ⟨rfl, d', n, os, hpm, hso, rfl⟩
  refine fin _ ?_
  obtain ⟨p1, _, p3⟩ := hpm
  have p3 : ds.Perm d'.toList := by
   have e1 : (d'.extract 0 (es.map cdC).length) = d' := by rw [← hsz, ← p1]; simp
   have e2 : (ds.toArray.extract 0 (es.map cdC).length) = ds.toArray := by rw [← hsz]; simp
   rw [e1, e2] at p3
   simpa using p3.symm
  obtain ⟨es2, hp2, hrel2⟩ := hrel.perm p3
  have hl2 := hrel2.length
  have hso2 : es2.Pairwise (fun a b => ¬ kLt b a) := by
   rw [List.pairwise_iff_getElem]
   intro i j hi hj hij hk
   have h1 := hrel2.get i hi
   have h2 := hrel2.get j hj
   have h3 := hso i j (by omega) hij (by rw [List.length_map, hp2.length_eq]; exact hj)
   rw [CV.lt, decide_eq_false_iff_not] at h3
   rw [← Array.getElem!_toList, ← Array.getElem!_toList] at h3
   rw [h1.1, h1.2, h2.1, h2.2] at h3
   exact h3 hk
  have he2 : es2 = es' := (sorted_one es' es2 (hp.symm.trans hp2) ho hso2)
  subst he2
  have hF' : (flatK CV.enc 4 d').toList = d'.toList.flatMap CV.enc := flatK_list _
  have hFs' : (flatK CV.enc 4 d').size = 4 * es.length := by rw [size_flatK, p1, hsz, List.length_map, Nat.mul_comm]
  obtain ⟨F, hFd⟩ : ∃ F, F = flatK CV.enc 4 d' := ⟨_, rfl⟩
  have hlc' : es.length ≤ cap := by rw [List.length_map] at hlc; exact hlc
  have hcz' : z + F.size ≤ c.size := by rw [hFd, hFs']; omega
  obtain ⟨w1, hw1⟩ : ∃ w1, w1 = putRow id (Go.Sort.ahead w n) b z F := ⟨_, rfl⟩
  have hsw : sortWorldK CV.enc 4 w b z n d' os = grow w1 os := by rw [hw1, hFd]; rfl
  rw [hsw]
  have hsz1 : w1.heap.size = w.heap.size := by rw [hw1]; simp [putRow, mapBlock, Go.Sort.ahead]
  have hoth : ∀ k, k ≠ b → w1.heap[k]? = w.heap[k]? := fun k hk => by
   rw [hw1]
   simp only [putRow, mapBlock, Go.Sort.ahead, Array.getElem?_modify]
   rw [if_neg (Ne.symm hk)]
  have hb1 : w1.heap[b]? = some (.cells (putCells id z F c) 129 (0, 0)) := by
   rw [hw1]
   simp only [putRow, mapBlock, Go.Sort.ahead, Array.getElem?_modify, if_pos, hb, Option.map_some, onCells]
  have hnI : ¬ I b := (m.own i _ _ b hi rfl hG rfl).1
  have hIh : ∀ k, I k → w1.heap[k]? = w.heap[k]? := fun k hk => hoth k (fun e => hnI (e ▸ hk))
  have hrep1 : RepR I w1.heap 4 (es2.map cdC) ((putCells id z F c).toList.drop z) := by
   rw [putCells_drop z F c hcz', hFd, hF']
   exact RepR.mono (fun _ h => h) hIh _ _ _ (rep_of_rel es2 d'.toList _ hrel2)
  have hlen2 : (es2.map cdC).length = (es.map cdC).length := by rw [List.length_map, List.length_map, hp2.length_eq]
  have m1 := m.set' (i := i) (old := .arr 129 (es.map cdC)) (ob := .arr 129 (es2.map cdC)) hi rfl hG rfl (w' := w1) hsz1 hoth (by rw [hw1]; rfl) (by rw [hw1]; rfl) (by rw [hw1]; rfl)
   ⟨y, hy, .inr ⟨b, z, cap, putCells id z F c, by rw [hlen2]; exact hG, hb1, by rw [hlen2]; exact hlc, hcm, by rw [hy4]; simp only [putCells, Array.size_mapIdx]; exact hcz, by rw [hy4]; exact hrep1⟩⟩ (fun T es _ => ⟨_, _, rfl⟩)
  refine m1.grow (w' := grow w1 os) ⟨rfl, rfl, rfl, by simp [grow], fun k hk => ?_⟩ (fun _ h => h) (fun _ h => .inl h) (fun k hk => ?_)
  ·show (w1.heap ++ os)[k]? = w1.heap[k]?
   rw [Array.getElem?_append_left hk]
  ·have := m1.isz k hk
   show k < (w1.heap ++ os).size
   rw [Array.size_append]; omega
end Go.Ev.Ytljkplahkokpaaa


set_option linter.unusedVariables false
set_option linter.unusedSimpArgs false
set_option maxRecDepth 100000
namespace Go.Ev.Ytljkplahkokpaaa
open Go.Proofs
def ltC (a b : Cd) : Bool := decide (a.n < b.n ∨ a.n = b.n ∧ a.i < b.i)
theorem ltC_iff {a b : Cd} : ltC a b = true ↔ kLt a b := by unfold ltC kLt; rw [decide_eq_true_eq]
def insC (c : Cd) : List Cd → List Cd
 | [] => [c]
 | d :: r => bif ltC c d then c :: d :: r else d :: insC c r
def sortC (l : List Cd) : List Cd := l.foldr insC []
theorem insC_perm (c : Cd) : ∀ l, (insC c l).Perm (c :: l)
 | [] => .refl _
 | d :: r => by
  rw [insC]
  cases ltC c d with
  | true => exact .refl _
  | false => exact ((insC_perm c r).cons d).trans (.swap _ _ _)
theorem sortC_perm : ∀ l, (sortC l).Perm l
 | [] => .refl _
 | c :: l => (insC_perm c _).trans ((sortC_perm l).cons c)
def Keys (l : List Cd) : Prop := l.Pairwise fun a b => ¬ (a.n = b.n ∧ a.i = b.i)
theorem insC_sorted {c : Cd} : ∀ {l : List Cd}, l.Pairwise kLt → (∀ d ∈ l, ¬ (c.n = d.n ∧ c.i = d.i)) → (insC c l).Pairwise kLt
 | [], _, _ => by simp [insC]
 | d :: r, h, hk => by
  rw [List.pairwise_cons] at h
  rw [insC]
  cases hc : ltC c d with
  | true =>
   rw [ltC_iff] at hc
   rw [cond_true, List.pairwise_cons, List.pairwise_cons]
   refine ⟨fun x hx => ?_, h⟩
   rcases List.mem_cons.1 hx with rfl | hx
   ·exact hc
   ·have := h.1 x hx
    unfold kLt at *; omega
  | false =>
   have hc : ¬ kLt c d := fun h => by rw [← ltC_iff, hc] at h; cases h
   rw [cond_false, List.pairwise_cons]
   refine ⟨fun x hx => ?_, insC_sorted h.2 fun x hx => hk x (by simp [hx])⟩
   rcases List.mem_cons.1 ((insC_perm c r).mem_iff.1 hx) with rfl | hx
   ·have := hk d (by simp)
    unfold kLt at *; omega
   ·exact h.1 x hx
theorem sortC_sorted : ∀ {l : List Cd}, Keys l → (sortC l).Pairwise kLt
 | [], _ => List.Pairwise.nil
 | c :: l, h => by
  unfold Keys at h
  rw [List.pairwise_cons] at h
  exact insC_sorted (sortC_sorted h.2) fun d hd => h.1 d ((sortC_perm l).mem_iff.1 hd)
theorem perm_range {l : List Nat} {q : Nat} (hn : l.Nodup) (hb : ∀ r ∈ l, r < q) (hl : l.length = q) : l.Perm (List.range q) := by
 rw [List.perm_iff_count]
 intro r
 by_cases hr : r < q
 ·have hm : r ∈ l := by
   by_cases h : r ∈ l
   ·exact h
   ·have := len_sub (l := r :: l) (m := List.range q) (List.nodup_cons.2 ⟨h, hn⟩) fun x hx => by
     rcases List.mem_cons.1 hx with rfl | hx
     ·exact List.mem_range.2 hr
     ·exact List.mem_range.2 (hb x hx)
    rw [List.length_cons, List.length_range] at this
    omega
  rw [hn.count, if_pos hm, (List.nodup_range (n := q)).count, if_pos (List.mem_range.2 hr)]
 ·rw [List.count_eq_zero_of_not_mem fun h => hr (hb r h), List.count_eq_zero_of_not_mem fun h => hr (List.mem_range.1 h)]
theorem pick_all {α : Type} : ∀ es : List α, (List.range es.length).filterMap (fun r => es[r]?) = es
 | [] => rfl
 | a :: es => by
  rw [List.length_cons, List.range_succ_eq_map, List.filterMap_cons, List.filterMap_map]
  exact congrArg (a :: ·) (pick_all es)
abbrev pickL (es : List Cd) (seen : List Nat) : List Cd := seen.reverse.filterMap fun r => es[r]?
theorem cards_bor (t : Tr) (b : Int) (ht : TrOK t b) (hk : Keys t.es) (hl : t.es.length ≤ 100000) :
  Bor tb Try.prog 85 [.ref 0 0] [trO 1 t, knO t.es] 4 (.d (.seq ((sortC t.es).map cdC))) [(0, trO 1 t), (1, knO t.es), (3, .dead)] := by
 obtain ⟨es, sp, tw⟩ := t
 dsimp only at hk hl
 have hlen : (knE es).length = es.length := List.length_map ..
 have hsm : ∀ c ∈ es, CdSm c := fun c hc => by
  obtain ⟨q1, q2, q3, _⟩ := ht.1 c hc
  unfold CdSm; omega
 refine bor_of pg Try.func85 (by kernel_rfl) ?_
 conv => whnf
 (refine ⟨es.length, hlen, ?_⟩; conv => whnf)
 refine ⟨[.own 2 129], [2, 9], [0, 1, 2, 3], 4, fun m s => ∃ seen : List Nat, seen.length + m = es.length ∧ seen.Nodup ∧ (∀ r ∈ seen, r < es.length) ∧ (pickL es seen).length = seen.length ∧ s = ⟨[(2, .own 3), (9, .ref 2 0)], [(0, trO 1 ⟨es, sp, tw⟩), (1, knO es), (2, .iter 1 es.length seen), (3, .arr 129 ((pickL es seen).map cdC))], 4⟩, ?_, ?_⟩
 ·conv => whnf
  exact ⟨es.length, [], by simp, List.nodup_nil, by simp, rfl, rfl⟩
 ·rintro m _ ⟨seen, hm, hn, hb, hpl, rfl⟩
  conv => whnf
  refine ⟨hlen, ?_, ?_⟩
  ·intro hover
   conv => whnf
   (repeat' (first | (apply kT (by with_reducible first | rfl | assumption); conv => whnf) | (apply kF (by with_reducible first | rfl | assumption); conv => whnf) | (apply kT (by decide); conv => whnf) | (apply kF (by decide); conv => whnf) | (apply kB <;> intro _ <;> conv => whnf) | fail))
   have hp : (pickL es seen).Perm es := by
    have h1 := (perm_range hn hb hover).filterMap fun r => es[r]?
    rw [pick_all] at h1
    exact ((List.reverse_perm seen).filterMap _).trans h1
   have hso := sort_inp (pickL es seen) (sortC es) (fun c hc => hsm c (hp.mem_iff.1 hc)) (by rw [hpl]; omega) (hp.trans (sortC_perm es).symm) (sortC_sorted hk)
   (refine .inp ⟨_, hso, ?_⟩; conv => whnf)
   (refine ⟨[], [0, 1, 3], ?_⟩; conv => whnf)
   exact ⟨rfl, rfl⟩
  ·intro r p hlt hmem hp
   have hr : r < es.length := by
    have := (List.getElem?_eq_some_iff.1 hp).1
    rwa [hlen] at this
   have hpe : p = (plD es[r].n es[r].i, .agg (cdC es[r])) := by
    rw [List.getElem?_map, List.getElem?_eq_getElem hr] at hp
    exact (Option.some.inj hp).symm
   subst hpe
   conv => whnf
   (repeat' (first | (apply kT (by with_reducible first | rfl | assumption); conv => whnf) | (apply kF (by with_reducible first | rfl | assumption); conv => whnf) | (apply kT (by decide); conv => whnf) | (apply kF (by decide); conv => whnf) | (apply kB <;> intro _ <;> conv => whnf) | fail))
   (refine ⟨hlen, _, hp, ?_⟩; conv => whnf)
   (refine .l ?_; conv => whnf)
   (refine ⟨fun el h => by rw [List.mem_singleton.1 h]; rfl, by rw [List.length_map, hpl]; show (seen.length + 1) * 48 ≤ _; omega, ?_⟩; conv => whnf)
   have hpk : pickL es (r :: seen) = pickL es seen ++ [es[r]] := by
    unfold pickL
    rw [List.reverse_cons, List.filterMap_append]
    congr 1
    rw [List.filterMap_cons, List.getElem?_eq_getElem hr]
    rfl
   refine ⟨m - 1, by omega, r :: seen, by rw [List.length_cons]; omega, List.nodup_cons.2 ⟨hmem, hn⟩, fun x hx => ?_, by rw [hpk, List.length_append, hpl]; rfl, ?_⟩
   ·rcases List.mem_cons.1 hx with rfl | hx
    ·exact hr
    ·exact hb x hx
   ·rw [hpk, List.map_append]
    rfl
end Go.Ev.Ytljkplahkokpaaa


set_option linter.unusedVariables false
set_option linter.unusedSimpArgs false
set_option maxRecDepth 100000
namespace Go.Ev.Ytljkplahkokpaaa
open Go.Proofs
def goG : List (List Cd) → Cd → List Cd → Bool → List Cd → List (List Cd) × Bool
 | done, h, t, tw, [] => (done ++ [h :: t], tw)
 | done, h, t, tw, c :: r => bif h.n != c.n then goG (done ++ [h :: t]) c [] tw r else goG done h (t ++ [c]) (tw || h.m != c.m) r
def numG (tw : Bool) : List Cd → List (List Cd) × Bool
 | [] => ([], tw)
 | c :: r => goG [] c [] tw r
theorem goG_nil (done : List (List Cd)) (h : Cd) (t : List Cd) (tw : Bool) : goG done h t tw [] = (done ++ [h :: t], tw) := by rw [goG]
theorem goG_new {done : List (List Cd)} {h : Cd} {t : List Cd} {tw : Bool} {c : Cd} {r : List Cd} (hn : h.n ≠ c.n) : goG done h t tw (c :: r) = goG (done ++ [h :: t]) c [] tw r := by
 rw [goG, bne_iff_ne.2 hn, cond_true]
theorem goG_same {done : List (List Cd)} {h : Cd} {t : List Cd} {tw : Bool} {c : Cd} {r : List Cd} (hn : h.n = c.n) : goG done h t tw (c :: r) = goG done h (t ++ [c]) (tw || h.m != c.m) r := by
 rw [goG, show (h.n != c.n) = false from by simp [hn], cond_false]
abbrev gpD (g : List Cd) : D := .seq (g.map cdC)
abbrev gpsD (G : List (List Cd)) : D := .seq (G.map fun g => [gpD g])
abbrev gA (done : List (List Cd)) : List A := done.map fun g => A.d (gpD g)
theorem invG (ρ : List Nat) (x : A) : ∀ done : List (List Cd), invAL ρ (gA done ++ [x]) = gA done ++ [invA ρ x]
 | [] => rfl
 | g :: r => by rw [gA, List.map_cons, List.cons_append, invAL, invG ρ x r]; rfl
theorem frzG (i : Nat) (d : D) : ∀ done : List (List Cd), frzAL [(i, d)] (gA done ++ [.own i]) = gA done ++ [.d d]
 | [] => by show [frzA [(i, d)] (.own i)] = _; rw [frzA, lookD, beq_self]; rfl
 | g :: r => by rw [gA, List.map_cons, List.cons_append, frzAL, frzG i d r]; rfl
theorem onlyG {os : List Nat} {x : A} (h : x.onlyB os = true) : ∀ done : List (List Cd), A.onlyL os (gA done ++ [x]) = true
 | [] => by show (x.onlyB os && true) = true; rw [h]; rfl
 | g :: r => by rw [gA, List.map_cons, List.cons_append, A.onlyL, onlyG h r]; rfl
attribute [local irreducible] Pure Bor Iter Pan layB layF readR readD findC addC addK addL chAt sortC goG
theorem numbers_bor (t : Tr) (b : Int) (ht : TrOK t b) (hk : Keys t.es) (hl : t.es.length ≤ 100000) :
  Bor tb Try.prog 64 [.ref 0 0] [trO 1 t, knO t.es] 2 (.d (.tup [gpsD (numG t.tw (sortC t.es)).1, dB (numG t.tw (sortC t.es)).2])) [(0, trO 1 t), (1, knO t.es)] := by
 have cc := cards_bor t b ht hk hl
 have hL : (sortC t.es).length ≤ 100000 := by rw [(sortC_perm t.es).length_eq]; exact hl
 generalize hLd : sortC t.es = L at *
 have hm : ((L.map cdC).length : Int) = L.length := by rw [List.length_map]
 obtain ⟨R, hR⟩ : ∃ R, R = numG t.tw L := ⟨_, rfl⟩
 rw [← hR]
 obtain ⟨es, sp, tw⟩ := t
 dsimp only at *
 refine bor_ofV pg Try.func64 (by kernel_rfl) ?_
 conv => whnf
 (refine .inr ⟨[0, 1], 4, _, _, cc, ?_⟩; conv => whnf)
 refine ⟨[.ownw 2 103, .rex], [2, 3, 12, 13, 14], [0, 1, 3, 4], 5, fun m s => ∃ k : Nat, k + m = L.length ∧
  ((k = 0 ∧ s = ⟨[(2, .own 4), (3, .d (dB tw)), (12, .d (.seq (L.map cdC))), (13, .d (dI (L.map cdC).length)), (14, .d (dI k))], [(0, trO 1 ⟨es, sp, tw⟩), (1, knO es), (3, .dead), (4, .arw 103 [])], 5⟩) ∨
   ∃ (done : List (List Cd)) (h : Cd) (t : List Cd) (tw1 : Bool), 0 < k ∧ done.length ≤ k ∧ t.length ≤ k ∧ R = goG done h t tw1 (L.drop k) ∧
   s = ⟨[(2, .own 4), (3, .d (dB tw1)), (12, .d (.seq (L.map cdC))), (13, .d (dI (L.map cdC).length)), (14, .d (dI k))], [(0, trO 1 ⟨es, sp, tw⟩), (1, knO es), (3, .arr 129 ((h :: t).map cdC)), (4, .arw 103 ((done.map fun g => A.d (gpD g)) ++ [.own 3]))], 5⟩), ?_, ?_⟩
 ·conv => whnf
  (refine ⟨rfl, ?_⟩; conv => whnf)
  exact ⟨L.length, 0, by omega, .inl ⟨rfl, rfl⟩⟩
 ·rintro m _ ⟨k, hk, ⟨rfl, rfl⟩ | ⟨done, h, t, tw1, hk0, hd, ht, hRk, rfl⟩⟩
  ·by_cases hkl : 0 < L.length
   ·have f1 : decide (((0 : Nat) : Int) < ((L.map cdC).length : Int)) = true := decide_eq_true (by rw [hm]; omega)
    conv => whnf
    (repeat' (first | (apply kT (by with_reducible first | rfl | assumption); conv => whnf) | (apply kF (by with_reducible first | rfl | assumption); conv => whnf) | (apply kT (by decide); conv => whnf) | (apply kF (by decide); conv => whnf) | (apply kB <;> intro _ <;> conv => whnf) | (refine ⟨0, _, rfl, getcd _ 0 hkl, rfl, ?_⟩; conv => whnf) | fail))
    (refine .r ⟨by decide, ?_⟩; conv => whnf)
    (refine .r ⟨[], ?_⟩; conv => whnf)
    (refine ⟨_, rfl, ?_⟩; conv => whnf)
    (refine ⟨by decide, [.own 118], rfl, ?_⟩; conv => whnf)
    (refine ⟨[0, 1, 2, 118, 120], ?_⟩; conv => whnf)
    (refine ⟨rfl, ?_⟩; conv => whnf)
    refine ⟨m - 1, by omega, 1, by omega, .inr ⟨[], L[0], [], tw, by omega, by simp, by simp, ?_, ?_⟩⟩
    ·have e : L = L[0] :: L.drop 1 := (List.drop_eq_getElem_cons hkl).trans rfl
     rw [hR]
     conv => lhs; rw [e]
     rfl
    ·rw [w1 0 (by omega)]
     rfl
   ·have f1 : decide (((0 : Nat) : Int) < ((L.map cdC).length : Int)) = false := decide_eq_false (by rw [hm]; omega)
    have hL0 : L = [] := List.eq_nil_of_length_eq_zero (by omega)
    have e : R = ([], tw) := by rw [hR, hL0]; rfl
    rw [e]
    conv => whnf
    (apply kF (f1); conv => whnf)
    refine ⟨[.toArr 4], ?_⟩
    conv => whnf
    (refine ⟨[], rfl, ?_⟩; conv => whnf)
    (refine ⟨_, rfl, ?_⟩; conv => whnf)
    (refine ⟨[], [0, 1], ?_⟩; conv => whnf)
    exact ⟨rfl, rfl⟩
  ·have hAl : ((done.map fun g => A.d (gpD g)) ++ [A.own 3]).length = done.length + 1 := by simp
   have hAg : ((done.map fun g => A.d (gpD g)) ++ [A.own 3])[done.length]? = some (A.own 3) := by simp
   have hAs : ∀ x, ((done.map fun g => A.d (gpD g)) ++ [A.own 3]).set done.length x = (done.map fun g => A.d (gpD g)) ++ [x] := fun x => by
    rw [List.set_append_right _ _ (by simp)]; simp
   have ew : IntKind.i64.wrap ((((done.map fun g => A.d (gpD g)) ++ [A.own 3]).length : Int) - 1) = ((done.length : Nat) : Int) := by rw [hAl, wrapI (by omega) (by omega)]; omega
   have f2 : decide (IntKind.i64.wrap ((((done.map fun g => A.d (gpD g)) ++ [A.own 3]).length : Int) - 1) < 0) = false := decide_eq_false (by rw [ew]; omega)
   by_cases hkl : k < L.length
   ·have f1 : decide ((k : Int) < ((L.map cdC).length : Int)) = true := decide_eq_true (by rw [hm]; omega)
    have hLk : L.drop k = L[k] :: L.drop (k + 1) := List.drop_eq_getElem_cons hkl
    rw [hLk] at hRk
    by_cases hn : h.n = L[k].n
    ·have f3 : (h.n != L[k].n) = false := by simp [hn]
     conv => whnf
     (repeat' (first | (apply kT (by with_reducible first | rfl | assumption); conv => whnf) | (apply kF (by with_reducible first | rfl | assumption); conv => whnf) | (apply kT (by decide); conv => whnf) | (apply kF (by decide); conv => whnf) | (apply kB <;> intro _ <;> conv => whnf) | (refine ⟨k, _, rfl, getcd _ k hkl, rfl, ?_⟩; conv => whnf) | (refine ⟨done.length, ew, by rw [hAl]; omega, ?_⟩; conv => whnf) | (refine ⟨_, hAg, ?_⟩; conv => whnf) | (refine ⟨0, rfl, by simp, ?_⟩; conv => whnf) | (refine ⟨cdC h, rfl, ?_⟩; conv => whnf) | (refine ⟨dI h.n, rfl, ?_⟩; conv => whnf) | (refine ⟨dI h.m, rfl, ?_⟩; conv => whnf) | fail))
     all_goals
      (refine .l ?_; conv => whnf)
      (refine ⟨fun el hel => by rw [List.mem_singleton.1 hel]; rfl, by rw [List.length_map]; show ((t.length + 1) + 1) * 48 ≤ _; omega, ?_⟩; conv => whnf)
      (repeat' (first | (apply kT (by with_reducible first | rfl | assumption); conv => whnf) | (apply kF (by with_reducible first | rfl | assumption); conv => whnf) | (apply kT (by decide); conv => whnf) | (apply kF (by decide); conv => whnf) | (apply kB <;> intro _ <;> conv => whnf) | (refine ⟨done.length, ew, by rw [hAl]; omega, ?_⟩; conv => whnf) | (refine ⟨by rw [hAl]; omega, _, hAs _, ?_⟩; conv => whnf) | fail))
     ·(refine ⟨[0, 1, 2, 294, 4], ?_⟩; conv => whnf)
      (refine ⟨by rw [invG]; exact onlyG rfl _, ?_⟩; conv => whnf)
      refine ⟨m - 1, by omega, k + 1, by omega, .inr ⟨done, h, t ++ [L[k]], true, by omega, by omega, by rw [List.length_append]; simp; omega, ?_, ?_⟩⟩
      ·rename_i htw
       rw [hRk, goG_same hn, htw]; rfl
      ·rw [invG, w1 k (by omega), ← List.cons_append, List.map_append]
       rfl
     ·(refine ⟨[0, 1, 2, 294, 4], ?_⟩; conv => whnf)
      (refine ⟨by rw [invG]; exact onlyG rfl _, ?_⟩; conv => whnf)
      refine ⟨m - 1, by omega, k + 1, by omega, .inr ⟨done, h, t ++ [L[k]], h.m != L[k].m, by omega, by omega, by rw [List.length_append]; simp; omega, ?_, ?_⟩⟩
      ·rename_i htw
       rw [hRk, goG_same hn, htw]; rfl
      ·rw [invG, w1 k (by omega), ← List.cons_append, List.map_append]
       rfl
    ·have f3 : (h.n != L[k].n) = true := by simp [hn]
     conv => whnf
     (repeat' (first | (apply kT (by with_reducible first | rfl | assumption); conv => whnf) | (apply kF (by with_reducible first | rfl | assumption); conv => whnf) | (apply kT (by decide); conv => whnf) | (apply kF (by decide); conv => whnf) | (apply kB <;> intro _ <;> conv => whnf) | (refine ⟨k, _, rfl, getcd _ k hkl, rfl, ?_⟩; conv => whnf) | (refine ⟨done.length, ew, by rw [hAl]; omega, ?_⟩; conv => whnf) | (refine ⟨_, hAg, ?_⟩; conv => whnf) | (refine ⟨0, rfl, by simp, ?_⟩; conv => whnf) | (refine ⟨cdC h, rfl, ?_⟩; conv => whnf) | (refine ⟨dI h.n, rfl, ?_⟩; conv => whnf) | fail))
     (refine .r ⟨by decide, ?_⟩; conv => whnf)
     (refine .r ⟨[3], ?_⟩; conv => whnf)
     (refine ⟨_, rfl, ?_⟩; conv => whnf)
     (refine ⟨_, frzG 3 _ done, ?_⟩; conv => whnf)
     (refine ⟨by rw [List.length_append, List.length_map]; show (done.length + 1 + 1) * 24 ≤ _; omega, gA (done ++ [h :: t]) ++ [.own 118], by rw [show gA (done ++ [h :: t]) = gA done ++ [A.d (gpD (h :: t))] from List.map_append]; rfl, ?_⟩; conv => whnf)
     (refine ⟨[0, 1, 2, 118, 120], ?_⟩; conv => whnf)
     (refine ⟨by rw [invG]; exact onlyG rfl _, ?_⟩; conv => whnf)
     refine ⟨m - 1, by omega, k + 1, by omega, .inr ⟨done ++ [h :: t], L[k], [], tw1, by omega, by rw [List.length_append]; simp; omega, by simp, ?_, ?_⟩⟩
     ·rw [hRk, goG_new hn]
     ·rw [invG, w1 k (by omega)]
      rfl
   ·have f1 : decide ((k : Int) < ((L.map cdC).length : Int)) = false := decide_eq_false (by rw [hm]; omega)
    have hRe : R = (done ++ [h :: t], tw1) := by rw [hRk, List.drop_of_length_le (by omega), goG_nil]
    rw [hRe]
    conv => whnf
    (apply kF (f1); conv => whnf)
    refine ⟨[.frz 3, .toArr 4], ?_⟩
    conv => whnf
    (refine ⟨_, frzG 3 _ done, ?_⟩; conv => whnf)
    (refine ⟨(done ++ [h :: t]).map gpD, by rw [List.map_map, List.map_append]; rfl, ?_⟩; conv => whnf)
    (refine ⟨_, rfl, ?_⟩; conv => whnf)
    (refine ⟨[], [0, 1], ?_⟩; conv => whnf)
    refine ⟨?_, rfl⟩
    rw [List.map_map]
    rfl
end Go.Ev.Ytljkplahkokpaaa


set_option linter.unusedVariables false
set_option linter.unusedSimpArgs false
set_option maxRecDepth 100000
namespace Go.Ev.Ytljkplahkokpaaa
open Go.Proofs
theorem find_none {es : List Cd} {n i : Int} (h : findC es n i = none) : ∀ c ∈ es, ¬ (c.n = n ∧ c.i = i) := by
 intro c hc hh
 unfold findC at h
 rw [List.find?_eq_none] at h
 have := h c hc
 simp only [hh.1, hh.2, beq_self_eq_true, Bool.and_self, not_true_eq_false] at this
theorem addC_keys {t : Tr} (h : Keys t.es) (p : List Int × Bool) : Keys (addC t p).es := by
 unfold addC
 split
 ·exact h
 ·rename_i c hc
  cases p.2 with
  | false => exact h
  | true =>
   rw [cond_true]
   split
   ·exact h
   ·rename_i hf
    refine List.pairwise_append.2 ⟨h, List.pairwise_singleton _ _, fun a ha b hb => ?_⟩
    rw [List.mem_singleton.1 hb]
    exact find_none hf a ha
theorem addC_len (t : Tr) (p : List Int × Bool) : (addC t p).es.length ≤ t.es.length + 1 := by
 unfold addC
 split
 ·exact Nat.le_succ _
 ·cases p.2 with
  | false => exact Nat.le_succ _
  | true =>
   rw [cond_true]
   split
   ·exact Nat.le_succ _
   ·rw [List.length_append]; exact Nat.le_refl _
theorem fold_keys : ∀ (ps : List (List Int × Bool)) {t : Tr}, Keys t.es → Keys (ps.foldl addC t).es
 | [], _, h => h
 | p :: ps, _, h => fold_keys ps (addC_keys h p)
theorem fold_len : ∀ (ps : List (List Int × Bool)) (t : Tr), (ps.foldl addC t).es.length ≤ t.es.length + ps.length
 | [], _ => Nat.le_refl _
 | p :: ps, t => by
  have := fold_len ps (addC t p)
  have := addC_len t p
  rw [List.foldl_cons, List.length_cons]
  omega
theorem addL_keys {t : Tr} (h : Keys t.es) (l : List Int) : Keys (addL t l).es := fold_keys _ h
theorem addL_len (t : Tr) (l : List Int) : (addL t l).es.length ≤ t.es.length + nCh l := by
 have := fold_len (blks l) t
 rw [blks_len] at this
 exact this
theorem addL_ok {t : Tr} {b : Int} {l : List Int} (h : TrOK t b) (hb : By l) : TrOK (addL t l) (b + nCh l) := by
 rw [← addK_all]
 exact addK_ok h hb _ (Nat.le_refl _)
def tr0 : Tr := ⟨[], 0, false⟩
theorem tr0_ok : TrOK tr0 0 := ⟨fun c hc => by simp [tr0] at hc, Int.le_refl _, Int.le_refl _⟩
theorem tr0_keys : Keys tr0.es := List.Pairwise.nil
theorem TrOK.le {t : Tr} {b b' : Int} (h : TrOK t b) (hb : b ≤ b') : TrOK t b' := ⟨h.1, h.2.1, Int.le_trans h.2.2 hb⟩
def openL (l : List Int) : List (List Cd) × Int × Int :=
 if 8000 < l.length then ([], 0, 3)
 else bif (numG (addL tr0 l).tw (sortC (addL tr0 l).es)).2 then ([], 0, 6) else ((numG (addL tr0 l).tw (sortC (addL tr0 l).es)).1, (addL tr0 l).sp, 0)
abbrev openD (r : List (List Cd) × Int × Int) : D := .tup [gpsD r.1, dI r.2.1, dI r.2.2]
attribute [local irreducible] Pure Bor Iter Pan layB layF readR readD findC addC addK addL chAt sortC goG numG
theorem open_pure (l : List Int) (hl : l.length ≤ 100000) (hb : By l) : Pure Try.prog 51 [bsD l] (openD (openL l)) := by
 have hm : ((l.map byC).length : Int) = l.length := by rw [List.length_map]
 refine pure_of pg Try.func51 (by kernel_rfl) ?_
 by_cases h8 : 8000 < l.length
 ·have f1 : decide (((l.map byC).length : Int) > 8000) = true := decide_eq_true (by rw [hm]; omega)
  have e : openL l = ([], 0, 3) := if_pos h8
  rw [e]
  conv => whnf
  (apply kT (f1); conv => whnf)
  rfl
 ·have f1 : decide (((l.map byC).length : Int) > 8000) = false := decide_eq_false (by rw [hm]; omega)
  have ca := add_bor tr0 l hl hb (tr0_ok.le (by decide))
  have hok := addL_ok tr0_ok hb
  have hlen := addL_len tr0 l
  have hn100 : nCh l ≤ 100000 := by unfold nCh; omega
  have cn := numbers_bor (addL tr0 l) _ hok (addL_keys tr0_keys l) (by have : tr0.es.length = 0 := rfl; omega)
  have e : openL l = bif (numG (addL tr0 l).tw (sortC (addL tr0 l).es)).2 then ([], 0, 6) else ((numG (addL tr0 l).tw (sortC (addL tr0 l).es)).1, (addL tr0 l).sp, 0) := if_neg h8
  rw [e]
  cases ht : (numG (addL tr0 l).tw (sortC (addL tr0 l).es)).2 with
  | true =>
   rw [ht] at cn
   conv => whnf
   (apply kF (f1); conv => whnf)
   (refine .inr ⟨[1, 0], 2, _, _, ca, ?_⟩; conv => whnf)
   (refine .inr ⟨[1, 0], 2, _, _, cn, ?_⟩; conv => whnf)
   (repeat' (first | (apply kT (by with_reducible first | rfl | assumption); conv => whnf) | (apply kF (by with_reducible first | rfl | assumption); conv => whnf) | (apply kT (by decide); conv => whnf) | (apply kF (by decide); conv => whnf) | (apply kB <;> intro _ <;> conv => whnf) | fail))
   rfl
  | false =>
   rw [ht] at cn
   conv => whnf
   (apply kF (f1); conv => whnf)
   (refine .inr ⟨[1, 0], 2, _, _, ca, ?_⟩; conv => whnf)
   (refine .inr ⟨[1, 0], 2, _, _, cn, ?_⟩; conv => whnf)
   (repeat' (first | (apply kT (by with_reducible first | rfl | assumption); conv => whnf) | (apply kF (by with_reducible first | rfl | assumption); conv => whnf) | (apply kT (by decide); conv => whnf) | (apply kF (by decide); conv => whnf) | (apply kB <;> intro _ <;> conv => whnf) | fail))
   rfl
end Go.Ev.Ytljkplahkokpaaa

