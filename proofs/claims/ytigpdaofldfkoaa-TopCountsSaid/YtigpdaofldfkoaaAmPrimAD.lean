/- What the lock of package sync calls, as the small machine is told it: the marks of the race detector, and whole numbers of 32 bits that are changed in one step. -/
import Derived.Test.YtigpdaofldfkoaaAmPrimD
set_option linter.unusedVariables false
namespace Go.Am
def mark0Prim : List AV → AHeap → Option (AV × AHeap)
  | [], H => some (.tup [], H)
  | _, _ => none
def markPrim : List AV → AHeap → Option (AV × AHeap)
  | [.ptr (some _)], H => some (.tup [], H)
  | _, _ => none
def casPrim : List AV → AHeap → Option (AV × AHeap)
  | [.ptr (some (b, off)), .int .i32 x, .int .i32 y], H =>
    match H.ld b off 1 with
    | some [.int .i32 z] => if z = x then (match H.st b off [.int .i32 y] with | some H' => some (.bool true, H') | none => none) else none
    | _ => none
  | _, _ => none
def addPrim : List AV → AHeap → Option (AV × AHeap)
  | [.ptr (some (b, off)), .int .i32 y], H =>
    match H.ld b off 1 with
    | some [.int .i32 x] => match H.st b off [.int .i32 (IntKind.i32.wrap (x + y))] with | some H' => some (.int .i32 (IntKind.i32.wrap (x + y)), H') | none => none
    | _ => none
  | _, _ => none
end Go.Am
