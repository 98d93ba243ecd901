/-
  The types and functions of the program Tryd, as instances for the engine: printed by gentypes.py.
  No condition.
-/
import Derived.Test.YtjeaofabpfgngaaDoorProg
import Derived.Test.YtjeaofabpfgngaaDoorK7
import Derived.KernelRfl
namespace Go.Proofs.YtjeaofabpfgngaaDoor
open Go.KE
instance : TS Tryd.prog 1 := ⟨by kernel_rfl⟩
instance : TZ Tryd.prog 1 (.nilFunc) 1 8 := ⟨by kernel_rfl⟩
instance : TU Tryd.prog 2 (.int .i64) := ⟨Tryd.underlying2⟩
instance : TS Tryd.prog 2 := ⟨by kernel_rfl⟩
instance : TZ Tryd.prog 2 (.int .i64 0) 1 8 := ⟨by kernel_rfl⟩
instance : TU Tryd.prog 3 (.int .i64) := ⟨Tryd.underlying3⟩
instance : TS Tryd.prog 3 := ⟨by kernel_rfl⟩
instance : TZ Tryd.prog 3 (.int .i64 0) 1 8 := ⟨by kernel_rfl⟩
instance : TU Tryd.prog 4 .bool := ⟨Tryd.underlying4⟩
instance : TS Tryd.prog 4 := ⟨by kernel_rfl⟩
instance : TZ Tryd.prog 4 (.bool false) 1 1 := ⟨by kernel_rfl⟩
instance : TU Tryd.prog 5 (.int .u8) := ⟨Tryd.underlying5⟩
instance : TS Tryd.prog 5 := ⟨by kernel_rfl⟩
instance : TZ Tryd.prog 5 (.int .u8 0) 1 1 := ⟨by kernel_rfl⟩
instance : TU Tryd.prog 6 (.int .u8) := ⟨Tryd.underlying6⟩
instance : TS Tryd.prog 6 := ⟨by kernel_rfl⟩
instance : TZ Tryd.prog 6 (.int .u8 0) 1 1 := ⟨by kernel_rfl⟩
instance : TA Tryd.prog 7 := ⟨by kernel_rfl⟩
instance : TZ Tryd.prog 7 (.agg #[.int .i64 0, .int .i64 0, .bool false, .int .u8 0]) 4 24 := ⟨by kernel_rfl⟩
instance : TB0 Tryd.prog 7 [.int .i64 0, .int .i64 0, .bool false, .int .u8 0] := ⟨by kernel_rfl⟩
instance : TB Tryd.prog 7 [[(.int .i64 0)], [(.int .i64 0)], [(.bool false)], [(.int .u8 0)]] := ⟨by kernel_rfl⟩
instance : TF Tryd.prog 7 0 0 := ⟨fun _ _ _ => by kernel_rfl⟩
instance : TF Tryd.prog 7 1 1 := ⟨fun _ _ _ => by kernel_rfl⟩
instance : TF Tryd.prog 7 2 2 := ⟨fun _ _ _ => by kernel_rfl⟩
instance : TF Tryd.prog 7 3 3 := ⟨fun _ _ _ => by kernel_rfl⟩
instance : TA Tryd.prog 8 := ⟨by kernel_rfl⟩
instance : TZ Tryd.prog 8 (.agg #[.int .i64 0, .int .i64 0, .bool false, .int .u8 0]) 4 24 := ⟨by kernel_rfl⟩
instance : TB0 Tryd.prog 8 [.int .i64 0, .int .i64 0, .bool false, .int .u8 0] := ⟨by kernel_rfl⟩
instance : TB Tryd.prog 8 [[(.int .i64 0)], [(.int .i64 0)], [(.bool false)], [(.int .u8 0)]] := ⟨by kernel_rfl⟩
instance : TF Tryd.prog 8 0 0 := ⟨fun _ _ _ => by kernel_rfl⟩
instance : TF Tryd.prog 8 1 1 := ⟨fun _ _ _ => by kernel_rfl⟩
instance : TF Tryd.prog 8 2 2 := ⟨fun _ _ _ => by kernel_rfl⟩
instance : TF Tryd.prog 8 3 3 := ⟨fun _ _ _ => by kernel_rfl⟩
instance : TU Tryd.prog 9 .string := ⟨Tryd.underlying9⟩
instance : TS Tryd.prog 9 := ⟨by kernel_rfl⟩
instance : TZ Tryd.prog 9 (.string ⟨#[]⟩) 1 16 := ⟨by kernel_rfl⟩
instance : TU Tryd.prog 10 .string := ⟨Tryd.underlying10⟩
instance : TS Tryd.prog 10 := ⟨by kernel_rfl⟩
instance : TZ Tryd.prog 10 (.string ⟨#[]⟩) 1 16 := ⟨by kernel_rfl⟩
instance : TU Tryd.prog 11 .string := ⟨Tryd.underlying11⟩
instance : TS Tryd.prog 11 := ⟨by kernel_rfl⟩
instance : TZ Tryd.prog 11 (.string ⟨#[]⟩) 1 16 := ⟨by kernel_rfl⟩
instance : TU Tryd.prog 12 (.int .u64) := ⟨Tryd.underlying12⟩
instance : TS Tryd.prog 12 := ⟨by kernel_rfl⟩
instance : TZ Tryd.prog 12 (.int .u64 0) 1 8 := ⟨by kernel_rfl⟩
instance : TA Tryd.prog 13 := ⟨by kernel_rfl⟩
instance : TZ Tryd.prog 13 (.agg #[.string ⟨#[]⟩, .int .u64 0]) 2 24 := ⟨by kernel_rfl⟩
instance : TB0 Tryd.prog 13 [.string ⟨#[]⟩, .int .u64 0] := ⟨by kernel_rfl⟩
instance : TB Tryd.prog 13 [[(.string ⟨#[]⟩)], [(.int .u64 0)]] := ⟨by kernel_rfl⟩
instance : TF Tryd.prog 13 0 0 := ⟨fun _ _ _ => by kernel_rfl⟩
instance : TF Tryd.prog 13 1 1 := ⟨fun _ _ _ => by kernel_rfl⟩
instance : TA Tryd.prog 14 := ⟨by kernel_rfl⟩
instance : TZ Tryd.prog 14 (.agg #[.string ⟨#[]⟩, .int .u64 0]) 2 24 := ⟨by kernel_rfl⟩
instance : TB0 Tryd.prog 14 [.string ⟨#[]⟩, .int .u64 0] := ⟨by kernel_rfl⟩
instance : TB Tryd.prog 14 [[(.string ⟨#[]⟩)], [(.int .u64 0)]] := ⟨by kernel_rfl⟩
instance : TF Tryd.prog 14 0 0 := ⟨fun _ _ _ => by kernel_rfl⟩
instance : TF Tryd.prog 14 1 1 := ⟨fun _ _ _ => by kernel_rfl⟩
instance : TU Tryd.prog 15 (.pointer 148) := ⟨Tryd.underlying15⟩
instance : TS Tryd.prog 15 := ⟨by kernel_rfl⟩
instance : TZ Tryd.prog 15 (.pointer none) 1 8 := ⟨by kernel_rfl⟩
instance : TU Tryd.prog 16 (.pointer 151) := ⟨Tryd.underlying16⟩
instance : TS Tryd.prog 16 := ⟨by kernel_rfl⟩
instance : TZ Tryd.prog 16 (.pointer none) 1 8 := ⟨by kernel_rfl⟩
instance : TU Tryd.prog 17 (.pointer 158) := ⟨Tryd.underlying17⟩
instance : TS Tryd.prog 17 := ⟨by kernel_rfl⟩
instance : TZ Tryd.prog 17 (.pointer none) 1 8 := ⟨by kernel_rfl⟩
instance : TA Tryd.prog 18 := ⟨by kernel_rfl⟩
instance : TZ Tryd.prog 18 (.agg #[.pointer none]) 1 8 := ⟨by kernel_rfl⟩
instance : TB0 Tryd.prog 18 [.pointer none] := ⟨by kernel_rfl⟩
instance : TB Tryd.prog 18 [[(.pointer none)]] := ⟨by kernel_rfl⟩
instance : TF Tryd.prog 18 0 0 := ⟨fun _ _ _ => by kernel_rfl⟩
instance : TA Tryd.prog 19 := ⟨by kernel_rfl⟩
instance : TZ Tryd.prog 19 (.agg #[.pointer none]) 1 8 := ⟨by kernel_rfl⟩
instance : TB0 Tryd.prog 19 [.pointer none] := ⟨by kernel_rfl⟩
instance : TB Tryd.prog 19 [[(.pointer none)]] := ⟨by kernel_rfl⟩
instance : TF Tryd.prog 19 0 0 := ⟨fun _ _ _ => by kernel_rfl⟩
instance : TS Tryd.prog 20 := ⟨by kernel_rfl⟩
instance : TZ Tryd.prog 20 (.nilIface) 1 16 := ⟨by kernel_rfl⟩
instance : TU Tryd.prog 21 (.int .i32) := ⟨Tryd.underlying21⟩
instance : TS Tryd.prog 21 := ⟨by kernel_rfl⟩
instance : TZ Tryd.prog 21 (.int .i32 0) 1 4 := ⟨by kernel_rfl⟩
instance : TA Tryd.prog 22 := ⟨by kernel_rfl⟩
instance : TZ Tryd.prog 22 (.agg #[.int .i64 0, .string ⟨#[]⟩, .string ⟨#[]⟩, .int .i64 0, .int .i64 0, .int .i64 0, .int .i64 0, .int .i64 0, .int .u8 0, .string ⟨#[]⟩, .string ⟨#[]⟩, .string ⟨#[]⟩, .int .i64 0, .int .i64 0]) 14 152 := ⟨by kernel_rfl⟩
instance : TB0 Tryd.prog 22 [.int .i64 0, .string ⟨#[]⟩, .string ⟨#[]⟩, .int .i64 0, .int .i64 0, .int .i64 0, .int .i64 0, .int .i64 0, .int .u8 0, .string ⟨#[]⟩, .string ⟨#[]⟩, .string ⟨#[]⟩, .int .i64 0, .int .i64 0] := ⟨by kernel_rfl⟩
instance : TB Tryd.prog 22 [[(.int .i64 0)], [(.string ⟨#[]⟩)], [(.string ⟨#[]⟩)], [(.int .i64 0)], [(.int .i64 0)], [(.int .i64 0)], [(.int .i64 0)], [(.int .i64 0)], [(.int .u8 0)], [(.string ⟨#[]⟩)], [(.string ⟨#[]⟩)], [(.string ⟨#[]⟩)], [(.int .i64 0)], [(.int .i64 0)]] := ⟨by kernel_rfl⟩
instance : TF Tryd.prog 22 0 0 := ⟨fun _ _ _ => by kernel_rfl⟩
instance : TF Tryd.prog 22 1 1 := ⟨fun _ _ _ => by kernel_rfl⟩
instance : TF Tryd.prog 22 2 2 := ⟨fun _ _ _ => by kernel_rfl⟩
instance : TF Tryd.prog 22 3 3 := ⟨fun _ _ _ => by kernel_rfl⟩
instance : TF Tryd.prog 22 4 4 := ⟨fun _ _ _ => by kernel_rfl⟩
instance : TF Tryd.prog 22 5 5 := ⟨fun _ _ _ => by kernel_rfl⟩
instance : TF Tryd.prog 22 6 6 := ⟨fun _ _ _ => by kernel_rfl⟩
instance : TF Tryd.prog 22 7 7 := ⟨fun _ _ _ => by kernel_rfl⟩
instance : TF Tryd.prog 22 8 8 := ⟨fun _ _ _ => by kernel_rfl⟩
instance : TF Tryd.prog 22 9 9 := ⟨fun _ _ _ => by kernel_rfl⟩
instance : TF Tryd.prog 22 10 10 := ⟨fun _ _ _ => by kernel_rfl⟩
instance : TF Tryd.prog 22 11 11 := ⟨fun _ _ _ => by kernel_rfl⟩
instance : TF Tryd.prog 22 12 12 := ⟨fun _ _ _ => by kernel_rfl⟩
instance : TF Tryd.prog 22 13 13 := ⟨fun _ _ _ => by kernel_rfl⟩
instance : TA Tryd.prog 23 := ⟨by kernel_rfl⟩
instance : TZ Tryd.prog 23 (.agg #[.int .i64 0, .string ⟨#[]⟩, .string ⟨#[]⟩, .int .i64 0, .int .i64 0, .int .i64 0, .int .i64 0, .int .i64 0, .int .u8 0, .string ⟨#[]⟩, .string ⟨#[]⟩, .string ⟨#[]⟩, .int .i64 0, .int .i64 0]) 14 152 := ⟨by kernel_rfl⟩
instance : TB0 Tryd.prog 23 [.int .i64 0, .string ⟨#[]⟩, .string ⟨#[]⟩, .int .i64 0, .int .i64 0, .int .i64 0, .int .i64 0, .int .i64 0, .int .u8 0, .string ⟨#[]⟩, .string ⟨#[]⟩, .string ⟨#[]⟩, .int .i64 0, .int .i64 0] := ⟨by kernel_rfl⟩
instance : TB Tryd.prog 23 [[(.int .i64 0)], [(.string ⟨#[]⟩)], [(.string ⟨#[]⟩)], [(.int .i64 0)], [(.int .i64 0)], [(.int .i64 0)], [(.int .i64 0)], [(.int .i64 0)], [(.int .u8 0)], [(.string ⟨#[]⟩)], [(.string ⟨#[]⟩)], [(.string ⟨#[]⟩)], [(.int .i64 0)], [(.int .i64 0)]] := ⟨by kernel_rfl⟩
instance : TF Tryd.prog 23 0 0 := ⟨fun _ _ _ => by kernel_rfl⟩
instance : TF Tryd.prog 23 1 1 := ⟨fun _ _ _ => by kernel_rfl⟩
instance : TF Tryd.prog 23 2 2 := ⟨fun _ _ _ => by kernel_rfl⟩
instance : TF Tryd.prog 23 3 3 := ⟨fun _ _ _ => by kernel_rfl⟩
instance : TF Tryd.prog 23 4 4 := ⟨fun _ _ _ => by kernel_rfl⟩
instance : TF Tryd.prog 23 5 5 := ⟨fun _ _ _ => by kernel_rfl⟩
instance : TF Tryd.prog 23 6 6 := ⟨fun _ _ _ => by kernel_rfl⟩
instance : TF Tryd.prog 23 7 7 := ⟨fun _ _ _ => by kernel_rfl⟩
instance : TF Tryd.prog 23 8 8 := ⟨fun _ _ _ => by kernel_rfl⟩
instance : TF Tryd.prog 23 9 9 := ⟨fun _ _ _ => by kernel_rfl⟩
instance : TF Tryd.prog 23 10 10 := ⟨fun _ _ _ => by kernel_rfl⟩
instance : TF Tryd.prog 23 11 11 := ⟨fun _ _ _ => by kernel_rfl⟩
instance : TF Tryd.prog 23 12 12 := ⟨fun _ _ _ => by kernel_rfl⟩
instance : TF Tryd.prog 23 13 13 := ⟨fun _ _ _ => by kernel_rfl⟩
instance : TU Tryd.prog 24 (.array 512 5) := ⟨Tryd.underlying24⟩
instance : TA Tryd.prog 24 := ⟨by kernel_rfl⟩
instance : TZ Tryd.prog 24 (.agg (List.replicate 512 (.int .u8 0)).toArray) 512 512 := ⟨by kernel_rfl⟩
instance : TB0 Tryd.prog 24 (List.replicate 512 (.int .u8 0)) := ⟨by kernel_rfl⟩
instance : TU Tryd.prog 25 (.int .i64) := ⟨Tryd.underlying25⟩
instance : TS Tryd.prog 25 := ⟨by kernel_rfl⟩
instance : TZ Tryd.prog 25 (.int .i64 0) 1 8 := ⟨by kernel_rfl⟩
instance : TS Tryd.prog 27 := ⟨by kernel_rfl⟩
instance : TZ Tryd.prog 27 (.nilFunc) 1 8 := ⟨by kernel_rfl⟩
instance : TS Tryd.prog 28 := ⟨by kernel_rfl⟩
instance : TZ Tryd.prog 28 (.nilFunc) 1 8 := ⟨by kernel_rfl⟩
instance : TS Tryd.prog 29 := ⟨by kernel_rfl⟩
instance : TZ Tryd.prog 29 (.nilFunc) 1 8 := ⟨by kernel_rfl⟩
instance : TU Tryd.prog 30 (.slice 5) := ⟨Tryd.underlying30⟩
instance : TS Tryd.prog 30 := ⟨by kernel_rfl⟩
instance : TZ Tryd.prog 30 (.slice none 0 0) 1 24 := ⟨by kernel_rfl⟩
instance : TS Tryd.prog 32 := ⟨by kernel_rfl⟩
instance : TZ Tryd.prog 32 (.nilFunc) 1 8 := ⟨by kernel_rfl⟩
instance : TS Tryd.prog 33 := ⟨by kernel_rfl⟩
instance : TZ Tryd.prog 33 (.nilFunc) 1 8 := ⟨by kernel_rfl⟩
instance : TS Tryd.prog 34 := ⟨by kernel_rfl⟩
instance : TZ Tryd.prog 34 (.nilFunc) 1 8 := ⟨by kernel_rfl⟩
instance : TS Tryd.prog 35 := ⟨by kernel_rfl⟩
instance : TZ Tryd.prog 35 (.nilFunc) 1 8 := ⟨by kernel_rfl⟩
instance : TS Tryd.prog 36 := ⟨by kernel_rfl⟩
instance : TZ Tryd.prog 36 (.nilFunc) 1 8 := ⟨by kernel_rfl⟩
instance : TU Tryd.prog 38 (.map 3 9) := ⟨Tryd.underlying38⟩
instance : TS Tryd.prog 38 := ⟨by kernel_rfl⟩
instance : TZ Tryd.prog 38 (.map none) 1 8 := ⟨by kernel_rfl⟩
instance : TS Tryd.prog 39 := ⟨by kernel_rfl⟩
instance : TZ Tryd.prog 39 (.nilFunc) 1 8 := ⟨by kernel_rfl⟩
instance : TS Tryd.prog 40 := ⟨by kernel_rfl⟩
instance : TZ Tryd.prog 40 (.nilFunc) 1 8 := ⟨by kernel_rfl⟩
instance : TU Tryd.prog 41 (.pointer 23) := ⟨Tryd.underlying41⟩
instance : TS Tryd.prog 41 := ⟨by kernel_rfl⟩
instance : TZ Tryd.prog 41 (.pointer none) 1 8 := ⟨by kernel_rfl⟩
instance : TU Tryd.prog 42 (.slice 49) := ⟨Tryd.underlying42⟩
instance : TS Tryd.prog 42 := ⟨by kernel_rfl⟩
instance : TZ Tryd.prog 42 (.slice none 0 0) 1 24 := ⟨by kernel_rfl⟩
instance : TS Tryd.prog 43 := ⟨by kernel_rfl⟩
instance : TZ Tryd.prog 43 (.nilFunc) 1 8 := ⟨by kernel_rfl⟩
instance : TA Tryd.prog 44 := ⟨by kernel_rfl⟩
instance : TZ Tryd.prog 44 (.agg #[.int .i64 0, .int .i64 0]) 2 16 := ⟨by kernel_rfl⟩
instance : TB0 Tryd.prog 44 [.int .i64 0, .int .i64 0] := ⟨by kernel_rfl⟩
instance : TB Tryd.prog 44 [[(.int .i64 0)], [(.int .i64 0)]] := ⟨by kernel_rfl⟩
instance : TF Tryd.prog 44 0 0 := ⟨fun _ _ _ => by kernel_rfl⟩
instance : TF Tryd.prog 44 1 1 := ⟨fun _ _ _ => by kernel_rfl⟩
instance : TA Tryd.prog 45 := ⟨by kernel_rfl⟩
instance : TZ Tryd.prog 45 (.agg #[.int .i64 0, .int .i64 0]) 2 16 := ⟨by kernel_rfl⟩
instance : TB0 Tryd.prog 45 [.int .i64 0, .int .i64 0] := ⟨by kernel_rfl⟩
instance : TB Tryd.prog 45 [[(.int .i64 0)], [(.int .i64 0)]] := ⟨by kernel_rfl⟩
instance : TF Tryd.prog 45 0 0 := ⟨fun _ _ _ => by kernel_rfl⟩
instance : TF Tryd.prog 45 1 1 := ⟨fun _ _ _ => by kernel_rfl⟩
instance : TS Tryd.prog 46 := ⟨by kernel_rfl⟩
instance : TZ Tryd.prog 46 (.nilFunc) 1 8 := ⟨by kernel_rfl⟩
instance : TU Tryd.prog 47 (.slice 3) := ⟨Tryd.underlying47⟩
instance : TS Tryd.prog 47 := ⟨by kernel_rfl⟩
instance : TZ Tryd.prog 47 (.slice none 0 0) 1 24 := ⟨by kernel_rfl⟩
instance : TA Tryd.prog 48 := ⟨by kernel_rfl⟩
instance : TZ Tryd.prog 48 (.agg #[.int .i64 0, .int .i64 0, .nilFunc, .slice none 0 0]) 4 48 := ⟨by kernel_rfl⟩
instance : TB0 Tryd.prog 48 [.int .i64 0, .int .i64 0, .nilFunc, .slice none 0 0] := ⟨by kernel_rfl⟩
instance : TB Tryd.prog 48 [[.int .i64 0, .int .i64 0], [(.nilFunc)], [(.slice none 0 0)]] := ⟨by kernel_rfl⟩
instance : TF Tryd.prog 48 0 0 := ⟨fun _ _ _ => by kernel_rfl⟩
instance : TF Tryd.prog 48 1 2 := ⟨fun _ _ _ => by kernel_rfl⟩
instance : TF Tryd.prog 48 2 3 := ⟨fun _ _ _ => by kernel_rfl⟩
instance : TA Tryd.prog 49 := ⟨by kernel_rfl⟩
instance : TZ Tryd.prog 49 (.agg #[.int .i64 0, .int .i64 0, .nilFunc, .slice none 0 0]) 4 48 := ⟨by kernel_rfl⟩
instance : TB0 Tryd.prog 49 [.int .i64 0, .int .i64 0, .nilFunc, .slice none 0 0] := ⟨by kernel_rfl⟩
instance : TB Tryd.prog 49 [[.int .i64 0, .int .i64 0], [(.nilFunc)], [(.slice none 0 0)]] := ⟨by kernel_rfl⟩
instance : TF Tryd.prog 49 0 0 := ⟨fun _ _ _ => by kernel_rfl⟩
instance : TF Tryd.prog 49 1 2 := ⟨fun _ _ _ => by kernel_rfl⟩
instance : TF Tryd.prog 49 2 3 := ⟨fun _ _ _ => by kernel_rfl⟩
instance : TU Tryd.prog 50 (.pointer 9) := ⟨Tryd.underlying50⟩
instance : TS Tryd.prog 50 := ⟨by kernel_rfl⟩
instance : TZ Tryd.prog 50 (.pointer none) 1 8 := ⟨by kernel_rfl⟩
instance : TS Tryd.prog 51 := ⟨by kernel_rfl⟩
instance : TZ Tryd.prog 51 (.nilFunc) 1 8 := ⟨by kernel_rfl⟩
instance : TU Tryd.prog 52 (.pointer 24) := ⟨Tryd.underlying52⟩
instance : TS Tryd.prog 52 := ⟨by kernel_rfl⟩
instance : TZ Tryd.prog 52 (.pointer none) 1 8 := ⟨by kernel_rfl⟩
instance : TU Tryd.prog 53 (.slice 57) := ⟨Tryd.underlying53⟩
instance : TS Tryd.prog 53 := ⟨by kernel_rfl⟩
instance : TZ Tryd.prog 53 (.slice none 0 0) 1 24 := ⟨by kernel_rfl⟩
instance : TS Tryd.prog 54 := ⟨by kernel_rfl⟩
instance : TZ Tryd.prog 54 (.nilFunc) 1 8 := ⟨by kernel_rfl⟩
instance : TS Tryd.prog 55 := ⟨by kernel_rfl⟩
instance : TZ Tryd.prog 55 (.nilFunc) 1 8 := ⟨by kernel_rfl⟩
instance : TA Tryd.prog 56 := ⟨by kernel_rfl⟩
instance : TZ Tryd.prog 56 (.agg #[.int .i64 0, .int .i64 0, .nilFunc, .int .i64 0]) 4 32 := ⟨by kernel_rfl⟩
instance : TB0 Tryd.prog 56 [.int .i64 0, .int .i64 0, .nilFunc, .int .i64 0] := ⟨by kernel_rfl⟩
instance : TB Tryd.prog 56 [[.int .i64 0, .int .i64 0], [(.nilFunc)], [(.int .i64 0)]] := ⟨by kernel_rfl⟩
instance : TF Tryd.prog 56 0 0 := ⟨fun _ _ _ => by kernel_rfl⟩
instance : TF Tryd.prog 56 1 2 := ⟨fun _ _ _ => by kernel_rfl⟩
instance : TF Tryd.prog 56 2 3 := ⟨fun _ _ _ => by kernel_rfl⟩
instance : TA Tryd.prog 57 := ⟨by kernel_rfl⟩
instance : TZ Tryd.prog 57 (.agg #[.int .i64 0, .int .i64 0, .nilFunc, .int .i64 0]) 4 32 := ⟨by kernel_rfl⟩
instance : TB0 Tryd.prog 57 [.int .i64 0, .int .i64 0, .nilFunc, .int .i64 0] := ⟨by kernel_rfl⟩
instance : TB Tryd.prog 57 [[.int .i64 0, .int .i64 0], [(.nilFunc)], [(.int .i64 0)]] := ⟨by kernel_rfl⟩
instance : TF Tryd.prog 57 0 0 := ⟨fun _ _ _ => by kernel_rfl⟩
instance : TF Tryd.prog 57 1 2 := ⟨fun _ _ _ => by kernel_rfl⟩
instance : TF Tryd.prog 57 2 3 := ⟨fun _ _ _ => by kernel_rfl⟩
instance : TU Tryd.prog 58 (.pointer 2) := ⟨Tryd.underlying58⟩
instance : TS Tryd.prog 58 := ⟨by kernel_rfl⟩
instance : TZ Tryd.prog 58 (.pointer none) 1 8 := ⟨by kernel_rfl⟩
instance : TS Tryd.prog 59 := ⟨by kernel_rfl⟩
instance : TZ Tryd.prog 59 (.nilFunc) 1 8 := ⟨by kernel_rfl⟩
instance : TS Tryd.prog 61 := ⟨by kernel_rfl⟩
instance : TZ Tryd.prog 61 (.nilFunc) 1 8 := ⟨by kernel_rfl⟩
instance : TU Tryd.prog 62 (.slice 9) := ⟨Tryd.underlying62⟩
instance : TS Tryd.prog 62 := ⟨by kernel_rfl⟩
instance : TZ Tryd.prog 62 (.slice none 0 0) 1 24 := ⟨by kernel_rfl⟩
instance : TA Tryd.prog 63 := ⟨by kernel_rfl⟩
instance : TZ Tryd.prog 63 (.agg #[.int .i64 0, .int .i64 0]) 2 16 := ⟨by kernel_rfl⟩
instance : TB0 Tryd.prog 63 [.int .i64 0, .int .i64 0] := ⟨by kernel_rfl⟩
instance : TB Tryd.prog 63 [[(.int .i64 0)], [(.int .i64 0)]] := ⟨by kernel_rfl⟩
instance : TF Tryd.prog 63 0 0 := ⟨fun _ _ _ => by kernel_rfl⟩
instance : TF Tryd.prog 63 1 1 := ⟨fun _ _ _ => by kernel_rfl⟩
instance : TA Tryd.prog 64 := ⟨by kernel_rfl⟩
instance : TZ Tryd.prog 64 (.agg #[.int .i64 0, .int .i64 0]) 2 16 := ⟨by kernel_rfl⟩
instance : TB0 Tryd.prog 64 [.int .i64 0, .int .i64 0] := ⟨by kernel_rfl⟩
instance : TB Tryd.prog 64 [[(.int .i64 0)], [(.int .i64 0)]] := ⟨by kernel_rfl⟩
instance : TF Tryd.prog 64 0 0 := ⟨fun _ _ _ => by kernel_rfl⟩
instance : TF Tryd.prog 64 1 1 := ⟨fun _ _ _ => by kernel_rfl⟩
instance : TU Tryd.prog 65 (.slice 64) := ⟨Tryd.underlying65⟩
instance : TS Tryd.prog 65 := ⟨by kernel_rfl⟩
instance : TZ Tryd.prog 65 (.slice none 0 0) 1 24 := ⟨by kernel_rfl⟩
instance : TS Tryd.prog 67 := ⟨by kernel_rfl⟩
instance : TZ Tryd.prog 67 (.nilFunc) 1 8 := ⟨by kernel_rfl⟩
instance : TS Tryd.prog 68 := ⟨by kernel_rfl⟩
instance : TZ Tryd.prog 68 (.nilFunc) 1 8 := ⟨by kernel_rfl⟩
instance : TU Tryd.prog 69 (.slice 74) := ⟨Tryd.underlying69⟩
instance : TS Tryd.prog 69 := ⟨by kernel_rfl⟩
instance : TZ Tryd.prog 69 (.slice none 0 0) 1 24 := ⟨by kernel_rfl⟩
instance : TS Tryd.prog 70 := ⟨by kernel_rfl⟩
instance : TZ Tryd.prog 70 (.nilFunc) 1 8 := ⟨by kernel_rfl⟩
instance : TS Tryd.prog 71 := ⟨by kernel_rfl⟩
instance : TZ Tryd.prog 71 (.nilFunc) 1 8 := ⟨by kernel_rfl⟩
instance : TS Tryd.prog 72 := ⟨by kernel_rfl⟩
instance : TZ Tryd.prog 72 (.nilFunc) 1 8 := ⟨by kernel_rfl⟩
instance : TA Tryd.prog 73 := ⟨by kernel_rfl⟩
instance : TZ Tryd.prog 73 (.agg #[.int .i64 0, .int .i64 0, .int .i64 0, .bool false]) 4 32 := ⟨by kernel_rfl⟩
instance : TB0 Tryd.prog 73 [.int .i64 0, .int .i64 0, .int .i64 0, .bool false] := ⟨by kernel_rfl⟩
instance : TB Tryd.prog 73 [[.int .i64 0, .int .i64 0], [(.int .i64 0)], [(.bool false)]] := ⟨by kernel_rfl⟩
instance : TF Tryd.prog 73 0 0 := ⟨fun _ _ _ => by kernel_rfl⟩
instance : TF Tryd.prog 73 1 2 := ⟨fun _ _ _ => by kernel_rfl⟩
instance : TF Tryd.prog 73 2 3 := ⟨fun _ _ _ => by kernel_rfl⟩
instance : TA Tryd.prog 74 := ⟨by kernel_rfl⟩
instance : TZ Tryd.prog 74 (.agg #[.int .i64 0, .int .i64 0, .int .i64 0, .bool false]) 4 32 := ⟨by kernel_rfl⟩
instance : TB0 Tryd.prog 74 [.int .i64 0, .int .i64 0, .int .i64 0, .bool false] := ⟨by kernel_rfl⟩
instance : TB Tryd.prog 74 [[.int .i64 0, .int .i64 0], [(.int .i64 0)], [(.bool false)]] := ⟨by kernel_rfl⟩
instance : TF Tryd.prog 74 0 0 := ⟨fun _ _ _ => by kernel_rfl⟩
instance : TF Tryd.prog 74 1 2 := ⟨fun _ _ _ => by kernel_rfl⟩
instance : TF Tryd.prog 74 2 3 := ⟨fun _ _ _ => by kernel_rfl⟩
instance : TS Tryd.prog 75 := ⟨by kernel_rfl⟩
instance : TZ Tryd.prog 75 (.nilFunc) 1 8 := ⟨by kernel_rfl⟩
instance : TS Tryd.prog 76 := ⟨by kernel_rfl⟩
instance : TZ Tryd.prog 76 (.nilFunc) 1 8 := ⟨by kernel_rfl⟩
instance : TS Tryd.prog 78 := ⟨by kernel_rfl⟩
instance : TZ Tryd.prog 78 (.nilFunc) 1 8 := ⟨by kernel_rfl⟩
instance : TS Tryd.prog 79 := ⟨by kernel_rfl⟩
instance : TZ Tryd.prog 79 (.nilFunc) 1 8 := ⟨by kernel_rfl⟩
instance : TS Tryd.prog 80 := ⟨by kernel_rfl⟩
instance : TZ Tryd.prog 80 (.nilFunc) 1 8 := ⟨by kernel_rfl⟩
instance : TS Tryd.prog 81 := ⟨by kernel_rfl⟩
instance : TZ Tryd.prog 81 (.nilFunc) 1 8 := ⟨by kernel_rfl⟩
instance : TS Tryd.prog 82 := ⟨by kernel_rfl⟩
instance : TZ Tryd.prog 82 (.nilFunc) 1 8 := ⟨by kernel_rfl⟩
instance : TS Tryd.prog 83 := ⟨by kernel_rfl⟩
instance : TZ Tryd.prog 83 (.nilFunc) 1 8 := ⟨by kernel_rfl⟩
instance : TS Tryd.prog 85 := ⟨by kernel_rfl⟩
instance : TZ Tryd.prog 85 (.nilFunc) 1 8 := ⟨by kernel_rfl⟩
instance : TS Tryd.prog 86 := ⟨by kernel_rfl⟩
instance : TZ Tryd.prog 86 (.nilFunc) 1 8 := ⟨by kernel_rfl⟩
instance : TS Tryd.prog 87 := ⟨by kernel_rfl⟩
instance : TZ Tryd.prog 87 (.nilFunc) 1 8 := ⟨by kernel_rfl⟩
instance : TS Tryd.prog 89 := ⟨by kernel_rfl⟩
instance : TZ Tryd.prog 89 (.nilFunc) 1 8 := ⟨by kernel_rfl⟩
instance : TU Tryd.prog 90 (.int .u64) := ⟨Tryd.underlying90⟩
instance : TS Tryd.prog 90 := ⟨by kernel_rfl⟩
instance : TZ Tryd.prog 90 (.int .u64 0) 1 8 := ⟨by kernel_rfl⟩
instance : TS Tryd.prog 92 := ⟨by kernel_rfl⟩
instance : TZ Tryd.prog 92 (.nilFunc) 1 8 := ⟨by kernel_rfl⟩
instance : TS Tryd.prog 93 := ⟨by kernel_rfl⟩
instance : TZ Tryd.prog 93 (.nilFunc) 1 8 := ⟨by kernel_rfl⟩
instance : TU Tryd.prog 94 (.pointer 96) := ⟨Tryd.underlying94⟩
instance : TS Tryd.prog 94 := ⟨by kernel_rfl⟩
instance : TZ Tryd.prog 94 (.pointer none) 1 8 := ⟨by kernel_rfl⟩
instance : TA Tryd.prog 95 := ⟨by kernel_rfl⟩
instance : TZ Tryd.prog 95 (.agg #[.pointer none, .slice none 0 0]) 2 32 := ⟨by kernel_rfl⟩
instance : TB0 Tryd.prog 95 [.pointer none, .slice none 0 0] := ⟨by kernel_rfl⟩
instance : TB Tryd.prog 95 [[(.pointer none)], [(.slice none 0 0)]] := ⟨by kernel_rfl⟩
instance : TF Tryd.prog 95 0 0 := ⟨fun _ _ _ => by kernel_rfl⟩
instance : TF Tryd.prog 95 1 1 := ⟨fun _ _ _ => by kernel_rfl⟩
instance : TA Tryd.prog 96 := ⟨by kernel_rfl⟩
instance : TZ Tryd.prog 96 (.agg #[.pointer none, .slice none 0 0]) 2 32 := ⟨by kernel_rfl⟩
instance : TB0 Tryd.prog 96 [.pointer none, .slice none 0 0] := ⟨by kernel_rfl⟩
instance : TB Tryd.prog 96 [[(.pointer none)], [(.slice none 0 0)]] := ⟨by kernel_rfl⟩
instance : TF Tryd.prog 96 0 0 := ⟨fun _ _ _ => by kernel_rfl⟩
instance : TF Tryd.prog 96 1 1 := ⟨fun _ _ _ => by kernel_rfl⟩
instance : TS Tryd.prog 97 := ⟨by kernel_rfl⟩
instance : TZ Tryd.prog 97 (.nilFunc) 1 8 := ⟨by kernel_rfl⟩
instance : TS Tryd.prog 98 := ⟨by kernel_rfl⟩
instance : TZ Tryd.prog 98 (.nilIface) 1 16 := ⟨by kernel_rfl⟩
instance : TS Tryd.prog 99 := ⟨by kernel_rfl⟩
instance : TZ Tryd.prog 99 (.nilIface) 1 16 := ⟨by kernel_rfl⟩
instance : TS Tryd.prog 101 := ⟨by kernel_rfl⟩
instance : TZ Tryd.prog 101 (.nilFunc) 1 8 := ⟨by kernel_rfl⟩
instance : TS Tryd.prog 102 := ⟨by kernel_rfl⟩
instance : TZ Tryd.prog 102 (.nilFunc) 1 8 := ⟨by kernel_rfl⟩
instance : TS Tryd.prog 103 := ⟨by kernel_rfl⟩
instance : TZ Tryd.prog 103 (.nilFunc) 1 8 := ⟨by kernel_rfl⟩
instance : TU Tryd.prog 104 (.int .i8) := ⟨Tryd.underlying104⟩
instance : TS Tryd.prog 104 := ⟨by kernel_rfl⟩
instance : TZ Tryd.prog 104 (.int .i8 0) 1 1 := ⟨by kernel_rfl⟩
instance : TS Tryd.prog 105 := ⟨by kernel_rfl⟩
instance : TZ Tryd.prog 105 (.nilFunc) 1 8 := ⟨by kernel_rfl⟩
instance : TS Tryd.prog 106 := ⟨by kernel_rfl⟩
instance : TZ Tryd.prog 106 (.nilFunc) 1 8 := ⟨by kernel_rfl⟩
instance : TU Tryd.prog 107 (.int .u64) := ⟨Tryd.underlying107⟩
instance : TS Tryd.prog 107 := ⟨by kernel_rfl⟩
instance : TZ Tryd.prog 107 (.int .u64 0) 1 8 := ⟨by kernel_rfl⟩
instance : TU Tryd.prog 108 (.array 24 5) := ⟨Tryd.underlying108⟩
instance : TA Tryd.prog 108 := ⟨by kernel_rfl⟩
instance : TZ Tryd.prog 108 (.agg (List.replicate 24 (.int .u8 0)).toArray) 24 24 := ⟨by kernel_rfl⟩
instance : TB0 Tryd.prog 108 (List.replicate 24 (.int .u8 0)) := ⟨by kernel_rfl⟩
instance : TS Tryd.prog 109 := ⟨by kernel_rfl⟩
instance : TZ Tryd.prog 109 (.nilFunc) 1 8 := ⟨by kernel_rfl⟩
instance : TS Tryd.prog 110 := ⟨by kernel_rfl⟩
instance : TZ Tryd.prog 110 (.nilFunc) 1 8 := ⟨by kernel_rfl⟩
instance : TS Tryd.prog 112 := ⟨by kernel_rfl⟩
instance : TZ Tryd.prog 112 (.nilFunc) 1 8 := ⟨by kernel_rfl⟩
instance : TU Tryd.prog 113 (.int .u32) := ⟨Tryd.underlying113⟩
instance : TS Tryd.prog 113 := ⟨by kernel_rfl⟩
instance : TZ Tryd.prog 113 (.int .u32 0) 1 4 := ⟨by kernel_rfl⟩
instance : TS Tryd.prog 115 := ⟨by kernel_rfl⟩
instance : TZ Tryd.prog 115 (.nilFunc) 1 8 := ⟨by kernel_rfl⟩
instance : TS Tryd.prog 117 := ⟨by kernel_rfl⟩
instance : TZ Tryd.prog 117 (.nilFunc) 1 8 := ⟨by kernel_rfl⟩
instance : TU Tryd.prog 118 (.pointer 5) := ⟨Tryd.underlying118⟩
instance : TS Tryd.prog 118 := ⟨by kernel_rfl⟩
instance : TZ Tryd.prog 118 (.pointer none) 1 8 := ⟨by kernel_rfl⟩
instance : TS Tryd.prog 119 := ⟨by kernel_rfl⟩
instance : TZ Tryd.prog 119 (.nilFunc) 1 8 := ⟨by kernel_rfl⟩
instance : TU Tryd.prog 120 (.array 256 4) := ⟨Tryd.underlying120⟩
instance : TA Tryd.prog 120 := ⟨by kernel_rfl⟩
instance : TZ Tryd.prog 120 (.agg (List.replicate 256 (.bool false)).toArray) 256 256 := ⟨by kernel_rfl⟩
instance : TB0 Tryd.prog 120 (List.replicate 256 (.bool false)) := ⟨by kernel_rfl⟩
instance : TU Tryd.prog 121 (.array 256 4) := ⟨Tryd.underlying121⟩
instance : TA Tryd.prog 121 := ⟨by kernel_rfl⟩
instance : TZ Tryd.prog 121 (.agg (List.replicate 256 (.bool false)).toArray) 256 256 := ⟨by kernel_rfl⟩
instance : TB0 Tryd.prog 121 (List.replicate 256 (.bool false)) := ⟨by kernel_rfl⟩
instance : TS Tryd.prog 123 := ⟨by kernel_rfl⟩
instance : TZ Tryd.prog 123 (.nilFunc) 1 8 := ⟨by kernel_rfl⟩
instance : TS Tryd.prog 124 := ⟨by kernel_rfl⟩
instance : TZ Tryd.prog 124 (.nilFunc) 1 8 := ⟨by kernel_rfl⟩
instance : TU Tryd.prog 125 (.pointer 121) := ⟨Tryd.underlying125⟩
instance : TS Tryd.prog 125 := ⟨by kernel_rfl⟩
instance : TZ Tryd.prog 125 (.pointer none) 1 8 := ⟨by kernel_rfl⟩
instance : TS Tryd.prog 126 := ⟨by kernel_rfl⟩
instance : TZ Tryd.prog 126 (.nilFunc) 1 8 := ⟨by kernel_rfl⟩
instance : TS Tryd.prog 127 := ⟨by kernel_rfl⟩
instance : TZ Tryd.prog 127 (.nilFunc) 1 8 := ⟨by kernel_rfl⟩
instance : TS Tryd.prog 128 := ⟨by kernel_rfl⟩
instance : TZ Tryd.prog 128 (.nilFunc) 1 8 := ⟨by kernel_rfl⟩
instance : TU Tryd.prog 129 (.array 20 107) := ⟨Tryd.underlying129⟩
instance : TA Tryd.prog 129 := ⟨by kernel_rfl⟩
instance : TZ Tryd.prog 129 (.agg (List.replicate 20 (.int .u64 0)).toArray) 20 160 := ⟨by kernel_rfl⟩
instance : TB0 Tryd.prog 129 (List.replicate 20 (.int .u64 0)) := ⟨by kernel_rfl⟩
instance : TU Tryd.prog 130 (.array 65 5) := ⟨Tryd.underlying130⟩
instance : TA Tryd.prog 130 := ⟨by kernel_rfl⟩
instance : TZ Tryd.prog 130 (.agg (List.replicate 65 (.int .u8 0)).toArray) 65 65 := ⟨by kernel_rfl⟩
instance : TB0 Tryd.prog 130 (List.replicate 65 (.int .u8 0)) := ⟨by kernel_rfl⟩
instance : TS Tryd.prog 131 := ⟨by kernel_rfl⟩
instance : TZ Tryd.prog 131 (.nilFunc) 1 8 := ⟨by kernel_rfl⟩
instance : TS Tryd.prog 132 := ⟨by kernel_rfl⟩
instance : TZ Tryd.prog 132 (.pointer none) 1 8 := ⟨by kernel_rfl⟩
instance : TS Tryd.prog 133 := ⟨by kernel_rfl⟩
instance : TZ Tryd.prog 133 (.nilFunc) 1 8 := ⟨by kernel_rfl⟩
instance : TS Tryd.prog 134 := ⟨by kernel_rfl⟩
instance : TZ Tryd.prog 134 (.nilFunc) 1 8 := ⟨by kernel_rfl⟩
instance : TS Tryd.prog 135 := ⟨by kernel_rfl⟩
instance : TZ Tryd.prog 135 (.nilFunc) 1 8 := ⟨by kernel_rfl⟩
instance : TS Tryd.prog 137 := ⟨by kernel_rfl⟩
instance : TZ Tryd.prog 137 (.nilFunc) 1 8 := ⟨by kernel_rfl⟩
instance : TS Tryd.prog 138 := ⟨by kernel_rfl⟩
instance : TZ Tryd.prog 138 (.nilFunc) 1 8 := ⟨by kernel_rfl⟩
instance : TS Tryd.prog 139 := ⟨by kernel_rfl⟩
instance : TZ Tryd.prog 139 (.nilFunc) 1 8 := ⟨by kernel_rfl⟩
instance : TS Tryd.prog 140 := ⟨by kernel_rfl⟩
instance : TZ Tryd.prog 140 (.nilFunc) 1 8 := ⟨by kernel_rfl⟩
instance : TU Tryd.prog 141 (.array 32 5) := ⟨Tryd.underlying141⟩
instance : TA Tryd.prog 141 := ⟨by kernel_rfl⟩
instance : TZ Tryd.prog 141 (.agg (List.replicate 32 (.int .u8 0)).toArray) 32 32 := ⟨by kernel_rfl⟩
instance : TB0 Tryd.prog 141 (List.replicate 32 (.int .u8 0)) := ⟨by kernel_rfl⟩
instance : TU Tryd.prog 142 (.array 64 5) := ⟨Tryd.underlying142⟩
instance : TA Tryd.prog 142 := ⟨by kernel_rfl⟩
instance : TZ Tryd.prog 142 (.agg (List.replicate 64 (.int .u8 0)).toArray) 64 64 := ⟨by kernel_rfl⟩
instance : TB0 Tryd.prog 142 (List.replicate 64 (.int .u8 0)) := ⟨by kernel_rfl⟩
instance : TU Tryd.prog 143 (.array 256 5) := ⟨Tryd.underlying143⟩
instance : TA Tryd.prog 143 := ⟨by kernel_rfl⟩
instance : TZ Tryd.prog 143 (.agg (List.replicate 256 (.int .u8 0)).toArray) 256 256 := ⟨by kernel_rfl⟩
instance : TB0 Tryd.prog 143 (List.replicate 256 (.int .u8 0)) := ⟨by kernel_rfl⟩
instance : TA Tryd.prog 144 := ⟨by kernel_rfl⟩
instance : TZ Tryd.prog 144 (.agg #[.int .u8 0, .int .u8 0]) 2 2 := ⟨by kernel_rfl⟩
instance : TB0 Tryd.prog 144 [.int .u8 0, .int .u8 0] := ⟨by kernel_rfl⟩
instance : TB Tryd.prog 144 [[(.int .u8 0)], [(.int .u8 0)]] := ⟨by kernel_rfl⟩
instance : TF Tryd.prog 144 0 0 := ⟨fun _ _ _ => by kernel_rfl⟩
instance : TF Tryd.prog 144 1 1 := ⟨fun _ _ _ => by kernel_rfl⟩
instance : TA Tryd.prog 145 := ⟨by kernel_rfl⟩
instance : TZ Tryd.prog 145 (.agg #[.int .u8 0, .int .u8 0]) 2 2 := ⟨by kernel_rfl⟩
instance : TB0 Tryd.prog 145 [.int .u8 0, .int .u8 0] := ⟨by kernel_rfl⟩
instance : TB Tryd.prog 145 [[(.int .u8 0)], [(.int .u8 0)]] := ⟨by kernel_rfl⟩
instance : TF Tryd.prog 145 0 0 := ⟨fun _ _ _ => by kernel_rfl⟩
instance : TF Tryd.prog 145 1 1 := ⟨fun _ _ _ => by kernel_rfl⟩
instance : TU Tryd.prog 146 (.array 16 145) := ⟨Tryd.underlying146⟩
instance : TA Tryd.prog 146 := ⟨by kernel_rfl⟩
instance : TZ Tryd.prog 146 (.agg #[.int .u8 0, .int .u8 0, .int .u8 0, .int .u8 0, .int .u8 0, .int .u8 0, .int .u8 0, .int .u8 0, .int .u8 0, .int .u8 0, .int .u8 0, .int .u8 0, .int .u8 0, .int .u8 0, .int .u8 0, .int .u8 0, .int .u8 0, .int .u8 0, .int .u8 0, .int .u8 0, .int .u8 0, .int .u8 0, .int .u8 0, .int .u8 0, .int .u8 0, .int .u8 0, .int .u8 0, .int .u8 0, .int .u8 0, .int .u8 0, .int .u8 0, .int .u8 0]) 32 32 := ⟨by kernel_rfl⟩
instance : TB0 Tryd.prog 146 [.int .u8 0, .int .u8 0, .int .u8 0, .int .u8 0, .int .u8 0, .int .u8 0, .int .u8 0, .int .u8 0, .int .u8 0, .int .u8 0, .int .u8 0, .int .u8 0, .int .u8 0, .int .u8 0, .int .u8 0, .int .u8 0, .int .u8 0, .int .u8 0, .int .u8 0, .int .u8 0, .int .u8 0, .int .u8 0, .int .u8 0, .int .u8 0, .int .u8 0, .int .u8 0, .int .u8 0, .int .u8 0, .int .u8 0, .int .u8 0, .int .u8 0, .int .u8 0] := ⟨by kernel_rfl⟩
instance : TA Tryd.prog 147 := ⟨by kernel_rfl⟩
instance : TZ Tryd.prog 147 (.agg #[.pointer none, .pointer none, .pointer none, .string ⟨#[]⟩]) 4 40 := ⟨by kernel_rfl⟩
instance : TB0 Tryd.prog 147 [.pointer none, .pointer none, .pointer none, .string ⟨#[]⟩] := ⟨by kernel_rfl⟩
instance : TB Tryd.prog 147 [[(.pointer none)], [(.pointer none)], [(.pointer none)], [(.string ⟨#[]⟩)]] := ⟨by kernel_rfl⟩
instance : TF Tryd.prog 147 0 0 := ⟨fun _ _ _ => by kernel_rfl⟩
instance : TF Tryd.prog 147 1 1 := ⟨fun _ _ _ => by kernel_rfl⟩
instance : TF Tryd.prog 147 2 2 := ⟨fun _ _ _ => by kernel_rfl⟩
instance : TF Tryd.prog 147 3 3 := ⟨fun _ _ _ => by kernel_rfl⟩
instance : TA Tryd.prog 148 := ⟨by kernel_rfl⟩
instance : TZ Tryd.prog 148 (.agg #[.pointer none, .pointer none, .pointer none, .string ⟨#[]⟩]) 4 40 := ⟨by kernel_rfl⟩
instance : TB0 Tryd.prog 148 [.pointer none, .pointer none, .pointer none, .string ⟨#[]⟩] := ⟨by kernel_rfl⟩
instance : TB Tryd.prog 148 [[(.pointer none)], [(.pointer none)], [(.pointer none)], [(.string ⟨#[]⟩)]] := ⟨by kernel_rfl⟩
instance : TF Tryd.prog 148 0 0 := ⟨fun _ _ _ => by kernel_rfl⟩
instance : TF Tryd.prog 148 1 1 := ⟨fun _ _ _ => by kernel_rfl⟩
instance : TF Tryd.prog 148 2 2 := ⟨fun _ _ _ => by kernel_rfl⟩
instance : TF Tryd.prog 148 3 3 := ⟨fun _ _ _ => by kernel_rfl⟩
instance : TU Tryd.prog 149 (.array 0 16) := ⟨Tryd.underlying149⟩
instance : TA Tryd.prog 149 := ⟨by kernel_rfl⟩
instance : TZ Tryd.prog 149 (.agg #[]) 0 0 := ⟨by kernel_rfl⟩
instance : TB0 Tryd.prog 149 [] := ⟨by kernel_rfl⟩
instance : TA Tryd.prog 150 := ⟨by kernel_rfl⟩
instance : TZ Tryd.prog 150 (.agg #[]) 0 0 := ⟨by kernel_rfl⟩
instance : TB0 Tryd.prog 150 [] := ⟨by kernel_rfl⟩
instance : TB Tryd.prog 150 [[]] := ⟨by kernel_rfl⟩
instance : TA Tryd.prog 151 := ⟨by kernel_rfl⟩
instance : TZ Tryd.prog 151 (.agg #[]) 0 0 := ⟨by kernel_rfl⟩
instance : TB0 Tryd.prog 151 [] := ⟨by kernel_rfl⟩
instance : TB Tryd.prog 151 [[]] := ⟨by kernel_rfl⟩
instance : TU Tryd.prog 152 (.int .u8) := ⟨Tryd.underlying152⟩
instance : TS Tryd.prog 152 := ⟨by kernel_rfl⟩
instance : TZ Tryd.prog 152 (.int .u8 0) 1 1 := ⟨by kernel_rfl⟩
instance : TU Tryd.prog 153 (.int .u8) := ⟨Tryd.underlying153⟩
instance : TS Tryd.prog 153 := ⟨by kernel_rfl⟩
instance : TZ Tryd.prog 153 (.int .u8 0) 1 1 := ⟨by kernel_rfl⟩
instance : TS Tryd.prog 154 := ⟨by kernel_rfl⟩
instance : TZ Tryd.prog 154 (.nilFunc) 1 8 := ⟨by kernel_rfl⟩
instance : TU Tryd.prog 155 (.int .i32) := ⟨Tryd.underlying155⟩
instance : TS Tryd.prog 155 := ⟨by kernel_rfl⟩
instance : TZ Tryd.prog 155 (.int .i32 0) 1 4 := ⟨by kernel_rfl⟩
instance : TU Tryd.prog 156 (.int .i32) := ⟨Tryd.underlying156⟩
instance : TS Tryd.prog 156 := ⟨by kernel_rfl⟩
instance : TZ Tryd.prog 156 (.int .i32 0) 1 4 := ⟨by kernel_rfl⟩
instance : TA Tryd.prog 157 := ⟨by kernel_rfl⟩
instance : TZ Tryd.prog 157 (.agg #[.int .u64 0, .int .u64 0, .int .u32 0, .int .u8 0, .int .u8 0, .int .u8 0, .int .u8 0, .nilFunc, .pointer none, .int .i32 0, .int .i32 0]) 11 48 := ⟨by kernel_rfl⟩
instance : TB0 Tryd.prog 157 [.int .u64 0, .int .u64 0, .int .u32 0, .int .u8 0, .int .u8 0, .int .u8 0, .int .u8 0, .nilFunc, .pointer none, .int .i32 0, .int .i32 0] := ⟨by kernel_rfl⟩
instance : TB Tryd.prog 157 [[(.int .u64 0)], [(.int .u64 0)], [(.int .u32 0)], [(.int .u8 0)], [(.int .u8 0)], [(.int .u8 0)], [(.int .u8 0)], [(.nilFunc)], [(.pointer none)], [(.int .i32 0)], [(.int .i32 0)]] := ⟨by kernel_rfl⟩
instance : TF Tryd.prog 157 0 0 := ⟨fun _ _ _ => by kernel_rfl⟩
instance : TF Tryd.prog 157 1 1 := ⟨fun _ _ _ => by kernel_rfl⟩
instance : TF Tryd.prog 157 2 2 := ⟨fun _ _ _ => by kernel_rfl⟩
instance : TF Tryd.prog 157 3 3 := ⟨fun _ _ _ => by kernel_rfl⟩
instance : TF Tryd.prog 157 4 4 := ⟨fun _ _ _ => by kernel_rfl⟩
instance : TF Tryd.prog 157 5 5 := ⟨fun _ _ _ => by kernel_rfl⟩
instance : TF Tryd.prog 157 6 6 := ⟨fun _ _ _ => by kernel_rfl⟩
instance : TF Tryd.prog 157 7 7 := ⟨fun _ _ _ => by kernel_rfl⟩
instance : TF Tryd.prog 157 8 8 := ⟨fun _ _ _ => by kernel_rfl⟩
instance : TF Tryd.prog 157 9 9 := ⟨fun _ _ _ => by kernel_rfl⟩
instance : TF Tryd.prog 157 10 10 := ⟨fun _ _ _ => by kernel_rfl⟩
instance : TA Tryd.prog 158 := ⟨by kernel_rfl⟩
instance : TZ Tryd.prog 158 (.agg #[.int .u64 0, .int .u64 0, .int .u32 0, .int .u8 0, .int .u8 0, .int .u8 0, .int .u8 0, .nilFunc, .pointer none, .int .i32 0, .int .i32 0]) 11 48 := ⟨by kernel_rfl⟩
instance : TB0 Tryd.prog 158 [.int .u64 0, .int .u64 0, .int .u32 0, .int .u8 0, .int .u8 0, .int .u8 0, .int .u8 0, .nilFunc, .pointer none, .int .i32 0, .int .i32 0] := ⟨by kernel_rfl⟩
instance : TB Tryd.prog 158 [[(.int .u64 0)], [(.int .u64 0)], [(.int .u32 0)], [(.int .u8 0)], [(.int .u8 0)], [(.int .u8 0)], [(.int .u8 0)], [(.nilFunc)], [(.pointer none)], [(.int .i32 0)], [(.int .i32 0)]] := ⟨by kernel_rfl⟩
instance : TF Tryd.prog 158 0 0 := ⟨fun _ _ _ => by kernel_rfl⟩
instance : TF Tryd.prog 158 1 1 := ⟨fun _ _ _ => by kernel_rfl⟩
instance : TF Tryd.prog 158 2 2 := ⟨fun _ _ _ => by kernel_rfl⟩
instance : TF Tryd.prog 158 3 3 := ⟨fun _ _ _ => by kernel_rfl⟩
instance : TF Tryd.prog 158 4 4 := ⟨fun _ _ _ => by kernel_rfl⟩
instance : TF Tryd.prog 158 5 5 := ⟨fun _ _ _ => by kernel_rfl⟩
instance : TF Tryd.prog 158 6 6 := ⟨fun _ _ _ => by kernel_rfl⟩
instance : TF Tryd.prog 158 7 7 := ⟨fun _ _ _ => by kernel_rfl⟩
instance : TF Tryd.prog 158 8 8 := ⟨fun _ _ _ => by kernel_rfl⟩
instance : TF Tryd.prog 158 9 9 := ⟨fun _ _ _ => by kernel_rfl⟩
instance : TF Tryd.prog 158 10 10 := ⟨fun _ _ _ => by kernel_rfl⟩
end Go.Proofs.YtjeaofabpfgngaaDoor
