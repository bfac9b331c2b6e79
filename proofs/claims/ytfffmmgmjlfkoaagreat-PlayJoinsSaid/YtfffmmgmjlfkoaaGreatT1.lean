/- What is to be known of the types. Printed by wk.py. -/
import Derived.Test.YtfffmmgmjlfkoaaGreatC1
import Derived.Test.YtfffmmgmjlfkoaaGreatA33
namespace Go.Proofs.YtfffmmgmjlfkoaaGreat
set_option linter.unusedSimpArgs false
set_option linter.unusedVariables false
open Go.As
theorem bd_110_  : buildA Tryz.prog 110 [] = some (.agg #[.int .i64 0, .int .i64 0]) := by kernel_rfl
theorem bd_110_0_1 (x0 : Int) (x1 : Int) : buildA Tryz.prog 110 [(0, .int .i64 x0), (1, .int .i64 x1)] = some (.agg #[.int .i64 x0, .int .i64 x1]) := by kernel_rfl
theorem bd_121_0 (x0 : Option Addr) (x0n x0c : Nat) : buildA Tryz.prog 121 [(0, .slice x0 x0n x0c)] = some (.agg #[.slice x0 x0n x0c]) := by kernel_rfl
theorem bd_124_0_1_2_3 (x0 : Option Addr) (x1 : Int) (x2 : Int) (x3 : Int) : buildA Tryz.prog 124 [(0, .pointer x0), (1, .int .i64 x1), (2, .int .i64 x2), (3, .int .u64 x3)] = some (.agg #[.pointer x0, .int .i64 x1, .int .i64 x2, .int .u64 x3, .int .i64 0, .int .u64 0, .int .u64 0, .int .u64 0, .int .u64 0, .int .u64 0, .int .u64 0, .int .u64 0, .int .u64 0]) := by kernel_rfl
theorem bd_150_0_1 (x0 : Option Addr) (x0n x0c : Nat) (x1 : Int) : buildA Tryz.prog 150 [(0, .slice x0 x0n x0c), (1, .int .i64 x1)] = some (.agg #[.slice x0 x0n x0c, .int .i64 x1]) := by kernel_rfl
theorem bd_157_0_1_2_3_4 (x0 : Option Addr) (x0n x0c : Nat) (x1 : Option Addr) (x1n x1c : Nat) (x2 : Option Addr) (x2n x2c : Nat) (x3 : Option Addr) (x4 : Option Addr) : buildA Tryz.prog 157 [(0, .slice x0 x0n x0c), (1, .slice x1 x1n x1c), (2, .slice x2 x2n x2c), (3, .pointer x3), (4, .pointer x4)] = some (.agg #[.slice x0 x0n x0c, .slice x1 x1n x1c, .slice x2 x2n x2c, .pointer x3, .pointer x4]) := by kernel_rfl
theorem bd_160_0 (x0 : Option Nat) : buildA Tryz.prog 160 [(0, .map x0)] = some (.agg #[.map x0]) := by kernel_rfl
theorem bd_166_0_1_2 (x0 : Option Addr) (x1 : Option Nat) (x2 : Option Nat) : buildA Tryz.prog 166 [(0, .pointer x0), (1, .map x1), (2, .map x2)] = some (.agg #[.pointer x0, .map x1, .map x2]) := by kernel_rfl
theorem bd_173_0_1_2_3_4_5 (x0 : Option Addr) (x1 : Option Addr) (x2 : Int) (x3 : Option Nat) (x4 : Option Nat) (x5 : Option Nat) : buildA Tryz.prog 173 [(0, .pointer x0), (1, .pointer x1), (2, .int .i64 x2), (3, .map x3), (4, .map x4), (5, .map x5)] = some (.agg #[.pointer x0, .pointer x1, .int .i64 x2, .map x3, .map x4, .map x5]) := by kernel_rfl
theorem bd_175_0_1 (x0 : Int) (x1 : Option Addr) (x1n x1c : Nat) : buildA Tryz.prog 175 [(0, .int .i64 x0), (1, .slice x1 x1n x1c)] = some (.agg #[.int .i64 x0, .slice x1 x1n x1c]) := by kernel_rfl
theorem bd_180_  : buildA Tryz.prog 180 [] = some (.agg #[.complex .f64 0 0, .complex .f64 0 0, .complex .f64 0 0]) := by kernel_rfl
theorem bd_182_  : buildA Tryz.prog 182 [] = some (.agg #[.int .i64 0, .int .i64 0, .bool false, .bool false]) := by kernel_rfl
theorem bd_182_0_1_2 (x0 : Int) (x1 : Int) (x2 : Bool) : buildA Tryz.prog 182 [(0, .int .i64 x0), (1, .int .i64 x1), (2, .bool x2)] = some (.agg #[.int .i64 x0, .int .i64 x1, .bool x2, .bool false]) := by kernel_rfl
theorem bd_185_  : buildA Tryz.prog 185 [] = some (.agg #[.slice none 0 0]) := by kernel_rfl
theorem bd_188_0_1_2 (x0 : Int) (x1 : Int) (x2 : Int) : buildA Tryz.prog 188 [(0, .int .i64 x0), (1, .int .i64 x1), (2, .int .i64 x2)] = some (.agg #[.int .i64 x0, .int .i64 x1, .int .i64 x2, .int .u64 0]) := by kernel_rfl
theorem bd_188_0_1_2_3 (x0 : Int) (x1 : Int) (x2 : Int) (x3 : Int) : buildA Tryz.prog 188 [(0, .int .i64 x0), (1, .int .i64 x1), (2, .int .i64 x2), (3, .int .u64 x3)] = some (.agg #[.int .i64 x0, .int .i64 x1, .int .i64 x2, .int .u64 x3]) := by kernel_rfl
theorem bd_213_0 (x0 : Option Nat) : buildA Tryz.prog 213 [(0, .map x0)] = some (.agg #[.map x0]) := by kernel_rfl
theorem bd_215_0_1 (x0 : Option Nat) (x1 : Option Nat) : buildA Tryz.prog 215 [(0, .map x0), (1, .map x1)] = some (.agg #[.map x0, .map x1]) := by kernel_rfl
theorem bd_219_1 (x1 : Option Nat) : buildA Tryz.prog 219 [(1, .map x1)] = some (.agg #[.int .u64 0, .int .u64 0, .int .u64 0, .int .u64 0, .int .u64 0, .int .u64 0, .map x1]) := by kernel_rfl
theorem bd_226_  : buildA Tryz.prog 226 [] = some (.agg #[.int .i64 0, .int .i64 0, .int .i64 0]) := by kernel_rfl
theorem bd_226_0_1 (x0 : Int) (x1 : Int) : buildA Tryz.prog 226 [(0, .int .i64 x0), (1, .int .i64 x1)] = some (.agg #[.int .i64 x0, .int .i64 x1, .int .i64 0]) := by kernel_rfl
theorem bd_226_0_1_2 (x0 : Int) (x1 : Int) (x2 : Int) : buildA Tryz.prog 226 [(0, .int .i64 x0), (1, .int .i64 x1), (2, .int .i64 x2)] = some (.agg #[.int .i64 x0, .int .i64 x1, .int .i64 x2]) := by kernel_rfl
theorem bd_247_  : buildA Tryz.prog 247 [] = some (.agg #[.int .i64 0, .int .i64 0, .bool false, .slice none 0 0, .slice none 0 0]) := by kernel_rfl
theorem bd_247_0_1_2 (x0 : Int) (x1 : Int) (x2 : Bool) : buildA Tryz.prog 247 [(0, .int .i64 x0), (1, .int .i64 x1), (2, .bool x2)] = some (.agg #[.int .i64 x0, .int .i64 x1, .bool x2, .slice none 0 0, .slice none 0 0]) := by kernel_rfl
theorem bd_28_  : buildA Tryz.prog 28 [] = some (.agg #[.int .u64 0, .int .u64 0, .int .u64 0, .int .u64 0, .int .u64 0, .int .u64 0, .int .u64 0, .int .u64 0]) := by kernel_rfl
theorem bd_28_0_1 (x0 : Int) (x1 : Int) : buildA Tryz.prog 28 [(0, .int .u64 x0), (1, .int .u64 x1)] = some (.agg #[.int .u64 x0, .int .u64 x1, .int .u64 0, .int .u64 0, .int .u64 0, .int .u64 0, .int .u64 0, .int .u64 0]) := by kernel_rfl
theorem bd_28_0_1_2 (x0 : Int) (x1 : Int) (x2 : Int) : buildA Tryz.prog 28 [(0, .int .u64 x0), (1, .int .u64 x1), (2, .int .u64 x2)] = some (.agg #[.int .u64 x0, .int .u64 x1, .int .u64 x2, .int .u64 0, .int .u64 0, .int .u64 0, .int .u64 0, .int .u64 0]) := by kernel_rfl
theorem bd_28_0 (x0 : Int) : buildA Tryz.prog 28 [(0, .int .u64 x0)] = some (.agg #[.int .u64 x0, .int .u64 0, .int .u64 0, .int .u64 0, .int .u64 0, .int .u64 0, .int .u64 0, .int .u64 0]) := by kernel_rfl
theorem bd_286_0_1_2_6 (x0 : Int) (x1 : Int) (x2 : Option Addr) (x6 : Option Nat) : buildA Tryz.prog 286 [(0, .int .i64 x0), (1, .int .i64 x1), (2, .pointer x2), (6, .map x6)] = some (.agg #[.int .i64 x0, .int .i64 x1, .pointer x2, .bool false, .int .i64 0, .int .i64 0, .bool false, .slice none 0 0, .slice none 0 0, .slice none 0 0, .map x6]) := by kernel_rfl
theorem bd_30_  : buildA Tryz.prog 30 [] = some (.agg #[.int .i64 0, .int .i64 0, .int .u64 0, .int .u64 0, .int .u64 0, .int .u64 0, .int .u64 0, .int .u64 0, .int .u64 0, .int .u64 0, .int .i64 0, .int .i64 0, .int .u64 0, .int .i64 0]) := by kernel_rfl
theorem bd_30_0_1 (x0 : Int) (x1 : Int) : buildA Tryz.prog 30 [(0, .int .i64 x0), (1, .int .i64 x1)] = some (.agg #[.int .i64 x0, .int .i64 x1, .int .u64 0, .int .u64 0, .int .u64 0, .int .u64 0, .int .u64 0, .int .u64 0, .int .u64 0, .int .u64 0, .int .i64 0, .int .i64 0, .int .u64 0, .int .i64 0]) := by kernel_rfl
theorem bd_30_0_1_3_4 (x0 : Int) (x1 : Int) (x3 : Int) (x4 : Int) : buildA Tryz.prog 30 [(0, .int .i64 x0), (1, .int .i64 x1), (3, .int .i64 x3), (4, .int .i64 x4)] = some (.agg #[.int .i64 x0, .int .i64 x1, .int .u64 0, .int .u64 0, .int .u64 0, .int .u64 0, .int .u64 0, .int .u64 0, .int .u64 0, .int .u64 0, .int .i64 x3, .int .i64 x4, .int .u64 0, .int .i64 0]) := by kernel_rfl
theorem bd_30_0_2 (x0 : Int) (x2_0 : Int) (x2_1 : Int) (x2_2 : Int) (x2_3 : Int) (x2_4 : Int) (x2_5 : Int) (x2_6 : Int) (x2_7 : Int) : buildA Tryz.prog 30 [(0, .int .i64 x0), (2, .agg #[.int .u64 x2_0, .int .u64 x2_1, .int .u64 x2_2, .int .u64 x2_3, .int .u64 x2_4, .int .u64 x2_5, .int .u64 x2_6, .int .u64 x2_7])] = some (.agg #[.int .i64 x0, .int .i64 0, .int .u64 x2_0, .int .u64 x2_1, .int .u64 x2_2, .int .u64 x2_3, .int .u64 x2_4, .int .u64 x2_5, .int .u64 x2_6, .int .u64 x2_7, .int .i64 0, .int .i64 0, .int .u64 0, .int .i64 0]) := by kernel_rfl
theorem bd_30_0_3_4_5 (x0 : Int) (x3 : Int) (x4 : Int) (x5 : Int) : buildA Tryz.prog 30 [(0, .int .i64 x0), (3, .int .i64 x3), (4, .int .i64 x4), (5, .int .u64 x5)] = some (.agg #[.int .i64 x0, .int .i64 0, .int .u64 0, .int .u64 0, .int .u64 0, .int .u64 0, .int .u64 0, .int .u64 0, .int .u64 0, .int .u64 0, .int .i64 x3, .int .i64 x4, .int .u64 x5, .int .i64 0]) := by kernel_rfl
theorem bd_30_0_5 (x0 : Int) (x5 : Int) : buildA Tryz.prog 30 [(0, .int .i64 x0), (5, .int .u64 x5)] = some (.agg #[.int .i64 x0, .int .i64 0, .int .u64 0, .int .u64 0, .int .u64 0, .int .u64 0, .int .u64 0, .int .u64 0, .int .u64 0, .int .u64 0, .int .i64 0, .int .i64 0, .int .u64 x5, .int .i64 0]) := by kernel_rfl
theorem bd_30_0_6 (x0 : Int) (x6 : Int) : buildA Tryz.prog 30 [(0, .int .i64 x0), (6, .int .i64 x6)] = some (.agg #[.int .i64 x0, .int .i64 0, .int .u64 0, .int .u64 0, .int .u64 0, .int .u64 0, .int .u64 0, .int .u64 0, .int .u64 0, .int .u64 0, .int .i64 0, .int .i64 0, .int .u64 0, .int .i64 x6]) := by kernel_rfl
theorem bd_30_0 (x0 : Int) : buildA Tryz.prog 30 [(0, .int .i64 x0)] = some (.agg #[.int .i64 x0, .int .i64 0, .int .u64 0, .int .u64 0, .int .u64 0, .int .u64 0, .int .u64 0, .int .u64 0, .int .u64 0, .int .u64 0, .int .i64 0, .int .i64 0, .int .u64 0, .int .i64 0]) := by kernel_rfl
theorem bd_310_0_1 (x0 : Int) (x1 : Int) : buildA Tryz.prog 310 [(0, .int .i64 x0), (1, .int .i64 x1)] = some (.agg #[.int .i64 x0, .int .i64 x1]) := by kernel_rfl
theorem bd_334_0_1 (x0 : Int) (x1 : Int) : buildA Tryz.prog 334 [(0, .int .i64 x0), (1, .int .i64 x1)] = some (.agg #[.int .i64 x0, .int .i64 x1]) := by kernel_rfl
theorem bd_336_1 (x1 : Int) : buildA Tryz.prog 336 [(1, .int .i64 x1)] = some (.agg #[.slice none 0 0, .int .i64 x1]) := by kernel_rfl
theorem bd_342_0_1 (x0 : Int) (x1 : Int) : buildA Tryz.prog 342 [(0, .int .i64 x0), (1, .int .i64 x1)] = some (.agg #[.int .i64 x0, .int .i64 x1]) := by kernel_rfl
theorem bd_360_0 (x0 : Option Nat) : buildA Tryz.prog 360 [(0, .map x0)] = some (.agg #[.map x0, .int .u64 0, .bool false]) := by kernel_rfl
theorem bd_370_0_1 (x0 : Bool) (x1 : Int) : buildA Tryz.prog 370 [(0, .bool x0), (1, .int .u8 x1)] = some (.agg #[.bool x0, .int .u8 x1]) := by kernel_rfl
theorem bd_38_  : buildA Tryz.prog 38 [] = some (.agg #[.int .i64 0, .int .i64 0, .int .i64 0, .int .i64 0, .slice none 0 0]) := by kernel_rfl
theorem bd_38_0_1_2_3 (x0 : Int) (x1 : Int) (x2 : Int) (x3 : Int) : buildA Tryz.prog 38 [(0, .int .i64 x0), (1, .int .i64 x1), (2, .int .i64 x2), (3, .int .i64 x3)] = some (.agg #[.int .i64 x0, .int .i64 x1, .int .i64 x2, .int .i64 x3, .slice none 0 0]) := by kernel_rfl
theorem bd_38_3_1_2 (x1 : Int) (x2 : Int) (x3 : Int) : buildA Tryz.prog 38 [(1, .int .i64 x1), (2, .int .i64 x2), (3, .int .i64 x3)] = some (.agg #[.int .i64 0, .int .i64 x1, .int .i64 x2, .int .i64 x3, .slice none 0 0]) := by kernel_rfl
theorem bd_50_0 (x0 : Option Addr) (x0n x0c : Nat) : buildA Tryz.prog 50 [(0, .slice x0 x0n x0c)] = some (.agg #[.slice x0 x0n x0c, .bool false]) := by kernel_rfl
theorem bd_54_0 (x0 : Option Addr) (x0n x0c : Nat) : buildA Tryz.prog 54 [(0, .slice x0 x0n x0c)] = some (.agg #[.slice x0 x0n x0c, .int .i64 0]) := by kernel_rfl
theorem bd_59_0_1_2_3_4_5_7 (x0 : Bool) (x1 : Bool) (x2 : Bool) (x3 : Bool) (x4 : Bool) (x5 : Int) (x7 : Int) : buildA Tryz.prog 59 [(0, .bool x0), (1, .bool x1), (2, .bool x2), (3, .bool x3), (4, .bool x4), (5, .int .u32 x5), (7, .int .i64 x7)] = some (.agg #[.bool x0, .bool x1, .bool x2, .bool x3, .bool x4, .int .u32 x5, .int .i64 0, .int .i64 x7, .int .i64 0]) := by kernel_rfl
theorem bd_59_5_6_7_8 (x5 : Int) (x6 : Int) (x7 : Int) (x8 : Int) : buildA Tryz.prog 59 [(5, .int .u32 x5), (6, .int .i64 x6), (7, .int .i64 x7), (8, .int .i64 x8)] = some (.agg #[.bool false, .bool false, .bool false, .bool false, .bool false, .int .u32 x5, .int .i64 x6, .int .i64 x7, .int .i64 x8]) := by kernel_rfl
theorem bd_63_0 (x0 : Int) : buildA Tryz.prog 63 [(0, .int .i64 x0)] = some (.agg #[.int .i64 x0, .int .i64 0, .int .u64 0, .int .u64 0, .int .u64 0, .int .u64 0, .int .u64 0, .int .u64 0, .int .u64 0, .int .u64 0, .int .u64 0]) := by kernel_rfl
theorem bd_63_1_2 (x1 : Int) (x2_0 : Int) (x2_1 : Int) (x2_2 : Int) (x2_3 : Int) (x2_4 : Int) (x2_5 : Int) (x2_6 : Int) (x2_7 : Int) : buildA Tryz.prog 63 [(1, .int .i64 x1), (2, .agg #[.int .u64 x2_0, .int .u64 x2_1, .int .u64 x2_2, .int .u64 x2_3, .int .u64 x2_4, .int .u64 x2_5, .int .u64 x2_6, .int .u64 x2_7])] = some (.agg #[.int .i64 0, .int .i64 x1, .int .u64 x2_0, .int .u64 x2_1, .int .u64 x2_2, .int .u64 x2_3, .int .u64 x2_4, .int .u64 x2_5, .int .u64 x2_6, .int .u64 x2_7, .int .u64 0]) := by kernel_rfl
theorem bd_75_0_1_2_3 (x0 : Option Addr) (x0n x0c : Nat) (x1 : Option Addr) (x1n x1c : Nat) (x2 : Option Addr) (x3 : Option Addr) : buildA Tryz.prog 75 [(0, .slice x0 x0n x0c), (1, .slice x1 x1n x1c), (2, .pointer x2), (3, .pointer x3)] = some (.agg #[.slice x0 x0n x0c, .slice x1 x1n x1c, .pointer x2, .pointer x3]) := by kernel_rfl
theorem bd_99_0_1_6_7_8 (x0_0 : Int) (x0_1 : Int) (x0_2 : Int) (x0_3 : Int) (x0_4 : Option Addr) (x0_4n x0_4c : Nat) (x1 : Option Addr) (x6 : Option Addr) (x7 : Option Addr) (x8 : Option Addr) : buildA Tryz.prog 99 [(0, .agg #[.int .i64 x0_0, .int .i64 x0_1, .int .i64 x0_2, .int .i64 x0_3, .slice x0_4 x0_4n x0_4c]), (1, .pointer x1), (6, .pointer x6), (7, .pointer x7), (8, .pointer x8)] = some (.agg #[.int .i64 x0_0, .int .i64 x0_1, .int .i64 x0_2, .int .i64 x0_3, .slice x0_4 x0_4n x0_4c, .pointer x1, .slice none 0 0, .slice none 0 0, .slice none 0 0, .pointer none, .pointer x6, .pointer x7, .pointer x8]) := by kernel_rfl
theorem cl_1 (x0 : Value) : (Value.agg #[x0]).cells.toList = [x0] := rfl
theorem cl_11 (x0 x1 x2 x3 x4 x5 x6 x7 x8 x9 x10 : Value) : (Value.agg #[x0, x1, x2, x3, x4, x5, x6, x7, x8, x9, x10]).cells.toList = [x0, x1, x2, x3, x4, x5, x6, x7, x8, x9, x10] := rfl
theorem cl_13 (x0 x1 x2 x3 x4 x5 x6 x7 x8 x9 x10 x11 x12 : Value) : (Value.agg #[x0, x1, x2, x3, x4, x5, x6, x7, x8, x9, x10, x11, x12]).cells.toList = [x0, x1, x2, x3, x4, x5, x6, x7, x8, x9, x10, x11, x12] := rfl
theorem cl_14 (x0 x1 x2 x3 x4 x5 x6 x7 x8 x9 x10 x11 x12 x13 : Value) : (Value.agg #[x0, x1, x2, x3, x4, x5, x6, x7, x8, x9, x10, x11, x12, x13]).cells.toList = [x0, x1, x2, x3, x4, x5, x6, x7, x8, x9, x10, x11, x12, x13] := rfl
theorem cl_2 (x0 x1 : Value) : (Value.agg #[x0, x1]).cells.toList = [x0, x1] := rfl
theorem cl_3 (x0 x1 x2 : Value) : (Value.agg #[x0, x1, x2]).cells.toList = [x0, x1, x2] := rfl
theorem cl_4 (x0 x1 x2 x3 : Value) : (Value.agg #[x0, x1, x2, x3]).cells.toList = [x0, x1, x2, x3] := rfl
theorem cl_5 (x0 x1 x2 x3 x4 : Value) : (Value.agg #[x0, x1, x2, x3, x4]).cells.toList = [x0, x1, x2, x3, x4] := rfl
theorem cl_6 (x0 x1 x2 x3 x4 x5 : Value) : (Value.agg #[x0, x1, x2, x3, x4, x5]).cells.toList = [x0, x1, x2, x3, x4, x5] := rfl
theorem cl_7 (x0 x1 x2 x3 x4 x5 x6 : Value) : (Value.agg #[x0, x1, x2, x3, x4, x5, x6]).cells.toList = [x0, x1, x2, x3, x4, x5, x6] := rfl
theorem cl_8 (x0 x1 x2 x3 x4 x5 x6 x7 : Value) : (Value.agg #[x0, x1, x2, x3, x4, x5, x6, x7]).cells.toList = [x0, x1, x2, x3, x4, x5, x6, x7] := rfl
theorem cl_9 (x0 x1 x2 x3 x4 x5 x6 x7 x8 : Value) : (Value.agg #[x0, x1, x2, x3, x4, x5, x6, x7, x8]).cells.toList = [x0, x1, x2, x3, x4, x5, x6, x7, x8] := rfl
theorem cv_2_26 {rd : Nat → Option AObj} (n : Int) : convA Tryz.prog rd 2 26 (.int .i64 n) = some (.int .u64 (IntKind.u64.wrap n)) := by kernel_rfl
theorem cv_26_2 {rd : Nat → Option AObj} (n : Int) : convA Tryz.prog rd 26 2 (.int .u64 n) = some (.int .i64 (IntKind.i64.wrap n)) := by kernel_rfl
theorem cv_26_3 {rd : Nat → Option AObj} (n : Int) : convA Tryz.prog rd 26 3 (.int .u64 n) = some (.int .i64 (IntKind.i64.wrap n)) := by kernel_rfl
theorem cv_26_5 {rd : Nat → Option AObj} (n : Int) : convA Tryz.prog rd 26 5 (.int .u64 n) = some (.int .u8 (IntKind.u8.wrap n)) := by kernel_rfl
theorem cv_26_56 {rd : Nat → Option AObj} (n : Int) : convA Tryz.prog rd 26 56 (.int .u64 n) = some (.int .u32 (IntKind.u32.wrap n)) := by kernel_rfl
theorem cv_3_26 {rd : Nat → Option AObj} (n : Int) : convA Tryz.prog rd 3 26 (.int .i64 n) = some (.int .u64 (IntKind.u64.wrap n)) := by kernel_rfl
theorem cv_3_387 {rd : Nat → Option AObj} (n : Int) : convA Tryz.prog rd 3 387 (.int .i64 n) = some (.int .u64 (IntKind.u64.wrap n)) := by kernel_rfl
theorem cv_3_5 {rd : Nat → Option AObj} (n : Int) : convA Tryz.prog rd 3 5 (.int .i64 n) = some (.int .u8 (IntKind.u8.wrap n)) := by kernel_rfl
theorem cv_3_56 {rd : Nat → Option AObj} (n : Int) : convA Tryz.prog rd 3 56 (.int .i64 n) = some (.int .u32 (IntKind.u32.wrap n)) := by kernel_rfl
theorem cv_3_65 {rd : Nat → Option AObj} (n : Int) : convA Tryz.prog rd 3 65 (.int .i64 n) = some (.int .u64 (IntKind.u64.wrap n)) := by kernel_rfl
theorem cv_33_3 {rd : Nat → Option AObj} (n : Int) : convA Tryz.prog rd 33 3 (.int .u16 n) = some (.int .i64 (IntKind.i64.wrap n)) := by kernel_rfl
theorem cv_5_26 {rd : Nat → Option AObj} (n : Int) : convA Tryz.prog rd 5 26 (.int .u8 n) = some (.int .u64 (IntKind.u64.wrap n)) := by kernel_rfl
theorem cv_5_3 {rd : Nat → Option AObj} (n : Int) : convA Tryz.prog rd 5 3 (.int .u8 n) = some (.int .i64 (IntKind.i64.wrap n)) := by kernel_rfl
theorem cv_5_56 {rd : Nat → Option AObj} (n : Int) : convA Tryz.prog rd 5 56 (.int .u8 n) = some (.int .u32 (IntKind.u32.wrap n)) := by kernel_rfl
theorem cv_56_26 {rd : Nat → Option AObj} (n : Int) : convA Tryz.prog rd 56 26 (.int .u32 n) = some (.int .u64 (IntKind.u64.wrap n)) := by kernel_rfl
theorem cv_56_5 {rd : Nat → Option AObj} (n : Int) : convA Tryz.prog rd 56 5 (.int .u32 n) = some (.int .u8 (IntKind.u8.wrap n)) := by kernel_rfl
theorem cv_65_3 {rd : Nat → Option AObj} (n : Int) : convA Tryz.prog rd 65 3 (.int .u64 n) = some (.int .i64 (IntKind.i64.wrap n)) := by kernel_rfl
theorem cv_65_56 {rd : Nat → Option AObj} (n : Int) : convA Tryz.prog rd 65 56 (.int .u64 n) = some (.int .u32 (IntKind.u32.wrap n)) := by kernel_rfl
theorem fa_110_0 (b off : Nat) : fieldAddrA Tryz.prog 110 0 (.pointer (some ⟨b, off, none⟩)) = some (.pointer (some ⟨b, off, none⟩)) := by kernel_rfl
theorem fa_110_1 (b off : Nat) : fieldAddrA Tryz.prog 110 1 (.pointer (some ⟨b, off, none⟩)) = some (.pointer (some ⟨b, off + 1, none⟩)) := by kernel_rfl
theorem fa_119_0 (b off : Nat) : fieldAddrA Tryz.prog 119 0 (.pointer (some ⟨b, off, none⟩)) = some (.pointer (some ⟨b, off, none⟩)) := by kernel_rfl
theorem fa_119_1 (b off : Nat) : fieldAddrA Tryz.prog 119 1 (.pointer (some ⟨b, off, none⟩)) = some (.pointer (some ⟨b, off + 1, none⟩)) := by kernel_rfl
theorem fa_119_2 (b off : Nat) : fieldAddrA Tryz.prog 119 2 (.pointer (some ⟨b, off, none⟩)) = some (.pointer (some ⟨b, off + 2, none⟩)) := by kernel_rfl
theorem fa_121_0 (b off : Nat) : fieldAddrA Tryz.prog 121 0 (.pointer (some ⟨b, off, none⟩)) = some (.pointer (some ⟨b, off, none⟩)) := by kernel_rfl
theorem fa_124_0 (b off : Nat) : fieldAddrA Tryz.prog 124 0 (.pointer (some ⟨b, off, none⟩)) = some (.pointer (some ⟨b, off, none⟩)) := by kernel_rfl
theorem fa_124_1 (b off : Nat) : fieldAddrA Tryz.prog 124 1 (.pointer (some ⟨b, off, none⟩)) = some (.pointer (some ⟨b, off + 1, none⟩)) := by kernel_rfl
theorem fa_124_2 (b off : Nat) : fieldAddrA Tryz.prog 124 2 (.pointer (some ⟨b, off, none⟩)) = some (.pointer (some ⟨b, off + 2, none⟩)) := by kernel_rfl
theorem fa_124_3 (b off : Nat) : fieldAddrA Tryz.prog 124 3 (.pointer (some ⟨b, off, none⟩)) = some (.pointer (some ⟨b, off + 3, none⟩)) := by kernel_rfl
theorem fa_124_4 (b off : Nat) : fieldAddrA Tryz.prog 124 4 (.pointer (some ⟨b, off, none⟩)) = some (.pointer (some ⟨b, off + 4, none⟩)) := by kernel_rfl
theorem fa_124_5 (b off : Nat) : fieldAddrA Tryz.prog 124 5 (.pointer (some ⟨b, off, none⟩)) = some (.pointer (some ⟨b, off + 5, none⟩)) := by kernel_rfl
theorem fa_150_0 (b off : Nat) : fieldAddrA Tryz.prog 150 0 (.pointer (some ⟨b, off, none⟩)) = some (.pointer (some ⟨b, off, none⟩)) := by kernel_rfl
theorem fa_150_1 (b off : Nat) : fieldAddrA Tryz.prog 150 1 (.pointer (some ⟨b, off, none⟩)) = some (.pointer (some ⟨b, off + 1, none⟩)) := by kernel_rfl
theorem fa_157_0 (b off : Nat) : fieldAddrA Tryz.prog 157 0 (.pointer (some ⟨b, off, none⟩)) = some (.pointer (some ⟨b, off, none⟩)) := by kernel_rfl
theorem fa_157_1 (b off : Nat) : fieldAddrA Tryz.prog 157 1 (.pointer (some ⟨b, off, none⟩)) = some (.pointer (some ⟨b, off + 1, none⟩)) := by kernel_rfl
theorem fa_157_2 (b off : Nat) : fieldAddrA Tryz.prog 157 2 (.pointer (some ⟨b, off, none⟩)) = some (.pointer (some ⟨b, off + 2, none⟩)) := by kernel_rfl
theorem fa_157_3 (b off : Nat) : fieldAddrA Tryz.prog 157 3 (.pointer (some ⟨b, off, none⟩)) = some (.pointer (some ⟨b, off + 3, none⟩)) := by kernel_rfl
theorem fa_157_4 (b off : Nat) : fieldAddrA Tryz.prog 157 4 (.pointer (some ⟨b, off, none⟩)) = some (.pointer (some ⟨b, off + 4, none⟩)) := by kernel_rfl
theorem fa_160_0 (b off : Nat) : fieldAddrA Tryz.prog 160 0 (.pointer (some ⟨b, off, none⟩)) = some (.pointer (some ⟨b, off, none⟩)) := by kernel_rfl
theorem fa_166_0 (b off : Nat) : fieldAddrA Tryz.prog 166 0 (.pointer (some ⟨b, off, none⟩)) = some (.pointer (some ⟨b, off, none⟩)) := by kernel_rfl
theorem fa_166_1 (b off : Nat) : fieldAddrA Tryz.prog 166 1 (.pointer (some ⟨b, off, none⟩)) = some (.pointer (some ⟨b, off + 1, none⟩)) := by kernel_rfl
theorem fa_166_2 (b off : Nat) : fieldAddrA Tryz.prog 166 2 (.pointer (some ⟨b, off, none⟩)) = some (.pointer (some ⟨b, off + 2, none⟩)) := by kernel_rfl
theorem fa_173_0 (b off : Nat) : fieldAddrA Tryz.prog 173 0 (.pointer (some ⟨b, off, none⟩)) = some (.pointer (some ⟨b, off, none⟩)) := by kernel_rfl
theorem fa_173_1 (b off : Nat) : fieldAddrA Tryz.prog 173 1 (.pointer (some ⟨b, off, none⟩)) = some (.pointer (some ⟨b, off + 1, none⟩)) := by kernel_rfl
theorem fa_173_2 (b off : Nat) : fieldAddrA Tryz.prog 173 2 (.pointer (some ⟨b, off, none⟩)) = some (.pointer (some ⟨b, off + 2, none⟩)) := by kernel_rfl
theorem fa_173_3 (b off : Nat) : fieldAddrA Tryz.prog 173 3 (.pointer (some ⟨b, off, none⟩)) = some (.pointer (some ⟨b, off + 3, none⟩)) := by kernel_rfl
theorem fa_173_4 (b off : Nat) : fieldAddrA Tryz.prog 173 4 (.pointer (some ⟨b, off, none⟩)) = some (.pointer (some ⟨b, off + 4, none⟩)) := by kernel_rfl
theorem fa_173_5 (b off : Nat) : fieldAddrA Tryz.prog 173 5 (.pointer (some ⟨b, off, none⟩)) = some (.pointer (some ⟨b, off + 5, none⟩)) := by kernel_rfl
theorem fa_175_0 (b off : Nat) : fieldAddrA Tryz.prog 175 0 (.pointer (some ⟨b, off, none⟩)) = some (.pointer (some ⟨b, off, none⟩)) := by kernel_rfl
theorem fa_175_1 (b off : Nat) : fieldAddrA Tryz.prog 175 1 (.pointer (some ⟨b, off, none⟩)) = some (.pointer (some ⟨b, off + 1, none⟩)) := by kernel_rfl
theorem fa_180_0 (b off : Nat) : fieldAddrA Tryz.prog 180 0 (.pointer (some ⟨b, off, none⟩)) = some (.pointer (some ⟨b, off, none⟩)) := by kernel_rfl
theorem fa_180_1 (b off : Nat) : fieldAddrA Tryz.prog 180 1 (.pointer (some ⟨b, off, none⟩)) = some (.pointer (some ⟨b, off + 1, none⟩)) := by kernel_rfl
theorem fa_180_2 (b off : Nat) : fieldAddrA Tryz.prog 180 2 (.pointer (some ⟨b, off, none⟩)) = some (.pointer (some ⟨b, off + 2, none⟩)) := by kernel_rfl
theorem fa_182_0 (b off : Nat) : fieldAddrA Tryz.prog 182 0 (.pointer (some ⟨b, off, none⟩)) = some (.pointer (some ⟨b, off, none⟩)) := by kernel_rfl
theorem fa_182_1 (b off : Nat) : fieldAddrA Tryz.prog 182 1 (.pointer (some ⟨b, off, none⟩)) = some (.pointer (some ⟨b, off + 1, none⟩)) := by kernel_rfl
theorem fa_182_2 (b off : Nat) : fieldAddrA Tryz.prog 182 2 (.pointer (some ⟨b, off, none⟩)) = some (.pointer (some ⟨b, off + 2, none⟩)) := by kernel_rfl
theorem fa_182_3 (b off : Nat) : fieldAddrA Tryz.prog 182 3 (.pointer (some ⟨b, off, none⟩)) = some (.pointer (some ⟨b, off + 3, none⟩)) := by kernel_rfl
theorem fa_185_0 (b off : Nat) : fieldAddrA Tryz.prog 185 0 (.pointer (some ⟨b, off, none⟩)) = some (.pointer (some ⟨b, off, none⟩)) := by kernel_rfl
theorem fa_188_0 (b off : Nat) : fieldAddrA Tryz.prog 188 0 (.pointer (some ⟨b, off, none⟩)) = some (.pointer (some ⟨b, off, none⟩)) := by kernel_rfl
theorem fa_188_1 (b off : Nat) : fieldAddrA Tryz.prog 188 1 (.pointer (some ⟨b, off, none⟩)) = some (.pointer (some ⟨b, off + 1, none⟩)) := by kernel_rfl
theorem fa_188_2 (b off : Nat) : fieldAddrA Tryz.prog 188 2 (.pointer (some ⟨b, off, none⟩)) = some (.pointer (some ⟨b, off + 2, none⟩)) := by kernel_rfl
theorem fa_188_3 (b off : Nat) : fieldAddrA Tryz.prog 188 3 (.pointer (some ⟨b, off, none⟩)) = some (.pointer (some ⟨b, off + 3, none⟩)) := by kernel_rfl
theorem fa_192_0 (b off : Nat) : fieldAddrA Tryz.prog 192 0 (.pointer (some ⟨b, off, none⟩)) = some (.pointer (some ⟨b, off, none⟩)) := by kernel_rfl
theorem fa_192_1 (b off : Nat) : fieldAddrA Tryz.prog 192 1 (.pointer (some ⟨b, off, none⟩)) = some (.pointer (some ⟨b, off + 1, none⟩)) := by kernel_rfl
theorem fa_192_2 (b off : Nat) : fieldAddrA Tryz.prog 192 2 (.pointer (some ⟨b, off, none⟩)) = some (.pointer (some ⟨b, off + 9, none⟩)) := by kernel_rfl
theorem fa_213_0 (b off : Nat) : fieldAddrA Tryz.prog 213 0 (.pointer (some ⟨b, off, none⟩)) = some (.pointer (some ⟨b, off, none⟩)) := by kernel_rfl
theorem fa_215_0 (b off : Nat) : fieldAddrA Tryz.prog 215 0 (.pointer (some ⟨b, off, none⟩)) = some (.pointer (some ⟨b, off, none⟩)) := by kernel_rfl
theorem fa_215_1 (b off : Nat) : fieldAddrA Tryz.prog 215 1 (.pointer (some ⟨b, off, none⟩)) = some (.pointer (some ⟨b, off + 1, none⟩)) := by kernel_rfl
theorem fa_219_0 (b off : Nat) : fieldAddrA Tryz.prog 219 0 (.pointer (some ⟨b, off, none⟩)) = some (.pointer (some ⟨b, off, none⟩)) := by kernel_rfl
theorem fa_219_1 (b off : Nat) : fieldAddrA Tryz.prog 219 1 (.pointer (some ⟨b, off, none⟩)) = some (.pointer (some ⟨b, off + 6, none⟩)) := by kernel_rfl
theorem fa_226_0 (b off : Nat) : fieldAddrA Tryz.prog 226 0 (.pointer (some ⟨b, off, none⟩)) = some (.pointer (some ⟨b, off, none⟩)) := by kernel_rfl
theorem fa_226_1 (b off : Nat) : fieldAddrA Tryz.prog 226 1 (.pointer (some ⟨b, off, none⟩)) = some (.pointer (some ⟨b, off + 1, none⟩)) := by kernel_rfl
theorem fa_226_2 (b off : Nat) : fieldAddrA Tryz.prog 226 2 (.pointer (some ⟨b, off, none⟩)) = some (.pointer (some ⟨b, off + 2, none⟩)) := by kernel_rfl
theorem fa_238_0 (b off : Nat) : fieldAddrA Tryz.prog 238 0 (.pointer (some ⟨b, off, none⟩)) = some (.pointer (some ⟨b, off, none⟩)) := by kernel_rfl
theorem fa_238_1 (b off : Nat) : fieldAddrA Tryz.prog 238 1 (.pointer (some ⟨b, off, none⟩)) = some (.pointer (some ⟨b, off + 1, none⟩)) := by kernel_rfl
theorem fa_238_2 (b off : Nat) : fieldAddrA Tryz.prog 238 2 (.pointer (some ⟨b, off, none⟩)) = some (.pointer (some ⟨b, off + 2, none⟩)) := by kernel_rfl
theorem fa_247_0 (b off : Nat) : fieldAddrA Tryz.prog 247 0 (.pointer (some ⟨b, off, none⟩)) = some (.pointer (some ⟨b, off, none⟩)) := by kernel_rfl
theorem fa_247_1 (b off : Nat) : fieldAddrA Tryz.prog 247 1 (.pointer (some ⟨b, off, none⟩)) = some (.pointer (some ⟨b, off + 1, none⟩)) := by kernel_rfl
theorem fa_247_2 (b off : Nat) : fieldAddrA Tryz.prog 247 2 (.pointer (some ⟨b, off, none⟩)) = some (.pointer (some ⟨b, off + 2, none⟩)) := by kernel_rfl
theorem fa_247_3 (b off : Nat) : fieldAddrA Tryz.prog 247 3 (.pointer (some ⟨b, off, none⟩)) = some (.pointer (some ⟨b, off + 3, none⟩)) := by kernel_rfl
theorem fa_247_4 (b off : Nat) : fieldAddrA Tryz.prog 247 4 (.pointer (some ⟨b, off, none⟩)) = some (.pointer (some ⟨b, off + 4, none⟩)) := by kernel_rfl
theorem fa_286_0 (b off : Nat) : fieldAddrA Tryz.prog 286 0 (.pointer (some ⟨b, off, none⟩)) = some (.pointer (some ⟨b, off, none⟩)) := by kernel_rfl
theorem fa_286_1 (b off : Nat) : fieldAddrA Tryz.prog 286 1 (.pointer (some ⟨b, off, none⟩)) = some (.pointer (some ⟨b, off + 1, none⟩)) := by kernel_rfl
theorem fa_286_2 (b off : Nat) : fieldAddrA Tryz.prog 286 2 (.pointer (some ⟨b, off, none⟩)) = some (.pointer (some ⟨b, off + 2, none⟩)) := by kernel_rfl
theorem fa_286_3 (b off : Nat) : fieldAddrA Tryz.prog 286 3 (.pointer (some ⟨b, off, none⟩)) = some (.pointer (some ⟨b, off + 3, none⟩)) := by kernel_rfl
theorem fa_286_4 (b off : Nat) : fieldAddrA Tryz.prog 286 4 (.pointer (some ⟨b, off, none⟩)) = some (.pointer (some ⟨b, off + 4, none⟩)) := by kernel_rfl
theorem fa_286_5 (b off : Nat) : fieldAddrA Tryz.prog 286 5 (.pointer (some ⟨b, off, none⟩)) = some (.pointer (some ⟨b, off + 9, none⟩)) := by kernel_rfl
theorem fa_286_6 (b off : Nat) : fieldAddrA Tryz.prog 286 6 (.pointer (some ⟨b, off, none⟩)) = some (.pointer (some ⟨b, off + 10, none⟩)) := by kernel_rfl
theorem fa_30_0 (b off : Nat) : fieldAddrA Tryz.prog 30 0 (.pointer (some ⟨b, off, none⟩)) = some (.pointer (some ⟨b, off, none⟩)) := by kernel_rfl
theorem fa_30_1 (b off : Nat) : fieldAddrA Tryz.prog 30 1 (.pointer (some ⟨b, off, none⟩)) = some (.pointer (some ⟨b, off + 1, none⟩)) := by kernel_rfl
theorem fa_30_2 (b off : Nat) : fieldAddrA Tryz.prog 30 2 (.pointer (some ⟨b, off, none⟩)) = some (.pointer (some ⟨b, off + 2, none⟩)) := by kernel_rfl
theorem fa_30_3 (b off : Nat) : fieldAddrA Tryz.prog 30 3 (.pointer (some ⟨b, off, none⟩)) = some (.pointer (some ⟨b, off + 10, none⟩)) := by kernel_rfl
theorem fa_30_4 (b off : Nat) : fieldAddrA Tryz.prog 30 4 (.pointer (some ⟨b, off, none⟩)) = some (.pointer (some ⟨b, off + 11, none⟩)) := by kernel_rfl
theorem fa_30_5 (b off : Nat) : fieldAddrA Tryz.prog 30 5 (.pointer (some ⟨b, off, none⟩)) = some (.pointer (some ⟨b, off + 12, none⟩)) := by kernel_rfl
theorem fa_30_6 (b off : Nat) : fieldAddrA Tryz.prog 30 6 (.pointer (some ⟨b, off, none⟩)) = some (.pointer (some ⟨b, off + 13, none⟩)) := by kernel_rfl
theorem fa_310_0 (b off : Nat) : fieldAddrA Tryz.prog 310 0 (.pointer (some ⟨b, off, none⟩)) = some (.pointer (some ⟨b, off, none⟩)) := by kernel_rfl
theorem fa_310_1 (b off : Nat) : fieldAddrA Tryz.prog 310 1 (.pointer (some ⟨b, off, none⟩)) = some (.pointer (some ⟨b, off + 1, none⟩)) := by kernel_rfl
theorem fa_321_0 (b off : Nat) : fieldAddrA Tryz.prog 321 0 (.pointer (some ⟨b, off, none⟩)) = some (.pointer (some ⟨b, off, none⟩)) := by kernel_rfl
theorem fa_321_1 (b off : Nat) : fieldAddrA Tryz.prog 321 1 (.pointer (some ⟨b, off, none⟩)) = some (.pointer (some ⟨b, off + 1, none⟩)) := by kernel_rfl
theorem fa_321_2 (b off : Nat) : fieldAddrA Tryz.prog 321 2 (.pointer (some ⟨b, off, none⟩)) = some (.pointer (some ⟨b, off + 2, none⟩)) := by kernel_rfl
theorem fa_336_0 (b off : Nat) : fieldAddrA Tryz.prog 336 0 (.pointer (some ⟨b, off, none⟩)) = some (.pointer (some ⟨b, off, none⟩)) := by kernel_rfl
theorem fa_336_1 (b off : Nat) : fieldAddrA Tryz.prog 336 1 (.pointer (some ⟨b, off, none⟩)) = some (.pointer (some ⟨b, off + 1, none⟩)) := by kernel_rfl
theorem fa_342_0 (b off : Nat) : fieldAddrA Tryz.prog 342 0 (.pointer (some ⟨b, off, none⟩)) = some (.pointer (some ⟨b, off, none⟩)) := by kernel_rfl
theorem fa_342_1 (b off : Nat) : fieldAddrA Tryz.prog 342 1 (.pointer (some ⟨b, off, none⟩)) = some (.pointer (some ⟨b, off + 1, none⟩)) := by kernel_rfl
theorem fa_360_0 (b off : Nat) : fieldAddrA Tryz.prog 360 0 (.pointer (some ⟨b, off, none⟩)) = some (.pointer (some ⟨b, off, none⟩)) := by kernel_rfl
theorem fa_360_1 (b off : Nat) : fieldAddrA Tryz.prog 360 1 (.pointer (some ⟨b, off, none⟩)) = some (.pointer (some ⟨b, off + 1, none⟩)) := by kernel_rfl
theorem fa_360_2 (b off : Nat) : fieldAddrA Tryz.prog 360 2 (.pointer (some ⟨b, off, none⟩)) = some (.pointer (some ⟨b, off + 2, none⟩)) := by kernel_rfl
theorem fa_370_0 (b off : Nat) : fieldAddrA Tryz.prog 370 0 (.pointer (some ⟨b, off, none⟩)) = some (.pointer (some ⟨b, off, none⟩)) := by kernel_rfl
theorem fa_370_1 (b off : Nat) : fieldAddrA Tryz.prog 370 1 (.pointer (some ⟨b, off, none⟩)) = some (.pointer (some ⟨b, off + 1, none⟩)) := by kernel_rfl
theorem fa_38_0 (b off : Nat) : fieldAddrA Tryz.prog 38 0 (.pointer (some ⟨b, off, none⟩)) = some (.pointer (some ⟨b, off, none⟩)) := by kernel_rfl
theorem fa_38_1 (b off : Nat) : fieldAddrA Tryz.prog 38 1 (.pointer (some ⟨b, off, none⟩)) = some (.pointer (some ⟨b, off + 1, none⟩)) := by kernel_rfl
theorem fa_38_2 (b off : Nat) : fieldAddrA Tryz.prog 38 2 (.pointer (some ⟨b, off, none⟩)) = some (.pointer (some ⟨b, off + 2, none⟩)) := by kernel_rfl
theorem fa_38_3 (b off : Nat) : fieldAddrA Tryz.prog 38 3 (.pointer (some ⟨b, off, none⟩)) = some (.pointer (some ⟨b, off + 3, none⟩)) := by kernel_rfl
theorem fa_38_4 (b off : Nat) : fieldAddrA Tryz.prog 38 4 (.pointer (some ⟨b, off, none⟩)) = some (.pointer (some ⟨b, off + 4, none⟩)) := by kernel_rfl
theorem fa_50_0 (b off : Nat) : fieldAddrA Tryz.prog 50 0 (.pointer (some ⟨b, off, none⟩)) = some (.pointer (some ⟨b, off, none⟩)) := by kernel_rfl
theorem fa_50_1 (b off : Nat) : fieldAddrA Tryz.prog 50 1 (.pointer (some ⟨b, off, none⟩)) = some (.pointer (some ⟨b, off + 1, none⟩)) := by kernel_rfl
theorem fa_54_0 (b off : Nat) : fieldAddrA Tryz.prog 54 0 (.pointer (some ⟨b, off, none⟩)) = some (.pointer (some ⟨b, off, none⟩)) := by kernel_rfl
theorem fa_54_1 (b off : Nat) : fieldAddrA Tryz.prog 54 1 (.pointer (some ⟨b, off, none⟩)) = some (.pointer (some ⟨b, off + 1, none⟩)) := by kernel_rfl
theorem fa_59_0 (b off : Nat) : fieldAddrA Tryz.prog 59 0 (.pointer (some ⟨b, off, none⟩)) = some (.pointer (some ⟨b, off, none⟩)) := by kernel_rfl
theorem fa_59_1 (b off : Nat) : fieldAddrA Tryz.prog 59 1 (.pointer (some ⟨b, off, none⟩)) = some (.pointer (some ⟨b, off + 1, none⟩)) := by kernel_rfl
theorem fa_59_2 (b off : Nat) : fieldAddrA Tryz.prog 59 2 (.pointer (some ⟨b, off, none⟩)) = some (.pointer (some ⟨b, off + 2, none⟩)) := by kernel_rfl
theorem fa_59_3 (b off : Nat) : fieldAddrA Tryz.prog 59 3 (.pointer (some ⟨b, off, none⟩)) = some (.pointer (some ⟨b, off + 3, none⟩)) := by kernel_rfl
theorem fa_59_4 (b off : Nat) : fieldAddrA Tryz.prog 59 4 (.pointer (some ⟨b, off, none⟩)) = some (.pointer (some ⟨b, off + 4, none⟩)) := by kernel_rfl
theorem fa_59_5 (b off : Nat) : fieldAddrA Tryz.prog 59 5 (.pointer (some ⟨b, off, none⟩)) = some (.pointer (some ⟨b, off + 5, none⟩)) := by kernel_rfl
theorem fa_59_6 (b off : Nat) : fieldAddrA Tryz.prog 59 6 (.pointer (some ⟨b, off, none⟩)) = some (.pointer (some ⟨b, off + 6, none⟩)) := by kernel_rfl
theorem fa_59_7 (b off : Nat) : fieldAddrA Tryz.prog 59 7 (.pointer (some ⟨b, off, none⟩)) = some (.pointer (some ⟨b, off + 7, none⟩)) := by kernel_rfl
theorem fa_59_8 (b off : Nat) : fieldAddrA Tryz.prog 59 8 (.pointer (some ⟨b, off, none⟩)) = some (.pointer (some ⟨b, off + 8, none⟩)) := by kernel_rfl
theorem fa_63_0 (b off : Nat) : fieldAddrA Tryz.prog 63 0 (.pointer (some ⟨b, off, none⟩)) = some (.pointer (some ⟨b, off, none⟩)) := by kernel_rfl
theorem fa_63_1 (b off : Nat) : fieldAddrA Tryz.prog 63 1 (.pointer (some ⟨b, off, none⟩)) = some (.pointer (some ⟨b, off + 1, none⟩)) := by kernel_rfl
theorem fa_63_3 (b off : Nat) : fieldAddrA Tryz.prog 63 3 (.pointer (some ⟨b, off, none⟩)) = some (.pointer (some ⟨b, off + 10, none⟩)) := by kernel_rfl
theorem fa_75_1 (b off : Nat) : fieldAddrA Tryz.prog 75 1 (.pointer (some ⟨b, off, none⟩)) = some (.pointer (some ⟨b, off + 1, none⟩)) := by kernel_rfl
theorem fa_75_2 (b off : Nat) : fieldAddrA Tryz.prog 75 2 (.pointer (some ⟨b, off, none⟩)) = some (.pointer (some ⟨b, off + 2, none⟩)) := by kernel_rfl
theorem fa_75_3 (b off : Nat) : fieldAddrA Tryz.prog 75 3 (.pointer (some ⟨b, off, none⟩)) = some (.pointer (some ⟨b, off + 3, none⟩)) := by kernel_rfl
theorem fa_99_0 (b off : Nat) : fieldAddrA Tryz.prog 99 0 (.pointer (some ⟨b, off, none⟩)) = some (.pointer (some ⟨b, off, none⟩)) := by kernel_rfl
theorem fa_99_1 (b off : Nat) : fieldAddrA Tryz.prog 99 1 (.pointer (some ⟨b, off, none⟩)) = some (.pointer (some ⟨b, off + 5, none⟩)) := by kernel_rfl
theorem fa_99_2 (b off : Nat) : fieldAddrA Tryz.prog 99 2 (.pointer (some ⟨b, off, none⟩)) = some (.pointer (some ⟨b, off + 6, none⟩)) := by kernel_rfl
theorem fa_99_3 (b off : Nat) : fieldAddrA Tryz.prog 99 3 (.pointer (some ⟨b, off, none⟩)) = some (.pointer (some ⟨b, off + 7, none⟩)) := by kernel_rfl
theorem fa_99_4 (b off : Nat) : fieldAddrA Tryz.prog 99 4 (.pointer (some ⟨b, off, none⟩)) = some (.pointer (some ⟨b, off + 8, none⟩)) := by kernel_rfl
theorem fa_99_5 (b off : Nat) : fieldAddrA Tryz.prog 99 5 (.pointer (some ⟨b, off, none⟩)) = some (.pointer (some ⟨b, off + 9, none⟩)) := by kernel_rfl
theorem fa_99_6 (b off : Nat) : fieldAddrA Tryz.prog 99 6 (.pointer (some ⟨b, off, none⟩)) = some (.pointer (some ⟨b, off + 10, none⟩)) := by kernel_rfl
theorem fa_99_7 (b off : Nat) : fieldAddrA Tryz.prog 99 7 (.pointer (some ⟨b, off, none⟩)) = some (.pointer (some ⟨b, off + 11, none⟩)) := by kernel_rfl
theorem fa_99_8 (b off : Nat) : fieldAddrA Tryz.prog 99 8 (.pointer (some ⟨b, off, none⟩)) = some (.pointer (some ⟨b, off + 12, none⟩)) := by kernel_rfl
theorem fv_188_2 (x0 : Int) (x1 : Int) (x2 : Int) (x3 : Int) : fieldA Tryz.prog 188 2 (.agg #[.int .i64 x0, .int .i64 x1, .int .i64 x2, .int .u64 x3]) = some (.int .i64 x2) := by kernel_rfl
theorem fv_38_3 (x0 : Int) (x1 : Int) (x2 : Int) (x3 : Int) (x4 : Option Addr) (x4n x4c : Nat) : fieldA Tryz.prog 38 3 (.agg #[.int .i64 x0, .int .i64 x1, .int .i64 x2, .int .i64 x3, .slice x4 x4n x4c]) = some (.int .i64 x3) := by kernel_rfl
theorem ixi_100 {b off n c : Nat} {i : Int} (h0 : 0 ≤ i) (h1 : i < n) : indexAddrA Tryz.prog 100 (.slice (some ⟨b, off, none⟩) n c) (.int .i64 i) = some (.pointer (some ⟨b, off + i.toNat, none⟩)) := by
  have h : indexAddrA Tryz.prog 100 (.slice (some ⟨b, off, none⟩) n c) (.int .i64 i) = if 0 ≤ i ∧ i < n then some (.pointer (some ((⟨b, off, none⟩ : Addr).add (i.toNat * 1)))) else none := by kernel_rfl
  rw [h, if_pos ⟨h0, h1⟩]
  simp [Addr.add]
  try omega
theorem ixn_100 {b off n c : Nat} {i : Nat} (h1 : i < n) : indexAddrA Tryz.prog 100 (.slice (some ⟨b, off, none⟩) n c) (.int .i64 (i : Int)) = some (.pointer (some ⟨b, off + i, none⟩)) := by
  rw [ixi_100 (by omega) (by omega)]
  simp
theorem ixi_107 {b off n c : Nat} {i : Int} (h0 : 0 ≤ i) (h1 : i < n) : indexAddrA Tryz.prog 107 (.slice (some ⟨b, off, none⟩) n c) (.int .i64 i) = some (.pointer (some ⟨b, off + i.toNat * 2, none⟩)) := by
  have h : indexAddrA Tryz.prog 107 (.slice (some ⟨b, off, none⟩) n c) (.int .i64 i) = if 0 ≤ i ∧ i < n then some (.pointer (some ((⟨b, off, none⟩ : Addr).add (i.toNat * 2)))) else none := by kernel_rfl
  rw [h, if_pos ⟨h0, h1⟩]
  simp [Addr.add]
  try omega
theorem ixn_107 {b off n c : Nat} {i : Nat} (h1 : i < n) : indexAddrA Tryz.prog 107 (.slice (some ⟨b, off, none⟩) n c) (.int .i64 (i : Int)) = some (.pointer (some ⟨b, off + i * 2, none⟩)) := by
  rw [ixi_107 (by omega) (by omega)]
  simp
theorem ixi_117 {b off n c : Nat} {i : Int} (h0 : 0 ≤ i) (h1 : i < n) : indexAddrA Tryz.prog 117 (.slice (some ⟨b, off, none⟩) n c) (.int .i64 i) = some (.pointer (some ⟨b, off + i.toNat * 3, none⟩)) := by
  have h : indexAddrA Tryz.prog 117 (.slice (some ⟨b, off, none⟩) n c) (.int .i64 i) = if 0 ≤ i ∧ i < n then some (.pointer (some ((⟨b, off, none⟩ : Addr).add (i.toNat * 3)))) else none := by kernel_rfl
  rw [h, if_pos ⟨h0, h1⟩]
  simp [Addr.add]
  try omega
theorem ixn_117 {b off n c : Nat} {i : Nat} (h1 : i < n) : indexAddrA Tryz.prog 117 (.slice (some ⟨b, off, none⟩) n c) (.int .i64 (i : Int)) = some (.pointer (some ⟨b, off + i * 3, none⟩)) := by
  rw [ixi_117 (by omega) (by omega)]
  simp
theorem ixi_141 {b off n c : Nat} {i : Int} (h0 : 0 ≤ i) (h1 : i < n) : indexAddrA Tryz.prog 141 (.slice (some ⟨b, off, none⟩) n c) (.int .i64 i) = some (.pointer (some ⟨b, off + i.toNat, none⟩)) := by
  have h : indexAddrA Tryz.prog 141 (.slice (some ⟨b, off, none⟩) n c) (.int .i64 i) = if 0 ≤ i ∧ i < n then some (.pointer (some ((⟨b, off, none⟩ : Addr).add (i.toNat * 1)))) else none := by kernel_rfl
  rw [h, if_pos ⟨h0, h1⟩]
  simp [Addr.add]
  try omega
theorem ixn_141 {b off n c : Nat} {i : Nat} (h1 : i < n) : indexAddrA Tryz.prog 141 (.slice (some ⟨b, off, none⟩) n c) (.int .i64 (i : Int)) = some (.pointer (some ⟨b, off + i, none⟩)) := by
  rw [ixi_141 (by omega) (by omega)]
  simp
theorem ixi_142 {b off n c : Nat} {i : Int} (h0 : 0 ≤ i) (h1 : i < n) : indexAddrA Tryz.prog 142 (.slice (some ⟨b, off, none⟩) n c) (.int .i64 i) = some (.pointer (some ⟨b, off + i.toNat, none⟩)) := by
  have h : indexAddrA Tryz.prog 142 (.slice (some ⟨b, off, none⟩) n c) (.int .i64 i) = if 0 ≤ i ∧ i < n then some (.pointer (some ((⟨b, off, none⟩ : Addr).add (i.toNat * 1)))) else none := by kernel_rfl
  rw [h, if_pos ⟨h0, h1⟩]
  simp [Addr.add]
  try omega
theorem ixn_142 {b off n c : Nat} {i : Nat} (h1 : i < n) : indexAddrA Tryz.prog 142 (.slice (some ⟨b, off, none⟩) n c) (.int .i64 (i : Int)) = some (.pointer (some ⟨b, off + i, none⟩)) := by
  rw [ixi_142 (by omega) (by omega)]
  simp
theorem ixi_148 {b off n c : Nat} {i : Int} (h0 : 0 ≤ i) (h1 : i < n) : indexAddrA Tryz.prog 148 (.slice (some ⟨b, off, none⟩) n c) (.int .i64 i) = some (.pointer (some ⟨b, off + i.toNat * 128, none⟩)) := by
  have h : indexAddrA Tryz.prog 148 (.slice (some ⟨b, off, none⟩) n c) (.int .i64 i) = if 0 ≤ i ∧ i < n then some (.pointer (some ((⟨b, off, none⟩ : Addr).add (i.toNat * 128)))) else none := by kernel_rfl
  rw [h, if_pos ⟨h0, h1⟩]
  simp [Addr.add]
  try omega
theorem ixn_148 {b off n c : Nat} {i : Nat} (h1 : i < n) : indexAddrA Tryz.prog 148 (.slice (some ⟨b, off, none⟩) n c) (.int .i64 (i : Int)) = some (.pointer (some ⟨b, off + i * 128, none⟩)) := by
  rw [ixi_148 (by omega) (by omega)]
  simp
theorem ixi_151 {b off n c : Nat} {i : Int} (h0 : 0 ≤ i) (h1 : i < n) : indexAddrA Tryz.prog 151 (.slice (some ⟨b, off, none⟩) n c) (.int .i64 i) = some (.pointer (some ⟨b, off + i.toNat * 17, none⟩)) := by
  have h : indexAddrA Tryz.prog 151 (.slice (some ⟨b, off, none⟩) n c) (.int .i64 i) = if 0 ≤ i ∧ i < n then some (.pointer (some ((⟨b, off, none⟩ : Addr).add (i.toNat * 17)))) else none := by kernel_rfl
  rw [h, if_pos ⟨h0, h1⟩]
  simp [Addr.add]
  try omega
theorem ixn_151 {b off n c : Nat} {i : Nat} (h1 : i < n) : indexAddrA Tryz.prog 151 (.slice (some ⟨b, off, none⟩) n c) (.int .i64 (i : Int)) = some (.pointer (some ⟨b, off + i * 17, none⟩)) := by
  rw [ixi_151 (by omega) (by omega)]
  simp
theorem ixi_183 {b off n c : Nat} {i : Int} (h0 : 0 ≤ i) (h1 : i < n) : indexAddrA Tryz.prog 183 (.slice (some ⟨b, off, none⟩) n c) (.int .i64 i) = some (.pointer (some ⟨b, off + i.toNat, none⟩)) := by
  have h : indexAddrA Tryz.prog 183 (.slice (some ⟨b, off, none⟩) n c) (.int .i64 i) = if 0 ≤ i ∧ i < n then some (.pointer (some ((⟨b, off, none⟩ : Addr).add (i.toNat * 1)))) else none := by kernel_rfl
  rw [h, if_pos ⟨h0, h1⟩]
  simp [Addr.add]
  try omega
theorem ixn_183 {b off n c : Nat} {i : Nat} (h1 : i < n) : indexAddrA Tryz.prog 183 (.slice (some ⟨b, off, none⟩) n c) (.int .i64 (i : Int)) = some (.pointer (some ⟨b, off + i, none⟩)) := by
  rw [ixi_183 (by omega) (by omega)]
  simp
theorem ixi_217 {b off : Nat} {i : Int} (h0 : 0 ≤ i) (h1 : i < 6) : indexAddrA Tryz.prog 217 (.pointer (some ⟨b, off, none⟩)) (.int .i64 i) = some (.pointer (some ⟨b, off + i.toNat, none⟩)) := by
  have h : indexAddrA Tryz.prog 217 (.pointer (some ⟨b, off, none⟩)) (.int .i64 i) = if 0 ≤ i ∧ i < 6 then some (.pointer (some ((⟨b, off, none⟩ : Addr).add (i.toNat * 1)))) else none := by kernel_rfl
  rw [h, if_pos ⟨h0, h1⟩]
  simp [Addr.add]
  try omega
theorem ixn_217 {b off : Nat} {i : Nat} (h1 : i < 6) : indexAddrA Tryz.prog 217 (.pointer (some ⟨b, off, none⟩)) (.int .i64 (i : Int)) = some (.pointer (some ⟨b, off + i, none⟩)) := by
  rw [ixi_217 (by omega) (by omega)]
  simp
theorem ixi_23 {b off n c : Nat} {i : Int} (h0 : 0 ≤ i) (h1 : i < n) : indexAddrA Tryz.prog 23 (.slice (some ⟨b, off, none⟩) n c) (.int .i64 i) = some (.pointer (some ⟨b, off + i.toNat * 14, none⟩)) := by
  have h : indexAddrA Tryz.prog 23 (.slice (some ⟨b, off, none⟩) n c) (.int .i64 i) = if 0 ≤ i ∧ i < n then some (.pointer (some ((⟨b, off, none⟩ : Addr).add (i.toNat * 14)))) else none := by kernel_rfl
  rw [h, if_pos ⟨h0, h1⟩]
  simp [Addr.add]
  try omega
theorem ixn_23 {b off n c : Nat} {i : Nat} (h1 : i < n) : indexAddrA Tryz.prog 23 (.slice (some ⟨b, off, none⟩) n c) (.int .i64 (i : Int)) = some (.pointer (some ⟨b, off + i * 14, none⟩)) := by
  rw [ixi_23 (by omega) (by omega)]
  simp
theorem ixi_234 {b off n c : Nat} {i : Int} (h0 : 0 ≤ i) (h1 : i < n) : indexAddrA Tryz.prog 234 (.slice (some ⟨b, off, none⟩) n c) (.int .i64 i) = some (.pointer (some ⟨b, off + i.toNat, none⟩)) := by
  have h : indexAddrA Tryz.prog 234 (.slice (some ⟨b, off, none⟩) n c) (.int .i64 i) = if 0 ≤ i ∧ i < n then some (.pointer (some ((⟨b, off, none⟩ : Addr).add (i.toNat * 1)))) else none := by kernel_rfl
  rw [h, if_pos ⟨h0, h1⟩]
  simp [Addr.add]
  try omega
theorem ixn_234 {b off n c : Nat} {i : Nat} (h1 : i < n) : indexAddrA Tryz.prog 234 (.slice (some ⟨b, off, none⟩) n c) (.int .i64 (i : Int)) = some (.pointer (some ⟨b, off + i, none⟩)) := by
  rw [ixi_234 (by omega) (by omega)]
  simp
theorem ixi_244 {b off n c : Nat} {i : Int} (h0 : 0 ≤ i) (h1 : i < n) : indexAddrA Tryz.prog 244 (.slice (some ⟨b, off, none⟩) n c) (.int .i64 i) = some (.pointer (some ⟨b, off + i.toNat * 2, none⟩)) := by
  have h : indexAddrA Tryz.prog 244 (.slice (some ⟨b, off, none⟩) n c) (.int .i64 i) = if 0 ≤ i ∧ i < n then some (.pointer (some ((⟨b, off, none⟩ : Addr).add (i.toNat * 2)))) else none := by kernel_rfl
  rw [h, if_pos ⟨h0, h1⟩]
  simp [Addr.add]
  try omega
theorem ixn_244 {b off n c : Nat} {i : Nat} (h1 : i < n) : indexAddrA Tryz.prog 244 (.slice (some ⟨b, off, none⟩) n c) (.int .i64 (i : Int)) = some (.pointer (some ⟨b, off + i * 2, none⟩)) := by
  rw [ixi_244 (by omega) (by omega)]
  simp
theorem ixi_245 {b off n c : Nat} {i : Int} (h0 : 0 ≤ i) (h1 : i < n) : indexAddrA Tryz.prog 245 (.slice (some ⟨b, off, none⟩) n c) (.int .i64 i) = some (.pointer (some ⟨b, off + i.toNat * 2, none⟩)) := by
  have h : indexAddrA Tryz.prog 245 (.slice (some ⟨b, off, none⟩) n c) (.int .i64 i) = if 0 ≤ i ∧ i < n then some (.pointer (some ((⟨b, off, none⟩ : Addr).add (i.toNat * 2)))) else none := by kernel_rfl
  rw [h, if_pos ⟨h0, h1⟩]
  simp [Addr.add]
  try omega
theorem ixn_245 {b off n c : Nat} {i : Nat} (h1 : i < n) : indexAddrA Tryz.prog 245 (.slice (some ⟨b, off, none⟩) n c) (.int .i64 (i : Int)) = some (.pointer (some ⟨b, off + i * 2, none⟩)) := by
  rw [ixi_245 (by omega) (by omega)]
  simp
theorem ixi_25 {b off n c : Nat} {i : Int} (h0 : 0 ≤ i) (h1 : i < n) : indexAddrA Tryz.prog 25 (.slice (some ⟨b, off, none⟩) n c) (.int .i64 i) = some (.pointer (some ⟨b, off + i.toNat, none⟩)) := by
  have h : indexAddrA Tryz.prog 25 (.slice (some ⟨b, off, none⟩) n c) (.int .i64 i) = if 0 ≤ i ∧ i < n then some (.pointer (some ((⟨b, off, none⟩ : Addr).add (i.toNat * 1)))) else none := by kernel_rfl
  rw [h, if_pos ⟨h0, h1⟩]
  simp [Addr.add]
  try omega
theorem ixn_25 {b off n c : Nat} {i : Nat} (h1 : i < n) : indexAddrA Tryz.prog 25 (.slice (some ⟨b, off, none⟩) n c) (.int .i64 (i : Int)) = some (.pointer (some ⟨b, off + i, none⟩)) := by
  rw [ixi_25 (by omega) (by omega)]
  simp
theorem ixi_28 {b off : Nat} {i : Int} (h0 : 0 ≤ i) (h1 : i < 8) : indexAddrA Tryz.prog 28 (.pointer (some ⟨b, off, none⟩)) (.int .i64 i) = some (.pointer (some ⟨b, off + i.toNat, none⟩)) := by
  have h : indexAddrA Tryz.prog 28 (.pointer (some ⟨b, off, none⟩)) (.int .i64 i) = if 0 ≤ i ∧ i < 8 then some (.pointer (some ((⟨b, off, none⟩ : Addr).add (i.toNat * 1)))) else none := by kernel_rfl
  rw [h, if_pos ⟨h0, h1⟩]
  simp [Addr.add]
  try omega
theorem ixn_28 {b off : Nat} {i : Nat} (h1 : i < 8) : indexAddrA Tryz.prog 28 (.pointer (some ⟨b, off, none⟩)) (.int .i64 (i : Int)) = some (.pointer (some ⟨b, off + i, none⟩)) := by
  rw [ixi_28 (by omega) (by omega)]
  simp
theorem ixi_36 {b off n c : Nat} {i : Int} (h0 : 0 ≤ i) (h1 : i < n) : indexAddrA Tryz.prog 36 (.slice (some ⟨b, off, none⟩) n c) (.int .i64 i) = some (.pointer (some ⟨b, off + i.toNat * 9, none⟩)) := by
  have h : indexAddrA Tryz.prog 36 (.slice (some ⟨b, off, none⟩) n c) (.int .i64 i) = if 0 ≤ i ∧ i < n then some (.pointer (some ((⟨b, off, none⟩ : Addr).add (i.toNat * 9)))) else none := by kernel_rfl
  rw [h, if_pos ⟨h0, h1⟩]
  simp [Addr.add]
  try omega
theorem ixn_36 {b off n c : Nat} {i : Nat} (h1 : i < n) : indexAddrA Tryz.prog 36 (.slice (some ⟨b, off, none⟩) n c) (.int .i64 (i : Int)) = some (.pointer (some ⟨b, off + i * 9, none⟩)) := by
  rw [ixi_36 (by omega) (by omega)]
  simp
theorem ixi_371 {b off n c : Nat} {i : Int} (h0 : 0 ≤ i) (h1 : i < n) : indexAddrA Tryz.prog 371 (.slice (some ⟨b, off, none⟩) n c) (.int .i64 i) = some (.pointer (some ⟨b, off + i.toNat * 2, none⟩)) := by
  have h : indexAddrA Tryz.prog 371 (.slice (some ⟨b, off, none⟩) n c) (.int .i64 i) = if 0 ≤ i ∧ i < n then some (.pointer (some ((⟨b, off, none⟩ : Addr).add (i.toNat * 2)))) else none := by kernel_rfl
  rw [h, if_pos ⟨h0, h1⟩]
  simp [Addr.add]
  try omega
theorem ixn_371 {b off n c : Nat} {i : Nat} (h1 : i < n) : indexAddrA Tryz.prog 371 (.slice (some ⟨b, off, none⟩) n c) (.int .i64 (i : Int)) = some (.pointer (some ⟨b, off + i * 2, none⟩)) := by
  rw [ixi_371 (by omega) (by omega)]
  simp
theorem ixi_57 {b off n c : Nat} {i : Int} (h0 : 0 ≤ i) (h1 : i < n) : indexAddrA Tryz.prog 57 (.slice (some ⟨b, off, none⟩) n c) (.int .i64 i) = some (.pointer (some ⟨b, off + i.toNat, none⟩)) := by
  have h : indexAddrA Tryz.prog 57 (.slice (some ⟨b, off, none⟩) n c) (.int .i64 i) = if 0 ≤ i ∧ i < n then some (.pointer (some ((⟨b, off, none⟩ : Addr).add (i.toNat * 1)))) else none := by kernel_rfl
  rw [h, if_pos ⟨h0, h1⟩]
  simp [Addr.add]
  try omega
theorem ixn_57 {b off n c : Nat} {i : Nat} (h1 : i < n) : indexAddrA Tryz.prog 57 (.slice (some ⟨b, off, none⟩) n c) (.int .i64 (i : Int)) = some (.pointer (some ⟨b, off + i, none⟩)) := by
  rw [ixi_57 (by omega) (by omega)]
  simp
theorem ixi_94 {b off n c : Nat} {i : Int} (h0 : 0 ≤ i) (h1 : i < n) : indexAddrA Tryz.prog 94 (.slice (some ⟨b, off, none⟩) n c) (.int .i64 i) = some (.pointer (some ⟨b, off + i.toNat, none⟩)) := by
  have h : indexAddrA Tryz.prog 94 (.slice (some ⟨b, off, none⟩) n c) (.int .i64 i) = if 0 ≤ i ∧ i < n then some (.pointer (some ((⟨b, off, none⟩ : Addr).add (i.toNat * 1)))) else none := by kernel_rfl
  rw [h, if_pos ⟨h0, h1⟩]
  simp [Addr.add]
  try omega
theorem ixn_94 {b off n c : Nat} {i : Nat} (h1 : i < n) : indexAddrA Tryz.prog 94 (.slice (some ⟨b, off, none⟩) n c) (.int .i64 (i : Int)) = some (.pointer (some ⟨b, off + i, none⟩)) := by
  rw [ixi_94 (by omega) (by omega)]
  simp
theorem ixi_95 {b off n c : Nat} {i : Int} (h0 : 0 ≤ i) (h1 : i < n) : indexAddrA Tryz.prog 95 (.slice (some ⟨b, off, none⟩) n c) (.int .i64 i) = some (.pointer (some ⟨b, off + i.toNat, none⟩)) := by
  have h : indexAddrA Tryz.prog 95 (.slice (some ⟨b, off, none⟩) n c) (.int .i64 i) = if 0 ≤ i ∧ i < n then some (.pointer (some ((⟨b, off, none⟩ : Addr).add (i.toNat * 1)))) else none := by kernel_rfl
  rw [h, if_pos ⟨h0, h1⟩]
  simp [Addr.add]
  try omega
theorem ixn_95 {b off n c : Nat} {i : Nat} (h1 : i < n) : indexAddrA Tryz.prog 95 (.slice (some ⟨b, off, none⟩) n c) (.int .i64 (i : Int)) = some (.pointer (some ⟨b, off + i, none⟩)) := by
  rw [ixi_95 (by omega) (by omega)]
  simp
theorem ixi_96 {b off n c : Nat} {i : Int} (h0 : 0 ≤ i) (h1 : i < n) : indexAddrA Tryz.prog 96 (.slice (some ⟨b, off, none⟩) n c) (.int .i64 i) = some (.pointer (some ⟨b, off + i.toNat, none⟩)) := by
  have h : indexAddrA Tryz.prog 96 (.slice (some ⟨b, off, none⟩) n c) (.int .i64 i) = if 0 ≤ i ∧ i < n then some (.pointer (some ((⟨b, off, none⟩ : Addr).add (i.toNat * 1)))) else none := by kernel_rfl
  rw [h, if_pos ⟨h0, h1⟩]
  simp [Addr.add]
  try omega
theorem ixn_96 {b off n c : Nat} {i : Nat} (h1 : i < n) : indexAddrA Tryz.prog 96 (.slice (some ⟨b, off, none⟩) n c) (.int .i64 (i : Int)) = some (.pointer (some ⟨b, off + i, none⟩)) := by
  rw [ixi_96 (by omega) (by omega)]
  simp
theorem len_100 {rd : Nat → Option AObj} (a : Option Addr) (n c : Nat) : builtinA Tryz.prog rd .len #[100] [.slice a n c] = some (.int .i64 n) := by kernel_rfl
theorem len_107 {rd : Nat → Option AObj} (a : Option Addr) (n c : Nat) : builtinA Tryz.prog rd .len #[107] [.slice a n c] = some (.int .i64 n) := by kernel_rfl
theorem len_117 {rd : Nat → Option AObj} (a : Option Addr) (n c : Nat) : builtinA Tryz.prog rd .len #[117] [.slice a n c] = some (.int .i64 n) := by kernel_rfl
theorem len_141 {rd : Nat → Option AObj} (a : Option Addr) (n c : Nat) : builtinA Tryz.prog rd .len #[141] [.slice a n c] = some (.int .i64 n) := by kernel_rfl
theorem len_142 {rd : Nat → Option AObj} (a : Option Addr) (n c : Nat) : builtinA Tryz.prog rd .len #[142] [.slice a n c] = some (.int .i64 n) := by kernel_rfl
theorem len_146 {rd : Nat → Option AObj} {r : Nat} {k : IntKind} {es : List (Int × Value)} (h : rd r = some (.map k es)) : builtinA Tryz.prog rd .len #[146] [.map (some r)] = some (.int .i64 es.length) := by
  show lenA Tryz.prog rd 146 (.map (some r)) = _
  simp only [lenA, Tryz.underlying146, h]
theorem len_148 {rd : Nat → Option AObj} (a : Option Addr) (n c : Nat) : builtinA Tryz.prog rd .len #[148] [.slice a n c] = some (.int .i64 n) := by kernel_rfl
theorem len_151 {rd : Nat → Option AObj} (a : Option Addr) (n c : Nat) : builtinA Tryz.prog rd .len #[151] [.slice a n c] = some (.int .i64 n) := by kernel_rfl
theorem len_171 {rd : Nat → Option AObj} {r : Nat} {k : IntKind} {es : List (Int × Value)} (h : rd r = some (.map k es)) : builtinA Tryz.prog rd .len #[171] [.map (some r)] = some (.int .i64 es.length) := by
  show lenA Tryz.prog rd 171 (.map (some r)) = _
  simp only [lenA, Tryz.underlying171, h]
theorem len_183 {rd : Nat → Option AObj} (a : Option Addr) (n c : Nat) : builtinA Tryz.prog rd .len #[183] [.slice a n c] = some (.int .i64 n) := by kernel_rfl
theorem len_23 {rd : Nat → Option AObj} (a : Option Addr) (n c : Nat) : builtinA Tryz.prog rd .len #[23] [.slice a n c] = some (.int .i64 n) := by kernel_rfl
theorem len_234 {rd : Nat → Option AObj} (a : Option Addr) (n c : Nat) : builtinA Tryz.prog rd .len #[234] [.slice a n c] = some (.int .i64 n) := by kernel_rfl
theorem len_244 {rd : Nat → Option AObj} (a : Option Addr) (n c : Nat) : builtinA Tryz.prog rd .len #[244] [.slice a n c] = some (.int .i64 n) := by kernel_rfl
theorem len_245 {rd : Nat → Option AObj} (a : Option Addr) (n c : Nat) : builtinA Tryz.prog rd .len #[245] [.slice a n c] = some (.int .i64 n) := by kernel_rfl
theorem len_25 {rd : Nat → Option AObj} (a : Option Addr) (n c : Nat) : builtinA Tryz.prog rd .len #[25] [.slice a n c] = some (.int .i64 n) := by kernel_rfl
theorem len_36 {rd : Nat → Option AObj} (a : Option Addr) (n c : Nat) : builtinA Tryz.prog rd .len #[36] [.slice a n c] = some (.int .i64 n) := by kernel_rfl
theorem len_371 {rd : Nat → Option AObj} (a : Option Addr) (n c : Nat) : builtinA Tryz.prog rd .len #[371] [.slice a n c] = some (.int .i64 n) := by kernel_rfl
theorem len_43 {rd : Nat → Option AObj} (a : Option Addr) (n c : Nat) : builtinA Tryz.prog rd .len #[43] [.slice a n c] = some (.int .i64 n) := by kernel_rfl
theorem len_57 {rd : Nat → Option AObj} (a : Option Addr) (n c : Nat) : builtinA Tryz.prog rd .len #[57] [.slice a n c] = some (.int .i64 n) := by kernel_rfl
theorem ne_102 (xo yo : Operand) (a : Option Addr) : binA Tryz.prog .eql 102 xo yo (.pointer a) (.pointer none) = some (.bool a.isNone) := by kernel_rfl
theorem nn_102 (xo yo : Operand) (a : Option Addr) : binA Tryz.prog .neq 102 xo yo (.pointer a) (.pointer none) = some (.bool !a.isNone) := by kernel_rfl
theorem ne_105 (xo yo : Operand) (a : Option Addr) : binA Tryz.prog .eql 105 xo yo (.pointer a) (.pointer none) = some (.bool a.isNone) := by kernel_rfl
theorem nn_105 (xo yo : Operand) (a : Option Addr) : binA Tryz.prog .neq 105 xo yo (.pointer a) (.pointer none) = some (.bool !a.isNone) := by kernel_rfl
theorem ne_112 (xo yo : Operand) (a : Option Addr) : binA Tryz.prog .eql 112 xo yo (.pointer a) (.pointer none) = some (.bool a.isNone) := by kernel_rfl
theorem nn_112 (xo yo : Operand) (a : Option Addr) : binA Tryz.prog .neq 112 xo yo (.pointer a) (.pointer none) = some (.bool !a.isNone) := by kernel_rfl
theorem ne_114 (xo yo : Operand) (a : Option Addr) : binA Tryz.prog .eql 114 xo yo (.pointer a) (.pointer none) = some (.bool a.isNone) := by kernel_rfl
theorem nn_114 (xo yo : Operand) (a : Option Addr) : binA Tryz.prog .neq 114 xo yo (.pointer a) (.pointer none) = some (.bool !a.isNone) := by kernel_rfl
theorem ne_139 (xo yo : Operand) (a : Option Addr) : binA Tryz.prog .eql 139 xo yo (.pointer a) (.pointer none) = some (.bool a.isNone) := by kernel_rfl
theorem nn_139 (xo yo : Operand) (a : Option Addr) : binA Tryz.prog .neq 139 xo yo (.pointer a) (.pointer none) = some (.bool !a.isNone) := by kernel_rfl
theorem ne_152 (xo yo : Operand) (a : Option Addr) : binA Tryz.prog .eql 152 xo yo (.pointer a) (.pointer none) = some (.bool a.isNone) := by kernel_rfl
theorem nn_152 (xo yo : Operand) (a : Option Addr) : binA Tryz.prog .neq 152 xo yo (.pointer a) (.pointer none) = some (.bool !a.isNone) := by kernel_rfl
theorem ne_154 (xo yo : Operand) (a : Option Addr) : binA Tryz.prog .eql 154 xo yo (.pointer a) (.pointer none) = some (.bool a.isNone) := by kernel_rfl
theorem nn_154 (xo yo : Operand) (a : Option Addr) : binA Tryz.prog .neq 154 xo yo (.pointer a) (.pointer none) = some (.bool !a.isNone) := by kernel_rfl
theorem ne_161 (xo yo : Operand) (a : Option Addr) : binA Tryz.prog .eql 161 xo yo (.pointer a) (.pointer none) = some (.bool a.isNone) := by kernel_rfl
theorem nn_161 (xo yo : Operand) (a : Option Addr) : binA Tryz.prog .neq 161 xo yo (.pointer a) (.pointer none) = some (.bool !a.isNone) := by kernel_rfl
theorem ne_186 (xo yo : Operand) (a : Option Nat) : binA Tryz.prog .eql 186 xo yo (.map a) (.map none) = some (.bool a.isNone) := by kernel_rfl
theorem ne_189 (xo yo : Operand) (a : Option Addr) : binA Tryz.prog .eql 189 xo yo (.pointer a) (.pointer none) = some (.bool a.isNone) := by kernel_rfl
theorem nn_189 (xo yo : Operand) (a : Option Addr) : binA Tryz.prog .neq 189 xo yo (.pointer a) (.pointer none) = some (.bool !a.isNone) := by kernel_rfl
theorem ne_244 (xo yo : Operand) (a : Option Addr) (n c : Nat) : binA Tryz.prog .eql 244 xo yo (.slice a n c) (.slice none 0 0) = some (.bool a.isNone) := by kernel_rfl
theorem nn_244 (xo yo : Operand) (a : Option Addr) (n c : Nat) : binA Tryz.prog .neq 244 xo yo (.slice a n c) (.slice none 0 0) = some (.bool !a.isNone) := by kernel_rfl
theorem ne_245 (xo yo : Operand) (a : Option Addr) (n c : Nat) : binA Tryz.prog .eql 245 xo yo (.slice a n c) (.slice none 0 0) = some (.bool a.isNone) := by kernel_rfl
theorem nn_245 (xo yo : Operand) (a : Option Addr) (n c : Nat) : binA Tryz.prog .neq 245 xo yo (.slice a n c) (.slice none 0 0) = some (.bool !a.isNone) := by kernel_rfl
theorem ne_25 (xo yo : Operand) (a : Option Addr) (n c : Nat) : binA Tryz.prog .eql 25 xo yo (.slice a n c) (.slice none 0 0) = some (.bool a.isNone) := by kernel_rfl
theorem nn_25 (xo yo : Operand) (a : Option Addr) (n c : Nat) : binA Tryz.prog .neq 25 xo yo (.slice a n c) (.slice none 0 0) = some (.bool !a.isNone) := by kernel_rfl
theorem ne_280 (xo yo : Operand) (a : Option Addr) : binA Tryz.prog .eql 280 xo yo (.pointer a) (.pointer none) = some (.bool a.isNone) := by kernel_rfl
theorem nn_280 (xo yo : Operand) (a : Option Addr) : binA Tryz.prog .neq 280 xo yo (.pointer a) (.pointer none) = some (.bool !a.isNone) := by kernel_rfl
theorem ne_284 (xo yo : Operand) (a : Option Addr) : binA Tryz.prog .eql 284 xo yo (.pointer a) (.pointer none) = some (.bool a.isNone) := by kernel_rfl
theorem nn_284 (xo yo : Operand) (a : Option Addr) : binA Tryz.prog .neq 284 xo yo (.pointer a) (.pointer none) = some (.bool !a.isNone) := by kernel_rfl
theorem ne_356 (xo yo : Operand) (a : Option Addr) : binA Tryz.prog .eql 356 xo yo (.pointer a) (.pointer none) = some (.bool a.isNone) := by kernel_rfl
theorem nn_356 (xo yo : Operand) (a : Option Addr) : binA Tryz.prog .neq 356 xo yo (.pointer a) (.pointer none) = some (.bool !a.isNone) := by kernel_rfl
theorem ne_42 (xo yo : Operand) (a : Option Addr) : binA Tryz.prog .eql 42 xo yo (.pointer a) (.pointer none) = some (.bool a.isNone) := by kernel_rfl
theorem nn_42 (xo yo : Operand) (a : Option Addr) : binA Tryz.prog .neq 42 xo yo (.pointer a) (.pointer none) = some (.bool !a.isNone) := by kernel_rfl
theorem ne_57 (xo yo : Operand) (a : Option Addr) (n c : Nat) : binA Tryz.prog .eql 57 xo yo (.slice a n c) (.slice none 0 0) = some (.bool a.isNone) := by kernel_rfl
theorem nn_57 (xo yo : Operand) (a : Option Addr) (n c : Nat) : binA Tryz.prog .neq 57 xo yo (.slice a n c) (.slice none 0 0) = some (.bool !a.isNone) := by kernel_rfl
theorem ne_67 (xo yo : Operand) (a : Option Addr) : binA Tryz.prog .eql 67 xo yo (.pointer a) (.pointer none) = some (.bool a.isNone) := by kernel_rfl
theorem nn_67 (xo yo : Operand) (a : Option Addr) : binA Tryz.prog .neq 67 xo yo (.pointer a) (.pointer none) = some (.bool !a.isNone) := by kernel_rfl
theorem ne_71 (xo yo : Operand) (a : Option Addr) : binA Tryz.prog .eql 71 xo yo (.pointer a) (.pointer none) = some (.bool a.isNone) := by kernel_rfl
theorem nn_71 (xo yo : Operand) (a : Option Addr) : binA Tryz.prog .neq 71 xo yo (.pointer a) (.pointer none) = some (.bool !a.isNone) := by kernel_rfl
theorem ne_86 (xo yo : Operand) (a : Option Addr) : binA Tryz.prog .eql 86 xo yo (.pointer a) (.pointer none) = some (.bool a.isNone) := by kernel_rfl
theorem nn_86 (xo yo : Operand) (a : Option Addr) : binA Tryz.prog .neq 86 xo yo (.pointer a) (.pointer none) = some (.bool !a.isNone) := by kernel_rfl
theorem ne_88 (xo yo : Operand) (a : Option Addr) : binA Tryz.prog .eql 88 xo yo (.pointer a) (.pointer none) = some (.bool a.isNone) := by kernel_rfl
theorem nn_88 (xo yo : Operand) (a : Option Addr) : binA Tryz.prog .neq 88 xo yo (.pointer a) (.pointer none) = some (.bool !a.isNone) := by kernel_rfl
theorem ne_90 (xo yo : Operand) (a : Option Addr) : binA Tryz.prog .eql 90 xo yo (.pointer a) (.pointer none) = some (.bool a.isNone) := by kernel_rfl
theorem nn_90 (xo yo : Operand) (a : Option Addr) : binA Tryz.prog .neq 90 xo yo (.pointer a) (.pointer none) = some (.bool !a.isNone) := by kernel_rfl
theorem ne_92 (xo yo : Operand) (a : Option Addr) : binA Tryz.prog .eql 92 xo yo (.pointer a) (.pointer none) = some (.bool a.isNone) := by kernel_rfl
theorem nn_92 (xo yo : Operand) (a : Option Addr) : binA Tryz.prog .neq 92 xo yo (.pointer a) (.pointer none) = some (.bool !a.isNone) := by kernel_rfl
theorem ne_97 (xo yo : Operand) (a : Option Addr) : binA Tryz.prog .eql 97 xo yo (.pointer a) (.pointer none) = some (.bool a.isNone) := by kernel_rfl
theorem nn_97 (xo yo : Operand) (a : Option Addr) : binA Tryz.prog .neq 97 xo yo (.pointer a) (.pointer none) = some (.bool !a.isNone) := by kernel_rfl
theorem p_102 (cs : List Value) (off : Nat) : partL Tryz.prog 102 cs off = cs[off]? := by kernel_rfl
theorem p_105 (cs : List Value) (off : Nat) : partL Tryz.prog 105 cs off = cs[off]? := by kernel_rfl
theorem p_107 (cs : List Value) (off : Nat) : partL Tryz.prog 107 cs off = cs[off]? := by kernel_rfl
theorem p_110 (cs : List Value) (off : Nat) : partL Tryz.prog 110 cs off = if off + 2 ≤ cs.length then some (.agg ((cs.drop off).take 2).toArray) else none := by kernel_rfl
theorem p_112 (cs : List Value) (off : Nat) : partL Tryz.prog 112 cs off = cs[off]? := by kernel_rfl
theorem p_114 (cs : List Value) (off : Nat) : partL Tryz.prog 114 cs off = cs[off]? := by kernel_rfl
theorem p_117 (cs : List Value) (off : Nat) : partL Tryz.prog 117 cs off = cs[off]? := by kernel_rfl
theorem p_141 (cs : List Value) (off : Nat) : partL Tryz.prog 141 cs off = cs[off]? := by kernel_rfl
theorem p_145 (cs : List Value) (off : Nat) : partL Tryz.prog 145 cs off = cs[off]? := by kernel_rfl
theorem p_146 (cs : List Value) (off : Nat) : partL Tryz.prog 146 cs off = cs[off]? := by kernel_rfl
theorem p_148 (cs : List Value) (off : Nat) : partL Tryz.prog 148 cs off = cs[off]? := by kernel_rfl
theorem p_151 (cs : List Value) (off : Nat) : partL Tryz.prog 151 cs off = cs[off]? := by kernel_rfl
theorem p_152 (cs : List Value) (off : Nat) : partL Tryz.prog 152 cs off = cs[off]? := by kernel_rfl
theorem p_154 (cs : List Value) (off : Nat) : partL Tryz.prog 154 cs off = cs[off]? := by kernel_rfl
theorem p_158 (cs : List Value) (off : Nat) : partL Tryz.prog 158 cs off = cs[off]? := by kernel_rfl
theorem p_161 (cs : List Value) (off : Nat) : partL Tryz.prog 161 cs off = cs[off]? := by kernel_rfl
theorem p_163 (cs : List Value) (off : Nat) : partL Tryz.prog 163 cs off = cs[off]? := by kernel_rfl
theorem p_164 (cs : List Value) (off : Nat) : partL Tryz.prog 164 cs off = cs[off]? := by kernel_rfl
theorem p_170 (cs : List Value) (off : Nat) : partL Tryz.prog 170 cs off = cs[off]? := by kernel_rfl
theorem p_171 (cs : List Value) (off : Nat) : partL Tryz.prog 171 cs off = cs[off]? := by kernel_rfl
theorem p_178 (cs : List Value) (off : Nat) : partL Tryz.prog 178 cs off = cs[off]? := by kernel_rfl
theorem p_183 (cs : List Value) (off : Nat) : partL Tryz.prog 183 cs off = cs[off]? := by kernel_rfl
theorem p_186 (cs : List Value) (off : Nat) : partL Tryz.prog 186 cs off = cs[off]? := by kernel_rfl
theorem p_188 (cs : List Value) (off : Nat) : partL Tryz.prog 188 cs off = if off + 4 ≤ cs.length then some (.agg ((cs.drop off).take 4).toArray) else none := by kernel_rfl
theorem p_211 (cs : List Value) (off : Nat) : partL Tryz.prog 211 cs off = cs[off]? := by kernel_rfl
theorem p_216 (cs : List Value) (off : Nat) : partL Tryz.prog 216 cs off = cs[off]? := by kernel_rfl
theorem p_226 (cs : List Value) (off : Nat) : partL Tryz.prog 226 cs off = if off + 3 ≤ cs.length then some (.agg ((cs.drop off).take 3).toArray) else none := by kernel_rfl
theorem p_23 (cs : List Value) (off : Nat) : partL Tryz.prog 23 cs off = cs[off]? := by kernel_rfl
theorem p_238 (cs : List Value) (off : Nat) : partL Tryz.prog 238 cs off = if off + 3 ≤ cs.length then some (.agg ((cs.drop off).take 3).toArray) else none := by kernel_rfl
theorem p_244 (cs : List Value) (off : Nat) : partL Tryz.prog 244 cs off = cs[off]? := by kernel_rfl
theorem p_245 (cs : List Value) (off : Nat) : partL Tryz.prog 245 cs off = cs[off]? := by kernel_rfl
theorem p_247 (cs : List Value) (off : Nat) : partL Tryz.prog 247 cs off = if off + 5 ≤ cs.length then some (.agg ((cs.drop off).take 5).toArray) else none := by kernel_rfl
theorem p_25 (cs : List Value) (off : Nat) : partL Tryz.prog 25 cs off = cs[off]? := by kernel_rfl
theorem p_26 (cs : List Value) (off : Nat) : partL Tryz.prog 26 cs off = cs[off]? := by kernel_rfl
theorem p_28 (cs : List Value) (off : Nat) : partL Tryz.prog 28 cs off = if off + 8 ≤ cs.length then some (.agg ((cs.drop off).take 8).toArray) else none := by kernel_rfl
theorem p_280 (cs : List Value) (off : Nat) : partL Tryz.prog 280 cs off = cs[off]? := by kernel_rfl
theorem p_3 (cs : List Value) (off : Nat) : partL Tryz.prog 3 cs off = cs[off]? := by kernel_rfl
theorem p_30 (cs : List Value) (off : Nat) : partL Tryz.prog 30 cs off = if off + 14 ≤ cs.length then some (.agg ((cs.drop off).take 14).toArray) else none := by kernel_rfl
theorem p_310 (cs : List Value) (off : Nat) : partL Tryz.prog 310 cs off = if off + 2 ≤ cs.length then some (.agg ((cs.drop off).take 2).toArray) else none := by kernel_rfl
theorem p_321 (cs : List Value) (off : Nat) : partL Tryz.prog 321 cs off = if off + 3 ≤ cs.length then some (.agg ((cs.drop off).take 3).toArray) else none := by kernel_rfl
theorem p_342 (cs : List Value) (off : Nat) : partL Tryz.prog 342 cs off = if off + 2 ≤ cs.length then some (.agg ((cs.drop off).take 2).toArray) else none := by kernel_rfl
theorem p_358 (cs : List Value) (off : Nat) : partL Tryz.prog 358 cs off = cs[off]? := by kernel_rfl
theorem p_36 (cs : List Value) (off : Nat) : partL Tryz.prog 36 cs off = cs[off]? := by kernel_rfl
theorem p_370 (cs : List Value) (off : Nat) : partL Tryz.prog 370 cs off = if off + 2 ≤ cs.length then some (.agg ((cs.drop off).take 2).toArray) else none := by kernel_rfl
theorem p_38 (cs : List Value) (off : Nat) : partL Tryz.prog 38 cs off = if off + 5 ≤ cs.length then some (.agg ((cs.drop off).take 5).toArray) else none := by kernel_rfl
theorem p_387 (cs : List Value) (off : Nat) : partL Tryz.prog 387 cs off = cs[off]? := by kernel_rfl
theorem p_4 (cs : List Value) (off : Nat) : partL Tryz.prog 4 cs off = cs[off]? := by kernel_rfl
theorem p_5 (cs : List Value) (off : Nat) : partL Tryz.prog 5 cs off = cs[off]? := by kernel_rfl
theorem p_56 (cs : List Value) (off : Nat) : partL Tryz.prog 56 cs off = cs[off]? := by kernel_rfl
theorem p_57 (cs : List Value) (off : Nat) : partL Tryz.prog 57 cs off = cs[off]? := by kernel_rfl
theorem p_59 (cs : List Value) (off : Nat) : partL Tryz.prog 59 cs off = if off + 9 ≤ cs.length then some (.agg ((cs.drop off).take 9).toArray) else none := by kernel_rfl
theorem p_63 (cs : List Value) (off : Nat) : partL Tryz.prog 63 cs off = if off + 11 ≤ cs.length then some (.agg ((cs.drop off).take 11).toArray) else none := by kernel_rfl
theorem p_67 (cs : List Value) (off : Nat) : partL Tryz.prog 67 cs off = cs[off]? := by kernel_rfl
theorem p_71 (cs : List Value) (off : Nat) : partL Tryz.prog 71 cs off = cs[off]? := by kernel_rfl
theorem p_86 (cs : List Value) (off : Nat) : partL Tryz.prog 86 cs off = cs[off]? := by kernel_rfl
theorem p_88 (cs : List Value) (off : Nat) : partL Tryz.prog 88 cs off = cs[off]? := by kernel_rfl
theorem p_90 (cs : List Value) (off : Nat) : partL Tryz.prog 90 cs off = cs[off]? := by kernel_rfl
theorem p_92 (cs : List Value) (off : Nat) : partL Tryz.prog 92 cs off = cs[off]? := by kernel_rfl
theorem p_94 (cs : List Value) (off : Nat) : partL Tryz.prog 94 cs off = cs[off]? := by kernel_rfl
theorem p_95 (cs : List Value) (off : Nat) : partL Tryz.prog 95 cs off = cs[off]? := by kernel_rfl
theorem p_96 (cs : List Value) (off : Nat) : partL Tryz.prog 96 cs off = cs[off]? := by kernel_rfl
theorem p_97 (cs : List Value) (off : Nat) : partL Tryz.prog 97 cs off = cs[off]? := by kernel_rfl
theorem s_110 : (Tryz.prog.info? 110).map (·.size) = some 2 := by kernel_rfl
theorem s_170 : (Tryz.prog.info? 170).map (·.size) = some 1 := by kernel_rfl
theorem s_178 : (Tryz.prog.info? 178).map (·.size) = some 1 := by kernel_rfl
theorem s_182 : (Tryz.prog.info? 182).map (·.size) = some 4 := by kernel_rfl
theorem s_183 : (Tryz.prog.info? 183).map (·.size) = some 1 := by kernel_rfl
theorem s_188 : (Tryz.prog.info? 188).map (·.size) = some 4 := by kernel_rfl
theorem s_226 : (Tryz.prog.info? 226).map (·.size) = some 3 := by kernel_rfl
theorem s_23 : (Tryz.prog.info? 23).map (·.size) = some 1 := by kernel_rfl
theorem s_238 : (Tryz.prog.info? 238).map (·.size) = some 3 := by kernel_rfl
theorem s_244 : (Tryz.prog.info? 244).map (·.size) = some 1 := by kernel_rfl
theorem s_245 : (Tryz.prog.info? 245).map (·.size) = some 1 := by kernel_rfl
theorem s_247 : (Tryz.prog.info? 247).map (·.size) = some 5 := by kernel_rfl
theorem s_25 : (Tryz.prog.info? 25).map (·.size) = some 1 := by kernel_rfl
theorem s_26 : (Tryz.prog.info? 26).map (·.size) = some 1 := by kernel_rfl
theorem s_28 : (Tryz.prog.info? 28).map (·.size) = some 8 := by kernel_rfl
theorem s_3 : (Tryz.prog.info? 3).map (·.size) = some 1 := by kernel_rfl
theorem s_30 : (Tryz.prog.info? 30).map (·.size) = some 14 := by kernel_rfl
theorem s_310 : (Tryz.prog.info? 310).map (·.size) = some 2 := by kernel_rfl
theorem s_321 : (Tryz.prog.info? 321).map (·.size) = some 3 := by kernel_rfl
theorem s_342 : (Tryz.prog.info? 342).map (·.size) = some 2 := by kernel_rfl
theorem s_36 : (Tryz.prog.info? 36).map (·.size) = some 1 := by kernel_rfl
theorem s_370 : (Tryz.prog.info? 370).map (·.size) = some 2 := by kernel_rfl
theorem s_38 : (Tryz.prog.info? 38).map (·.size) = some 5 := by kernel_rfl
theorem s_387 : (Tryz.prog.info? 387).map (·.size) = some 1 := by kernel_rfl
theorem s_4 : (Tryz.prog.info? 4).map (·.size) = some 1 := by kernel_rfl
theorem s_44 : (Tryz.prog.info? 44).map (·.size) = some 1 := by kernel_rfl
theorem s_5 : (Tryz.prog.info? 5).map (·.size) = some 1 := by kernel_rfl
theorem s_57 : (Tryz.prog.info? 57).map (·.size) = some 1 := by kernel_rfl
theorem s_59 : (Tryz.prog.info? 59).map (·.size) = some 9 := by kernel_rfl
theorem s_63 : (Tryz.prog.info? 63).map (·.size) = some 11 := by kernel_rfl
theorem s_94 : (Tryz.prog.info? 94).map (·.size) = some 1 := by kernel_rfl
theorem s_95 : (Tryz.prog.info? 95).map (·.size) = some 1 := by kernel_rfl
theorem s_96 : (Tryz.prog.info? 96).map (·.size) = some 1 := by kernel_rfl
theorem s_97 : (Tryz.prog.info? 97).map (·.size) = some 1 := by kernel_rfl
theorem z_110 : zeroV Tryz.prog 110 = some (.agg #[.int .i64 0, .int .i64 0]) := by kernel_rfl
theorem z_188 : zeroV Tryz.prog 188 = some (.agg #[.int .i64 0, .int .i64 0, .int .i64 0, .int .u64 0]) := by kernel_rfl
theorem z_226 : zeroV Tryz.prog 226 = some (.agg #[.int .i64 0, .int .i64 0, .int .i64 0]) := by kernel_rfl
theorem z_238 : zeroV Tryz.prog 238 = some (.agg #[.int .u64 0, .int .i64 0, .int .i64 0]) := by kernel_rfl
theorem z_247 : zeroV Tryz.prog 247 = some (.agg #[.int .i64 0, .int .i64 0, .bool false, .slice none 0 0, .slice none 0 0]) := by kernel_rfl
theorem z_25 : zeroV Tryz.prog 25 = some (.slice none 0 0) := by kernel_rfl
theorem z_26 : zeroV Tryz.prog 26 = some (.int .u64 0) := by kernel_rfl
theorem z_28 : zeroV Tryz.prog 28 = some (.agg #[.int .u64 0, .int .u64 0, .int .u64 0, .int .u64 0, .int .u64 0, .int .u64 0, .int .u64 0, .int .u64 0]) := by kernel_rfl
theorem z_284 : zeroV Tryz.prog 284 = some (.pointer none) := by kernel_rfl
theorem z_3 : zeroV Tryz.prog 3 = some (.int .i64 0) := by kernel_rfl
theorem z_30 : zeroV Tryz.prog 30 = some (.agg #[.int .i64 0, .int .i64 0, .int .u64 0, .int .u64 0, .int .u64 0, .int .u64 0, .int .u64 0, .int .u64 0, .int .u64 0, .int .u64 0, .int .i64 0, .int .i64 0, .int .u64 0, .int .i64 0]) := by kernel_rfl
theorem z_310 : zeroV Tryz.prog 310 = some (.agg #[.int .i64 0, .int .i64 0]) := by kernel_rfl
theorem z_321 : zeroV Tryz.prog 321 = some (.agg #[.int .i64 0, .int .i64 0, .slice none 0 0]) := by kernel_rfl
theorem z_342 : zeroV Tryz.prog 342 = some (.agg #[.int .i64 0, .int .i64 0]) := by kernel_rfl
theorem z_356 : zeroV Tryz.prog 356 = some (.pointer none) := by kernel_rfl
theorem z_370 : zeroV Tryz.prog 370 = some (.agg #[.bool false, .int .u8 0]) := by kernel_rfl
theorem z_38 : zeroV Tryz.prog 38 = some (.agg #[.int .i64 0, .int .i64 0, .int .i64 0, .int .i64 0, .slice none 0 0]) := by kernel_rfl
theorem z_387 : zeroV Tryz.prog 387 = some (.int .u64 0) := by kernel_rfl
theorem z_4 : zeroV Tryz.prog 4 = some (.bool false) := by kernel_rfl
theorem z_57 : zeroV Tryz.prog 57 = some (.slice none 0 0) := by kernel_rfl
theorem z_59 : zeroV Tryz.prog 59 = some (.agg #[.bool false, .bool false, .bool false, .bool false, .bool false, .int .u32 0, .int .i64 0, .int .i64 0, .int .i64 0]) := by kernel_rfl
theorem z_63 : zeroV Tryz.prog 63 = some (.agg #[.int .i64 0, .int .i64 0, .int .u64 0, .int .u64 0, .int .u64 0, .int .u64 0, .int .u64 0, .int .u64 0, .int .u64 0, .int .u64 0, .int .u64 0]) := by kernel_rfl
end Go.Proofs.YtfffmmgmjlfkoaaGreat
