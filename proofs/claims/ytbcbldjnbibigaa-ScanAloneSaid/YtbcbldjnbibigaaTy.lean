/- What the program's types and functions are, told to the separation logic's rules. Each by the kernel. -/
import Derived.Test.YtbcbldjnbibigaaProg
import Derived.Test.YtbcbldjnbibigaaSepX
import Derived.KernelRfl
set_option maxRecDepth 100000
namespace Go.Proofs.Ytbcbldjnbibigaa
open Go.Proofs.Ytbcbldjnbibigaa.SL
instance : Und Try.prog 0 (.tuple #[]) := ⟨by kernel_rfl⟩
instance : Siz Try.prog 0 1 := ⟨by kernel_rfl⟩
instance : Sgl Try.prog 0 := ⟨_, Und.out, rfl⟩
instance : Und Try.prog 1 (.func #[] #[] false) := ⟨by kernel_rfl⟩
instance : Siz Try.prog 1 1 := ⟨by kernel_rfl⟩
instance : Sgl Try.prog 1 := ⟨_, Und.out, rfl⟩
instance : Zer Try.prog 1 (.nilFunc) [.nilFunc] := ⟨by kernel_rfl, rfl⟩
instance : Row Try.prog 1 1 8 := Row.of (n := 0) (by kernel_rfl)
instance : Und Try.prog 2 (.int .i64) := ⟨by kernel_rfl⟩
instance : Siz Try.prog 2 1 := ⟨by kernel_rfl⟩
instance : Sgl Try.prog 2 := ⟨_, Und.out, rfl⟩
instance : Zer Try.prog 2 (.int .i64 (0)) [.int .i64 (0)] := ⟨by kernel_rfl, rfl⟩
instance : Row Try.prog 2 1 8 := Row.of (n := 0) (by kernel_rfl)
instance : Und Try.prog 3 (.int .i64) := ⟨by kernel_rfl⟩
instance : Siz Try.prog 3 1 := ⟨by kernel_rfl⟩
instance : Sgl Try.prog 3 := ⟨_, Und.out, rfl⟩
instance : Zer Try.prog 3 (.int .i64 (0)) [.int .i64 (0)] := ⟨by kernel_rfl, rfl⟩
instance : Row Try.prog 3 1 8 := Row.of (n := 0) (by kernel_rfl)
instance : Und Try.prog 4 (.bool) := ⟨by kernel_rfl⟩
instance : Siz Try.prog 4 1 := ⟨by kernel_rfl⟩
instance : Sgl Try.prog 4 := ⟨_, Und.out, rfl⟩
instance : Zer Try.prog 4 (.bool false) [.bool false] := ⟨by kernel_rfl, rfl⟩
instance : Row Try.prog 4 1 1 := Row.of (n := 0) (by kernel_rfl)
instance : Und Try.prog 5 (.int .u8) := ⟨by kernel_rfl⟩
instance : Siz Try.prog 5 1 := ⟨by kernel_rfl⟩
instance : Sgl Try.prog 5 := ⟨_, Und.out, rfl⟩
instance : Zer Try.prog 5 (.int .u8 (0)) [.int .u8 (0)] := ⟨by kernel_rfl, rfl⟩
instance : Row Try.prog 5 1 1 := Row.of (n := 0) (by kernel_rfl)
instance : Und Try.prog 6 (.int .u8) := ⟨by kernel_rfl⟩
instance : Siz Try.prog 6 1 := ⟨by kernel_rfl⟩
instance : Sgl Try.prog 6 := ⟨_, Und.out, rfl⟩
instance : Zer Try.prog 6 (.int .u8 (0)) [.int .u8 (0)] := ⟨by kernel_rfl, rfl⟩
instance : Row Try.prog 6 1 1 := Row.of (n := 0) (by kernel_rfl)
instance : Und Try.prog 7 (.struct (Try.prog.fieldsOf 7)) := ⟨by kernel_rfl⟩
instance : Siz Try.prog 7 4 := ⟨by kernel_rfl⟩
instance : Agl Try.prog 7 := ⟨_, Und.out, rfl⟩
instance : Zer Try.prog 7 (.agg #[.int .i64 (0), .int .i64 (0), .bool false, .int .u8 (0)]) [.int .i64 (0), .int .i64 (0), .bool false, .int .u8 (0)] := ⟨by kernel_rfl, rfl⟩
instance : Row Try.prog 7 4 24 := Row.of (n := 3) (by kernel_rfl)
instance : EqT Try.prog 7 [.int .i64, .int .i64, .bool, .int .u8] := EqT.of (fs := Try.prog.fieldsOf 7) (by kernel_rfl) (by kernel_rfl) (by kernel_rfl)
instance : Fld Try.prog 7 0 0 := Fld.of (n := 0) (by kernel_rfl)
instance : Fld Try.prog 7 1 1 := Fld.of (n := 0) (by kernel_rfl)
instance : Fld Try.prog 7 2 2 := Fld.of (n := 0) (by kernel_rfl)
instance : Fld Try.prog 7 3 3 := Fld.of (n := 0) (by kernel_rfl)
instance : Bld Try.prog 7 [(0, 1), (1, 1), (2, 1), (3, 1)] := Bld.of (fs := Try.prog.fieldsOf 7) (by kernel_rfl) (fun w => by kernel_rfl)
instance : Und Try.prog 8 (.struct (Try.prog.fieldsOf 8)) := ⟨by kernel_rfl⟩
instance : Siz Try.prog 8 4 := ⟨by kernel_rfl⟩
instance : Agl Try.prog 8 := ⟨_, Und.out, rfl⟩
instance : Zer Try.prog 8 (.agg #[.int .i64 (0), .int .i64 (0), .bool false, .int .u8 (0)]) [.int .i64 (0), .int .i64 (0), .bool false, .int .u8 (0)] := ⟨by kernel_rfl, rfl⟩
instance : Row Try.prog 8 4 24 := Row.of (n := 3) (by kernel_rfl)
instance : EqT Try.prog 8 [.int .i64, .int .i64, .bool, .int .u8] := EqT.of (fs := Try.prog.fieldsOf 8) (by kernel_rfl) (by kernel_rfl) (by kernel_rfl)
instance : Fld Try.prog 8 0 0 := Fld.of (n := 0) (by kernel_rfl)
instance : Fld Try.prog 8 1 1 := Fld.of (n := 0) (by kernel_rfl)
instance : Fld Try.prog 8 2 2 := Fld.of (n := 0) (by kernel_rfl)
instance : Fld Try.prog 8 3 3 := Fld.of (n := 0) (by kernel_rfl)
instance : Bld Try.prog 8 [(0, 1), (1, 1), (2, 1), (3, 1)] := Bld.of (fs := Try.prog.fieldsOf 8) (by kernel_rfl) (fun w => by kernel_rfl)
instance : Und Try.prog 9 (.string) := ⟨by kernel_rfl⟩
instance : Siz Try.prog 9 1 := ⟨by kernel_rfl⟩
instance : Sgl Try.prog 9 := ⟨_, Und.out, rfl⟩
instance : Zer Try.prog 9 (.string ⟨#[]⟩) [.string ⟨#[]⟩] := ⟨by kernel_rfl, rfl⟩
instance : Row Try.prog 9 1 16 := Row.of (n := 0) (by kernel_rfl)
instance : Und Try.prog 10 (.string) := ⟨by kernel_rfl⟩
instance : Siz Try.prog 10 1 := ⟨by kernel_rfl⟩
instance : Sgl Try.prog 10 := ⟨_, Und.out, rfl⟩
instance : Zer Try.prog 10 (.string ⟨#[]⟩) [.string ⟨#[]⟩] := ⟨by kernel_rfl, rfl⟩
instance : Row Try.prog 10 1 16 := Row.of (n := 0) (by kernel_rfl)
instance : Und Try.prog 11 (.string) := ⟨by kernel_rfl⟩
instance : Siz Try.prog 11 1 := ⟨by kernel_rfl⟩
instance : Sgl Try.prog 11 := ⟨_, Und.out, rfl⟩
instance : Zer Try.prog 11 (.string ⟨#[]⟩) [.string ⟨#[]⟩] := ⟨by kernel_rfl, rfl⟩
instance : Row Try.prog 11 1 16 := Row.of (n := 0) (by kernel_rfl)
instance : Und Try.prog 12 (.int .u64) := ⟨by kernel_rfl⟩
instance : Siz Try.prog 12 1 := ⟨by kernel_rfl⟩
instance : Sgl Try.prog 12 := ⟨_, Und.out, rfl⟩
instance : Zer Try.prog 12 (.int .u64 (0)) [.int .u64 (0)] := ⟨by kernel_rfl, rfl⟩
instance : Row Try.prog 12 1 8 := Row.of (n := 0) (by kernel_rfl)
instance : Und Try.prog 13 (.struct (Try.prog.fieldsOf 13)) := ⟨by kernel_rfl⟩
instance : Siz Try.prog 13 2 := ⟨by kernel_rfl⟩
instance : Agl Try.prog 13 := ⟨_, Und.out, rfl⟩
instance : Zer Try.prog 13 (.agg #[.string ⟨#[]⟩, .int .u64 (0)]) [.string ⟨#[]⟩, .int .u64 (0)] := ⟨by kernel_rfl, rfl⟩
instance : Row Try.prog 13 2 24 := Row.of (n := 1) (by kernel_rfl)
instance : Fld Try.prog 13 0 0 := Fld.of (n := 0) (by kernel_rfl)
instance : Fld Try.prog 13 1 1 := Fld.of (n := 0) (by kernel_rfl)
instance : Bld Try.prog 13 [(0, 1), (1, 1)] := Bld.of (fs := Try.prog.fieldsOf 13) (by kernel_rfl) (fun w => by kernel_rfl)
instance : Und Try.prog 14 (.struct (Try.prog.fieldsOf 14)) := ⟨by kernel_rfl⟩
instance : Siz Try.prog 14 2 := ⟨by kernel_rfl⟩
instance : Agl Try.prog 14 := ⟨_, Und.out, rfl⟩
instance : Zer Try.prog 14 (.agg #[.string ⟨#[]⟩, .int .u64 (0)]) [.string ⟨#[]⟩, .int .u64 (0)] := ⟨by kernel_rfl, rfl⟩
instance : Row Try.prog 14 2 24 := Row.of (n := 1) (by kernel_rfl)
instance : Fld Try.prog 14 0 0 := Fld.of (n := 0) (by kernel_rfl)
instance : Fld Try.prog 14 1 1 := Fld.of (n := 0) (by kernel_rfl)
instance : Bld Try.prog 14 [(0, 1), (1, 1)] := Bld.of (fs := Try.prog.fieldsOf 14) (by kernel_rfl) (fun w => by kernel_rfl)
instance : Und Try.prog 15 (.pointer 159) := ⟨by kernel_rfl⟩
instance : Siz Try.prog 15 1 := ⟨by kernel_rfl⟩
instance : Sgl Try.prog 15 := ⟨_, Und.out, rfl⟩
instance : Zer Try.prog 15 (.pointer none) [.pointer none] := ⟨by kernel_rfl, rfl⟩
instance : Row Try.prog 15 1 8 := Row.of (n := 0) (by kernel_rfl)
instance : Und Try.prog 16 (.pointer 162) := ⟨by kernel_rfl⟩
instance : Siz Try.prog 16 1 := ⟨by kernel_rfl⟩
instance : Sgl Try.prog 16 := ⟨_, Und.out, rfl⟩
instance : Zer Try.prog 16 (.pointer none) [.pointer none] := ⟨by kernel_rfl, rfl⟩
instance : Row Try.prog 16 1 8 := Row.of (n := 0) (by kernel_rfl)
instance : Und Try.prog 17 (.pointer 171) := ⟨by kernel_rfl⟩
instance : Siz Try.prog 17 1 := ⟨by kernel_rfl⟩
instance : Sgl Try.prog 17 := ⟨_, Und.out, rfl⟩
instance : Zer Try.prog 17 (.pointer none) [.pointer none] := ⟨by kernel_rfl, rfl⟩
instance : Row Try.prog 17 1 8 := Row.of (n := 0) (by kernel_rfl)
instance : Und Try.prog 18 (.struct (Try.prog.fieldsOf 18)) := ⟨by kernel_rfl⟩
instance : Siz Try.prog 18 1 := ⟨by kernel_rfl⟩
instance : Agl Try.prog 18 := ⟨_, Und.out, rfl⟩
instance : Zer Try.prog 18 (.agg #[.pointer none]) [.pointer none] := ⟨by kernel_rfl, rfl⟩
instance : Row Try.prog 18 1 8 := Row.of (n := 0) (by kernel_rfl)
instance : Fld Try.prog 18 0 0 := Fld.of (n := 0) (by kernel_rfl)
instance : Bld Try.prog 18 [(0, 1)] := Bld.of (fs := Try.prog.fieldsOf 18) (by kernel_rfl) (fun w => by kernel_rfl)
instance : Und Try.prog 19 (.struct (Try.prog.fieldsOf 19)) := ⟨by kernel_rfl⟩
instance : Siz Try.prog 19 1 := ⟨by kernel_rfl⟩
instance : Agl Try.prog 19 := ⟨_, Und.out, rfl⟩
instance : Zer Try.prog 19 (.agg #[.pointer none]) [.pointer none] := ⟨by kernel_rfl, rfl⟩
instance : Row Try.prog 19 1 8 := Row.of (n := 0) (by kernel_rfl)
instance : Fld Try.prog 19 0 0 := Fld.of (n := 0) (by kernel_rfl)
instance : Bld Try.prog 19 [(0, 1)] := Bld.of (fs := Try.prog.fieldsOf 19) (by kernel_rfl) (fun w => by kernel_rfl)
instance : Und Try.prog 20 (.interface #[]) := ⟨by kernel_rfl⟩
instance : Siz Try.prog 20 1 := ⟨by kernel_rfl⟩
instance : Sgl Try.prog 20 := ⟨_, Und.out, rfl⟩
instance : Zer Try.prog 20 (.nilIface) [.nilIface] := ⟨by kernel_rfl, rfl⟩
instance : Row Try.prog 20 1 16 := Row.of (n := 0) (by kernel_rfl)
instance : Und Try.prog 21 (.int .i32) := ⟨by kernel_rfl⟩
instance : Siz Try.prog 21 1 := ⟨by kernel_rfl⟩
instance : Sgl Try.prog 21 := ⟨_, Und.out, rfl⟩
instance : Zer Try.prog 21 (.int .i32 (0)) [.int .i32 (0)] := ⟨by kernel_rfl, rfl⟩
instance : Row Try.prog 21 1 4 := Row.of (n := 0) (by kernel_rfl)
instance : Und Try.prog 22 (.func #[] #[4] false) := ⟨by kernel_rfl⟩
instance : Siz Try.prog 22 1 := ⟨by kernel_rfl⟩
instance : Sgl Try.prog 22 := ⟨_, Und.out, rfl⟩
instance : Zer Try.prog 22 (.nilFunc) [.nilFunc] := ⟨by kernel_rfl, rfl⟩
instance : Row Try.prog 22 1 8 := Row.of (n := 0) (by kernel_rfl)
instance : Und Try.prog 23 (.slice 28) := ⟨by kernel_rfl⟩
instance : Siz Try.prog 23 1 := ⟨by kernel_rfl⟩
instance : Sgl Try.prog 23 := ⟨_, Und.out, rfl⟩
instance : Zer Try.prog 23 (.slice none 0 0) [.slice none 0 0] := ⟨by kernel_rfl, rfl⟩
instance : Row Try.prog 23 1 24 := Row.of (n := 0) (by kernel_rfl)
instance : Und Try.prog 24 (.int .i64) := ⟨by kernel_rfl⟩
instance : Siz Try.prog 24 1 := ⟨by kernel_rfl⟩
instance : Sgl Try.prog 24 := ⟨_, Und.out, rfl⟩
instance : Zer Try.prog 24 (.int .i64 (0)) [.int .i64 (0)] := ⟨by kernel_rfl, rfl⟩
instance : Row Try.prog 24 1 8 := Row.of (n := 0) (by kernel_rfl)
instance : Und Try.prog 25 (.tuple #[23, 3, 24]) := ⟨by kernel_rfl⟩
instance : Siz Try.prog 25 1 := ⟨by kernel_rfl⟩
instance : Sgl Try.prog 25 := ⟨_, Und.out, rfl⟩
instance : Und Try.prog 26 (.func #[9] #[23, 3, 24] false) := ⟨by kernel_rfl⟩
instance : Siz Try.prog 26 1 := ⟨by kernel_rfl⟩
instance : Sgl Try.prog 26 := ⟨_, Und.out, rfl⟩
instance : Zer Try.prog 26 (.nilFunc) [.nilFunc] := ⟨by kernel_rfl, rfl⟩
instance : Row Try.prog 26 1 8 := Row.of (n := 0) (by kernel_rfl)
instance : Und Try.prog 27 (.struct (Try.prog.fieldsOf 27)) := ⟨by kernel_rfl⟩
instance : Siz Try.prog 27 3 := ⟨by kernel_rfl⟩
instance : Agl Try.prog 27 := ⟨_, Und.out, rfl⟩
instance : Zer Try.prog 27 (.agg #[.int .i64 (0), .string ⟨#[]⟩, .int .i64 (0)]) [.int .i64 (0), .string ⟨#[]⟩, .int .i64 (0)] := ⟨by kernel_rfl, rfl⟩
instance : Row Try.prog 27 3 32 := Row.of (n := 2) (by kernel_rfl)
instance : EqT Try.prog 27 [.int .i64, .str, .int .i64] := EqT.of (fs := Try.prog.fieldsOf 27) (by kernel_rfl) (by kernel_rfl) (by kernel_rfl)
instance : Fld Try.prog 27 0 0 := Fld.of (n := 0) (by kernel_rfl)
instance : Fld Try.prog 27 1 1 := Fld.of (n := 0) (by kernel_rfl)
instance : Fld Try.prog 27 2 2 := Fld.of (n := 0) (by kernel_rfl)
instance : Bld Try.prog 27 [(0, 1), (1, 1), (2, 1)] := Bld.of (fs := Try.prog.fieldsOf 27) (by kernel_rfl) (fun w => by kernel_rfl)
instance : Und Try.prog 28 (.struct (Try.prog.fieldsOf 28)) := ⟨by kernel_rfl⟩
instance : Siz Try.prog 28 3 := ⟨by kernel_rfl⟩
instance : Agl Try.prog 28 := ⟨_, Und.out, rfl⟩
instance : Zer Try.prog 28 (.agg #[.int .i64 (0), .string ⟨#[]⟩, .int .i64 (0)]) [.int .i64 (0), .string ⟨#[]⟩, .int .i64 (0)] := ⟨by kernel_rfl, rfl⟩
instance : Row Try.prog 28 3 32 := Row.of (n := 2) (by kernel_rfl)
instance : EqT Try.prog 28 [.int .i64, .str, .int .i64] := EqT.of (fs := Try.prog.fieldsOf 28) (by kernel_rfl) (by kernel_rfl) (by kernel_rfl)
instance : Fld Try.prog 28 0 0 := Fld.of (n := 0) (by kernel_rfl)
instance : Fld Try.prog 28 1 1 := Fld.of (n := 0) (by kernel_rfl)
instance : Fld Try.prog 28 2 2 := Fld.of (n := 0) (by kernel_rfl)
instance : Bld Try.prog 28 [(0, 1), (1, 1), (2, 1)] := Bld.of (fs := Try.prog.fieldsOf 28) (by kernel_rfl) (fun w => by kernel_rfl)
instance : Und Try.prog 29 (.func #[23, 23] #[4] false) := ⟨by kernel_rfl⟩
instance : Siz Try.prog 29 1 := ⟨by kernel_rfl⟩
instance : Sgl Try.prog 29 := ⟨_, Und.out, rfl⟩
instance : Zer Try.prog 29 (.nilFunc) [.nilFunc] := ⟨by kernel_rfl, rfl⟩
instance : Row Try.prog 29 1 8 := Row.of (n := 0) (by kernel_rfl)
instance : Und Try.prog 30 (.func #[9, 9] #[4] false) := ⟨by kernel_rfl⟩
instance : Siz Try.prog 30 1 := ⟨by kernel_rfl⟩
instance : Sgl Try.prog 30 := ⟨_, Und.out, rfl⟩
instance : Zer Try.prog 30 (.nilFunc) [.nilFunc] := ⟨by kernel_rfl, rfl⟩
instance : Row Try.prog 30 1 8 := Row.of (n := 0) (by kernel_rfl)
instance : Und Try.prog 31 (.func #[3, 3] #[3] false) := ⟨by kernel_rfl⟩
instance : Siz Try.prog 31 1 := ⟨by kernel_rfl⟩
instance : Sgl Try.prog 31 := ⟨_, Und.out, rfl⟩
instance : Zer Try.prog 31 (.nilFunc) [.nilFunc] := ⟨by kernel_rfl, rfl⟩
instance : Row Try.prog 31 1 8 := Row.of (n := 0) (by kernel_rfl)
instance : Und Try.prog 32 (.int .u64) := ⟨by kernel_rfl⟩
instance : Siz Try.prog 32 1 := ⟨by kernel_rfl⟩
instance : Sgl Try.prog 32 := ⟨_, Und.out, rfl⟩
instance : Zer Try.prog 32 (.int .u64 (0)) [.int .u64 (0)] := ⟨by kernel_rfl, rfl⟩
instance : Row Try.prog 32 1 8 := Row.of (n := 0) (by kernel_rfl)
instance : Und Try.prog 33 (.tuple #[32, 4]) := ⟨by kernel_rfl⟩
instance : Siz Try.prog 33 1 := ⟨by kernel_rfl⟩
instance : Sgl Try.prog 33 := ⟨_, Und.out, rfl⟩
instance : Und Try.prog 34 (.func #[9] #[32, 4] false) := ⟨by kernel_rfl⟩
instance : Siz Try.prog 34 1 := ⟨by kernel_rfl⟩
instance : Sgl Try.prog 34 := ⟨_, Und.out, rfl⟩
instance : Zer Try.prog 34 (.nilFunc) [.nilFunc] := ⟨by kernel_rfl, rfl⟩
instance : Row Try.prog 34 1 8 := Row.of (n := 0) (by kernel_rfl)
instance : Und Try.prog 35 (.func #[21] #[4] false) := ⟨by kernel_rfl⟩
instance : Siz Try.prog 35 1 := ⟨by kernel_rfl⟩
instance : Sgl Try.prog 35 := ⟨_, Und.out, rfl⟩
instance : Zer Try.prog 35 (.nilFunc) [.nilFunc] := ⟨by kernel_rfl, rfl⟩
instance : Row Try.prog 35 1 8 := Row.of (n := 0) (by kernel_rfl)
instance : Und Try.prog 36 (.func #[9, 3, 3] #[4] false) := ⟨by kernel_rfl⟩
instance : Siz Try.prog 36 1 := ⟨by kernel_rfl⟩
instance : Sgl Try.prog 36 := ⟨_, Und.out, rfl⟩
instance : Zer Try.prog 36 (.nilFunc) [.nilFunc] := ⟨by kernel_rfl, rfl⟩
instance : Row Try.prog 36 1 8 := Row.of (n := 0) (by kernel_rfl)
instance : Und Try.prog 37 (.tuple #[23, 4]) := ⟨by kernel_rfl⟩
instance : Siz Try.prog 37 1 := ⟨by kernel_rfl⟩
instance : Sgl Try.prog 37 := ⟨_, Und.out, rfl⟩
instance : Und Try.prog 38 (.func #[9] #[23, 4] false) := ⟨by kernel_rfl⟩
instance : Siz Try.prog 38 1 := ⟨by kernel_rfl⟩
instance : Sgl Try.prog 38 := ⟨_, Und.out, rfl⟩
instance : Zer Try.prog 38 (.nilFunc) [.nilFunc] := ⟨by kernel_rfl, rfl⟩
instance : Row Try.prog 38 1 8 := Row.of (n := 0) (by kernel_rfl)
instance : Und Try.prog 39 (.func #[53] #[] false) := ⟨by kernel_rfl⟩
instance : Siz Try.prog 39 1 := ⟨by kernel_rfl⟩
instance : Sgl Try.prog 39 := ⟨_, Und.out, rfl⟩
instance : Zer Try.prog 39 (.nilFunc) [.nilFunc] := ⟨by kernel_rfl, rfl⟩
instance : Row Try.prog 39 1 8 := Row.of (n := 0) (by kernel_rfl)
instance : Und Try.prog 40 (.func #[53] #[] false) := ⟨by kernel_rfl⟩
instance : Siz Try.prog 40 1 := ⟨by kernel_rfl⟩
instance : Sgl Try.prog 40 := ⟨_, Und.out, rfl⟩
instance : Zer Try.prog 40 (.nilFunc) [.nilFunc] := ⟨by kernel_rfl, rfl⟩
instance : Row Try.prog 40 1 8 := Row.of (n := 0) (by kernel_rfl)
instance : Und Try.prog 41 (.func #[9] #[40] false) := ⟨by kernel_rfl⟩
instance : Siz Try.prog 41 1 := ⟨by kernel_rfl⟩
instance : Sgl Try.prog 41 := ⟨_, Und.out, rfl⟩
instance : Zer Try.prog 41 (.nilFunc) [.nilFunc] := ⟨by kernel_rfl, rfl⟩
instance : Row Try.prog 41 1 8 := Row.of (n := 0) (by kernel_rfl)
instance : Und Try.prog 42 (.func #[9, 3] #[9] false) := ⟨by kernel_rfl⟩
instance : Siz Try.prog 42 1 := ⟨by kernel_rfl⟩
instance : Sgl Try.prog 42 := ⟨_, Und.out, rfl⟩
instance : Zer Try.prog 42 (.nilFunc) [.nilFunc] := ⟨by kernel_rfl, rfl⟩
instance : Row Try.prog 42 1 8 := Row.of (n := 0) (by kernel_rfl)
instance : Und Try.prog 43 (.func #[9, 3] #[4] false) := ⟨by kernel_rfl⟩
instance : Siz Try.prog 43 1 := ⟨by kernel_rfl⟩
instance : Sgl Try.prog 43 := ⟨_, Und.out, rfl⟩
instance : Zer Try.prog 43 (.nilFunc) [.nilFunc] := ⟨by kernel_rfl, rfl⟩
instance : Row Try.prog 43 1 8 := Row.of (n := 0) (by kernel_rfl)
instance : Und Try.prog 44 (.func #[23] #[9] false) := ⟨by kernel_rfl⟩
instance : Siz Try.prog 44 1 := ⟨by kernel_rfl⟩
instance : Sgl Try.prog 44 := ⟨_, Und.out, rfl⟩
instance : Zer Try.prog 44 (.nilFunc) [.nilFunc] := ⟨by kernel_rfl, rfl⟩
instance : Row Try.prog 44 1 8 := Row.of (n := 0) (by kernel_rfl)
instance : Und Try.prog 45 (.func #[9] #[4] false) := ⟨by kernel_rfl⟩
instance : Siz Try.prog 45 1 := ⟨by kernel_rfl⟩
instance : Sgl Try.prog 45 := ⟨_, Und.out, rfl⟩
instance : Zer Try.prog 45 (.nilFunc) [.nilFunc] := ⟨by kernel_rfl, rfl⟩
instance : Row Try.prog 45 1 8 := Row.of (n := 0) (by kernel_rfl)
instance : Und Try.prog 46 (.func #[9, 3, 24] #[4] false) := ⟨by kernel_rfl⟩
instance : Siz Try.prog 46 1 := ⟨by kernel_rfl⟩
instance : Sgl Try.prog 46 := ⟨_, Und.out, rfl⟩
instance : Zer Try.prog 46 (.nilFunc) [.nilFunc] := ⟨by kernel_rfl, rfl⟩
instance : Row Try.prog 46 1 8 := Row.of (n := 0) (by kernel_rfl)
instance : Und Try.prog 47 (.slice 71) := ⟨by kernel_rfl⟩
instance : Siz Try.prog 47 1 := ⟨by kernel_rfl⟩
instance : Sgl Try.prog 47 := ⟨_, Und.out, rfl⟩
instance : Zer Try.prog 47 (.slice none 0 0) [.slice none 0 0] := ⟨by kernel_rfl, rfl⟩
instance : Row Try.prog 47 1 24 := Row.of (n := 0) (by kernel_rfl)
instance : Und Try.prog 48 (.tuple #[47, 3, 24]) := ⟨by kernel_rfl⟩
instance : Siz Try.prog 48 1 := ⟨by kernel_rfl⟩
instance : Sgl Try.prog 48 := ⟨_, Und.out, rfl⟩
instance : Und Try.prog 49 (.func #[9] #[47, 3, 24] false) := ⟨by kernel_rfl⟩
instance : Siz Try.prog 49 1 := ⟨by kernel_rfl⟩
instance : Sgl Try.prog 49 := ⟨_, Und.out, rfl⟩
instance : Zer Try.prog 49 (.nilFunc) [.nilFunc] := ⟨by kernel_rfl, rfl⟩
instance : Row Try.prog 49 1 8 := Row.of (n := 0) (by kernel_rfl)
instance : Und Try.prog 50 (.func #[47, 47] #[4] false) := ⟨by kernel_rfl⟩
instance : Siz Try.prog 50 1 := ⟨by kernel_rfl⟩
instance : Sgl Try.prog 50 := ⟨_, Und.out, rfl⟩
instance : Zer Try.prog 50 (.nilFunc) [.nilFunc] := ⟨by kernel_rfl, rfl⟩
instance : Row Try.prog 50 1 8 := Row.of (n := 0) (by kernel_rfl)
instance : Und Try.prog 51 (.func #[47] #[3] false) := ⟨by kernel_rfl⟩
instance : Siz Try.prog 51 1 := ⟨by kernel_rfl⟩
instance : Sgl Try.prog 51 := ⟨_, Und.out, rfl⟩
instance : Zer Try.prog 51 (.nilFunc) [.nilFunc] := ⟨by kernel_rfl, rfl⟩
instance : Row Try.prog 51 1 8 := Row.of (n := 0) (by kernel_rfl)
instance : Und Try.prog 52 (.pointer 55) := ⟨by kernel_rfl⟩
instance : Siz Try.prog 52 1 := ⟨by kernel_rfl⟩
instance : Sgl Try.prog 52 := ⟨_, Und.out, rfl⟩
instance : Zer Try.prog 52 (.pointer none) [.pointer none] := ⟨by kernel_rfl, rfl⟩
instance : Row Try.prog 52 1 8 := Row.of (n := 0) (by kernel_rfl)
instance : Und Try.prog 53 (.func #[28] #[4] false) := ⟨by kernel_rfl⟩
instance : Siz Try.prog 53 1 := ⟨by kernel_rfl⟩
instance : Sgl Try.prog 53 := ⟨_, Und.out, rfl⟩
instance : Zer Try.prog 53 (.nilFunc) [.nilFunc] := ⟨by kernel_rfl, rfl⟩
instance : Row Try.prog 53 1 8 := Row.of (n := 0) (by kernel_rfl)
instance : Und Try.prog 54 (.struct (Try.prog.fieldsOf 54)) := ⟨by kernel_rfl⟩
instance : Siz Try.prog 54 7 := ⟨by kernel_rfl⟩
instance : Agl Try.prog 54 := ⟨_, Und.out, rfl⟩
instance : Zer Try.prog 54 (.agg #[.string ⟨#[]⟩, .nilFunc, .int .i64 (0), .int .i64 (0), .int .i64 (0), .int .i64 (0), .bool false]) [.string ⟨#[]⟩, .nilFunc, .int .i64 (0), .int .i64 (0), .int .i64 (0), .int .i64 (0), .bool false] := ⟨by kernel_rfl, rfl⟩
instance : Row Try.prog 54 7 64 := Row.of (n := 6) (by kernel_rfl)
instance : Fld Try.prog 54 0 0 := Fld.of (n := 0) (by kernel_rfl)
instance : Fld Try.prog 54 1 1 := Fld.of (n := 0) (by kernel_rfl)
instance : Fld Try.prog 54 2 2 := Fld.of (n := 0) (by kernel_rfl)
instance : Fld Try.prog 54 3 3 := Fld.of (n := 0) (by kernel_rfl)
instance : Fld Try.prog 54 4 4 := Fld.of (n := 0) (by kernel_rfl)
instance : Fld Try.prog 54 5 5 := Fld.of (n := 0) (by kernel_rfl)
instance : Fld Try.prog 54 6 6 := Fld.of (n := 0) (by kernel_rfl)
instance : Bld Try.prog 54 [(0, 1), (1, 1), (2, 1), (3, 1), (4, 1), (5, 1), (6, 1)] := Bld.of (fs := Try.prog.fieldsOf 54) (by kernel_rfl) (fun w => by kernel_rfl)
instance : Und Try.prog 55 (.struct (Try.prog.fieldsOf 55)) := ⟨by kernel_rfl⟩
instance : Siz Try.prog 55 7 := ⟨by kernel_rfl⟩
instance : Agl Try.prog 55 := ⟨_, Und.out, rfl⟩
instance : Zer Try.prog 55 (.agg #[.string ⟨#[]⟩, .nilFunc, .int .i64 (0), .int .i64 (0), .int .i64 (0), .int .i64 (0), .bool false]) [.string ⟨#[]⟩, .nilFunc, .int .i64 (0), .int .i64 (0), .int .i64 (0), .int .i64 (0), .bool false] := ⟨by kernel_rfl, rfl⟩
instance : Row Try.prog 55 7 64 := Row.of (n := 6) (by kernel_rfl)
instance : Fld Try.prog 55 0 0 := Fld.of (n := 0) (by kernel_rfl)
instance : Fld Try.prog 55 1 1 := Fld.of (n := 0) (by kernel_rfl)
instance : Fld Try.prog 55 2 2 := Fld.of (n := 0) (by kernel_rfl)
instance : Fld Try.prog 55 3 3 := Fld.of (n := 0) (by kernel_rfl)
instance : Fld Try.prog 55 4 4 := Fld.of (n := 0) (by kernel_rfl)
instance : Fld Try.prog 55 5 5 := Fld.of (n := 0) (by kernel_rfl)
instance : Fld Try.prog 55 6 6 := Fld.of (n := 0) (by kernel_rfl)
instance : Bld Try.prog 55 [(0, 1), (1, 1), (2, 1), (3, 1), (4, 1), (5, 1), (6, 1)] := Bld.of (fs := Try.prog.fieldsOf 55) (by kernel_rfl) (fun w => by kernel_rfl)
instance : Und Try.prog 56 (.pointer 59) := ⟨by kernel_rfl⟩
instance : Siz Try.prog 56 1 := ⟨by kernel_rfl⟩
instance : Sgl Try.prog 56 := ⟨_, Und.out, rfl⟩
instance : Zer Try.prog 56 (.pointer none) [.pointer none] := ⟨by kernel_rfl, rfl⟩
instance : Row Try.prog 56 1 8 := Row.of (n := 0) (by kernel_rfl)
instance : Und Try.prog 57 (.slice 5) := ⟨by kernel_rfl⟩
instance : Siz Try.prog 57 1 := ⟨by kernel_rfl⟩
instance : Sgl Try.prog 57 := ⟨_, Und.out, rfl⟩
instance : Zer Try.prog 57 (.slice none 0 0) [.slice none 0 0] := ⟨by kernel_rfl, rfl⟩
instance : Row Try.prog 57 1 24 := Row.of (n := 0) (by kernel_rfl)
instance : Und Try.prog 58 (.struct (Try.prog.fieldsOf 58)) := ⟨by kernel_rfl⟩
instance : Siz Try.prog 58 2 := ⟨by kernel_rfl⟩
instance : Agl Try.prog 58 := ⟨_, Und.out, rfl⟩
instance : Zer Try.prog 58 (.agg #[.pointer none, .slice none 0 0]) [.pointer none, .slice none 0 0] := ⟨by kernel_rfl, rfl⟩
instance : Row Try.prog 58 2 32 := Row.of (n := 1) (by kernel_rfl)
instance : Fld Try.prog 58 0 0 := Fld.of (n := 0) (by kernel_rfl)
instance : Fld Try.prog 58 1 1 := Fld.of (n := 0) (by kernel_rfl)
instance : Bld Try.prog 58 [(0, 1), (1, 1)] := Bld.of (fs := Try.prog.fieldsOf 58) (by kernel_rfl) (fun w => by kernel_rfl)
instance : Und Try.prog 59 (.struct (Try.prog.fieldsOf 59)) := ⟨by kernel_rfl⟩
instance : Siz Try.prog 59 2 := ⟨by kernel_rfl⟩
instance : Agl Try.prog 59 := ⟨_, Und.out, rfl⟩
instance : Zer Try.prog 59 (.agg #[.pointer none, .slice none 0 0]) [.pointer none, .slice none 0 0] := ⟨by kernel_rfl, rfl⟩
instance : Row Try.prog 59 2 32 := Row.of (n := 1) (by kernel_rfl)
instance : Fld Try.prog 59 0 0 := Fld.of (n := 0) (by kernel_rfl)
instance : Fld Try.prog 59 1 1 := Fld.of (n := 0) (by kernel_rfl)
instance : Bld Try.prog 59 [(0, 1), (1, 1)] := Bld.of (fs := Try.prog.fieldsOf 59) (by kernel_rfl) (fun w => by kernel_rfl)
instance : Und Try.prog 60 (.interface #[("Error", 65)]) := ⟨by kernel_rfl⟩
instance : Siz Try.prog 60 1 := ⟨by kernel_rfl⟩
instance : Sgl Try.prog 60 := ⟨_, Und.out, rfl⟩
instance : Zer Try.prog 60 (.nilIface) [.nilIface] := ⟨by kernel_rfl, rfl⟩
instance : Row Try.prog 60 1 16 := Row.of (n := 0) (by kernel_rfl)
instance : Und Try.prog 61 (.interface #[("Error", 65)]) := ⟨by kernel_rfl⟩
instance : Siz Try.prog 61 1 := ⟨by kernel_rfl⟩
instance : Sgl Try.prog 61 := ⟨_, Und.out, rfl⟩
instance : Zer Try.prog 61 (.nilIface) [.nilIface] := ⟨by kernel_rfl, rfl⟩
instance : Row Try.prog 61 1 16 := Row.of (n := 0) (by kernel_rfl)
instance : Und Try.prog 62 (.func #[5] #[61] false) := ⟨by kernel_rfl⟩
instance : Siz Try.prog 62 1 := ⟨by kernel_rfl⟩
instance : Sgl Try.prog 62 := ⟨_, Und.out, rfl⟩
instance : Zer Try.prog 62 (.nilFunc) [.nilFunc] := ⟨by kernel_rfl, rfl⟩
instance : Row Try.prog 62 1 8 := Row.of (n := 0) (by kernel_rfl)
instance : Und Try.prog 63 (.tuple #[3, 61]) := ⟨by kernel_rfl⟩
instance : Siz Try.prog 63 1 := ⟨by kernel_rfl⟩
instance : Sgl Try.prog 63 := ⟨_, Und.out, rfl⟩
instance : Und Try.prog 64 (.func #[9] #[3, 61] false) := ⟨by kernel_rfl⟩
instance : Siz Try.prog 64 1 := ⟨by kernel_rfl⟩
instance : Sgl Try.prog 64 := ⟨_, Und.out, rfl⟩
instance : Zer Try.prog 64 (.nilFunc) [.nilFunc] := ⟨by kernel_rfl, rfl⟩
instance : Row Try.prog 64 1 8 := Row.of (n := 0) (by kernel_rfl)
instance : Und Try.prog 65 (.func #[] #[9] false) := ⟨by kernel_rfl⟩
instance : Siz Try.prog 65 1 := ⟨by kernel_rfl⟩
instance : Sgl Try.prog 65 := ⟨_, Und.out, rfl⟩
instance : Zer Try.prog 65 (.nilFunc) [.nilFunc] := ⟨by kernel_rfl, rfl⟩
instance : Row Try.prog 65 1 8 := Row.of (n := 0) (by kernel_rfl)
instance : Und Try.prog 66 (.slice 9) := ⟨by kernel_rfl⟩
instance : Siz Try.prog 66 1 := ⟨by kernel_rfl⟩
instance : Sgl Try.prog 66 := ⟨_, Und.out, rfl⟩
instance : Zer Try.prog 66 (.slice none 0 0) [.slice none 0 0] := ⟨by kernel_rfl, rfl⟩
instance : Row Try.prog 66 1 24 := Row.of (n := 0) (by kernel_rfl)
instance : Und Try.prog 67 (.slice 78) := ⟨by kernel_rfl⟩
instance : Siz Try.prog 67 1 := ⟨by kernel_rfl⟩
instance : Sgl Try.prog 67 := ⟨_, Und.out, rfl⟩
instance : Zer Try.prog 67 (.slice none 0 0) [.slice none 0 0] := ⟨by kernel_rfl, rfl⟩
instance : Row Try.prog 67 1 24 := Row.of (n := 0) (by kernel_rfl)
instance : Und Try.prog 68 (.slice 92) := ⟨by kernel_rfl⟩
instance : Siz Try.prog 68 1 := ⟨by kernel_rfl⟩
instance : Sgl Try.prog 68 := ⟨_, Und.out, rfl⟩
instance : Zer Try.prog 68 (.slice none 0 0) [.slice none 0 0] := ⟨by kernel_rfl, rfl⟩
instance : Row Try.prog 68 1 24 := Row.of (n := 0) (by kernel_rfl)
instance : Und Try.prog 69 (.slice 99) := ⟨by kernel_rfl⟩
instance : Siz Try.prog 69 1 := ⟨by kernel_rfl⟩
instance : Sgl Try.prog 69 := ⟨_, Und.out, rfl⟩
instance : Zer Try.prog 69 (.slice none 0 0) [.slice none 0 0] := ⟨by kernel_rfl, rfl⟩
instance : Row Try.prog 69 1 24 := Row.of (n := 0) (by kernel_rfl)
instance : Und Try.prog 70 (.struct (Try.prog.fieldsOf 70)) := ⟨by kernel_rfl⟩
instance : Siz Try.prog 70 6 := ⟨by kernel_rfl⟩
instance : Agl Try.prog 70 := ⟨_, Und.out, rfl⟩
instance : Zer Try.prog 70 (.agg #[.string ⟨#[]⟩, .slice none 0 0, .slice none 0 0, .slice none 0 0, .slice none 0 0, .slice none 0 0]) [.string ⟨#[]⟩, .slice none 0 0, .slice none 0 0, .slice none 0 0, .slice none 0 0, .slice none 0 0] := ⟨by kernel_rfl, rfl⟩
instance : Row Try.prog 70 6 136 := Row.of (n := 5) (by kernel_rfl)
instance : Fld Try.prog 70 0 0 := Fld.of (n := 0) (by kernel_rfl)
instance : Fld Try.prog 70 1 1 := Fld.of (n := 0) (by kernel_rfl)
instance : Fld Try.prog 70 2 2 := Fld.of (n := 0) (by kernel_rfl)
instance : Fld Try.prog 70 3 3 := Fld.of (n := 0) (by kernel_rfl)
instance : Fld Try.prog 70 4 4 := Fld.of (n := 0) (by kernel_rfl)
instance : Fld Try.prog 70 5 5 := Fld.of (n := 0) (by kernel_rfl)
instance : Bld Try.prog 70 [(0, 1), (1, 1), (2, 1), (3, 1), (4, 1), (5, 1)] := Bld.of (fs := Try.prog.fieldsOf 70) (by kernel_rfl) (fun w => by kernel_rfl)
instance : Und Try.prog 71 (.struct (Try.prog.fieldsOf 71)) := ⟨by kernel_rfl⟩
instance : Siz Try.prog 71 6 := ⟨by kernel_rfl⟩
instance : Agl Try.prog 71 := ⟨_, Und.out, rfl⟩
instance : Zer Try.prog 71 (.agg #[.string ⟨#[]⟩, .slice none 0 0, .slice none 0 0, .slice none 0 0, .slice none 0 0, .slice none 0 0]) [.string ⟨#[]⟩, .slice none 0 0, .slice none 0 0, .slice none 0 0, .slice none 0 0, .slice none 0 0] := ⟨by kernel_rfl, rfl⟩
instance : Row Try.prog 71 6 136 := Row.of (n := 5) (by kernel_rfl)
instance : Fld Try.prog 71 0 0 := Fld.of (n := 0) (by kernel_rfl)
instance : Fld Try.prog 71 1 1 := Fld.of (n := 0) (by kernel_rfl)
instance : Fld Try.prog 71 2 2 := Fld.of (n := 0) (by kernel_rfl)
instance : Fld Try.prog 71 3 3 := Fld.of (n := 0) (by kernel_rfl)
instance : Fld Try.prog 71 4 4 := Fld.of (n := 0) (by kernel_rfl)
instance : Fld Try.prog 71 5 5 := Fld.of (n := 0) (by kernel_rfl)
instance : Bld Try.prog 71 [(0, 1), (1, 1), (2, 1), (3, 1), (4, 1), (5, 1)] := Bld.of (fs := Try.prog.fieldsOf 71) (by kernel_rfl) (fun w => by kernel_rfl)
instance : Und Try.prog 72 (.struct (Try.prog.fieldsOf 72)) := ⟨by kernel_rfl⟩
instance : Siz Try.prog 72 2 := ⟨by kernel_rfl⟩
instance : Agl Try.prog 72 := ⟨_, Und.out, rfl⟩
instance : Zer Try.prog 72 (.agg #[.string ⟨#[]⟩, .int .i64 (0)]) [.string ⟨#[]⟩, .int .i64 (0)] := ⟨by kernel_rfl, rfl⟩
instance : Row Try.prog 72 2 24 := Row.of (n := 1) (by kernel_rfl)
instance : EqT Try.prog 72 [.str, .int .i64] := EqT.of (fs := Try.prog.fieldsOf 72) (by kernel_rfl) (by kernel_rfl) (by kernel_rfl)
instance : Fld Try.prog 72 0 0 := Fld.of (n := 0) (by kernel_rfl)
instance : Fld Try.prog 72 1 1 := Fld.of (n := 0) (by kernel_rfl)
instance : Bld Try.prog 72 [(0, 1), (1, 1)] := Bld.of (fs := Try.prog.fieldsOf 72) (by kernel_rfl) (fun w => by kernel_rfl)
instance : Und Try.prog 73 (.struct (Try.prog.fieldsOf 73)) := ⟨by kernel_rfl⟩
instance : Siz Try.prog 73 2 := ⟨by kernel_rfl⟩
instance : Agl Try.prog 73 := ⟨_, Und.out, rfl⟩
instance : Zer Try.prog 73 (.agg #[.string ⟨#[]⟩, .int .i64 (0)]) [.string ⟨#[]⟩, .int .i64 (0)] := ⟨by kernel_rfl, rfl⟩
instance : Row Try.prog 73 2 24 := Row.of (n := 1) (by kernel_rfl)
instance : EqT Try.prog 73 [.str, .int .i64] := EqT.of (fs := Try.prog.fieldsOf 73) (by kernel_rfl) (by kernel_rfl) (by kernel_rfl)
instance : Fld Try.prog 73 0 0 := Fld.of (n := 0) (by kernel_rfl)
instance : Fld Try.prog 73 1 1 := Fld.of (n := 0) (by kernel_rfl)
instance : Bld Try.prog 73 [(0, 1), (1, 1)] := Bld.of (fs := Try.prog.fieldsOf 73) (by kernel_rfl) (fun w => by kernel_rfl)
instance : Und Try.prog 74 (.slice 73) := ⟨by kernel_rfl⟩
instance : Siz Try.prog 74 1 := ⟨by kernel_rfl⟩
instance : Sgl Try.prog 74 := ⟨_, Und.out, rfl⟩
instance : Zer Try.prog 74 (.slice none 0 0) [.slice none 0 0] := ⟨by kernel_rfl, rfl⟩
instance : Row Try.prog 74 1 24 := Row.of (n := 0) (by kernel_rfl)
instance : Und Try.prog 75 (.struct (Try.prog.fieldsOf 75)) := ⟨by kernel_rfl⟩
instance : Siz Try.prog 75 2 := ⟨by kernel_rfl⟩
instance : Agl Try.prog 75 := ⟨_, Und.out, rfl⟩
instance : Zer Try.prog 75 (.agg #[.int .i64 (0), .slice none 0 0]) [.int .i64 (0), .slice none 0 0] := ⟨by kernel_rfl, rfl⟩
instance : Row Try.prog 75 2 32 := Row.of (n := 1) (by kernel_rfl)
instance : Fld Try.prog 75 0 0 := Fld.of (n := 0) (by kernel_rfl)
instance : Fld Try.prog 75 1 1 := Fld.of (n := 0) (by kernel_rfl)
instance : Bld Try.prog 75 [(0, 1), (1, 1)] := Bld.of (fs := Try.prog.fieldsOf 75) (by kernel_rfl) (fun w => by kernel_rfl)
instance : Und Try.prog 76 (.struct (Try.prog.fieldsOf 76)) := ⟨by kernel_rfl⟩
instance : Siz Try.prog 76 2 := ⟨by kernel_rfl⟩
instance : Agl Try.prog 76 := ⟨_, Und.out, rfl⟩
instance : Zer Try.prog 76 (.agg #[.int .i64 (0), .slice none 0 0]) [.int .i64 (0), .slice none 0 0] := ⟨by kernel_rfl, rfl⟩
instance : Row Try.prog 76 2 32 := Row.of (n := 1) (by kernel_rfl)
instance : Fld Try.prog 76 0 0 := Fld.of (n := 0) (by kernel_rfl)
instance : Fld Try.prog 76 1 1 := Fld.of (n := 0) (by kernel_rfl)
instance : Bld Try.prog 76 [(0, 1), (1, 1)] := Bld.of (fs := Try.prog.fieldsOf 76) (by kernel_rfl) (fun w => by kernel_rfl)
instance : Und Try.prog 77 (.struct (Try.prog.fieldsOf 77)) := ⟨by kernel_rfl⟩
instance : Siz Try.prog 77 4 := ⟨by kernel_rfl⟩
instance : Agl Try.prog 77 := ⟨_, Und.out, rfl⟩
instance : Zer Try.prog 77 (.agg #[.int .i64 (0), .string ⟨#[]⟩, .int .i64 (0), .slice none 0 0]) [.int .i64 (0), .string ⟨#[]⟩, .int .i64 (0), .slice none 0 0] := ⟨by kernel_rfl, rfl⟩
instance : Row Try.prog 77 4 56 := Row.of (n := 3) (by kernel_rfl)
instance : Fld Try.prog 77 0 0 := Fld.of (n := 0) (by kernel_rfl)
instance : Fld Try.prog 77 1 1 := Fld.of (n := 0) (by kernel_rfl)
instance : Fld Try.prog 77 2 2 := Fld.of (n := 1) (by kernel_rfl)
instance : Bld Try.prog 77 [(0, 1), (1, 1), (2, 2)] := Bld.of (fs := Try.prog.fieldsOf 77) (by kernel_rfl) (fun w => by kernel_rfl)
instance : Und Try.prog 78 (.struct (Try.prog.fieldsOf 78)) := ⟨by kernel_rfl⟩
instance : Siz Try.prog 78 4 := ⟨by kernel_rfl⟩
instance : Agl Try.prog 78 := ⟨_, Und.out, rfl⟩
instance : Zer Try.prog 78 (.agg #[.int .i64 (0), .string ⟨#[]⟩, .int .i64 (0), .slice none 0 0]) [.int .i64 (0), .string ⟨#[]⟩, .int .i64 (0), .slice none 0 0] := ⟨by kernel_rfl, rfl⟩
instance : Row Try.prog 78 4 56 := Row.of (n := 3) (by kernel_rfl)
instance : Fld Try.prog 78 0 0 := Fld.of (n := 0) (by kernel_rfl)
instance : Fld Try.prog 78 1 1 := Fld.of (n := 0) (by kernel_rfl)
instance : Fld Try.prog 78 2 2 := Fld.of (n := 1) (by kernel_rfl)
instance : Bld Try.prog 78 [(0, 1), (1, 1), (2, 2)] := Bld.of (fs := Try.prog.fieldsOf 78) (by kernel_rfl) (fun w => by kernel_rfl)
instance : Und Try.prog 79 (.struct (Try.prog.fieldsOf 79)) := ⟨by kernel_rfl⟩
instance : Siz Try.prog 79 2 := ⟨by kernel_rfl⟩
instance : Agl Try.prog 79 := ⟨_, Und.out, rfl⟩
instance : Zer Try.prog 79 (.agg #[.int .i64 (0), .int .i64 (0)]) [.int .i64 (0), .int .i64 (0)] := ⟨by kernel_rfl, rfl⟩
instance : Row Try.prog 79 2 16 := Row.of (n := 1) (by kernel_rfl)
instance : EqT Try.prog 79 [.int .i64, .int .i64] := EqT.of (fs := Try.prog.fieldsOf 79) (by kernel_rfl) (by kernel_rfl) (by kernel_rfl)
instance : Fld Try.prog 79 0 0 := Fld.of (n := 0) (by kernel_rfl)
instance : Fld Try.prog 79 1 1 := Fld.of (n := 0) (by kernel_rfl)
instance : Bld Try.prog 79 [(0, 1), (1, 1)] := Bld.of (fs := Try.prog.fieldsOf 79) (by kernel_rfl) (fun w => by kernel_rfl)
instance : Und Try.prog 80 (.struct (Try.prog.fieldsOf 80)) := ⟨by kernel_rfl⟩
instance : Siz Try.prog 80 2 := ⟨by kernel_rfl⟩
instance : Agl Try.prog 80 := ⟨_, Und.out, rfl⟩
instance : Zer Try.prog 80 (.agg #[.int .i64 (0), .int .i64 (0)]) [.int .i64 (0), .int .i64 (0)] := ⟨by kernel_rfl, rfl⟩
instance : Row Try.prog 80 2 16 := Row.of (n := 1) (by kernel_rfl)
instance : EqT Try.prog 80 [.int .i64, .int .i64] := EqT.of (fs := Try.prog.fieldsOf 80) (by kernel_rfl) (by kernel_rfl) (by kernel_rfl)
instance : Fld Try.prog 80 0 0 := Fld.of (n := 0) (by kernel_rfl)
instance : Fld Try.prog 80 1 1 := Fld.of (n := 0) (by kernel_rfl)
instance : Bld Try.prog 80 [(0, 1), (1, 1)] := Bld.of (fs := Try.prog.fieldsOf 80) (by kernel_rfl) (fun w => by kernel_rfl)
instance : Und Try.prog 81 (.pointer 83) := ⟨by kernel_rfl⟩
instance : Siz Try.prog 81 1 := ⟨by kernel_rfl⟩
instance : Sgl Try.prog 81 := ⟨_, Und.out, rfl⟩
instance : Zer Try.prog 81 (.pointer none) [.pointer none] := ⟨by kernel_rfl, rfl⟩
instance : Row Try.prog 81 1 8 := Row.of (n := 0) (by kernel_rfl)
instance : Und Try.prog 82 (.struct (Try.prog.fieldsOf 82)) := ⟨by kernel_rfl⟩
instance : Siz Try.prog 82 3 := ⟨by kernel_rfl⟩
instance : Agl Try.prog 82 := ⟨_, Und.out, rfl⟩
instance : Zer Try.prog 82 (.agg #[.slice none 0 0, .int .i64 (0), .int .i64 (0)]) [.slice none 0 0, .int .i64 (0), .int .i64 (0)] := ⟨by kernel_rfl, rfl⟩
instance : Row Try.prog 82 3 40 := Row.of (n := 2) (by kernel_rfl)
instance : Fld Try.prog 82 0 0 := Fld.of (n := 0) (by kernel_rfl)
instance : Fld Try.prog 82 1 1 := Fld.of (n := 0) (by kernel_rfl)
instance : Fld Try.prog 82 2 2 := Fld.of (n := 0) (by kernel_rfl)
instance : Bld Try.prog 82 [(0, 1), (1, 1), (2, 1)] := Bld.of (fs := Try.prog.fieldsOf 82) (by kernel_rfl) (fun w => by kernel_rfl)
instance : Und Try.prog 83 (.struct (Try.prog.fieldsOf 83)) := ⟨by kernel_rfl⟩
instance : Siz Try.prog 83 3 := ⟨by kernel_rfl⟩
instance : Agl Try.prog 83 := ⟨_, Und.out, rfl⟩
instance : Zer Try.prog 83 (.agg #[.slice none 0 0, .int .i64 (0), .int .i64 (0)]) [.slice none 0 0, .int .i64 (0), .int .i64 (0)] := ⟨by kernel_rfl, rfl⟩
instance : Row Try.prog 83 3 40 := Row.of (n := 2) (by kernel_rfl)
instance : Fld Try.prog 83 0 0 := Fld.of (n := 0) (by kernel_rfl)
instance : Fld Try.prog 83 1 1 := Fld.of (n := 0) (by kernel_rfl)
instance : Fld Try.prog 83 2 2 := Fld.of (n := 0) (by kernel_rfl)
instance : Bld Try.prog 83 [(0, 1), (1, 1), (2, 1)] := Bld.of (fs := Try.prog.fieldsOf 83) (by kernel_rfl) (fun w => by kernel_rfl)
instance : Und Try.prog 84 (.func #[3, 3] #[] false) := ⟨by kernel_rfl⟩
instance : Siz Try.prog 84 1 := ⟨by kernel_rfl⟩
instance : Sgl Try.prog 84 := ⟨_, Und.out, rfl⟩
instance : Zer Try.prog 84 (.nilFunc) [.nilFunc] := ⟨by kernel_rfl, rfl⟩
instance : Row Try.prog 84 1 8 := Row.of (n := 0) (by kernel_rfl)
instance : Und Try.prog 85 (.func #[] #[71] false) := ⟨by kernel_rfl⟩
instance : Siz Try.prog 85 1 := ⟨by kernel_rfl⟩
instance : Sgl Try.prog 85 := ⟨_, Und.out, rfl⟩
instance : Zer Try.prog 85 (.nilFunc) [.nilFunc] := ⟨by kernel_rfl, rfl⟩
instance : Row Try.prog 85 1 8 := Row.of (n := 0) (by kernel_rfl)
instance : Und Try.prog 86 (.func #[47, 47, 101] #[4] false) := ⟨by kernel_rfl⟩
instance : Siz Try.prog 86 1 := ⟨by kernel_rfl⟩
instance : Sgl Try.prog 86 := ⟨_, Und.out, rfl⟩
instance : Zer Try.prog 86 (.nilFunc) [.nilFunc] := ⟨by kernel_rfl, rfl⟩
instance : Row Try.prog 86 1 8 := Row.of (n := 0) (by kernel_rfl)
instance : Und Try.prog 87 (.func #[66, 66] #[4] false) := ⟨by kernel_rfl⟩
instance : Siz Try.prog 87 1 := ⟨by kernel_rfl⟩
instance : Sgl Try.prog 87 := ⟨_, Und.out, rfl⟩
instance : Zer Try.prog 87 (.nilFunc) [.nilFunc] := ⟨by kernel_rfl, rfl⟩
instance : Row Try.prog 87 1 8 := Row.of (n := 0) (by kernel_rfl)
instance : Und Try.prog 88 (.func #[67, 67, 89] #[4] false) := ⟨by kernel_rfl⟩
instance : Siz Try.prog 88 1 := ⟨by kernel_rfl⟩
instance : Sgl Try.prog 88 := ⟨_, Und.out, rfl⟩
instance : Zer Try.prog 88 (.nilFunc) [.nilFunc] := ⟨by kernel_rfl, rfl⟩
instance : Row Try.prog 88 1 8 := Row.of (n := 0) (by kernel_rfl)
instance : Und Try.prog 89 (.func #[78, 78] #[4] false) := ⟨by kernel_rfl⟩
instance : Siz Try.prog 89 1 := ⟨by kernel_rfl⟩
instance : Sgl Try.prog 89 := ⟨_, Und.out, rfl⟩
instance : Zer Try.prog 89 (.nilFunc) [.nilFunc] := ⟨by kernel_rfl, rfl⟩
instance : Row Try.prog 89 1 8 := Row.of (n := 0) (by kernel_rfl)
instance : Und Try.prog 90 (.func #[68, 68] #[4] false) := ⟨by kernel_rfl⟩
instance : Siz Try.prog 90 1 := ⟨by kernel_rfl⟩
instance : Sgl Try.prog 90 := ⟨_, Und.out, rfl⟩
instance : Zer Try.prog 90 (.nilFunc) [.nilFunc] := ⟨by kernel_rfl, rfl⟩
instance : Row Try.prog 90 1 8 := Row.of (n := 0) (by kernel_rfl)
instance : Und Try.prog 91 (.struct (Try.prog.fieldsOf 91)) := ⟨by kernel_rfl⟩
instance : Siz Try.prog 91 3 := ⟨by kernel_rfl⟩
instance : Agl Try.prog 91 := ⟨_, Und.out, rfl⟩
instance : Zer Try.prog 91 (.agg #[.int .i64 (0), .string ⟨#[]⟩, .string ⟨#[]⟩]) [.int .i64 (0), .string ⟨#[]⟩, .string ⟨#[]⟩] := ⟨by kernel_rfl, rfl⟩
instance : Row Try.prog 91 3 40 := Row.of (n := 2) (by kernel_rfl)
instance : EqT Try.prog 91 [.int .i64, .str, .str] := EqT.of (fs := Try.prog.fieldsOf 91) (by kernel_rfl) (by kernel_rfl) (by kernel_rfl)
instance : Fld Try.prog 91 0 0 := Fld.of (n := 0) (by kernel_rfl)
instance : Fld Try.prog 91 1 1 := Fld.of (n := 0) (by kernel_rfl)
instance : Fld Try.prog 91 2 2 := Fld.of (n := 0) (by kernel_rfl)
instance : Bld Try.prog 91 [(0, 1), (1, 1), (2, 1)] := Bld.of (fs := Try.prog.fieldsOf 91) (by kernel_rfl) (fun w => by kernel_rfl)
instance : Und Try.prog 92 (.struct (Try.prog.fieldsOf 92)) := ⟨by kernel_rfl⟩
instance : Siz Try.prog 92 3 := ⟨by kernel_rfl⟩
instance : Agl Try.prog 92 := ⟨_, Und.out, rfl⟩
instance : Zer Try.prog 92 (.agg #[.int .i64 (0), .string ⟨#[]⟩, .string ⟨#[]⟩]) [.int .i64 (0), .string ⟨#[]⟩, .string ⟨#[]⟩] := ⟨by kernel_rfl, rfl⟩
instance : Row Try.prog 92 3 40 := Row.of (n := 2) (by kernel_rfl)
instance : EqT Try.prog 92 [.int .i64, .str, .str] := EqT.of (fs := Try.prog.fieldsOf 92) (by kernel_rfl) (by kernel_rfl) (by kernel_rfl)
instance : Fld Try.prog 92 0 0 := Fld.of (n := 0) (by kernel_rfl)
instance : Fld Try.prog 92 1 1 := Fld.of (n := 0) (by kernel_rfl)
instance : Fld Try.prog 92 2 2 := Fld.of (n := 0) (by kernel_rfl)
instance : Bld Try.prog 92 [(0, 1), (1, 1), (2, 1)] := Bld.of (fs := Try.prog.fieldsOf 92) (by kernel_rfl) (fun w => by kernel_rfl)
instance : Und Try.prog 93 (.func #[69, 69, 100] #[4] false) := ⟨by kernel_rfl⟩
instance : Siz Try.prog 93 1 := ⟨by kernel_rfl⟩
instance : Sgl Try.prog 93 := ⟨_, Und.out, rfl⟩
instance : Zer Try.prog 93 (.nilFunc) [.nilFunc] := ⟨by kernel_rfl, rfl⟩
instance : Row Try.prog 93 1 8 := Row.of (n := 0) (by kernel_rfl)
instance : Und Try.prog 94 (.slice 126) := ⟨by kernel_rfl⟩
instance : Siz Try.prog 94 1 := ⟨by kernel_rfl⟩
instance : Sgl Try.prog 94 := ⟨_, Und.out, rfl⟩
instance : Zer Try.prog 94 (.slice none 0 0) [.slice none 0 0] := ⟨by kernel_rfl, rfl⟩
instance : Row Try.prog 94 1 24 := Row.of (n := 0) (by kernel_rfl)
instance : Und Try.prog 95 (.struct (Try.prog.fieldsOf 95)) := ⟨by kernel_rfl⟩
instance : Siz Try.prog 95 2 := ⟨by kernel_rfl⟩
instance : Agl Try.prog 95 := ⟨_, Und.out, rfl⟩
instance : Zer Try.prog 95 (.agg #[.string ⟨#[]⟩, .slice none 0 0]) [.string ⟨#[]⟩, .slice none 0 0] := ⟨by kernel_rfl, rfl⟩
instance : Row Try.prog 95 2 40 := Row.of (n := 1) (by kernel_rfl)
instance : Fld Try.prog 95 0 0 := Fld.of (n := 0) (by kernel_rfl)
instance : Fld Try.prog 95 1 1 := Fld.of (n := 0) (by kernel_rfl)
instance : Bld Try.prog 95 [(0, 1), (1, 1)] := Bld.of (fs := Try.prog.fieldsOf 95) (by kernel_rfl) (fun w => by kernel_rfl)
instance : Und Try.prog 96 (.struct (Try.prog.fieldsOf 96)) := ⟨by kernel_rfl⟩
instance : Siz Try.prog 96 2 := ⟨by kernel_rfl⟩
instance : Agl Try.prog 96 := ⟨_, Und.out, rfl⟩
instance : Zer Try.prog 96 (.agg #[.string ⟨#[]⟩, .slice none 0 0]) [.string ⟨#[]⟩, .slice none 0 0] := ⟨by kernel_rfl, rfl⟩
instance : Row Try.prog 96 2 40 := Row.of (n := 1) (by kernel_rfl)
instance : Fld Try.prog 96 0 0 := Fld.of (n := 0) (by kernel_rfl)
instance : Fld Try.prog 96 1 1 := Fld.of (n := 0) (by kernel_rfl)
instance : Bld Try.prog 96 [(0, 1), (1, 1)] := Bld.of (fs := Try.prog.fieldsOf 96) (by kernel_rfl) (fun w => by kernel_rfl)
instance : Und Try.prog 97 (.slice 76) := ⟨by kernel_rfl⟩
instance : Siz Try.prog 97 1 := ⟨by kernel_rfl⟩
instance : Sgl Try.prog 97 := ⟨_, Und.out, rfl⟩
instance : Zer Try.prog 97 (.slice none 0 0) [.slice none 0 0] := ⟨by kernel_rfl, rfl⟩
instance : Row Try.prog 97 1 24 := Row.of (n := 0) (by kernel_rfl)
instance : Und Try.prog 98 (.struct (Try.prog.fieldsOf 98)) := ⟨by kernel_rfl⟩
instance : Siz Try.prog 98 9 := ⟨by kernel_rfl⟩
instance : Agl Try.prog 98 := ⟨_, Und.out, rfl⟩
instance : Zer Try.prog 98 (.agg #[.int .i64 (0), .string ⟨#[]⟩, .int .i64 (0), .slice none 0 0, .string ⟨#[]⟩, .slice none 0 0, .slice none 0 0, .slice none 0 0, .slice none 0 0]) [.int .i64 (0), .string ⟨#[]⟩, .int .i64 (0), .slice none 0 0, .string ⟨#[]⟩, .slice none 0 0, .slice none 0 0, .slice none 0 0, .slice none 0 0] := ⟨by kernel_rfl, rfl⟩
instance : Row Try.prog 98 9 168 := Row.of (n := 8) (by kernel_rfl)
instance : Fld Try.prog 98 0 0 := Fld.of (n := 0) (by kernel_rfl)
instance : Fld Try.prog 98 1 1 := Fld.of (n := 0) (by kernel_rfl)
instance : Fld Try.prog 98 2 2 := Fld.of (n := 1) (by kernel_rfl)
instance : Fld Try.prog 98 3 4 := Fld.of (n := 1) (by kernel_rfl)
instance : Fld Try.prog 98 4 6 := Fld.of (n := 0) (by kernel_rfl)
instance : Fld Try.prog 98 5 7 := Fld.of (n := 0) (by kernel_rfl)
instance : Fld Try.prog 98 6 8 := Fld.of (n := 0) (by kernel_rfl)
instance : Bld Try.prog 98 [(0, 1), (1, 1), (2, 2), (4, 2), (6, 1), (7, 1), (8, 1)] := Bld.of (fs := Try.prog.fieldsOf 98) (by kernel_rfl) (fun w => by kernel_rfl)
instance : Und Try.prog 99 (.struct (Try.prog.fieldsOf 99)) := ⟨by kernel_rfl⟩
instance : Siz Try.prog 99 9 := ⟨by kernel_rfl⟩
instance : Agl Try.prog 99 := ⟨_, Und.out, rfl⟩
instance : Zer Try.prog 99 (.agg #[.int .i64 (0), .string ⟨#[]⟩, .int .i64 (0), .slice none 0 0, .string ⟨#[]⟩, .slice none 0 0, .slice none 0 0, .slice none 0 0, .slice none 0 0]) [.int .i64 (0), .string ⟨#[]⟩, .int .i64 (0), .slice none 0 0, .string ⟨#[]⟩, .slice none 0 0, .slice none 0 0, .slice none 0 0, .slice none 0 0] := ⟨by kernel_rfl, rfl⟩
instance : Row Try.prog 99 9 168 := Row.of (n := 8) (by kernel_rfl)
instance : Fld Try.prog 99 0 0 := Fld.of (n := 0) (by kernel_rfl)
instance : Fld Try.prog 99 1 1 := Fld.of (n := 0) (by kernel_rfl)
instance : Fld Try.prog 99 2 2 := Fld.of (n := 1) (by kernel_rfl)
instance : Fld Try.prog 99 3 4 := Fld.of (n := 1) (by kernel_rfl)
instance : Fld Try.prog 99 4 6 := Fld.of (n := 0) (by kernel_rfl)
instance : Fld Try.prog 99 5 7 := Fld.of (n := 0) (by kernel_rfl)
instance : Fld Try.prog 99 6 8 := Fld.of (n := 0) (by kernel_rfl)
instance : Bld Try.prog 99 [(0, 1), (1, 1), (2, 2), (4, 2), (6, 1), (7, 1), (8, 1)] := Bld.of (fs := Try.prog.fieldsOf 99) (by kernel_rfl) (fun w => by kernel_rfl)
instance : Und Try.prog 100 (.func #[99, 99] #[4] false) := ⟨by kernel_rfl⟩
instance : Siz Try.prog 100 1 := ⟨by kernel_rfl⟩
instance : Sgl Try.prog 100 := ⟨_, Und.out, rfl⟩
instance : Zer Try.prog 100 (.nilFunc) [.nilFunc] := ⟨by kernel_rfl, rfl⟩
instance : Row Try.prog 100 1 8 := Row.of (n := 0) (by kernel_rfl)
instance : Und Try.prog 101 (.func #[71, 71] #[4] false) := ⟨by kernel_rfl⟩
instance : Siz Try.prog 101 1 := ⟨by kernel_rfl⟩
instance : Sgl Try.prog 101 := ⟨_, Und.out, rfl⟩
instance : Zer Try.prog 101 (.nilFunc) [.nilFunc] := ⟨by kernel_rfl, rfl⟩
instance : Row Try.prog 101 1 8 := Row.of (n := 0) (by kernel_rfl)
instance : Und Try.prog 102 (.func #[69] #[3] false) := ⟨by kernel_rfl⟩
instance : Siz Try.prog 102 1 := ⟨by kernel_rfl⟩
instance : Sgl Try.prog 102 := ⟨_, Und.out, rfl⟩
instance : Zer Try.prog 102 (.nilFunc) [.nilFunc] := ⟨by kernel_rfl, rfl⟩
instance : Row Try.prog 102 1 8 := Row.of (n := 0) (by kernel_rfl)
instance : Und Try.prog 103 (.map 3 109) := ⟨by kernel_rfl⟩
instance : Siz Try.prog 103 1 := ⟨by kernel_rfl⟩
instance : Sgl Try.prog 103 := ⟨_, Und.out, rfl⟩
instance : Zer Try.prog 103 (.map none) [.map none] := ⟨by kernel_rfl, rfl⟩
instance : Row Try.prog 103 1 8 := Row.of (n := 0) (by kernel_rfl)
instance : Und Try.prog 104 (.func #[] #[103] false) := ⟨by kernel_rfl⟩
instance : Siz Try.prog 104 1 := ⟨by kernel_rfl⟩
instance : Sgl Try.prog 104 := ⟨_, Und.out, rfl⟩
instance : Zer Try.prog 104 (.nilFunc) [.nilFunc] := ⟨by kernel_rfl, rfl⟩
instance : Row Try.prog 104 1 8 := Row.of (n := 0) (by kernel_rfl)
instance : Und Try.prog 105 (.func #[21] #[3] false) := ⟨by kernel_rfl⟩
instance : Siz Try.prog 105 1 := ⟨by kernel_rfl⟩
instance : Sgl Try.prog 105 := ⟨_, Und.out, rfl⟩
instance : Zer Try.prog 105 (.nilFunc) [.nilFunc] := ⟨by kernel_rfl, rfl⟩
instance : Row Try.prog 105 1 8 := Row.of (n := 0) (by kernel_rfl)
instance : Und Try.prog 106 (.func #[3, 4] #[4] false) := ⟨by kernel_rfl⟩
instance : Siz Try.prog 106 1 := ⟨by kernel_rfl⟩
instance : Sgl Try.prog 106 := ⟨_, Und.out, rfl⟩
instance : Zer Try.prog 106 (.nilFunc) [.nilFunc] := ⟨by kernel_rfl, rfl⟩
instance : Row Try.prog 106 1 8 := Row.of (n := 0) (by kernel_rfl)
instance : Und Try.prog 107 (.func #[3, 24] #[4] false) := ⟨by kernel_rfl⟩
instance : Siz Try.prog 107 1 := ⟨by kernel_rfl⟩
instance : Sgl Try.prog 107 := ⟨_, Und.out, rfl⟩
instance : Zer Try.prog 107 (.nilFunc) [.nilFunc] := ⟨by kernel_rfl, rfl⟩
instance : Row Try.prog 107 1 8 := Row.of (n := 0) (by kernel_rfl)
instance : Und Try.prog 108 (.func #[21, 3] #[4] false) := ⟨by kernel_rfl⟩
instance : Siz Try.prog 108 1 := ⟨by kernel_rfl⟩
instance : Sgl Try.prog 108 := ⟨_, Und.out, rfl⟩
instance : Zer Try.prog 108 (.nilFunc) [.nilFunc] := ⟨by kernel_rfl, rfl⟩
instance : Row Try.prog 108 1 8 := Row.of (n := 0) (by kernel_rfl)
instance : Und Try.prog 109 (.func #[52, 3] #[4] false) := ⟨by kernel_rfl⟩
instance : Siz Try.prog 109 1 := ⟨by kernel_rfl⟩
instance : Sgl Try.prog 109 := ⟨_, Und.out, rfl⟩
instance : Zer Try.prog 109 (.nilFunc) [.nilFunc] := ⟨by kernel_rfl, rfl⟩
instance : Row Try.prog 109 1 8 := Row.of (n := 0) (by kernel_rfl)
instance : Und Try.prog 110 (.tuple #[109, 4]) := ⟨by kernel_rfl⟩
instance : Siz Try.prog 110 1 := ⟨by kernel_rfl⟩
instance : Sgl Try.prog 110 := ⟨_, Und.out, rfl⟩
instance : Und Try.prog 111 (.pointer 5) := ⟨by kernel_rfl⟩
instance : Siz Try.prog 111 1 := ⟨by kernel_rfl⟩
instance : Sgl Try.prog 111 := ⟨_, Und.out, rfl⟩
instance : Zer Try.prog 111 (.pointer none) [.pointer none] := ⟨by kernel_rfl, rfl⟩
instance : Row Try.prog 111 1 8 := Row.of (n := 0) (by kernel_rfl)
instance : Und Try.prog 112 (.tuple #[21, 3]) := ⟨by kernel_rfl⟩
instance : Siz Try.prog 112 1 := ⟨by kernel_rfl⟩
instance : Sgl Try.prog 112 := ⟨_, Und.out, rfl⟩
instance : Und Try.prog 113 (.func #[9] #[21, 3] false) := ⟨by kernel_rfl⟩
instance : Siz Try.prog 113 1 := ⟨by kernel_rfl⟩
instance : Sgl Try.prog 113 := ⟨_, Und.out, rfl⟩
instance : Zer Try.prog 113 (.nilFunc) [.nilFunc] := ⟨by kernel_rfl, rfl⟩
instance : Row Try.prog 113 1 8 := Row.of (n := 0) (by kernel_rfl)
instance : Und Try.prog 114 (.func #[9] #[3] false) := ⟨by kernel_rfl⟩
instance : Siz Try.prog 114 1 := ⟨by kernel_rfl⟩
instance : Sgl Try.prog 114 := ⟨_, Und.out, rfl⟩
instance : Zer Try.prog 114 (.nilFunc) [.nilFunc] := ⟨by kernel_rfl, rfl⟩
instance : Row Try.prog 114 1 8 := Row.of (n := 0) (by kernel_rfl)
instance : Und Try.prog 115 (.func #[5] #[4] false) := ⟨by kernel_rfl⟩
instance : Siz Try.prog 115 1 := ⟨by kernel_rfl⟩
instance : Sgl Try.prog 115 := ⟨_, Und.out, rfl⟩
instance : Zer Try.prog 115 (.nilFunc) [.nilFunc] := ⟨by kernel_rfl, rfl⟩
instance : Row Try.prog 115 1 8 := Row.of (n := 0) (by kernel_rfl)
instance : Und Try.prog 116 (.func #[24] #[] false) := ⟨by kernel_rfl⟩
instance : Siz Try.prog 116 1 := ⟨by kernel_rfl⟩
instance : Sgl Try.prog 116 := ⟨_, Und.out, rfl⟩
instance : Zer Try.prog 116 (.nilFunc) [.nilFunc] := ⟨by kernel_rfl, rfl⟩
instance : Row Try.prog 116 1 8 := Row.of (n := 0) (by kernel_rfl)
instance : Und Try.prog 117 (.func #[9] #[] false) := ⟨by kernel_rfl⟩
instance : Siz Try.prog 117 1 := ⟨by kernel_rfl⟩
instance : Sgl Try.prog 117 := ⟨_, Und.out, rfl⟩
instance : Zer Try.prog 117 (.nilFunc) [.nilFunc] := ⟨by kernel_rfl, rfl⟩
instance : Row Try.prog 117 1 8 := Row.of (n := 0) (by kernel_rfl)
instance : Und Try.prog 118 (.func #[81, 65] #[66] false) := ⟨by kernel_rfl⟩
instance : Siz Try.prog 118 1 := ⟨by kernel_rfl⟩
instance : Sgl Try.prog 118 := ⟨_, Und.out, rfl⟩
instance : Zer Try.prog 118 (.nilFunc) [.nilFunc] := ⟨by kernel_rfl, rfl⟩
instance : Row Try.prog 118 1 8 := Row.of (n := 0) (by kernel_rfl)
instance : Und Try.prog 119 (.func #[81, 120] #[67] false) := ⟨by kernel_rfl⟩
instance : Siz Try.prog 119 1 := ⟨by kernel_rfl⟩
instance : Sgl Try.prog 119 := ⟨_, Und.out, rfl⟩
instance : Zer Try.prog 119 (.nilFunc) [.nilFunc] := ⟨by kernel_rfl, rfl⟩
instance : Row Try.prog 119 1 8 := Row.of (n := 0) (by kernel_rfl)
instance : Und Try.prog 120 (.func #[] #[78] false) := ⟨by kernel_rfl⟩
instance : Siz Try.prog 120 1 := ⟨by kernel_rfl⟩
instance : Sgl Try.prog 120 := ⟨_, Und.out, rfl⟩
instance : Zer Try.prog 120 (.nilFunc) [.nilFunc] := ⟨by kernel_rfl, rfl⟩
instance : Row Try.prog 120 1 8 := Row.of (n := 0) (by kernel_rfl)
instance : Und Try.prog 121 (.func #[9] #[68] false) := ⟨by kernel_rfl⟩
instance : Siz Try.prog 121 1 := ⟨by kernel_rfl⟩
instance : Sgl Try.prog 121 := ⟨_, Und.out, rfl⟩
instance : Zer Try.prog 121 (.nilFunc) [.nilFunc] := ⟨by kernel_rfl, rfl⟩
instance : Row Try.prog 121 1 8 := Row.of (n := 0) (by kernel_rfl)
instance : Und Try.prog 122 (.func #[3] #[69] false) := ⟨by kernel_rfl⟩
instance : Siz Try.prog 122 1 := ⟨by kernel_rfl⟩
instance : Sgl Try.prog 122 := ⟨_, Und.out, rfl⟩
instance : Zer Try.prog 122 (.nilFunc) [.nilFunc] := ⟨by kernel_rfl, rfl⟩
instance : Row Try.prog 122 1 8 := Row.of (n := 0) (by kernel_rfl)
instance : Und Try.prog 123 (.func #[76, 76] #[4] false) := ⟨by kernel_rfl⟩
instance : Siz Try.prog 123 1 := ⟨by kernel_rfl⟩
instance : Sgl Try.prog 123 := ⟨_, Und.out, rfl⟩
instance : Zer Try.prog 123 (.nilFunc) [.nilFunc] := ⟨by kernel_rfl, rfl⟩
instance : Row Try.prog 123 1 8 := Row.of (n := 0) (by kernel_rfl)
instance : Und Try.prog 124 (.func #[94, 94] #[4] false) := ⟨by kernel_rfl⟩
instance : Siz Try.prog 124 1 := ⟨by kernel_rfl⟩
instance : Sgl Try.prog 124 := ⟨_, Und.out, rfl⟩
instance : Zer Try.prog 124 (.nilFunc) [.nilFunc] := ⟨by kernel_rfl, rfl⟩
instance : Row Try.prog 124 1 8 := Row.of (n := 0) (by kernel_rfl)
instance : Und Try.prog 125 (.struct (Try.prog.fieldsOf 125)) := ⟨by kernel_rfl⟩
instance : Siz Try.prog 125 2 := ⟨by kernel_rfl⟩
instance : Agl Try.prog 125 := ⟨_, Und.out, rfl⟩
instance : Zer Try.prog 125 (.agg #[.string ⟨#[]⟩, .int .u64 (0)]) [.string ⟨#[]⟩, .int .u64 (0)] := ⟨by kernel_rfl, rfl⟩
instance : Row Try.prog 125 2 24 := Row.of (n := 1) (by kernel_rfl)
instance : EqT Try.prog 125 [.str, .int .u64] := EqT.of (fs := Try.prog.fieldsOf 125) (by kernel_rfl) (by kernel_rfl) (by kernel_rfl)
instance : Fld Try.prog 125 0 0 := Fld.of (n := 0) (by kernel_rfl)
instance : Fld Try.prog 125 1 1 := Fld.of (n := 0) (by kernel_rfl)
instance : Bld Try.prog 125 [(0, 1), (1, 1)] := Bld.of (fs := Try.prog.fieldsOf 125) (by kernel_rfl) (fun w => by kernel_rfl)
instance : Und Try.prog 126 (.struct (Try.prog.fieldsOf 126)) := ⟨by kernel_rfl⟩
instance : Siz Try.prog 126 2 := ⟨by kernel_rfl⟩
instance : Agl Try.prog 126 := ⟨_, Und.out, rfl⟩
instance : Zer Try.prog 126 (.agg #[.string ⟨#[]⟩, .int .u64 (0)]) [.string ⟨#[]⟩, .int .u64 (0)] := ⟨by kernel_rfl, rfl⟩
instance : Row Try.prog 126 2 24 := Row.of (n := 1) (by kernel_rfl)
instance : EqT Try.prog 126 [.str, .int .u64] := EqT.of (fs := Try.prog.fieldsOf 126) (by kernel_rfl) (by kernel_rfl) (by kernel_rfl)
instance : Fld Try.prog 126 0 0 := Fld.of (n := 0) (by kernel_rfl)
instance : Fld Try.prog 126 1 1 := Fld.of (n := 0) (by kernel_rfl)
instance : Bld Try.prog 126 [(0, 1), (1, 1)] := Bld.of (fs := Try.prog.fieldsOf 126) (by kernel_rfl) (fun w => by kernel_rfl)
instance : Und Try.prog 127 (.func #[97, 97, 123] #[4] false) := ⟨by kernel_rfl⟩
instance : Siz Try.prog 127 1 := ⟨by kernel_rfl⟩
instance : Sgl Try.prog 127 := ⟨_, Und.out, rfl⟩
instance : Zer Try.prog 127 (.nilFunc) [.nilFunc] := ⟨by kernel_rfl, rfl⟩
instance : Row Try.prog 127 1 8 := Row.of (n := 0) (by kernel_rfl)
instance : Und Try.prog 128 (.func #[3, 3] #[4] false) := ⟨by kernel_rfl⟩
instance : Siz Try.prog 128 1 := ⟨by kernel_rfl⟩
instance : Sgl Try.prog 128 := ⟨_, Und.out, rfl⟩
instance : Zer Try.prog 128 (.nilFunc) [.nilFunc] := ⟨by kernel_rfl, rfl⟩
instance : Row Try.prog 128 1 8 := Row.of (n := 0) (by kernel_rfl)
instance : Und Try.prog 129 (.func #[9, 21] #[4] false) := ⟨by kernel_rfl⟩
instance : Siz Try.prog 129 1 := ⟨by kernel_rfl⟩
instance : Sgl Try.prog 129 := ⟨_, Und.out, rfl⟩
instance : Zer Try.prog 129 (.nilFunc) [.nilFunc] := ⟨by kernel_rfl, rfl⟩
instance : Row Try.prog 129 1 8 := Row.of (n := 0) (by kernel_rfl)
instance : Und Try.prog 131 (.func #[130] #[130] false) := ⟨by kernel_rfl⟩
instance : Siz Try.prog 131 1 := ⟨by kernel_rfl⟩
instance : Sgl Try.prog 131 := ⟨_, Und.out, rfl⟩
instance : Zer Try.prog 131 (.nilFunc) [.nilFunc] := ⟨by kernel_rfl, rfl⟩
instance : Row Try.prog 131 1 8 := Row.of (n := 0) (by kernel_rfl)
instance : Und Try.prog 132 (.func #[3] #[4] false) := ⟨by kernel_rfl⟩
instance : Siz Try.prog 132 1 := ⟨by kernel_rfl⟩
instance : Sgl Try.prog 132 := ⟨_, Und.out, rfl⟩
instance : Zer Try.prog 132 (.nilFunc) [.nilFunc] := ⟨by kernel_rfl, rfl⟩
instance : Row Try.prog 132 1 8 := Row.of (n := 0) (by kernel_rfl)
instance : Und Try.prog 133 (.func #[81, 9, 65] #[66] false) := ⟨by kernel_rfl⟩
instance : Siz Try.prog 133 1 := ⟨by kernel_rfl⟩
instance : Sgl Try.prog 133 := ⟨_, Und.out, rfl⟩
instance : Zer Try.prog 133 (.nilFunc) [.nilFunc] := ⟨by kernel_rfl, rfl⟩
instance : Row Try.prog 133 1 8 := Row.of (n := 0) (by kernel_rfl)
instance : Und Try.prog 134 (.func #[81, 9, 120] #[67] false) := ⟨by kernel_rfl⟩
instance : Siz Try.prog 134 1 := ⟨by kernel_rfl⟩
instance : Sgl Try.prog 134 := ⟨_, Und.out, rfl⟩
instance : Zer Try.prog 134 (.nilFunc) [.nilFunc] := ⟨by kernel_rfl, rfl⟩
instance : Row Try.prog 134 1 8 := Row.of (n := 0) (by kernel_rfl)
instance : Und Try.prog 135 (.func #[] #[76] false) := ⟨by kernel_rfl⟩
instance : Siz Try.prog 135 1 := ⟨by kernel_rfl⟩
instance : Sgl Try.prog 135 := ⟨_, Und.out, rfl⟩
instance : Zer Try.prog 135 (.nilFunc) [.nilFunc] := ⟨by kernel_rfl, rfl⟩
instance : Row Try.prog 135 1 8 := Row.of (n := 0) (by kernel_rfl)
instance : Und Try.prog 136 (.func #[] #[92] false) := ⟨by kernel_rfl⟩
instance : Siz Try.prog 136 1 := ⟨by kernel_rfl⟩
instance : Sgl Try.prog 136 := ⟨_, Und.out, rfl⟩
instance : Zer Try.prog 136 (.nilFunc) [.nilFunc] := ⟨by kernel_rfl, rfl⟩
instance : Row Try.prog 136 1 8 := Row.of (n := 0) (by kernel_rfl)
instance : Und Try.prog 137 (.func #[3] #[99] false) := ⟨by kernel_rfl⟩
instance : Siz Try.prog 137 1 := ⟨by kernel_rfl⟩
instance : Sgl Try.prog 137 := ⟨_, Und.out, rfl⟩
instance : Zer Try.prog 137 (.nilFunc) [.nilFunc] := ⟨by kernel_rfl, rfl⟩
instance : Row Try.prog 137 1 8 := Row.of (n := 0) (by kernel_rfl)
instance : Und Try.prog 138 (.func #[74, 74] #[4] false) := ⟨by kernel_rfl⟩
instance : Siz Try.prog 138 1 := ⟨by kernel_rfl⟩
instance : Sgl Try.prog 138 := ⟨_, Und.out, rfl⟩
instance : Zer Try.prog 138 (.nilFunc) [.nilFunc] := ⟨by kernel_rfl, rfl⟩
instance : Row Try.prog 138 1 8 := Row.of (n := 0) (by kernel_rfl)
instance : Und Try.prog 139 (.func #[9, 21] #[3] false) := ⟨by kernel_rfl⟩
instance : Siz Try.prog 139 1 := ⟨by kernel_rfl⟩
instance : Sgl Try.prog 139 := ⟨_, Und.out, rfl⟩
instance : Zer Try.prog 139 (.nilFunc) [.nilFunc] := ⟨by kernel_rfl, rfl⟩
instance : Row Try.prog 139 1 8 := Row.of (n := 0) (by kernel_rfl)
instance : Und Try.prog 140 (.func #[32, 24] #[32] false) := ⟨by kernel_rfl⟩
instance : Siz Try.prog 140 1 := ⟨by kernel_rfl⟩
instance : Sgl Try.prog 140 := ⟨_, Und.out, rfl⟩
instance : Zer Try.prog 140 (.nilFunc) [.nilFunc] := ⟨by kernel_rfl, rfl⟩
instance : Row Try.prog 140 1 8 := Row.of (n := 0) (by kernel_rfl)
instance : Und Try.prog 141 (.func #[76, 9, 3] #[76] false) := ⟨by kernel_rfl⟩
instance : Siz Try.prog 141 1 := ⟨by kernel_rfl⟩
instance : Sgl Try.prog 141 := ⟨_, Und.out, rfl⟩
instance : Zer Try.prog 141 (.nilFunc) [.nilFunc] := ⟨by kernel_rfl, rfl⟩
instance : Row Try.prog 141 1 8 := Row.of (n := 0) (by kernel_rfl)
instance : Und Try.prog 142 (.func #[] #[96] false) := ⟨by kernel_rfl⟩
instance : Siz Try.prog 142 1 := ⟨by kernel_rfl⟩
instance : Sgl Try.prog 142 := ⟨_, Und.out, rfl⟩
instance : Zer Try.prog 142 (.nilFunc) [.nilFunc] := ⟨by kernel_rfl, rfl⟩
instance : Row Try.prog 142 1 8 := Row.of (n := 0) (by kernel_rfl)
instance : Und Try.prog 143 (.func #[81, 135] #[97] false) := ⟨by kernel_rfl⟩
instance : Siz Try.prog 143 1 := ⟨by kernel_rfl⟩
instance : Sgl Try.prog 143 := ⟨_, Und.out, rfl⟩
instance : Zer Try.prog 143 (.nilFunc) [.nilFunc] := ⟨by kernel_rfl, rfl⟩
instance : Row Try.prog 143 1 8 := Row.of (n := 0) (by kernel_rfl)
instance : Und Try.prog 144 (.func #[9, 5] #[3] false) := ⟨by kernel_rfl⟩
instance : Siz Try.prog 144 1 := ⟨by kernel_rfl⟩
instance : Sgl Try.prog 144 := ⟨_, Und.out, rfl⟩
instance : Zer Try.prog 144 (.nilFunc) [.nilFunc] := ⟨by kernel_rfl, rfl⟩
instance : Row Try.prog 144 1 8 := Row.of (n := 0) (by kernel_rfl)
instance : Und Try.prog 145 (.func #[3] #[3] false) := ⟨by kernel_rfl⟩
instance : Siz Try.prog 145 1 := ⟨by kernel_rfl⟩
instance : Sgl Try.prog 145 := ⟨_, Und.out, rfl⟩
instance : Zer Try.prog 145 (.nilFunc) [.nilFunc] := ⟨by kernel_rfl, rfl⟩
instance : Row Try.prog 145 1 8 := Row.of (n := 0) (by kernel_rfl)
instance : Und Try.prog 146 (.int .u64) := ⟨by kernel_rfl⟩
instance : Siz Try.prog 146 1 := ⟨by kernel_rfl⟩
instance : Sgl Try.prog 146 := ⟨_, Und.out, rfl⟩
instance : Zer Try.prog 146 (.int .u64 (0)) [.int .u64 (0)] := ⟨by kernel_rfl, rfl⟩
instance : Row Try.prog 146 1 8 := Row.of (n := 0) (by kernel_rfl)
instance : Und Try.prog 147 (.func #[9, 9] #[3] false) := ⟨by kernel_rfl⟩
instance : Siz Try.prog 147 1 := ⟨by kernel_rfl⟩
instance : Sgl Try.prog 147 := ⟨_, Und.out, rfl⟩
instance : Zer Try.prog 147 (.nilFunc) [.nilFunc] := ⟨by kernel_rfl, rfl⟩
instance : Row Try.prog 147 1 8 := Row.of (n := 0) (by kernel_rfl)
instance : Und Try.prog 148 (.tuple #[3, 4]) := ⟨by kernel_rfl⟩
instance : Siz Try.prog 148 1 := ⟨by kernel_rfl⟩
instance : Sgl Try.prog 148 := ⟨_, Und.out, rfl⟩
instance : Und Try.prog 149 (.func #[74, 9, 150] #[3, 4] false) := ⟨by kernel_rfl⟩
instance : Siz Try.prog 149 1 := ⟨by kernel_rfl⟩
instance : Sgl Try.prog 149 := ⟨_, Und.out, rfl⟩
instance : Zer Try.prog 149 (.nilFunc) [.nilFunc] := ⟨by kernel_rfl, rfl⟩
instance : Row Try.prog 149 1 8 := Row.of (n := 0) (by kernel_rfl)
instance : Und Try.prog 150 (.func #[73, 9] #[3] false) := ⟨by kernel_rfl⟩
instance : Siz Try.prog 150 1 := ⟨by kernel_rfl⟩
instance : Sgl Try.prog 150 := ⟨_, Und.out, rfl⟩
instance : Zer Try.prog 150 (.nilFunc) [.nilFunc] := ⟨by kernel_rfl, rfl⟩
instance : Row Try.prog 150 1 8 := Row.of (n := 0) (by kernel_rfl)
instance : Und Try.prog 151 (.func #[74, 3, 74] #[74] true) := ⟨by kernel_rfl⟩
instance : Siz Try.prog 151 1 := ⟨by kernel_rfl⟩
instance : Sgl Try.prog 151 := ⟨_, Und.out, rfl⟩
instance : Zer Try.prog 151 (.nilFunc) [.nilFunc] := ⟨by kernel_rfl, rfl⟩
instance : Row Try.prog 151 1 8 := Row.of (n := 0) (by kernel_rfl)
instance : Und Try.prog 152 (.map 9 3) := ⟨by kernel_rfl⟩
instance : Siz Try.prog 152 1 := ⟨by kernel_rfl⟩
instance : Sgl Try.prog 152 := ⟨_, Und.out, rfl⟩
instance : Zer Try.prog 152 (.map none) [.map none] := ⟨by kernel_rfl, rfl⟩
instance : Row Try.prog 152 1 8 := Row.of (n := 0) (by kernel_rfl)
instance : Und Try.prog 153 (.func #[] #[152] false) := ⟨by kernel_rfl⟩
instance : Siz Try.prog 153 1 := ⟨by kernel_rfl⟩
instance : Sgl Try.prog 153 := ⟨_, Und.out, rfl⟩
instance : Zer Try.prog 153 (.nilFunc) [.nilFunc] := ⟨by kernel_rfl, rfl⟩
instance : Row Try.prog 153 1 8 := Row.of (n := 0) (by kernel_rfl)
instance : Und Try.prog 154 (.func #[] #[126] false) := ⟨by kernel_rfl⟩
instance : Siz Try.prog 154 1 := ⟨by kernel_rfl⟩
instance : Sgl Try.prog 154 := ⟨_, Und.out, rfl⟩
instance : Zer Try.prog 154 (.nilFunc) [.nilFunc] := ⟨by kernel_rfl, rfl⟩
instance : Row Try.prog 154 1 8 := Row.of (n := 0) (by kernel_rfl)
instance : Und Try.prog 155 (.func #[81, 9, 135] #[97] false) := ⟨by kernel_rfl⟩
instance : Siz Try.prog 155 1 := ⟨by kernel_rfl⟩
instance : Sgl Try.prog 155 := ⟨_, Und.out, rfl⟩
instance : Zer Try.prog 155 (.nilFunc) [.nilFunc] := ⟨by kernel_rfl, rfl⟩
instance : Row Try.prog 155 1 8 := Row.of (n := 0) (by kernel_rfl)
instance : Und Try.prog 156 (.func #[74, 3] #[] false) := ⟨by kernel_rfl⟩
instance : Siz Try.prog 156 1 := ⟨by kernel_rfl⟩
instance : Sgl Try.prog 156 := ⟨_, Und.out, rfl⟩
instance : Zer Try.prog 156 (.nilFunc) [.nilFunc] := ⟨by kernel_rfl, rfl⟩
instance : Row Try.prog 156 1 8 := Row.of (n := 0) (by kernel_rfl)
instance : Und Try.prog 157 (.func #[74] #[] false) := ⟨by kernel_rfl⟩
instance : Siz Try.prog 157 1 := ⟨by kernel_rfl⟩
instance : Sgl Try.prog 157 := ⟨_, Und.out, rfl⟩
instance : Zer Try.prog 157 (.nilFunc) [.nilFunc] := ⟨by kernel_rfl, rfl⟩
instance : Row Try.prog 157 1 8 := Row.of (n := 0) (by kernel_rfl)
instance : Und Try.prog 158 (.struct (Try.prog.fieldsOf 158)) := ⟨by kernel_rfl⟩
instance : Siz Try.prog 158 4 := ⟨by kernel_rfl⟩
instance : Agl Try.prog 158 := ⟨_, Und.out, rfl⟩
instance : Zer Try.prog 158 (.agg #[.pointer none, .pointer none, .pointer none, .string ⟨#[]⟩]) [.pointer none, .pointer none, .pointer none, .string ⟨#[]⟩] := ⟨by kernel_rfl, rfl⟩
instance : Row Try.prog 158 4 40 := Row.of (n := 3) (by kernel_rfl)
instance : Fld Try.prog 158 0 0 := Fld.of (n := 0) (by kernel_rfl)
instance : Fld Try.prog 158 1 1 := Fld.of (n := 0) (by kernel_rfl)
instance : Fld Try.prog 158 2 2 := Fld.of (n := 0) (by kernel_rfl)
instance : Fld Try.prog 158 3 3 := Fld.of (n := 0) (by kernel_rfl)
instance : Bld Try.prog 158 [(0, 1), (1, 1), (2, 1), (3, 1)] := Bld.of (fs := Try.prog.fieldsOf 158) (by kernel_rfl) (fun w => by kernel_rfl)
instance : Und Try.prog 159 (.struct (Try.prog.fieldsOf 159)) := ⟨by kernel_rfl⟩
instance : Siz Try.prog 159 4 := ⟨by kernel_rfl⟩
instance : Agl Try.prog 159 := ⟨_, Und.out, rfl⟩
instance : Zer Try.prog 159 (.agg #[.pointer none, .pointer none, .pointer none, .string ⟨#[]⟩]) [.pointer none, .pointer none, .pointer none, .string ⟨#[]⟩] := ⟨by kernel_rfl, rfl⟩
instance : Row Try.prog 159 4 40 := Row.of (n := 3) (by kernel_rfl)
instance : Fld Try.prog 159 0 0 := Fld.of (n := 0) (by kernel_rfl)
instance : Fld Try.prog 159 1 1 := Fld.of (n := 0) (by kernel_rfl)
instance : Fld Try.prog 159 2 2 := Fld.of (n := 0) (by kernel_rfl)
instance : Fld Try.prog 159 3 3 := Fld.of (n := 0) (by kernel_rfl)
instance : Bld Try.prog 159 [(0, 1), (1, 1), (2, 1), (3, 1)] := Bld.of (fs := Try.prog.fieldsOf 159) (by kernel_rfl) (fun w => by kernel_rfl)
instance : Und Try.prog 160 (.array 0 16) := ⟨by kernel_rfl⟩
instance : Siz Try.prog 160 0 := ⟨by kernel_rfl⟩
instance : Agl Try.prog 160 := ⟨_, Und.out, rfl⟩
instance : Zer Try.prog 160 (.agg #[]) [] := ⟨by kernel_rfl, rfl⟩
instance : Und Try.prog 161 (.struct (Try.prog.fieldsOf 161)) := ⟨by kernel_rfl⟩
instance : Siz Try.prog 161 0 := ⟨by kernel_rfl⟩
instance : Agl Try.prog 161 := ⟨_, Und.out, rfl⟩
instance : Zer Try.prog 161 (.agg #[]) [] := ⟨by kernel_rfl, rfl⟩
instance : Bld Try.prog 161 [(0, 0)] := Bld.of (fs := Try.prog.fieldsOf 161) (by kernel_rfl) (fun w => by kernel_rfl)
instance : Und Try.prog 162 (.struct (Try.prog.fieldsOf 162)) := ⟨by kernel_rfl⟩
instance : Siz Try.prog 162 0 := ⟨by kernel_rfl⟩
instance : Agl Try.prog 162 := ⟨_, Und.out, rfl⟩
instance : Zer Try.prog 162 (.agg #[]) [] := ⟨by kernel_rfl, rfl⟩
instance : Bld Try.prog 162 [(0, 0)] := Bld.of (fs := Try.prog.fieldsOf 162) (by kernel_rfl) (fun w => by kernel_rfl)
instance : Und Try.prog 163 (.func #[] #[3] false) := ⟨by kernel_rfl⟩
instance : Siz Try.prog 163 1 := ⟨by kernel_rfl⟩
instance : Sgl Try.prog 163 := ⟨_, Und.out, rfl⟩
instance : Zer Try.prog 163 (.nilFunc) [.nilFunc] := ⟨by kernel_rfl, rfl⟩
instance : Row Try.prog 163 1 8 := Row.of (n := 0) (by kernel_rfl)
instance : Und Try.prog 164 (.int .u32) := ⟨by kernel_rfl⟩
instance : Siz Try.prog 164 1 := ⟨by kernel_rfl⟩
instance : Sgl Try.prog 164 := ⟨_, Und.out, rfl⟩
instance : Zer Try.prog 164 (.int .u32 (0)) [.int .u32 (0)] := ⟨by kernel_rfl, rfl⟩
instance : Row Try.prog 164 1 4 := Row.of (n := 0) (by kernel_rfl)
instance : Und Try.prog 165 (.int .u8) := ⟨by kernel_rfl⟩
instance : Siz Try.prog 165 1 := ⟨by kernel_rfl⟩
instance : Sgl Try.prog 165 := ⟨_, Und.out, rfl⟩
instance : Zer Try.prog 165 (.int .u8 (0)) [.int .u8 (0)] := ⟨by kernel_rfl, rfl⟩
instance : Row Try.prog 165 1 1 := Row.of (n := 0) (by kernel_rfl)
instance : Und Try.prog 166 (.int .u8) := ⟨by kernel_rfl⟩
instance : Siz Try.prog 166 1 := ⟨by kernel_rfl⟩
instance : Sgl Try.prog 166 := ⟨_, Und.out, rfl⟩
instance : Zer Try.prog 166 (.int .u8 (0)) [.int .u8 (0)] := ⟨by kernel_rfl, rfl⟩
instance : Row Try.prog 166 1 1 := Row.of (n := 0) (by kernel_rfl)
instance : Und Try.prog 167 (.func #[130, 130] #[4] false) := ⟨by kernel_rfl⟩
instance : Siz Try.prog 167 1 := ⟨by kernel_rfl⟩
instance : Sgl Try.prog 167 := ⟨_, Und.out, rfl⟩
instance : Zer Try.prog 167 (.nilFunc) [.nilFunc] := ⟨by kernel_rfl, rfl⟩
instance : Row Try.prog 167 1 8 := Row.of (n := 0) (by kernel_rfl)
instance : Und Try.prog 168 (.int .i32) := ⟨by kernel_rfl⟩
instance : Siz Try.prog 168 1 := ⟨by kernel_rfl⟩
instance : Sgl Try.prog 168 := ⟨_, Und.out, rfl⟩
instance : Zer Try.prog 168 (.int .i32 (0)) [.int .i32 (0)] := ⟨by kernel_rfl, rfl⟩
instance : Row Try.prog 168 1 4 := Row.of (n := 0) (by kernel_rfl)
instance : Und Try.prog 169 (.int .i32) := ⟨by kernel_rfl⟩
instance : Siz Try.prog 169 1 := ⟨by kernel_rfl⟩
instance : Sgl Try.prog 169 := ⟨_, Und.out, rfl⟩
instance : Zer Try.prog 169 (.int .i32 (0)) [.int .i32 (0)] := ⟨by kernel_rfl, rfl⟩
instance : Row Try.prog 169 1 4 := Row.of (n := 0) (by kernel_rfl)
instance : Und Try.prog 170 (.struct (Try.prog.fieldsOf 170)) := ⟨by kernel_rfl⟩
instance : Siz Try.prog 170 11 := ⟨by kernel_rfl⟩
instance : Agl Try.prog 170 := ⟨_, Und.out, rfl⟩
instance : Zer Try.prog 170 (.agg #[.int .u64 (0), .int .u64 (0), .int .u32 (0), .int .u8 (0), .int .u8 (0), .int .u8 (0), .int .u8 (0), .nilFunc, .pointer none, .int .i32 (0), .int .i32 (0)]) [.int .u64 (0), .int .u64 (0), .int .u32 (0), .int .u8 (0), .int .u8 (0), .int .u8 (0), .int .u8 (0), .nilFunc, .pointer none, .int .i32 (0), .int .i32 (0)] := ⟨by kernel_rfl, rfl⟩
instance : Row Try.prog 170 11 48 := Row.of (n := 10) (by kernel_rfl)
instance : Fld Try.prog 170 0 0 := Fld.of (n := 0) (by kernel_rfl)
instance : Fld Try.prog 170 1 1 := Fld.of (n := 0) (by kernel_rfl)
instance : Fld Try.prog 170 2 2 := Fld.of (n := 0) (by kernel_rfl)
instance : Fld Try.prog 170 3 3 := Fld.of (n := 0) (by kernel_rfl)
instance : Fld Try.prog 170 4 4 := Fld.of (n := 0) (by kernel_rfl)
instance : Fld Try.prog 170 5 5 := Fld.of (n := 0) (by kernel_rfl)
instance : Fld Try.prog 170 6 6 := Fld.of (n := 0) (by kernel_rfl)
instance : Fld Try.prog 170 7 7 := Fld.of (n := 0) (by kernel_rfl)
instance : Fld Try.prog 170 8 8 := Fld.of (n := 0) (by kernel_rfl)
instance : Fld Try.prog 170 9 9 := Fld.of (n := 0) (by kernel_rfl)
instance : Fld Try.prog 170 10 10 := Fld.of (n := 0) (by kernel_rfl)
instance : Bld Try.prog 170 [(0, 1), (1, 1), (2, 1), (3, 1), (4, 1), (5, 1), (6, 1), (7, 1), (8, 1), (9, 1), (10, 1)] := Bld.of (fs := Try.prog.fieldsOf 170) (by kernel_rfl) (fun w => by kernel_rfl)
instance : Und Try.prog 171 (.struct (Try.prog.fieldsOf 171)) := ⟨by kernel_rfl⟩
instance : Siz Try.prog 171 11 := ⟨by kernel_rfl⟩
instance : Agl Try.prog 171 := ⟨_, Und.out, rfl⟩
instance : Zer Try.prog 171 (.agg #[.int .u64 (0), .int .u64 (0), .int .u32 (0), .int .u8 (0), .int .u8 (0), .int .u8 (0), .int .u8 (0), .nilFunc, .pointer none, .int .i32 (0), .int .i32 (0)]) [.int .u64 (0), .int .u64 (0), .int .u32 (0), .int .u8 (0), .int .u8 (0), .int .u8 (0), .int .u8 (0), .nilFunc, .pointer none, .int .i32 (0), .int .i32 (0)] := ⟨by kernel_rfl, rfl⟩
instance : Row Try.prog 171 11 48 := Row.of (n := 10) (by kernel_rfl)
instance : Fld Try.prog 171 0 0 := Fld.of (n := 0) (by kernel_rfl)
instance : Fld Try.prog 171 1 1 := Fld.of (n := 0) (by kernel_rfl)
instance : Fld Try.prog 171 2 2 := Fld.of (n := 0) (by kernel_rfl)
instance : Fld Try.prog 171 3 3 := Fld.of (n := 0) (by kernel_rfl)
instance : Fld Try.prog 171 4 4 := Fld.of (n := 0) (by kernel_rfl)
instance : Fld Try.prog 171 5 5 := Fld.of (n := 0) (by kernel_rfl)
instance : Fld Try.prog 171 6 6 := Fld.of (n := 0) (by kernel_rfl)
instance : Fld Try.prog 171 7 7 := Fld.of (n := 0) (by kernel_rfl)
instance : Fld Try.prog 171 8 8 := Fld.of (n := 0) (by kernel_rfl)
instance : Fld Try.prog 171 9 9 := Fld.of (n := 0) (by kernel_rfl)
instance : Fld Try.prog 171 10 10 := Fld.of (n := 0) (by kernel_rfl)
instance : Bld Try.prog 171 [(0, 1), (1, 1), (2, 1), (3, 1), (4, 1), (5, 1), (6, 1), (7, 1), (8, 1), (9, 1), (10, 1)] := Bld.of (fs := Try.prog.fieldsOf 171) (by kernel_rfl) (fun w => by kernel_rfl)
instance : Fun Try.prog 2 := ⟨_, Try.func2, by kernel_rfl, rfl⟩
instance : Fun Try.prog 3 := ⟨_, Try.func3, by kernel_rfl, rfl⟩
instance : Fun Try.prog 4 := ⟨_, Try.func4, by kernel_rfl, rfl⟩
instance : Fun Try.prog 5 := ⟨_, Try.func5, by kernel_rfl, rfl⟩
instance : Fun Try.prog 6 := ⟨_, Try.func6, by kernel_rfl, rfl⟩
instance : Fun Try.prog 7 := ⟨_, Try.func7, by kernel_rfl, rfl⟩
instance : Fun Try.prog 8 := ⟨_, Try.func8, by kernel_rfl, rfl⟩
instance : Fun Try.prog 9 := ⟨_, Try.func9, by kernel_rfl, rfl⟩
instance : Fun Try.prog 10 := ⟨_, Try.func10, by kernel_rfl, rfl⟩
instance : Fun Try.prog 11 := ⟨_, Try.func11, by kernel_rfl, rfl⟩
instance : Fun Try.prog 12 := ⟨_, Try.func12, by kernel_rfl, rfl⟩
instance : Fun Try.prog 13 := ⟨_, Try.func13, by kernel_rfl, rfl⟩
instance : Fun Try.prog 14 := ⟨_, Try.func14, by kernel_rfl, rfl⟩
instance : Fun Try.prog 15 := ⟨_, Try.func15, by kernel_rfl, rfl⟩
instance : Fun Try.prog 16 := ⟨_, Try.func16, by kernel_rfl, rfl⟩
instance : Fun Try.prog 17 := ⟨_, Try.func17, by kernel_rfl, rfl⟩
instance : Fun Try.prog 18 := ⟨_, Try.func18, by kernel_rfl, rfl⟩
instance : Fun Try.prog 19 := ⟨_, Try.func19, by kernel_rfl, rfl⟩
instance : Fun Try.prog 20 := ⟨_, Try.func20, by kernel_rfl, rfl⟩
instance : Fun Try.prog 21 := ⟨_, Try.func21, by kernel_rfl, rfl⟩
instance : Fun Try.prog 22 := ⟨_, Try.func22, by kernel_rfl, rfl⟩
instance : Fun Try.prog 23 := ⟨_, Try.func23, by kernel_rfl, rfl⟩
instance : Fun Try.prog 24 := ⟨_, Try.func24, by kernel_rfl, rfl⟩
instance : Fun Try.prog 25 := ⟨_, Try.func25, by kernel_rfl, rfl⟩
instance : Fun Try.prog 26 := ⟨_, Try.func26, by kernel_rfl, rfl⟩
instance : Fun Try.prog 27 := ⟨_, Try.func27, by kernel_rfl, rfl⟩
instance : Fun Try.prog 28 := ⟨_, Try.func28, by kernel_rfl, rfl⟩
instance : Fun Try.prog 29 := ⟨_, Try.func29, by kernel_rfl, rfl⟩
instance : Fun Try.prog 30 := ⟨_, Try.func30, by kernel_rfl, rfl⟩
instance : Fun Try.prog 31 := ⟨_, Try.func31, by kernel_rfl, rfl⟩
instance : Fun Try.prog 32 := ⟨_, Try.func32, by kernel_rfl, rfl⟩
instance : Fun Try.prog 33 := ⟨_, Try.func33, by kernel_rfl, rfl⟩
instance : Fun Try.prog 34 := ⟨_, Try.func34, by kernel_rfl, rfl⟩
instance : Fun Try.prog 35 := ⟨_, Try.func35, by kernel_rfl, rfl⟩
instance : Fun Try.prog 36 := ⟨_, Try.func36, by kernel_rfl, rfl⟩
instance : Fun Try.prog 37 := ⟨_, Try.func37, by kernel_rfl, rfl⟩
instance : Fun Try.prog 38 := ⟨_, Try.func38, by kernel_rfl, rfl⟩
instance : Fun Try.prog 39 := ⟨_, Try.func39, by kernel_rfl, rfl⟩
instance : Fun Try.prog 40 := ⟨_, Try.func40, by kernel_rfl, rfl⟩
instance : Fun Try.prog 41 := ⟨_, Try.func41, by kernel_rfl, rfl⟩
instance : Fun Try.prog 42 := ⟨_, Try.func42, by kernel_rfl, rfl⟩
instance : Fun Try.prog 43 := ⟨_, Try.func43, by kernel_rfl, rfl⟩
instance : Fun Try.prog 44 := ⟨_, Try.func44, by kernel_rfl, rfl⟩
instance : Fun Try.prog 45 := ⟨_, Try.func45, by kernel_rfl, rfl⟩
instance : Fun Try.prog 46 := ⟨_, Try.func46, by kernel_rfl, rfl⟩
instance : Fun Try.prog 47 := ⟨_, Try.func47, by kernel_rfl, rfl⟩
instance : Fun Try.prog 48 := ⟨_, Try.func48, by kernel_rfl, rfl⟩
instance : Fun Try.prog 49 := ⟨_, Try.func49, by kernel_rfl, rfl⟩
instance : Fun Try.prog 50 := ⟨_, Try.func50, by kernel_rfl, rfl⟩
instance : Fun Try.prog 51 := ⟨_, Try.func51, by kernel_rfl, rfl⟩
instance : Fun Try.prog 52 := ⟨_, Try.func52, by kernel_rfl, rfl⟩
instance : Fun Try.prog 53 := ⟨_, Try.func53, by kernel_rfl, rfl⟩
instance : Fun Try.prog 54 := ⟨_, Try.func54, by kernel_rfl, rfl⟩
instance : Fun Try.prog 55 := ⟨_, Try.func55, by kernel_rfl, rfl⟩
instance : Fun Try.prog 56 := ⟨_, Try.func56, by kernel_rfl, rfl⟩
instance : Fun Try.prog 57 := ⟨_, Try.func57, by kernel_rfl, rfl⟩
instance : Fun Try.prog 58 := ⟨_, Try.func58, by kernel_rfl, rfl⟩
instance : Fun Try.prog 59 := ⟨_, Try.func59, by kernel_rfl, rfl⟩
instance : Fun Try.prog 60 := ⟨_, Try.func60, by kernel_rfl, rfl⟩
instance : Fun Try.prog 61 := ⟨_, Try.func61, by kernel_rfl, rfl⟩
instance : Fun Try.prog 62 := ⟨_, Try.func62, by kernel_rfl, rfl⟩
instance : Fun Try.prog 63 := ⟨_, Try.func63, by kernel_rfl, rfl⟩
instance : Fun Try.prog 64 := ⟨_, Try.func64, by kernel_rfl, rfl⟩
instance : Fun Try.prog 65 := ⟨_, Try.func65, by kernel_rfl, rfl⟩
instance : Fun Try.prog 66 := ⟨_, Try.func66, by kernel_rfl, rfl⟩
instance : Fun Try.prog 67 := ⟨_, Try.func67, by kernel_rfl, rfl⟩
instance : Fun Try.prog 68 := ⟨_, Try.func68, by kernel_rfl, rfl⟩
instance : Fun Try.prog 69 := ⟨_, Try.func69, by kernel_rfl, rfl⟩
instance : Fun Try.prog 70 := ⟨_, Try.func70, by kernel_rfl, rfl⟩
instance : Fun Try.prog 71 := ⟨_, Try.func71, by kernel_rfl, rfl⟩
instance : Fun Try.prog 72 := ⟨_, Try.func72, by kernel_rfl, rfl⟩
instance : Fun Try.prog 73 := ⟨_, Try.func73, by kernel_rfl, rfl⟩
instance : Fun Try.prog 74 := ⟨_, Try.func74, by kernel_rfl, rfl⟩
instance : Fun Try.prog 75 := ⟨_, Try.func75, by kernel_rfl, rfl⟩
instance : Fun Try.prog 76 := ⟨_, Try.func76, by kernel_rfl, rfl⟩
instance : Fun Try.prog 77 := ⟨_, Try.func77, by kernel_rfl, rfl⟩
instance : Fun Try.prog 78 := ⟨_, Try.func78, by kernel_rfl, rfl⟩
instance : Fun Try.prog 79 := ⟨_, Try.func79, by kernel_rfl, rfl⟩
instance : Fun Try.prog 80 := ⟨_, Try.func80, by kernel_rfl, rfl⟩
instance : Fun Try.prog 81 := ⟨_, Try.func81, by kernel_rfl, rfl⟩
instance : Fun Try.prog 82 := ⟨_, Try.func82, by kernel_rfl, rfl⟩
instance : Fun Try.prog 84 := ⟨_, Try.func84, by kernel_rfl, rfl⟩
instance : Fun Try.prog 85 := ⟨_, Try.func85, by kernel_rfl, rfl⟩
instance : Fun Try.prog 86 := ⟨_, Try.func86, by kernel_rfl, rfl⟩
instance : Fun Try.prog 87 := ⟨_, Try.func87, by kernel_rfl, rfl⟩
instance : Fun Try.prog 88 := ⟨_, Try.func88, by kernel_rfl, rfl⟩
instance : Fun Try.prog 89 := ⟨_, Try.func89, by kernel_rfl, rfl⟩
instance : Fun Try.prog 90 := ⟨_, Try.func90, by kernel_rfl, rfl⟩
instance : Fun Try.prog 91 := ⟨_, Try.func91, by kernel_rfl, rfl⟩
instance : Fun Try.prog 92 := ⟨_, Try.func92, by kernel_rfl, rfl⟩
instance : Fun Try.prog 93 := ⟨_, Try.func93, by kernel_rfl, rfl⟩
instance : Fun Try.prog 94 := ⟨_, Try.func94, by kernel_rfl, rfl⟩
instance : Fun Try.prog 95 := ⟨_, Try.func95, by kernel_rfl, rfl⟩
instance : Fun Try.prog 96 := ⟨_, Try.func96, by kernel_rfl, rfl⟩
instance : Fun Try.prog 97 := ⟨_, Try.func97, by kernel_rfl, rfl⟩
instance : Fun Try.prog 98 := ⟨_, Try.func98, by kernel_rfl, rfl⟩
instance : Fun Try.prog 99 := ⟨_, Try.func99, by kernel_rfl, rfl⟩
instance : Fun Try.prog 100 := ⟨_, Try.func100, by kernel_rfl, rfl⟩
instance : Fun Try.prog 102 := ⟨_, Try.func102, by kernel_rfl, rfl⟩
instance : Fun Try.prog 103 := ⟨_, Try.func103, by kernel_rfl, rfl⟩
instance : Fun Try.prog 104 := ⟨_, Try.func104, by kernel_rfl, rfl⟩
instance : Fun Try.prog 105 := ⟨_, Try.func105, by kernel_rfl, rfl⟩
instance : Fun Try.prog 106 := ⟨_, Try.func106, by kernel_rfl, rfl⟩
instance : Fun Try.prog 107 := ⟨_, Try.func107, by kernel_rfl, rfl⟩
instance : Fun Try.prog 108 := ⟨_, Try.func108, by kernel_rfl, rfl⟩
instance : Fun Try.prog 109 := ⟨_, Try.func109, by kernel_rfl, rfl⟩
instance : Fun Try.prog 110 := ⟨_, Try.func110, by kernel_rfl, rfl⟩
instance : Fun Try.prog 112 := ⟨_, Try.func112, by kernel_rfl, rfl⟩
instance : Fun Try.prog 114 := ⟨_, Try.func114, by kernel_rfl, rfl⟩
instance : Fun Try.prog 115 := ⟨_, Try.func115, by kernel_rfl, rfl⟩
end Go.Proofs.Ytbcbldjnbibigaa
