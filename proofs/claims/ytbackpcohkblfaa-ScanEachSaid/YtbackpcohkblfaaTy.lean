/- What the program's types and functions are, told to the separation logic's rules. Each by the kernel. -/
import Derived.Test.YtbackpcohkblfaaProg
import Derived.Test.YtbackpcohkblfaaSepX
import Derived.KernelRfl
set_option maxRecDepth 100000
namespace Go.Proofs.Ytbackpcohkblfaa
open Go.Proofs.Ytbackpcohkblfaa.SL
instance : Und Try.prog 0 (.tuple #[]) := ⟨by kernel_rfl⟩
instance : Siz Try.prog 0 1 := ⟨by kernel_rfl⟩
instance : Sgl Try.prog 0 := ⟨_, Und.out, rfl⟩
instance : Und Try.prog 1 (.func #[] #[] false) := ⟨by kernel_rfl⟩
instance : Siz Try.prog 1 1 := ⟨by kernel_rfl⟩
instance : Sgl Try.prog 1 := ⟨_, Und.out, rfl⟩
instance : Zer Try.prog 1 (.nilFunc) [.nilFunc] := ⟨by kernel_rfl, rfl⟩
instance : Row Try.prog 1 1 8 := Row.of (n := 0) (by kernel_rfl)
instance : Und Try.prog 2 (.int .i64) := ⟨by kernel_rfl⟩
instance : Siz Try.prog 2 1 := ⟨by kernel_rfl⟩
instance : Sgl Try.prog 2 := ⟨_, Und.out, rfl⟩
instance : Zer Try.prog 2 (.int .i64 (0)) [.int .i64 (0)] := ⟨by kernel_rfl, rfl⟩
instance : Row Try.prog 2 1 8 := Row.of (n := 0) (by kernel_rfl)
instance : Und Try.prog 3 (.int .i64) := ⟨by kernel_rfl⟩
instance : Siz Try.prog 3 1 := ⟨by kernel_rfl⟩
instance : Sgl Try.prog 3 := ⟨_, Und.out, rfl⟩
instance : Zer Try.prog 3 (.int .i64 (0)) [.int .i64 (0)] := ⟨by kernel_rfl, rfl⟩
instance : Row Try.prog 3 1 8 := Row.of (n := 0) (by kernel_rfl)
instance : Und Try.prog 4 (.bool) := ⟨by kernel_rfl⟩
instance : Siz Try.prog 4 1 := ⟨by kernel_rfl⟩
instance : Sgl Try.prog 4 := ⟨_, Und.out, rfl⟩
instance : Zer Try.prog 4 (.bool false) [.bool false] := ⟨by kernel_rfl, rfl⟩
instance : Row Try.prog 4 1 1 := Row.of (n := 0) (by kernel_rfl)
instance : Und Try.prog 5 (.int .u8) := ⟨by kernel_rfl⟩
instance : Siz Try.prog 5 1 := ⟨by kernel_rfl⟩
instance : Sgl Try.prog 5 := ⟨_, Und.out, rfl⟩
instance : Zer Try.prog 5 (.int .u8 (0)) [.int .u8 (0)] := ⟨by kernel_rfl, rfl⟩
instance : Row Try.prog 5 1 1 := Row.of (n := 0) (by kernel_rfl)
instance : Und Try.prog 6 (.int .u8) := ⟨by kernel_rfl⟩
instance : Siz Try.prog 6 1 := ⟨by kernel_rfl⟩
instance : Sgl Try.prog 6 := ⟨_, Und.out, rfl⟩
instance : Zer Try.prog 6 (.int .u8 (0)) [.int .u8 (0)] := ⟨by kernel_rfl, rfl⟩
instance : Row Try.prog 6 1 1 := Row.of (n := 0) (by kernel_rfl)
instance : Und Try.prog 7 (.struct (Try.prog.fieldsOf 7)) := ⟨by kernel_rfl⟩
instance : Siz Try.prog 7 4 := ⟨by kernel_rfl⟩
instance : Agl Try.prog 7 := ⟨_, Und.out, rfl⟩
instance : Zer Try.prog 7 (.agg #[.int .i64 (0), .int .i64 (0), .bool false, .int .u8 (0)]) [.int .i64 (0), .int .i64 (0), .bool false, .int .u8 (0)] := ⟨by kernel_rfl, rfl⟩
instance : Row Try.prog 7 4 24 := Row.of (n := 3) (by kernel_rfl)
instance : EqT Try.prog 7 [.int .i64, .int .i64, .bool, .int .u8] := EqT.of (fs := Try.prog.fieldsOf 7) (by kernel_rfl) (by kernel_rfl) (by kernel_rfl)
instance : Fld Try.prog 7 0 0 := Fld.of (n := 0) (by kernel_rfl)
instance : Fld Try.prog 7 1 1 := Fld.of (n := 0) (by kernel_rfl)
instance : Fld Try.prog 7 2 2 := Fld.of (n := 0) (by kernel_rfl)
instance : Fld Try.prog 7 3 3 := Fld.of (n := 0) (by kernel_rfl)
instance : Bld Try.prog 7 [(0, 1), (1, 1), (2, 1), (3, 1)] := Bld.of (fs := Try.prog.fieldsOf 7) (by kernel_rfl) (fun w => by kernel_rfl)
instance : Und Try.prog 8 (.struct (Try.prog.fieldsOf 8)) := ⟨by kernel_rfl⟩
instance : Siz Try.prog 8 4 := ⟨by kernel_rfl⟩
instance : Agl Try.prog 8 := ⟨_, Und.out, rfl⟩
instance : Zer Try.prog 8 (.agg #[.int .i64 (0), .int .i64 (0), .bool false, .int .u8 (0)]) [.int .i64 (0), .int .i64 (0), .bool false, .int .u8 (0)] := ⟨by kernel_rfl, rfl⟩
instance : Row Try.prog 8 4 24 := Row.of (n := 3) (by kernel_rfl)
instance : EqT Try.prog 8 [.int .i64, .int .i64, .bool, .int .u8] := EqT.of (fs := Try.prog.fieldsOf 8) (by kernel_rfl) (by kernel_rfl) (by kernel_rfl)
instance : Fld Try.prog 8 0 0 := Fld.of (n := 0) (by kernel_rfl)
instance : Fld Try.prog 8 1 1 := Fld.of (n := 0) (by kernel_rfl)
instance : Fld Try.prog 8 2 2 := Fld.of (n := 0) (by kernel_rfl)
instance : Fld Try.prog 8 3 3 := Fld.of (n := 0) (by kernel_rfl)
instance : Bld Try.prog 8 [(0, 1), (1, 1), (2, 1), (3, 1)] := Bld.of (fs := Try.prog.fieldsOf 8) (by kernel_rfl) (fun w => by kernel_rfl)
instance : Und Try.prog 9 (.string) := ⟨by kernel_rfl⟩
instance : Siz Try.prog 9 1 := ⟨by kernel_rfl⟩
instance : Sgl Try.prog 9 := ⟨_, Und.out, rfl⟩
instance : Zer Try.prog 9 (.string ⟨#[]⟩) [.string ⟨#[]⟩] := ⟨by kernel_rfl, rfl⟩
instance : Row Try.prog 9 1 16 := Row.of (n := 0) (by kernel_rfl)
instance : Und Try.prog 10 (.string) := ⟨by kernel_rfl⟩
instance : Siz Try.prog 10 1 := ⟨by kernel_rfl⟩
instance : Sgl Try.prog 10 := ⟨_, Und.out, rfl⟩
instance : Zer Try.prog 10 (.string ⟨#[]⟩) [.string ⟨#[]⟩] := ⟨by kernel_rfl, rfl⟩
instance : Row Try.prog 10 1 16 := Row.of (n := 0) (by kernel_rfl)
instance : Und Try.prog 11 (.string) := ⟨by kernel_rfl⟩
instance : Siz Try.prog 11 1 := ⟨by kernel_rfl⟩
instance : Sgl Try.prog 11 := ⟨_, Und.out, rfl⟩
instance : Zer Try.prog 11 (.string ⟨#[]⟩) [.string ⟨#[]⟩] := ⟨by kernel_rfl, rfl⟩
instance : Row Try.prog 11 1 16 := Row.of (n := 0) (by kernel_rfl)
instance : Und Try.prog 12 (.int .u64) := ⟨by kernel_rfl⟩
instance : Siz Try.prog 12 1 := ⟨by kernel_rfl⟩
instance : Sgl Try.prog 12 := ⟨_, Und.out, rfl⟩
instance : Zer Try.prog 12 (.int .u64 (0)) [.int .u64 (0)] := ⟨by kernel_rfl, rfl⟩
instance : Row Try.prog 12 1 8 := Row.of (n := 0) (by kernel_rfl)
instance : Und Try.prog 13 (.struct (Try.prog.fieldsOf 13)) := ⟨by kernel_rfl⟩
instance : Siz Try.prog 13 2 := ⟨by kernel_rfl⟩
instance : Agl Try.prog 13 := ⟨_, Und.out, rfl⟩
instance : Zer Try.prog 13 (.agg #[.string ⟨#[]⟩, .int .u64 (0)]) [.string ⟨#[]⟩, .int .u64 (0)] := ⟨by kernel_rfl, rfl⟩
instance : Row Try.prog 13 2 24 := Row.of (n := 1) (by kernel_rfl)
instance : Fld Try.prog 13 0 0 := Fld.of (n := 0) (by kernel_rfl)
instance : Fld Try.prog 13 1 1 := Fld.of (n := 0) (by kernel_rfl)
instance : Bld Try.prog 13 [(0, 1), (1, 1)] := Bld.of (fs := Try.prog.fieldsOf 13) (by kernel_rfl) (fun w => by kernel_rfl)
instance : Und Try.prog 14 (.struct (Try.prog.fieldsOf 14)) := ⟨by kernel_rfl⟩
instance : Siz Try.prog 14 2 := ⟨by kernel_rfl⟩
instance : Agl Try.prog 14 := ⟨_, Und.out, rfl⟩
instance : Zer Try.prog 14 (.agg #[.string ⟨#[]⟩, .int .u64 (0)]) [.string ⟨#[]⟩, .int .u64 (0)] := ⟨by kernel_rfl, rfl⟩
instance : Row Try.prog 14 2 24 := Row.of (n := 1) (by kernel_rfl)
instance : Fld Try.prog 14 0 0 := Fld.of (n := 0) (by kernel_rfl)
instance : Fld Try.prog 14 1 1 := Fld.of (n := 0) (by kernel_rfl)
instance : Bld Try.prog 14 [(0, 1), (1, 1)] := Bld.of (fs := Try.prog.fieldsOf 14) (by kernel_rfl) (fun w => by kernel_rfl)
instance : Und Try.prog 15 (.pointer 80) := ⟨by kernel_rfl⟩
instance : Siz Try.prog 15 1 := ⟨by kernel_rfl⟩
instance : Sgl Try.prog 15 := ⟨_, Und.out, rfl⟩
instance : Zer Try.prog 15 (.pointer none) [.pointer none] := ⟨by kernel_rfl, rfl⟩
instance : Row Try.prog 15 1 8 := Row.of (n := 0) (by kernel_rfl)
instance : Und Try.prog 16 (.pointer 83) := ⟨by kernel_rfl⟩
instance : Siz Try.prog 16 1 := ⟨by kernel_rfl⟩
instance : Sgl Try.prog 16 := ⟨_, Und.out, rfl⟩
instance : Zer Try.prog 16 (.pointer none) [.pointer none] := ⟨by kernel_rfl, rfl⟩
instance : Row Try.prog 16 1 8 := Row.of (n := 0) (by kernel_rfl)
instance : Und Try.prog 17 (.pointer 92) := ⟨by kernel_rfl⟩
instance : Siz Try.prog 17 1 := ⟨by kernel_rfl⟩
instance : Sgl Try.prog 17 := ⟨_, Und.out, rfl⟩
instance : Zer Try.prog 17 (.pointer none) [.pointer none] := ⟨by kernel_rfl, rfl⟩
instance : Row Try.prog 17 1 8 := Row.of (n := 0) (by kernel_rfl)
instance : Und Try.prog 18 (.struct (Try.prog.fieldsOf 18)) := ⟨by kernel_rfl⟩
instance : Siz Try.prog 18 1 := ⟨by kernel_rfl⟩
instance : Agl Try.prog 18 := ⟨_, Und.out, rfl⟩
instance : Zer Try.prog 18 (.agg #[.pointer none]) [.pointer none] := ⟨by kernel_rfl, rfl⟩
instance : Row Try.prog 18 1 8 := Row.of (n := 0) (by kernel_rfl)
instance : Fld Try.prog 18 0 0 := Fld.of (n := 0) (by kernel_rfl)
instance : Bld Try.prog 18 [(0, 1)] := Bld.of (fs := Try.prog.fieldsOf 18) (by kernel_rfl) (fun w => by kernel_rfl)
instance : Und Try.prog 19 (.struct (Try.prog.fieldsOf 19)) := ⟨by kernel_rfl⟩
instance : Siz Try.prog 19 1 := ⟨by kernel_rfl⟩
instance : Agl Try.prog 19 := ⟨_, Und.out, rfl⟩
instance : Zer Try.prog 19 (.agg #[.pointer none]) [.pointer none] := ⟨by kernel_rfl, rfl⟩
instance : Row Try.prog 19 1 8 := Row.of (n := 0) (by kernel_rfl)
instance : Fld Try.prog 19 0 0 := Fld.of (n := 0) (by kernel_rfl)
instance : Bld Try.prog 19 [(0, 1)] := Bld.of (fs := Try.prog.fieldsOf 19) (by kernel_rfl) (fun w => by kernel_rfl)
instance : Und Try.prog 20 (.interface #[]) := ⟨by kernel_rfl⟩
instance : Siz Try.prog 20 1 := ⟨by kernel_rfl⟩
instance : Sgl Try.prog 20 := ⟨_, Und.out, rfl⟩
instance : Zer Try.prog 20 (.nilIface) [.nilIface] := ⟨by kernel_rfl, rfl⟩
instance : Row Try.prog 20 1 16 := Row.of (n := 0) (by kernel_rfl)
instance : Und Try.prog 21 (.int .i32) := ⟨by kernel_rfl⟩
instance : Siz Try.prog 21 1 := ⟨by kernel_rfl⟩
instance : Sgl Try.prog 21 := ⟨_, Und.out, rfl⟩
instance : Zer Try.prog 21 (.int .i32 (0)) [.int .i32 (0)] := ⟨by kernel_rfl, rfl⟩
instance : Row Try.prog 21 1 4 := Row.of (n := 0) (by kernel_rfl)
instance : Und Try.prog 22 (.func #[] #[4] false) := ⟨by kernel_rfl⟩
instance : Siz Try.prog 22 1 := ⟨by kernel_rfl⟩
instance : Sgl Try.prog 22 := ⟨_, Und.out, rfl⟩
instance : Zer Try.prog 22 (.nilFunc) [.nilFunc] := ⟨by kernel_rfl, rfl⟩
instance : Row Try.prog 22 1 8 := Row.of (n := 0) (by kernel_rfl)
instance : Und Try.prog 23 (.slice 28) := ⟨by kernel_rfl⟩
instance : Siz Try.prog 23 1 := ⟨by kernel_rfl⟩
instance : Sgl Try.prog 23 := ⟨_, Und.out, rfl⟩
instance : Zer Try.prog 23 (.slice none 0 0) [.slice none 0 0] := ⟨by kernel_rfl, rfl⟩
instance : Row Try.prog 23 1 24 := Row.of (n := 0) (by kernel_rfl)
instance : Und Try.prog 24 (.int .i64) := ⟨by kernel_rfl⟩
instance : Siz Try.prog 24 1 := ⟨by kernel_rfl⟩
instance : Sgl Try.prog 24 := ⟨_, Und.out, rfl⟩
instance : Zer Try.prog 24 (.int .i64 (0)) [.int .i64 (0)] := ⟨by kernel_rfl, rfl⟩
instance : Row Try.prog 24 1 8 := Row.of (n := 0) (by kernel_rfl)
instance : Und Try.prog 25 (.tuple #[23, 3, 24]) := ⟨by kernel_rfl⟩
instance : Siz Try.prog 25 1 := ⟨by kernel_rfl⟩
instance : Sgl Try.prog 25 := ⟨_, Und.out, rfl⟩
instance : Und Try.prog 26 (.func #[9] #[23, 3, 24] false) := ⟨by kernel_rfl⟩
instance : Siz Try.prog 26 1 := ⟨by kernel_rfl⟩
instance : Sgl Try.prog 26 := ⟨_, Und.out, rfl⟩
instance : Zer Try.prog 26 (.nilFunc) [.nilFunc] := ⟨by kernel_rfl, rfl⟩
instance : Row Try.prog 26 1 8 := Row.of (n := 0) (by kernel_rfl)
instance : Und Try.prog 27 (.struct (Try.prog.fieldsOf 27)) := ⟨by kernel_rfl⟩
instance : Siz Try.prog 27 3 := ⟨by kernel_rfl⟩
instance : Agl Try.prog 27 := ⟨_, Und.out, rfl⟩
instance : Zer Try.prog 27 (.agg #[.int .i64 (0), .string ⟨#[]⟩, .int .i64 (0)]) [.int .i64 (0), .string ⟨#[]⟩, .int .i64 (0)] := ⟨by kernel_rfl, rfl⟩
instance : Row Try.prog 27 3 32 := Row.of (n := 2) (by kernel_rfl)
instance : EqT Try.prog 27 [.int .i64, .str, .int .i64] := EqT.of (fs := Try.prog.fieldsOf 27) (by kernel_rfl) (by kernel_rfl) (by kernel_rfl)
instance : Fld Try.prog 27 0 0 := Fld.of (n := 0) (by kernel_rfl)
instance : Fld Try.prog 27 1 1 := Fld.of (n := 0) (by kernel_rfl)
instance : Fld Try.prog 27 2 2 := Fld.of (n := 0) (by kernel_rfl)
instance : Bld Try.prog 27 [(0, 1), (1, 1), (2, 1)] := Bld.of (fs := Try.prog.fieldsOf 27) (by kernel_rfl) (fun w => by kernel_rfl)
instance : Und Try.prog 28 (.struct (Try.prog.fieldsOf 28)) := ⟨by kernel_rfl⟩
instance : Siz Try.prog 28 3 := ⟨by kernel_rfl⟩
instance : Agl Try.prog 28 := ⟨_, Und.out, rfl⟩
instance : Zer Try.prog 28 (.agg #[.int .i64 (0), .string ⟨#[]⟩, .int .i64 (0)]) [.int .i64 (0), .string ⟨#[]⟩, .int .i64 (0)] := ⟨by kernel_rfl, rfl⟩
instance : Row Try.prog 28 3 32 := Row.of (n := 2) (by kernel_rfl)
instance : EqT Try.prog 28 [.int .i64, .str, .int .i64] := EqT.of (fs := Try.prog.fieldsOf 28) (by kernel_rfl) (by kernel_rfl) (by kernel_rfl)
instance : Fld Try.prog 28 0 0 := Fld.of (n := 0) (by kernel_rfl)
instance : Fld Try.prog 28 1 1 := Fld.of (n := 0) (by kernel_rfl)
instance : Fld Try.prog 28 2 2 := Fld.of (n := 0) (by kernel_rfl)
instance : Bld Try.prog 28 [(0, 1), (1, 1), (2, 1)] := Bld.of (fs := Try.prog.fieldsOf 28) (by kernel_rfl) (fun w => by kernel_rfl)
instance : Und Try.prog 29 (.func #[23, 23] #[4] false) := ⟨by kernel_rfl⟩
instance : Siz Try.prog 29 1 := ⟨by kernel_rfl⟩
instance : Sgl Try.prog 29 := ⟨_, Und.out, rfl⟩
instance : Zer Try.prog 29 (.nilFunc) [.nilFunc] := ⟨by kernel_rfl, rfl⟩
instance : Row Try.prog 29 1 8 := Row.of (n := 0) (by kernel_rfl)
instance : Und Try.prog 30 (.func #[9, 9] #[4] false) := ⟨by kernel_rfl⟩
instance : Siz Try.prog 30 1 := ⟨by kernel_rfl⟩
instance : Sgl Try.prog 30 := ⟨_, Und.out, rfl⟩
instance : Zer Try.prog 30 (.nilFunc) [.nilFunc] := ⟨by kernel_rfl, rfl⟩
instance : Row Try.prog 30 1 8 := Row.of (n := 0) (by kernel_rfl)
instance : Und Try.prog 31 (.func #[3, 3] #[3] false) := ⟨by kernel_rfl⟩
instance : Siz Try.prog 31 1 := ⟨by kernel_rfl⟩
instance : Sgl Try.prog 31 := ⟨_, Und.out, rfl⟩
instance : Zer Try.prog 31 (.nilFunc) [.nilFunc] := ⟨by kernel_rfl, rfl⟩
instance : Row Try.prog 31 1 8 := Row.of (n := 0) (by kernel_rfl)
instance : Und Try.prog 32 (.int .u64) := ⟨by kernel_rfl⟩
instance : Siz Try.prog 32 1 := ⟨by kernel_rfl⟩
instance : Sgl Try.prog 32 := ⟨_, Und.out, rfl⟩
instance : Zer Try.prog 32 (.int .u64 (0)) [.int .u64 (0)] := ⟨by kernel_rfl, rfl⟩
instance : Row Try.prog 32 1 8 := Row.of (n := 0) (by kernel_rfl)
instance : Und Try.prog 33 (.tuple #[32, 4]) := ⟨by kernel_rfl⟩
instance : Siz Try.prog 33 1 := ⟨by kernel_rfl⟩
instance : Sgl Try.prog 33 := ⟨_, Und.out, rfl⟩
instance : Und Try.prog 34 (.func #[9] #[32, 4] false) := ⟨by kernel_rfl⟩
instance : Siz Try.prog 34 1 := ⟨by kernel_rfl⟩
instance : Sgl Try.prog 34 := ⟨_, Und.out, rfl⟩
instance : Zer Try.prog 34 (.nilFunc) [.nilFunc] := ⟨by kernel_rfl, rfl⟩
instance : Row Try.prog 34 1 8 := Row.of (n := 0) (by kernel_rfl)
instance : Und Try.prog 35 (.func #[21] #[4] false) := ⟨by kernel_rfl⟩
instance : Siz Try.prog 35 1 := ⟨by kernel_rfl⟩
instance : Sgl Try.prog 35 := ⟨_, Und.out, rfl⟩
instance : Zer Try.prog 35 (.nilFunc) [.nilFunc] := ⟨by kernel_rfl, rfl⟩
instance : Row Try.prog 35 1 8 := Row.of (n := 0) (by kernel_rfl)
instance : Und Try.prog 36 (.func #[9, 3, 3] #[4] false) := ⟨by kernel_rfl⟩
instance : Siz Try.prog 36 1 := ⟨by kernel_rfl⟩
instance : Sgl Try.prog 36 := ⟨_, Und.out, rfl⟩
instance : Zer Try.prog 36 (.nilFunc) [.nilFunc] := ⟨by kernel_rfl, rfl⟩
instance : Row Try.prog 36 1 8 := Row.of (n := 0) (by kernel_rfl)
instance : Und Try.prog 37 (.tuple #[23, 4]) := ⟨by kernel_rfl⟩
instance : Siz Try.prog 37 1 := ⟨by kernel_rfl⟩
instance : Sgl Try.prog 37 := ⟨_, Und.out, rfl⟩
instance : Und Try.prog 38 (.func #[9] #[23, 4] false) := ⟨by kernel_rfl⟩
instance : Siz Try.prog 38 1 := ⟨by kernel_rfl⟩
instance : Sgl Try.prog 38 := ⟨_, Und.out, rfl⟩
instance : Zer Try.prog 38 (.nilFunc) [.nilFunc] := ⟨by kernel_rfl, rfl⟩
instance : Row Try.prog 38 1 8 := Row.of (n := 0) (by kernel_rfl)
instance : Und Try.prog 39 (.func #[48] #[] false) := ⟨by kernel_rfl⟩
instance : Siz Try.prog 39 1 := ⟨by kernel_rfl⟩
instance : Sgl Try.prog 39 := ⟨_, Und.out, rfl⟩
instance : Zer Try.prog 39 (.nilFunc) [.nilFunc] := ⟨by kernel_rfl, rfl⟩
instance : Row Try.prog 39 1 8 := Row.of (n := 0) (by kernel_rfl)
instance : Und Try.prog 40 (.func #[48] #[] false) := ⟨by kernel_rfl⟩
instance : Siz Try.prog 40 1 := ⟨by kernel_rfl⟩
instance : Sgl Try.prog 40 := ⟨_, Und.out, rfl⟩
instance : Zer Try.prog 40 (.nilFunc) [.nilFunc] := ⟨by kernel_rfl, rfl⟩
instance : Row Try.prog 40 1 8 := Row.of (n := 0) (by kernel_rfl)
instance : Und Try.prog 41 (.func #[9] #[40] false) := ⟨by kernel_rfl⟩
instance : Siz Try.prog 41 1 := ⟨by kernel_rfl⟩
instance : Sgl Try.prog 41 := ⟨_, Und.out, rfl⟩
instance : Zer Try.prog 41 (.nilFunc) [.nilFunc] := ⟨by kernel_rfl, rfl⟩
instance : Row Try.prog 41 1 8 := Row.of (n := 0) (by kernel_rfl)
instance : Und Try.prog 42 (.func #[9, 3] #[9] false) := ⟨by kernel_rfl⟩
instance : Siz Try.prog 42 1 := ⟨by kernel_rfl⟩
instance : Sgl Try.prog 42 := ⟨_, Und.out, rfl⟩
instance : Zer Try.prog 42 (.nilFunc) [.nilFunc] := ⟨by kernel_rfl, rfl⟩
instance : Row Try.prog 42 1 8 := Row.of (n := 0) (by kernel_rfl)
instance : Und Try.prog 43 (.func #[9, 3] #[4] false) := ⟨by kernel_rfl⟩
instance : Siz Try.prog 43 1 := ⟨by kernel_rfl⟩
instance : Sgl Try.prog 43 := ⟨_, Und.out, rfl⟩
instance : Zer Try.prog 43 (.nilFunc) [.nilFunc] := ⟨by kernel_rfl, rfl⟩
instance : Row Try.prog 43 1 8 := Row.of (n := 0) (by kernel_rfl)
instance : Und Try.prog 44 (.func #[23] #[9] false) := ⟨by kernel_rfl⟩
instance : Siz Try.prog 44 1 := ⟨by kernel_rfl⟩
instance : Sgl Try.prog 44 := ⟨_, Und.out, rfl⟩
instance : Zer Try.prog 44 (.nilFunc) [.nilFunc] := ⟨by kernel_rfl, rfl⟩
instance : Row Try.prog 44 1 8 := Row.of (n := 0) (by kernel_rfl)
instance : Und Try.prog 45 (.func #[9] #[4] false) := ⟨by kernel_rfl⟩
instance : Siz Try.prog 45 1 := ⟨by kernel_rfl⟩
instance : Sgl Try.prog 45 := ⟨_, Und.out, rfl⟩
instance : Zer Try.prog 45 (.nilFunc) [.nilFunc] := ⟨by kernel_rfl, rfl⟩
instance : Row Try.prog 45 1 8 := Row.of (n := 0) (by kernel_rfl)
instance : Und Try.prog 46 (.func #[9, 3, 24] #[4] false) := ⟨by kernel_rfl⟩
instance : Siz Try.prog 46 1 := ⟨by kernel_rfl⟩
instance : Sgl Try.prog 46 := ⟨_, Und.out, rfl⟩
instance : Zer Try.prog 46 (.nilFunc) [.nilFunc] := ⟨by kernel_rfl, rfl⟩
instance : Row Try.prog 46 1 8 := Row.of (n := 0) (by kernel_rfl)
instance : Und Try.prog 47 (.pointer 50) := ⟨by kernel_rfl⟩
instance : Siz Try.prog 47 1 := ⟨by kernel_rfl⟩
instance : Sgl Try.prog 47 := ⟨_, Und.out, rfl⟩
instance : Zer Try.prog 47 (.pointer none) [.pointer none] := ⟨by kernel_rfl, rfl⟩
instance : Row Try.prog 47 1 8 := Row.of (n := 0) (by kernel_rfl)
instance : Und Try.prog 48 (.func #[28] #[4] false) := ⟨by kernel_rfl⟩
instance : Siz Try.prog 48 1 := ⟨by kernel_rfl⟩
instance : Sgl Try.prog 48 := ⟨_, Und.out, rfl⟩
instance : Zer Try.prog 48 (.nilFunc) [.nilFunc] := ⟨by kernel_rfl, rfl⟩
instance : Row Try.prog 48 1 8 := Row.of (n := 0) (by kernel_rfl)
instance : Und Try.prog 49 (.struct (Try.prog.fieldsOf 49)) := ⟨by kernel_rfl⟩
instance : Siz Try.prog 49 7 := ⟨by kernel_rfl⟩
instance : Agl Try.prog 49 := ⟨_, Und.out, rfl⟩
instance : Zer Try.prog 49 (.agg #[.string ⟨#[]⟩, .nilFunc, .int .i64 (0), .int .i64 (0), .int .i64 (0), .int .i64 (0), .bool false]) [.string ⟨#[]⟩, .nilFunc, .int .i64 (0), .int .i64 (0), .int .i64 (0), .int .i64 (0), .bool false] := ⟨by kernel_rfl, rfl⟩
instance : Row Try.prog 49 7 64 := Row.of (n := 6) (by kernel_rfl)
instance : Fld Try.prog 49 0 0 := Fld.of (n := 0) (by kernel_rfl)
instance : Fld Try.prog 49 1 1 := Fld.of (n := 0) (by kernel_rfl)
instance : Fld Try.prog 49 2 2 := Fld.of (n := 0) (by kernel_rfl)
instance : Fld Try.prog 49 3 3 := Fld.of (n := 0) (by kernel_rfl)
instance : Fld Try.prog 49 4 4 := Fld.of (n := 0) (by kernel_rfl)
instance : Fld Try.prog 49 5 5 := Fld.of (n := 0) (by kernel_rfl)
instance : Fld Try.prog 49 6 6 := Fld.of (n := 0) (by kernel_rfl)
instance : Bld Try.prog 49 [(0, 1), (1, 1), (2, 1), (3, 1), (4, 1), (5, 1), (6, 1)] := Bld.of (fs := Try.prog.fieldsOf 49) (by kernel_rfl) (fun w => by kernel_rfl)
instance : Und Try.prog 50 (.struct (Try.prog.fieldsOf 50)) := ⟨by kernel_rfl⟩
instance : Siz Try.prog 50 7 := ⟨by kernel_rfl⟩
instance : Agl Try.prog 50 := ⟨_, Und.out, rfl⟩
instance : Zer Try.prog 50 (.agg #[.string ⟨#[]⟩, .nilFunc, .int .i64 (0), .int .i64 (0), .int .i64 (0), .int .i64 (0), .bool false]) [.string ⟨#[]⟩, .nilFunc, .int .i64 (0), .int .i64 (0), .int .i64 (0), .int .i64 (0), .bool false] := ⟨by kernel_rfl, rfl⟩
instance : Row Try.prog 50 7 64 := Row.of (n := 6) (by kernel_rfl)
instance : Fld Try.prog 50 0 0 := Fld.of (n := 0) (by kernel_rfl)
instance : Fld Try.prog 50 1 1 := Fld.of (n := 0) (by kernel_rfl)
instance : Fld Try.prog 50 2 2 := Fld.of (n := 0) (by kernel_rfl)
instance : Fld Try.prog 50 3 3 := Fld.of (n := 0) (by kernel_rfl)
instance : Fld Try.prog 50 4 4 := Fld.of (n := 0) (by kernel_rfl)
instance : Fld Try.prog 50 5 5 := Fld.of (n := 0) (by kernel_rfl)
instance : Fld Try.prog 50 6 6 := Fld.of (n := 0) (by kernel_rfl)
instance : Bld Try.prog 50 [(0, 1), (1, 1), (2, 1), (3, 1), (4, 1), (5, 1), (6, 1)] := Bld.of (fs := Try.prog.fieldsOf 50) (by kernel_rfl) (fun w => by kernel_rfl)
instance : Und Try.prog 51 (.pointer 54) := ⟨by kernel_rfl⟩
instance : Siz Try.prog 51 1 := ⟨by kernel_rfl⟩
instance : Sgl Try.prog 51 := ⟨_, Und.out, rfl⟩
instance : Zer Try.prog 51 (.pointer none) [.pointer none] := ⟨by kernel_rfl, rfl⟩
instance : Row Try.prog 51 1 8 := Row.of (n := 0) (by kernel_rfl)
instance : Und Try.prog 52 (.slice 5) := ⟨by kernel_rfl⟩
instance : Siz Try.prog 52 1 := ⟨by kernel_rfl⟩
instance : Sgl Try.prog 52 := ⟨_, Und.out, rfl⟩
instance : Zer Try.prog 52 (.slice none 0 0) [.slice none 0 0] := ⟨by kernel_rfl, rfl⟩
instance : Row Try.prog 52 1 24 := Row.of (n := 0) (by kernel_rfl)
instance : Und Try.prog 53 (.struct (Try.prog.fieldsOf 53)) := ⟨by kernel_rfl⟩
instance : Siz Try.prog 53 2 := ⟨by kernel_rfl⟩
instance : Agl Try.prog 53 := ⟨_, Und.out, rfl⟩
instance : Zer Try.prog 53 (.agg #[.pointer none, .slice none 0 0]) [.pointer none, .slice none 0 0] := ⟨by kernel_rfl, rfl⟩
instance : Row Try.prog 53 2 32 := Row.of (n := 1) (by kernel_rfl)
instance : Fld Try.prog 53 0 0 := Fld.of (n := 0) (by kernel_rfl)
instance : Fld Try.prog 53 1 1 := Fld.of (n := 0) (by kernel_rfl)
instance : Bld Try.prog 53 [(0, 1), (1, 1)] := Bld.of (fs := Try.prog.fieldsOf 53) (by kernel_rfl) (fun w => by kernel_rfl)
instance : Und Try.prog 54 (.struct (Try.prog.fieldsOf 54)) := ⟨by kernel_rfl⟩
instance : Siz Try.prog 54 2 := ⟨by kernel_rfl⟩
instance : Agl Try.prog 54 := ⟨_, Und.out, rfl⟩
instance : Zer Try.prog 54 (.agg #[.pointer none, .slice none 0 0]) [.pointer none, .slice none 0 0] := ⟨by kernel_rfl, rfl⟩
instance : Row Try.prog 54 2 32 := Row.of (n := 1) (by kernel_rfl)
instance : Fld Try.prog 54 0 0 := Fld.of (n := 0) (by kernel_rfl)
instance : Fld Try.prog 54 1 1 := Fld.of (n := 0) (by kernel_rfl)
instance : Bld Try.prog 54 [(0, 1), (1, 1)] := Bld.of (fs := Try.prog.fieldsOf 54) (by kernel_rfl) (fun w => by kernel_rfl)
instance : Und Try.prog 55 (.interface #[("Error", 60)]) := ⟨by kernel_rfl⟩
instance : Siz Try.prog 55 1 := ⟨by kernel_rfl⟩
instance : Sgl Try.prog 55 := ⟨_, Und.out, rfl⟩
instance : Zer Try.prog 55 (.nilIface) [.nilIface] := ⟨by kernel_rfl, rfl⟩
instance : Row Try.prog 55 1 16 := Row.of (n := 0) (by kernel_rfl)
instance : Und Try.prog 56 (.interface #[("Error", 60)]) := ⟨by kernel_rfl⟩
instance : Siz Try.prog 56 1 := ⟨by kernel_rfl⟩
instance : Sgl Try.prog 56 := ⟨_, Und.out, rfl⟩
instance : Zer Try.prog 56 (.nilIface) [.nilIface] := ⟨by kernel_rfl, rfl⟩
instance : Row Try.prog 56 1 16 := Row.of (n := 0) (by kernel_rfl)
instance : Und Try.prog 57 (.func #[5] #[56] false) := ⟨by kernel_rfl⟩
instance : Siz Try.prog 57 1 := ⟨by kernel_rfl⟩
instance : Sgl Try.prog 57 := ⟨_, Und.out, rfl⟩
instance : Zer Try.prog 57 (.nilFunc) [.nilFunc] := ⟨by kernel_rfl, rfl⟩
instance : Row Try.prog 57 1 8 := Row.of (n := 0) (by kernel_rfl)
instance : Und Try.prog 58 (.tuple #[3, 56]) := ⟨by kernel_rfl⟩
instance : Siz Try.prog 58 1 := ⟨by kernel_rfl⟩
instance : Sgl Try.prog 58 := ⟨_, Und.out, rfl⟩
instance : Und Try.prog 59 (.func #[9] #[3, 56] false) := ⟨by kernel_rfl⟩
instance : Siz Try.prog 59 1 := ⟨by kernel_rfl⟩
instance : Sgl Try.prog 59 := ⟨_, Und.out, rfl⟩
instance : Zer Try.prog 59 (.nilFunc) [.nilFunc] := ⟨by kernel_rfl, rfl⟩
instance : Row Try.prog 59 1 8 := Row.of (n := 0) (by kernel_rfl)
instance : Und Try.prog 60 (.func #[] #[9] false) := ⟨by kernel_rfl⟩
instance : Siz Try.prog 60 1 := ⟨by kernel_rfl⟩
instance : Sgl Try.prog 60 := ⟨_, Und.out, rfl⟩
instance : Zer Try.prog 60 (.nilFunc) [.nilFunc] := ⟨by kernel_rfl, rfl⟩
instance : Row Try.prog 60 1 8 := Row.of (n := 0) (by kernel_rfl)
instance : Und Try.prog 61 (.map 3 67) := ⟨by kernel_rfl⟩
instance : Siz Try.prog 61 1 := ⟨by kernel_rfl⟩
instance : Sgl Try.prog 61 := ⟨_, Und.out, rfl⟩
instance : Zer Try.prog 61 (.map none) [.map none] := ⟨by kernel_rfl, rfl⟩
instance : Row Try.prog 61 1 8 := Row.of (n := 0) (by kernel_rfl)
instance : Und Try.prog 62 (.func #[] #[61] false) := ⟨by kernel_rfl⟩
instance : Siz Try.prog 62 1 := ⟨by kernel_rfl⟩
instance : Sgl Try.prog 62 := ⟨_, Und.out, rfl⟩
instance : Zer Try.prog 62 (.nilFunc) [.nilFunc] := ⟨by kernel_rfl, rfl⟩
instance : Row Try.prog 62 1 8 := Row.of (n := 0) (by kernel_rfl)
instance : Und Try.prog 63 (.func #[21] #[3] false) := ⟨by kernel_rfl⟩
instance : Siz Try.prog 63 1 := ⟨by kernel_rfl⟩
instance : Sgl Try.prog 63 := ⟨_, Und.out, rfl⟩
instance : Zer Try.prog 63 (.nilFunc) [.nilFunc] := ⟨by kernel_rfl, rfl⟩
instance : Row Try.prog 63 1 8 := Row.of (n := 0) (by kernel_rfl)
instance : Und Try.prog 64 (.func #[3, 4] #[4] false) := ⟨by kernel_rfl⟩
instance : Siz Try.prog 64 1 := ⟨by kernel_rfl⟩
instance : Sgl Try.prog 64 := ⟨_, Und.out, rfl⟩
instance : Zer Try.prog 64 (.nilFunc) [.nilFunc] := ⟨by kernel_rfl, rfl⟩
instance : Row Try.prog 64 1 8 := Row.of (n := 0) (by kernel_rfl)
instance : Und Try.prog 65 (.func #[3, 24] #[4] false) := ⟨by kernel_rfl⟩
instance : Siz Try.prog 65 1 := ⟨by kernel_rfl⟩
instance : Sgl Try.prog 65 := ⟨_, Und.out, rfl⟩
instance : Zer Try.prog 65 (.nilFunc) [.nilFunc] := ⟨by kernel_rfl, rfl⟩
instance : Row Try.prog 65 1 8 := Row.of (n := 0) (by kernel_rfl)
instance : Und Try.prog 66 (.func #[21, 3] #[4] false) := ⟨by kernel_rfl⟩
instance : Siz Try.prog 66 1 := ⟨by kernel_rfl⟩
instance : Sgl Try.prog 66 := ⟨_, Und.out, rfl⟩
instance : Zer Try.prog 66 (.nilFunc) [.nilFunc] := ⟨by kernel_rfl, rfl⟩
instance : Row Try.prog 66 1 8 := Row.of (n := 0) (by kernel_rfl)
instance : Und Try.prog 67 (.func #[47, 3] #[4] false) := ⟨by kernel_rfl⟩
instance : Siz Try.prog 67 1 := ⟨by kernel_rfl⟩
instance : Sgl Try.prog 67 := ⟨_, Und.out, rfl⟩
instance : Zer Try.prog 67 (.nilFunc) [.nilFunc] := ⟨by kernel_rfl, rfl⟩
instance : Row Try.prog 67 1 8 := Row.of (n := 0) (by kernel_rfl)
instance : Und Try.prog 68 (.tuple #[67, 4]) := ⟨by kernel_rfl⟩
instance : Siz Try.prog 68 1 := ⟨by kernel_rfl⟩
instance : Sgl Try.prog 68 := ⟨_, Und.out, rfl⟩
instance : Und Try.prog 69 (.pointer 5) := ⟨by kernel_rfl⟩
instance : Siz Try.prog 69 1 := ⟨by kernel_rfl⟩
instance : Sgl Try.prog 69 := ⟨_, Und.out, rfl⟩
instance : Zer Try.prog 69 (.pointer none) [.pointer none] := ⟨by kernel_rfl, rfl⟩
instance : Row Try.prog 69 1 8 := Row.of (n := 0) (by kernel_rfl)
instance : Und Try.prog 70 (.func #[3, 3] #[4] false) := ⟨by kernel_rfl⟩
instance : Siz Try.prog 70 1 := ⟨by kernel_rfl⟩
instance : Sgl Try.prog 70 := ⟨_, Und.out, rfl⟩
instance : Zer Try.prog 70 (.nilFunc) [.nilFunc] := ⟨by kernel_rfl, rfl⟩
instance : Row Try.prog 70 1 8 := Row.of (n := 0) (by kernel_rfl)
instance : Und Try.prog 71 (.func #[9, 21] #[4] false) := ⟨by kernel_rfl⟩
instance : Siz Try.prog 71 1 := ⟨by kernel_rfl⟩
instance : Sgl Try.prog 71 := ⟨_, Und.out, rfl⟩
instance : Zer Try.prog 71 (.nilFunc) [.nilFunc] := ⟨by kernel_rfl, rfl⟩
instance : Row Try.prog 71 1 8 := Row.of (n := 0) (by kernel_rfl)
instance : Und Try.prog 73 (.func #[72] #[72] false) := ⟨by kernel_rfl⟩
instance : Siz Try.prog 73 1 := ⟨by kernel_rfl⟩
instance : Sgl Try.prog 73 := ⟨_, Und.out, rfl⟩
instance : Zer Try.prog 73 (.nilFunc) [.nilFunc] := ⟨by kernel_rfl, rfl⟩
instance : Row Try.prog 73 1 8 := Row.of (n := 0) (by kernel_rfl)
instance : Und Try.prog 74 (.func #[9, 21] #[3] false) := ⟨by kernel_rfl⟩
instance : Siz Try.prog 74 1 := ⟨by kernel_rfl⟩
instance : Sgl Try.prog 74 := ⟨_, Und.out, rfl⟩
instance : Zer Try.prog 74 (.nilFunc) [.nilFunc] := ⟨by kernel_rfl, rfl⟩
instance : Row Try.prog 74 1 8 := Row.of (n := 0) (by kernel_rfl)
instance : Und Try.prog 75 (.func #[9, 5] #[3] false) := ⟨by kernel_rfl⟩
instance : Siz Try.prog 75 1 := ⟨by kernel_rfl⟩
instance : Sgl Try.prog 75 := ⟨_, Und.out, rfl⟩
instance : Zer Try.prog 75 (.nilFunc) [.nilFunc] := ⟨by kernel_rfl, rfl⟩
instance : Row Try.prog 75 1 8 := Row.of (n := 0) (by kernel_rfl)
instance : Und Try.prog 76 (.func #[3] #[3] false) := ⟨by kernel_rfl⟩
instance : Siz Try.prog 76 1 := ⟨by kernel_rfl⟩
instance : Sgl Try.prog 76 := ⟨_, Und.out, rfl⟩
instance : Zer Try.prog 76 (.nilFunc) [.nilFunc] := ⟨by kernel_rfl, rfl⟩
instance : Row Try.prog 76 1 8 := Row.of (n := 0) (by kernel_rfl)
instance : Und Try.prog 77 (.int .u64) := ⟨by kernel_rfl⟩
instance : Siz Try.prog 77 1 := ⟨by kernel_rfl⟩
instance : Sgl Try.prog 77 := ⟨_, Und.out, rfl⟩
instance : Zer Try.prog 77 (.int .u64 (0)) [.int .u64 (0)] := ⟨by kernel_rfl, rfl⟩
instance : Row Try.prog 77 1 8 := Row.of (n := 0) (by kernel_rfl)
instance : Und Try.prog 78 (.func #[9, 9] #[3] false) := ⟨by kernel_rfl⟩
instance : Siz Try.prog 78 1 := ⟨by kernel_rfl⟩
instance : Sgl Try.prog 78 := ⟨_, Und.out, rfl⟩
instance : Zer Try.prog 78 (.nilFunc) [.nilFunc] := ⟨by kernel_rfl, rfl⟩
instance : Row Try.prog 78 1 8 := Row.of (n := 0) (by kernel_rfl)
instance : Und Try.prog 79 (.struct (Try.prog.fieldsOf 79)) := ⟨by kernel_rfl⟩
instance : Siz Try.prog 79 4 := ⟨by kernel_rfl⟩
instance : Agl Try.prog 79 := ⟨_, Und.out, rfl⟩
instance : Zer Try.prog 79 (.agg #[.pointer none, .pointer none, .pointer none, .string ⟨#[]⟩]) [.pointer none, .pointer none, .pointer none, .string ⟨#[]⟩] := ⟨by kernel_rfl, rfl⟩
instance : Row Try.prog 79 4 40 := Row.of (n := 3) (by kernel_rfl)
instance : Fld Try.prog 79 0 0 := Fld.of (n := 0) (by kernel_rfl)
instance : Fld Try.prog 79 1 1 := Fld.of (n := 0) (by kernel_rfl)
instance : Fld Try.prog 79 2 2 := Fld.of (n := 0) (by kernel_rfl)
instance : Fld Try.prog 79 3 3 := Fld.of (n := 0) (by kernel_rfl)
instance : Bld Try.prog 79 [(0, 1), (1, 1), (2, 1), (3, 1)] := Bld.of (fs := Try.prog.fieldsOf 79) (by kernel_rfl) (fun w => by kernel_rfl)
instance : Und Try.prog 80 (.struct (Try.prog.fieldsOf 80)) := ⟨by kernel_rfl⟩
instance : Siz Try.prog 80 4 := ⟨by kernel_rfl⟩
instance : Agl Try.prog 80 := ⟨_, Und.out, rfl⟩
instance : Zer Try.prog 80 (.agg #[.pointer none, .pointer none, .pointer none, .string ⟨#[]⟩]) [.pointer none, .pointer none, .pointer none, .string ⟨#[]⟩] := ⟨by kernel_rfl, rfl⟩
instance : Row Try.prog 80 4 40 := Row.of (n := 3) (by kernel_rfl)
instance : Fld Try.prog 80 0 0 := Fld.of (n := 0) (by kernel_rfl)
instance : Fld Try.prog 80 1 1 := Fld.of (n := 0) (by kernel_rfl)
instance : Fld Try.prog 80 2 2 := Fld.of (n := 0) (by kernel_rfl)
instance : Fld Try.prog 80 3 3 := Fld.of (n := 0) (by kernel_rfl)
instance : Bld Try.prog 80 [(0, 1), (1, 1), (2, 1), (3, 1)] := Bld.of (fs := Try.prog.fieldsOf 80) (by kernel_rfl) (fun w => by kernel_rfl)
instance : Und Try.prog 81 (.array 0 16) := ⟨by kernel_rfl⟩
instance : Siz Try.prog 81 0 := ⟨by kernel_rfl⟩
instance : Agl Try.prog 81 := ⟨_, Und.out, rfl⟩
instance : Zer Try.prog 81 (.agg #[]) [] := ⟨by kernel_rfl, rfl⟩
instance : Und Try.prog 82 (.struct (Try.prog.fieldsOf 82)) := ⟨by kernel_rfl⟩
instance : Siz Try.prog 82 0 := ⟨by kernel_rfl⟩
instance : Agl Try.prog 82 := ⟨_, Und.out, rfl⟩
instance : Zer Try.prog 82 (.agg #[]) [] := ⟨by kernel_rfl, rfl⟩
instance : Bld Try.prog 82 [(0, 0)] := Bld.of (fs := Try.prog.fieldsOf 82) (by kernel_rfl) (fun w => by kernel_rfl)
instance : Und Try.prog 83 (.struct (Try.prog.fieldsOf 83)) := ⟨by kernel_rfl⟩
instance : Siz Try.prog 83 0 := ⟨by kernel_rfl⟩
instance : Agl Try.prog 83 := ⟨_, Und.out, rfl⟩
instance : Zer Try.prog 83 (.agg #[]) [] := ⟨by kernel_rfl, rfl⟩
instance : Bld Try.prog 83 [(0, 0)] := Bld.of (fs := Try.prog.fieldsOf 83) (by kernel_rfl) (fun w => by kernel_rfl)
instance : Und Try.prog 84 (.func #[] #[3] false) := ⟨by kernel_rfl⟩
instance : Siz Try.prog 84 1 := ⟨by kernel_rfl⟩
instance : Sgl Try.prog 84 := ⟨_, Und.out, rfl⟩
instance : Zer Try.prog 84 (.nilFunc) [.nilFunc] := ⟨by kernel_rfl, rfl⟩
instance : Row Try.prog 84 1 8 := Row.of (n := 0) (by kernel_rfl)
instance : Und Try.prog 85 (.int .u32) := ⟨by kernel_rfl⟩
instance : Siz Try.prog 85 1 := ⟨by kernel_rfl⟩
instance : Sgl Try.prog 85 := ⟨_, Und.out, rfl⟩
instance : Zer Try.prog 85 (.int .u32 (0)) [.int .u32 (0)] := ⟨by kernel_rfl, rfl⟩
instance : Row Try.prog 85 1 4 := Row.of (n := 0) (by kernel_rfl)
instance : Und Try.prog 86 (.int .u8) := ⟨by kernel_rfl⟩
instance : Siz Try.prog 86 1 := ⟨by kernel_rfl⟩
instance : Sgl Try.prog 86 := ⟨_, Und.out, rfl⟩
instance : Zer Try.prog 86 (.int .u8 (0)) [.int .u8 (0)] := ⟨by kernel_rfl, rfl⟩
instance : Row Try.prog 86 1 1 := Row.of (n := 0) (by kernel_rfl)
instance : Und Try.prog 87 (.int .u8) := ⟨by kernel_rfl⟩
instance : Siz Try.prog 87 1 := ⟨by kernel_rfl⟩
instance : Sgl Try.prog 87 := ⟨_, Und.out, rfl⟩
instance : Zer Try.prog 87 (.int .u8 (0)) [.int .u8 (0)] := ⟨by kernel_rfl, rfl⟩
instance : Row Try.prog 87 1 1 := Row.of (n := 0) (by kernel_rfl)
instance : Und Try.prog 88 (.func #[72, 72] #[4] false) := ⟨by kernel_rfl⟩
instance : Siz Try.prog 88 1 := ⟨by kernel_rfl⟩
instance : Sgl Try.prog 88 := ⟨_, Und.out, rfl⟩
instance : Zer Try.prog 88 (.nilFunc) [.nilFunc] := ⟨by kernel_rfl, rfl⟩
instance : Row Try.prog 88 1 8 := Row.of (n := 0) (by kernel_rfl)
instance : Und Try.prog 89 (.int .i32) := ⟨by kernel_rfl⟩
instance : Siz Try.prog 89 1 := ⟨by kernel_rfl⟩
instance : Sgl Try.prog 89 := ⟨_, Und.out, rfl⟩
instance : Zer Try.prog 89 (.int .i32 (0)) [.int .i32 (0)] := ⟨by kernel_rfl, rfl⟩
instance : Row Try.prog 89 1 4 := Row.of (n := 0) (by kernel_rfl)
instance : Und Try.prog 90 (.int .i32) := ⟨by kernel_rfl⟩
instance : Siz Try.prog 90 1 := ⟨by kernel_rfl⟩
instance : Sgl Try.prog 90 := ⟨_, Und.out, rfl⟩
instance : Zer Try.prog 90 (.int .i32 (0)) [.int .i32 (0)] := ⟨by kernel_rfl, rfl⟩
instance : Row Try.prog 90 1 4 := Row.of (n := 0) (by kernel_rfl)
instance : Und Try.prog 91 (.struct (Try.prog.fieldsOf 91)) := ⟨by kernel_rfl⟩
instance : Siz Try.prog 91 11 := ⟨by kernel_rfl⟩
instance : Agl Try.prog 91 := ⟨_, Und.out, rfl⟩
instance : Zer Try.prog 91 (.agg #[.int .u64 (0), .int .u64 (0), .int .u32 (0), .int .u8 (0), .int .u8 (0), .int .u8 (0), .int .u8 (0), .nilFunc, .pointer none, .int .i32 (0), .int .i32 (0)]) [.int .u64 (0), .int .u64 (0), .int .u32 (0), .int .u8 (0), .int .u8 (0), .int .u8 (0), .int .u8 (0), .nilFunc, .pointer none, .int .i32 (0), .int .i32 (0)] := ⟨by kernel_rfl, rfl⟩
instance : Row Try.prog 91 11 48 := Row.of (n := 10) (by kernel_rfl)
instance : Fld Try.prog 91 0 0 := Fld.of (n := 0) (by kernel_rfl)
instance : Fld Try.prog 91 1 1 := Fld.of (n := 0) (by kernel_rfl)
instance : Fld Try.prog 91 2 2 := Fld.of (n := 0) (by kernel_rfl)
instance : Fld Try.prog 91 3 3 := Fld.of (n := 0) (by kernel_rfl)
instance : Fld Try.prog 91 4 4 := Fld.of (n := 0) (by kernel_rfl)
instance : Fld Try.prog 91 5 5 := Fld.of (n := 0) (by kernel_rfl)
instance : Fld Try.prog 91 6 6 := Fld.of (n := 0) (by kernel_rfl)
instance : Fld Try.prog 91 7 7 := Fld.of (n := 0) (by kernel_rfl)
instance : Fld Try.prog 91 8 8 := Fld.of (n := 0) (by kernel_rfl)
instance : Fld Try.prog 91 9 9 := Fld.of (n := 0) (by kernel_rfl)
instance : Fld Try.prog 91 10 10 := Fld.of (n := 0) (by kernel_rfl)
instance : Bld Try.prog 91 [(0, 1), (1, 1), (2, 1), (3, 1), (4, 1), (5, 1), (6, 1), (7, 1), (8, 1), (9, 1), (10, 1)] := Bld.of (fs := Try.prog.fieldsOf 91) (by kernel_rfl) (fun w => by kernel_rfl)
instance : Und Try.prog 92 (.struct (Try.prog.fieldsOf 92)) := ⟨by kernel_rfl⟩
instance : Siz Try.prog 92 11 := ⟨by kernel_rfl⟩
instance : Agl Try.prog 92 := ⟨_, Und.out, rfl⟩
instance : Zer Try.prog 92 (.agg #[.int .u64 (0), .int .u64 (0), .int .u32 (0), .int .u8 (0), .int .u8 (0), .int .u8 (0), .int .u8 (0), .nilFunc, .pointer none, .int .i32 (0), .int .i32 (0)]) [.int .u64 (0), .int .u64 (0), .int .u32 (0), .int .u8 (0), .int .u8 (0), .int .u8 (0), .int .u8 (0), .nilFunc, .pointer none, .int .i32 (0), .int .i32 (0)] := ⟨by kernel_rfl, rfl⟩
instance : Row Try.prog 92 11 48 := Row.of (n := 10) (by kernel_rfl)
instance : Fld Try.prog 92 0 0 := Fld.of (n := 0) (by kernel_rfl)
instance : Fld Try.prog 92 1 1 := Fld.of (n := 0) (by kernel_rfl)
instance : Fld Try.prog 92 2 2 := Fld.of (n := 0) (by kernel_rfl)
instance : Fld Try.prog 92 3 3 := Fld.of (n := 0) (by kernel_rfl)
instance : Fld Try.prog 92 4 4 := Fld.of (n := 0) (by kernel_rfl)
instance : Fld Try.prog 92 5 5 := Fld.of (n := 0) (by kernel_rfl)
instance : Fld Try.prog 92 6 6 := Fld.of (n := 0) (by kernel_rfl)
instance : Fld Try.prog 92 7 7 := Fld.of (n := 0) (by kernel_rfl)
instance : Fld Try.prog 92 8 8 := Fld.of (n := 0) (by kernel_rfl)
instance : Fld Try.prog 92 9 9 := Fld.of (n := 0) (by kernel_rfl)
instance : Fld Try.prog 92 10 10 := Fld.of (n := 0) (by kernel_rfl)
instance : Bld Try.prog 92 [(0, 1), (1, 1), (2, 1), (3, 1), (4, 1), (5, 1), (6, 1), (7, 1), (8, 1), (9, 1), (10, 1)] := Bld.of (fs := Try.prog.fieldsOf 92) (by kernel_rfl) (fun w => by kernel_rfl)
instance : Fun Try.prog 2 := ⟨_, Try.func2, by kernel_rfl, rfl⟩
instance : Fun Try.prog 3 := ⟨_, Try.func3, by kernel_rfl, rfl⟩
instance : Fun Try.prog 4 := ⟨_, Try.func4, by kernel_rfl, rfl⟩
instance : Fun Try.prog 5 := ⟨_, Try.func5, by kernel_rfl, rfl⟩
instance : Fun Try.prog 6 := ⟨_, Try.func6, by kernel_rfl, rfl⟩
instance : Fun Try.prog 7 := ⟨_, Try.func7, by kernel_rfl, rfl⟩
instance : Fun Try.prog 8 := ⟨_, Try.func8, by kernel_rfl, rfl⟩
instance : Fun Try.prog 9 := ⟨_, Try.func9, by kernel_rfl, rfl⟩
instance : Fun Try.prog 10 := ⟨_, Try.func10, by kernel_rfl, rfl⟩
instance : Fun Try.prog 11 := ⟨_, Try.func11, by kernel_rfl, rfl⟩
instance : Fun Try.prog 12 := ⟨_, Try.func12, by kernel_rfl, rfl⟩
instance : Fun Try.prog 13 := ⟨_, Try.func13, by kernel_rfl, rfl⟩
instance : Fun Try.prog 14 := ⟨_, Try.func14, by kernel_rfl, rfl⟩
instance : Fun Try.prog 15 := ⟨_, Try.func15, by kernel_rfl, rfl⟩
instance : Fun Try.prog 16 := ⟨_, Try.func16, by kernel_rfl, rfl⟩
instance : Fun Try.prog 17 := ⟨_, Try.func17, by kernel_rfl, rfl⟩
instance : Fun Try.prog 18 := ⟨_, Try.func18, by kernel_rfl, rfl⟩
instance : Fun Try.prog 19 := ⟨_, Try.func19, by kernel_rfl, rfl⟩
instance : Fun Try.prog 20 := ⟨_, Try.func20, by kernel_rfl, rfl⟩
instance : Fun Try.prog 21 := ⟨_, Try.func21, by kernel_rfl, rfl⟩
instance : Fun Try.prog 22 := ⟨_, Try.func22, by kernel_rfl, rfl⟩
instance : Fun Try.prog 23 := ⟨_, Try.func23, by kernel_rfl, rfl⟩
instance : Fun Try.prog 24 := ⟨_, Try.func24, by kernel_rfl, rfl⟩
instance : Fun Try.prog 25 := ⟨_, Try.func25, by kernel_rfl, rfl⟩
instance : Fun Try.prog 26 := ⟨_, Try.func26, by kernel_rfl, rfl⟩
instance : Fun Try.prog 27 := ⟨_, Try.func27, by kernel_rfl, rfl⟩
instance : Fun Try.prog 28 := ⟨_, Try.func28, by kernel_rfl, rfl⟩
instance : Fun Try.prog 29 := ⟨_, Try.func29, by kernel_rfl, rfl⟩
instance : Fun Try.prog 30 := ⟨_, Try.func30, by kernel_rfl, rfl⟩
instance : Fun Try.prog 31 := ⟨_, Try.func31, by kernel_rfl, rfl⟩
instance : Fun Try.prog 32 := ⟨_, Try.func32, by kernel_rfl, rfl⟩
instance : Fun Try.prog 33 := ⟨_, Try.func33, by kernel_rfl, rfl⟩
instance : Fun Try.prog 34 := ⟨_, Try.func34, by kernel_rfl, rfl⟩
instance : Fun Try.prog 35 := ⟨_, Try.func35, by kernel_rfl, rfl⟩
instance : Fun Try.prog 36 := ⟨_, Try.func36, by kernel_rfl, rfl⟩
instance : Fun Try.prog 37 := ⟨_, Try.func37, by kernel_rfl, rfl⟩
instance : Fun Try.prog 38 := ⟨_, Try.func38, by kernel_rfl, rfl⟩
instance : Fun Try.prog 39 := ⟨_, Try.func39, by kernel_rfl, rfl⟩
instance : Fun Try.prog 40 := ⟨_, Try.func40, by kernel_rfl, rfl⟩
instance : Fun Try.prog 41 := ⟨_, Try.func41, by kernel_rfl, rfl⟩
instance : Fun Try.prog 42 := ⟨_, Try.func42, by kernel_rfl, rfl⟩
instance : Fun Try.prog 43 := ⟨_, Try.func43, by kernel_rfl, rfl⟩
instance : Fun Try.prog 45 := ⟨_, Try.func45, by kernel_rfl, rfl⟩
instance : Fun Try.prog 46 := ⟨_, Try.func46, by kernel_rfl, rfl⟩
instance : Fun Try.prog 47 := ⟨_, Try.func47, by kernel_rfl, rfl⟩
instance : Fun Try.prog 49 := ⟨_, Try.func49, by kernel_rfl, rfl⟩
end Go.Proofs.Ytbackpcohkblfaa
