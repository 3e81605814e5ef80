/- What the program's types and functions are, told to the separation logic's rules. Each by the kernel. -/
import Derived.Test.YtpemoeincepilaaDoorProg
import Derived.Test.YtpemoeincepilaaDoorSepX
import Derived.KernelRfl
set_option maxRecDepth 100000
namespace Go.Proofs.YtpemoeincepilaaDoor
open Go.Proofs.YtpemoeincepilaaDoor.SL
instance : Und Tryd.prog 0 (.tuple #[]) := ⟨by kernel_rfl⟩
instance : Siz Tryd.prog 0 1 := ⟨by kernel_rfl⟩
instance : Sgl Tryd.prog 0 := ⟨_, Und.out, rfl⟩
instance : Und Tryd.prog 1 (.func #[] #[] false) := ⟨by kernel_rfl⟩
instance : Siz Tryd.prog 1 1 := ⟨by kernel_rfl⟩
instance : Sgl Tryd.prog 1 := ⟨_, Und.out, rfl⟩
instance : Zer Tryd.prog 1 (.nilFunc) [.nilFunc] := ⟨by kernel_rfl, rfl⟩
instance : Row Tryd.prog 1 1 8 := Row.of (n := 0) (by kernel_rfl)
instance : Und Tryd.prog 2 (.int .i64) := ⟨by kernel_rfl⟩
instance : Siz Tryd.prog 2 1 := ⟨by kernel_rfl⟩
instance : Sgl Tryd.prog 2 := ⟨_, Und.out, rfl⟩
instance : Zer Tryd.prog 2 (.int .i64 (0)) [.int .i64 (0)] := ⟨by kernel_rfl, rfl⟩
instance : Row Tryd.prog 2 1 8 := Row.of (n := 0) (by kernel_rfl)
instance : Und Tryd.prog 3 (.int .i64) := ⟨by kernel_rfl⟩
instance : Siz Tryd.prog 3 1 := ⟨by kernel_rfl⟩
instance : Sgl Tryd.prog 3 := ⟨_, Und.out, rfl⟩
instance : Zer Tryd.prog 3 (.int .i64 (0)) [.int .i64 (0)] := ⟨by kernel_rfl, rfl⟩
instance : Row Tryd.prog 3 1 8 := Row.of (n := 0) (by kernel_rfl)
instance : Und Tryd.prog 4 (.bool) := ⟨by kernel_rfl⟩
instance : Siz Tryd.prog 4 1 := ⟨by kernel_rfl⟩
instance : Sgl Tryd.prog 4 := ⟨_, Und.out, rfl⟩
instance : Zer Tryd.prog 4 (.bool false) [.bool false] := ⟨by kernel_rfl, rfl⟩
instance : Row Tryd.prog 4 1 1 := Row.of (n := 0) (by kernel_rfl)
instance : Und Tryd.prog 5 (.int .u8) := ⟨by kernel_rfl⟩
instance : Siz Tryd.prog 5 1 := ⟨by kernel_rfl⟩
instance : Sgl Tryd.prog 5 := ⟨_, Und.out, rfl⟩
instance : Zer Tryd.prog 5 (.int .u8 (0)) [.int .u8 (0)] := ⟨by kernel_rfl, rfl⟩
instance : Row Tryd.prog 5 1 1 := Row.of (n := 0) (by kernel_rfl)
instance : Und Tryd.prog 6 (.int .u8) := ⟨by kernel_rfl⟩
instance : Siz Tryd.prog 6 1 := ⟨by kernel_rfl⟩
instance : Sgl Tryd.prog 6 := ⟨_, Und.out, rfl⟩
instance : Zer Tryd.prog 6 (.int .u8 (0)) [.int .u8 (0)] := ⟨by kernel_rfl, rfl⟩
instance : Row Tryd.prog 6 1 1 := Row.of (n := 0) (by kernel_rfl)
instance : Und Tryd.prog 7 (.struct (Tryd.prog.fieldsOf 7)) := ⟨by kernel_rfl⟩
instance : Siz Tryd.prog 7 4 := ⟨by kernel_rfl⟩
instance : Agl Tryd.prog 7 := ⟨_, Und.out, rfl⟩
instance : Zer Tryd.prog 7 (.agg #[.int .i64 (0), .int .i64 (0), .bool false, .int .u8 (0)]) [.int .i64 (0), .int .i64 (0), .bool false, .int .u8 (0)] := ⟨by kernel_rfl, rfl⟩
instance : Row Tryd.prog 7 4 24 := Row.of (n := 3) (by kernel_rfl)
instance : EqT Tryd.prog 7 [.int .i64, .int .i64, .bool, .int .u8] := EqT.of (fs := Tryd.prog.fieldsOf 7) (by kernel_rfl) (by kernel_rfl) (by kernel_rfl)
instance : Fld Tryd.prog 7 0 0 := Fld.of (n := 0) (by kernel_rfl)
instance : Fld Tryd.prog 7 1 1 := Fld.of (n := 0) (by kernel_rfl)
instance : Fld Tryd.prog 7 2 2 := Fld.of (n := 0) (by kernel_rfl)
instance : Fld Tryd.prog 7 3 3 := Fld.of (n := 0) (by kernel_rfl)
instance : Bld Tryd.prog 7 [(0, 1), (1, 1), (2, 1), (3, 1)] := Bld.of (fs := Tryd.prog.fieldsOf 7) (by kernel_rfl) (fun w => by kernel_rfl)
instance : Und Tryd.prog 8 (.struct (Tryd.prog.fieldsOf 8)) := ⟨by kernel_rfl⟩
instance : Siz Tryd.prog 8 4 := ⟨by kernel_rfl⟩
instance : Agl Tryd.prog 8 := ⟨_, Und.out, rfl⟩
instance : Zer Tryd.prog 8 (.agg #[.int .i64 (0), .int .i64 (0), .bool false, .int .u8 (0)]) [.int .i64 (0), .int .i64 (0), .bool false, .int .u8 (0)] := ⟨by kernel_rfl, rfl⟩
instance : Row Tryd.prog 8 4 24 := Row.of (n := 3) (by kernel_rfl)
instance : EqT Tryd.prog 8 [.int .i64, .int .i64, .bool, .int .u8] := EqT.of (fs := Tryd.prog.fieldsOf 8) (by kernel_rfl) (by kernel_rfl) (by kernel_rfl)
instance : Fld Tryd.prog 8 0 0 := Fld.of (n := 0) (by kernel_rfl)
instance : Fld Tryd.prog 8 1 1 := Fld.of (n := 0) (by kernel_rfl)
instance : Fld Tryd.prog 8 2 2 := Fld.of (n := 0) (by kernel_rfl)
instance : Fld Tryd.prog 8 3 3 := Fld.of (n := 0) (by kernel_rfl)
instance : Bld Tryd.prog 8 [(0, 1), (1, 1), (2, 1), (3, 1)] := Bld.of (fs := Tryd.prog.fieldsOf 8) (by kernel_rfl) (fun w => by kernel_rfl)
instance : Und Tryd.prog 9 (.string) := ⟨by kernel_rfl⟩
instance : Siz Tryd.prog 9 1 := ⟨by kernel_rfl⟩
instance : Sgl Tryd.prog 9 := ⟨_, Und.out, rfl⟩
instance : Zer Tryd.prog 9 (.string ⟨#[]⟩) [.string ⟨#[]⟩] := ⟨by kernel_rfl, rfl⟩
instance : Row Tryd.prog 9 1 16 := Row.of (n := 0) (by kernel_rfl)
instance : Und Tryd.prog 10 (.string) := ⟨by kernel_rfl⟩
instance : Siz Tryd.prog 10 1 := ⟨by kernel_rfl⟩
instance : Sgl Tryd.prog 10 := ⟨_, Und.out, rfl⟩
instance : Zer Tryd.prog 10 (.string ⟨#[]⟩) [.string ⟨#[]⟩] := ⟨by kernel_rfl, rfl⟩
instance : Row Tryd.prog 10 1 16 := Row.of (n := 0) (by kernel_rfl)
instance : Und Tryd.prog 11 (.string) := ⟨by kernel_rfl⟩
instance : Siz Tryd.prog 11 1 := ⟨by kernel_rfl⟩
instance : Sgl Tryd.prog 11 := ⟨_, Und.out, rfl⟩
instance : Zer Tryd.prog 11 (.string ⟨#[]⟩) [.string ⟨#[]⟩] := ⟨by kernel_rfl, rfl⟩
instance : Row Tryd.prog 11 1 16 := Row.of (n := 0) (by kernel_rfl)
instance : Und Tryd.prog 12 (.int .u64) := ⟨by kernel_rfl⟩
instance : Siz Tryd.prog 12 1 := ⟨by kernel_rfl⟩
instance : Sgl Tryd.prog 12 := ⟨_, Und.out, rfl⟩
instance : Zer Tryd.prog 12 (.int .u64 (0)) [.int .u64 (0)] := ⟨by kernel_rfl, rfl⟩
instance : Row Tryd.prog 12 1 8 := Row.of (n := 0) (by kernel_rfl)
instance : Und Tryd.prog 13 (.struct (Tryd.prog.fieldsOf 13)) := ⟨by kernel_rfl⟩
instance : Siz Tryd.prog 13 2 := ⟨by kernel_rfl⟩
instance : Agl Tryd.prog 13 := ⟨_, Und.out, rfl⟩
instance : Zer Tryd.prog 13 (.agg #[.string ⟨#[]⟩, .int .u64 (0)]) [.string ⟨#[]⟩, .int .u64 (0)] := ⟨by kernel_rfl, rfl⟩
instance : Row Tryd.prog 13 2 24 := Row.of (n := 1) (by kernel_rfl)
instance : Fld Tryd.prog 13 0 0 := Fld.of (n := 0) (by kernel_rfl)
instance : Fld Tryd.prog 13 1 1 := Fld.of (n := 0) (by kernel_rfl)
instance : Bld Tryd.prog 13 [(0, 1), (1, 1)] := Bld.of (fs := Tryd.prog.fieldsOf 13) (by kernel_rfl) (fun w => by kernel_rfl)
instance : Und Tryd.prog 14 (.struct (Tryd.prog.fieldsOf 14)) := ⟨by kernel_rfl⟩
instance : Siz Tryd.prog 14 2 := ⟨by kernel_rfl⟩
instance : Agl Tryd.prog 14 := ⟨_, Und.out, rfl⟩
instance : Zer Tryd.prog 14 (.agg #[.string ⟨#[]⟩, .int .u64 (0)]) [.string ⟨#[]⟩, .int .u64 (0)] := ⟨by kernel_rfl, rfl⟩
instance : Row Tryd.prog 14 2 24 := Row.of (n := 1) (by kernel_rfl)
instance : Fld Tryd.prog 14 0 0 := Fld.of (n := 0) (by kernel_rfl)
instance : Fld Tryd.prog 14 1 1 := Fld.of (n := 0) (by kernel_rfl)
instance : Bld Tryd.prog 14 [(0, 1), (1, 1)] := Bld.of (fs := Tryd.prog.fieldsOf 14) (by kernel_rfl) (fun w => by kernel_rfl)
instance : Und Tryd.prog 15 (.pointer 113) := ⟨by kernel_rfl⟩
instance : Siz Tryd.prog 15 1 := ⟨by kernel_rfl⟩
instance : Sgl Tryd.prog 15 := ⟨_, Und.out, rfl⟩
instance : Zer Tryd.prog 15 (.pointer none) [.pointer none] := ⟨by kernel_rfl, rfl⟩
instance : Row Tryd.prog 15 1 8 := Row.of (n := 0) (by kernel_rfl)
instance : Und Tryd.prog 16 (.pointer 116) := ⟨by kernel_rfl⟩
instance : Siz Tryd.prog 16 1 := ⟨by kernel_rfl⟩
instance : Sgl Tryd.prog 16 := ⟨_, Und.out, rfl⟩
instance : Zer Tryd.prog 16 (.pointer none) [.pointer none] := ⟨by kernel_rfl, rfl⟩
instance : Row Tryd.prog 16 1 8 := Row.of (n := 0) (by kernel_rfl)
instance : Und Tryd.prog 17 (.pointer 123) := ⟨by kernel_rfl⟩
instance : Siz Tryd.prog 17 1 := ⟨by kernel_rfl⟩
instance : Sgl Tryd.prog 17 := ⟨_, Und.out, rfl⟩
instance : Zer Tryd.prog 17 (.pointer none) [.pointer none] := ⟨by kernel_rfl, rfl⟩
instance : Row Tryd.prog 17 1 8 := Row.of (n := 0) (by kernel_rfl)
instance : Und Tryd.prog 18 (.struct (Tryd.prog.fieldsOf 18)) := ⟨by kernel_rfl⟩
instance : Siz Tryd.prog 18 1 := ⟨by kernel_rfl⟩
instance : Agl Tryd.prog 18 := ⟨_, Und.out, rfl⟩
instance : Zer Tryd.prog 18 (.agg #[.pointer none]) [.pointer none] := ⟨by kernel_rfl, rfl⟩
instance : Row Tryd.prog 18 1 8 := Row.of (n := 0) (by kernel_rfl)
instance : Fld Tryd.prog 18 0 0 := Fld.of (n := 0) (by kernel_rfl)
instance : Bld Tryd.prog 18 [(0, 1)] := Bld.of (fs := Tryd.prog.fieldsOf 18) (by kernel_rfl) (fun w => by kernel_rfl)
instance : Und Tryd.prog 19 (.struct (Tryd.prog.fieldsOf 19)) := ⟨by kernel_rfl⟩
instance : Siz Tryd.prog 19 1 := ⟨by kernel_rfl⟩
instance : Agl Tryd.prog 19 := ⟨_, Und.out, rfl⟩
instance : Zer Tryd.prog 19 (.agg #[.pointer none]) [.pointer none] := ⟨by kernel_rfl, rfl⟩
instance : Row Tryd.prog 19 1 8 := Row.of (n := 0) (by kernel_rfl)
instance : Fld Tryd.prog 19 0 0 := Fld.of (n := 0) (by kernel_rfl)
instance : Bld Tryd.prog 19 [(0, 1)] := Bld.of (fs := Tryd.prog.fieldsOf 19) (by kernel_rfl) (fun w => by kernel_rfl)
instance : Und Tryd.prog 20 (.interface #[]) := ⟨by kernel_rfl⟩
instance : Siz Tryd.prog 20 1 := ⟨by kernel_rfl⟩
instance : Sgl Tryd.prog 20 := ⟨_, Und.out, rfl⟩
instance : Zer Tryd.prog 20 (.nilIface) [.nilIface] := ⟨by kernel_rfl, rfl⟩
instance : Row Tryd.prog 20 1 16 := Row.of (n := 0) (by kernel_rfl)
instance : Und Tryd.prog 21 (.int .i32) := ⟨by kernel_rfl⟩
instance : Siz Tryd.prog 21 1 := ⟨by kernel_rfl⟩
instance : Sgl Tryd.prog 21 := ⟨_, Und.out, rfl⟩
instance : Zer Tryd.prog 21 (.int .i32 (0)) [.int .i32 (0)] := ⟨by kernel_rfl, rfl⟩
instance : Row Tryd.prog 21 1 4 := Row.of (n := 0) (by kernel_rfl)
instance : Und Tryd.prog 22 (.slice 34) := ⟨by kernel_rfl⟩
instance : Siz Tryd.prog 22 1 := ⟨by kernel_rfl⟩
instance : Sgl Tryd.prog 22 := ⟨_, Und.out, rfl⟩
instance : Zer Tryd.prog 22 (.slice none 0 0) [.slice none 0 0] := ⟨by kernel_rfl, rfl⟩
instance : Row Tryd.prog 22 1 24 := Row.of (n := 0) (by kernel_rfl)
instance : Und Tryd.prog 23 (.slice 34) := ⟨by kernel_rfl⟩
instance : Siz Tryd.prog 23 1 := ⟨by kernel_rfl⟩
instance : Sgl Tryd.prog 23 := ⟨_, Und.out, rfl⟩
instance : Zer Tryd.prog 23 (.slice none 0 0) [.slice none 0 0] := ⟨by kernel_rfl, rfl⟩
instance : Row Tryd.prog 23 1 24 := Row.of (n := 0) (by kernel_rfl)
instance : Und Tryd.prog 24 (.func #[] #[4] false) := ⟨by kernel_rfl⟩
instance : Siz Tryd.prog 24 1 := ⟨by kernel_rfl⟩
instance : Sgl Tryd.prog 24 := ⟨_, Und.out, rfl⟩
instance : Zer Tryd.prog 24 (.nilFunc) [.nilFunc] := ⟨by kernel_rfl, rfl⟩
instance : Row Tryd.prog 24 1 8 := Row.of (n := 0) (by kernel_rfl)
instance : Und Tryd.prog 25 (.func #[23] #[9] false) := ⟨by kernel_rfl⟩
instance : Siz Tryd.prog 25 1 := ⟨by kernel_rfl⟩
instance : Sgl Tryd.prog 25 := ⟨_, Und.out, rfl⟩
instance : Zer Tryd.prog 25 (.nilFunc) [.nilFunc] := ⟨by kernel_rfl, rfl⟩
instance : Row Tryd.prog 25 1 8 := Row.of (n := 0) (by kernel_rfl)
instance : Und Tryd.prog 26 (.int .i64) := ⟨by kernel_rfl⟩
instance : Siz Tryd.prog 26 1 := ⟨by kernel_rfl⟩
instance : Sgl Tryd.prog 26 := ⟨_, Und.out, rfl⟩
instance : Zer Tryd.prog 26 (.int .i64 (0)) [.int .i64 (0)] := ⟨by kernel_rfl, rfl⟩
instance : Row Tryd.prog 26 1 8 := Row.of (n := 0) (by kernel_rfl)
instance : Und Tryd.prog 27 (.tuple #[23, 26]) := ⟨by kernel_rfl⟩
instance : Siz Tryd.prog 27 1 := ⟨by kernel_rfl⟩
instance : Sgl Tryd.prog 27 := ⟨_, Und.out, rfl⟩
instance : Und Tryd.prog 28 (.func #[9] #[23, 26] false) := ⟨by kernel_rfl⟩
instance : Siz Tryd.prog 28 1 := ⟨by kernel_rfl⟩
instance : Sgl Tryd.prog 28 := ⟨_, Und.out, rfl⟩
instance : Zer Tryd.prog 28 (.nilFunc) [.nilFunc] := ⟨by kernel_rfl, rfl⟩
instance : Row Tryd.prog 28 1 8 := Row.of (n := 0) (by kernel_rfl)
instance : Und Tryd.prog 29 (.func #[23, 23] #[4] false) := ⟨by kernel_rfl⟩
instance : Siz Tryd.prog 29 1 := ⟨by kernel_rfl⟩
instance : Sgl Tryd.prog 29 := ⟨_, Und.out, rfl⟩
instance : Zer Tryd.prog 29 (.nilFunc) [.nilFunc] := ⟨by kernel_rfl, rfl⟩
instance : Row Tryd.prog 29 1 8 := Row.of (n := 0) (by kernel_rfl)
instance : Und Tryd.prog 30 (.func #[23] #[4] false) := ⟨by kernel_rfl⟩
instance : Siz Tryd.prog 30 1 := ⟨by kernel_rfl⟩
instance : Sgl Tryd.prog 30 := ⟨_, Und.out, rfl⟩
instance : Zer Tryd.prog 30 (.nilFunc) [.nilFunc] := ⟨by kernel_rfl, rfl⟩
instance : Row Tryd.prog 30 1 8 := Row.of (n := 0) (by kernel_rfl)
instance : Und Tryd.prog 31 (.func #[23] #[3] false) := ⟨by kernel_rfl⟩
instance : Siz Tryd.prog 31 1 := ⟨by kernel_rfl⟩
instance : Sgl Tryd.prog 31 := ⟨_, Und.out, rfl⟩
instance : Zer Tryd.prog 31 (.nilFunc) [.nilFunc] := ⟨by kernel_rfl, rfl⟩
instance : Row Tryd.prog 31 1 8 := Row.of (n := 0) (by kernel_rfl)
instance : Und Tryd.prog 32 (.func #[23, 9] #[4] false) := ⟨by kernel_rfl⟩
instance : Siz Tryd.prog 32 1 := ⟨by kernel_rfl⟩
instance : Sgl Tryd.prog 32 := ⟨_, Und.out, rfl⟩
instance : Zer Tryd.prog 32 (.nilFunc) [.nilFunc] := ⟨by kernel_rfl, rfl⟩
instance : Row Tryd.prog 32 1 8 := Row.of (n := 0) (by kernel_rfl)
instance : Und Tryd.prog 33 (.func #[3, 3] #[3] false) := ⟨by kernel_rfl⟩
instance : Siz Tryd.prog 33 1 := ⟨by kernel_rfl⟩
instance : Sgl Tryd.prog 33 := ⟨_, Und.out, rfl⟩
instance : Zer Tryd.prog 33 (.nilFunc) [.nilFunc] := ⟨by kernel_rfl, rfl⟩
instance : Row Tryd.prog 33 1 8 := Row.of (n := 0) (by kernel_rfl)
instance : Und Tryd.prog 34 (.int .u64) := ⟨by kernel_rfl⟩
instance : Siz Tryd.prog 34 1 := ⟨by kernel_rfl⟩
instance : Sgl Tryd.prog 34 := ⟨_, Und.out, rfl⟩
instance : Zer Tryd.prog 34 (.int .u64 (0)) [.int .u64 (0)] := ⟨by kernel_rfl, rfl⟩
instance : Row Tryd.prog 34 1 8 := Row.of (n := 0) (by kernel_rfl)
instance : Und Tryd.prog 35 (.func #[23, 23] #[23] false) := ⟨by kernel_rfl⟩
instance : Siz Tryd.prog 35 1 := ⟨by kernel_rfl⟩
instance : Sgl Tryd.prog 35 := ⟨_, Und.out, rfl⟩
instance : Zer Tryd.prog 35 (.nilFunc) [.nilFunc] := ⟨by kernel_rfl, rfl⟩
instance : Row Tryd.prog 35 1 8 := Row.of (n := 0) (by kernel_rfl)
instance : Und Tryd.prog 36 (.func #[23, 23] #[3] false) := ⟨by kernel_rfl⟩
instance : Siz Tryd.prog 36 1 := ⟨by kernel_rfl⟩
instance : Sgl Tryd.prog 36 := ⟨_, Und.out, rfl⟩
instance : Zer Tryd.prog 36 (.nilFunc) [.nilFunc] := ⟨by kernel_rfl, rfl⟩
instance : Row Tryd.prog 36 1 8 := Row.of (n := 0) (by kernel_rfl)
instance : Und Tryd.prog 37 (.func #[23, 23, 3] #[4] false) := ⟨by kernel_rfl⟩
instance : Siz Tryd.prog 37 1 := ⟨by kernel_rfl⟩
instance : Sgl Tryd.prog 37 := ⟨_, Und.out, rfl⟩
instance : Zer Tryd.prog 37 (.nilFunc) [.nilFunc] := ⟨by kernel_rfl, rfl⟩
instance : Row Tryd.prog 37 1 8 := Row.of (n := 0) (by kernel_rfl)
instance : Und Tryd.prog 38 (.int .u64) := ⟨by kernel_rfl⟩
instance : Siz Tryd.prog 38 1 := ⟨by kernel_rfl⟩
instance : Sgl Tryd.prog 38 := ⟨_, Und.out, rfl⟩
instance : Zer Tryd.prog 38 (.int .u64 (0)) [.int .u64 (0)] := ⟨by kernel_rfl, rfl⟩
instance : Row Tryd.prog 38 1 8 := Row.of (n := 0) (by kernel_rfl)
instance : Und Tryd.prog 39 (.func #[23, 3] #[23] false) := ⟨by kernel_rfl⟩
instance : Siz Tryd.prog 39 1 := ⟨by kernel_rfl⟩
instance : Sgl Tryd.prog 39 := ⟨_, Und.out, rfl⟩
instance : Zer Tryd.prog 39 (.nilFunc) [.nilFunc] := ⟨by kernel_rfl, rfl⟩
instance : Row Tryd.prog 39 1 8 := Row.of (n := 0) (by kernel_rfl)
instance : Und Tryd.prog 40 (.func #[23, 3] #[23, 26] false) := ⟨by kernel_rfl⟩
instance : Siz Tryd.prog 40 1 := ⟨by kernel_rfl⟩
instance : Sgl Tryd.prog 40 := ⟨_, Und.out, rfl⟩
instance : Zer Tryd.prog 40 (.nilFunc) [.nilFunc] := ⟨by kernel_rfl, rfl⟩
instance : Row Tryd.prog 40 1 8 := Row.of (n := 0) (by kernel_rfl)
instance : Und Tryd.prog 41 (.func #[23] #[23] false) := ⟨by kernel_rfl⟩
instance : Siz Tryd.prog 41 1 := ⟨by kernel_rfl⟩
instance : Sgl Tryd.prog 41 := ⟨_, Und.out, rfl⟩
instance : Zer Tryd.prog 41 (.nilFunc) [.nilFunc] := ⟨by kernel_rfl, rfl⟩
instance : Row Tryd.prog 41 1 8 := Row.of (n := 0) (by kernel_rfl)
instance : Und Tryd.prog 42 (.func #[23, 3] #[4] false) := ⟨by kernel_rfl⟩
instance : Siz Tryd.prog 42 1 := ⟨by kernel_rfl⟩
instance : Sgl Tryd.prog 42 := ⟨_, Und.out, rfl⟩
instance : Zer Tryd.prog 42 (.nilFunc) [.nilFunc] := ⟨by kernel_rfl, rfl⟩
instance : Row Tryd.prog 42 1 8 := Row.of (n := 0) (by kernel_rfl)
instance : Und Tryd.prog 43 (.func #[34] #[3] false) := ⟨by kernel_rfl⟩
instance : Siz Tryd.prog 43 1 := ⟨by kernel_rfl⟩
instance : Sgl Tryd.prog 43 := ⟨_, Und.out, rfl⟩
instance : Zer Tryd.prog 43 (.nilFunc) [.nilFunc] := ⟨by kernel_rfl, rfl⟩
instance : Row Tryd.prog 43 1 8 := Row.of (n := 0) (by kernel_rfl)
instance : Und Tryd.prog 44 (.func #[23, 3, 3] #[4] false) := ⟨by kernel_rfl⟩
instance : Siz Tryd.prog 44 1 := ⟨by kernel_rfl⟩
instance : Sgl Tryd.prog 44 := ⟨_, Und.out, rfl⟩
instance : Zer Tryd.prog 44 (.nilFunc) [.nilFunc] := ⟨by kernel_rfl, rfl⟩
instance : Row Tryd.prog 44 1 8 := Row.of (n := 0) (by kernel_rfl)
instance : Und Tryd.prog 45 (.func #[23, 23] #[23, 26] false) := ⟨by kernel_rfl⟩
instance : Siz Tryd.prog 45 1 := ⟨by kernel_rfl⟩
instance : Sgl Tryd.prog 45 := ⟨_, Und.out, rfl⟩
instance : Zer Tryd.prog 45 (.nilFunc) [.nilFunc] := ⟨by kernel_rfl, rfl⟩
instance : Row Tryd.prog 45 1 8 := Row.of (n := 0) (by kernel_rfl)
instance : Und Tryd.prog 46 (.func #[22, 22] #[4] false) := ⟨by kernel_rfl⟩
instance : Siz Tryd.prog 46 1 := ⟨by kernel_rfl⟩
instance : Sgl Tryd.prog 46 := ⟨_, Und.out, rfl⟩
instance : Zer Tryd.prog 46 (.nilFunc) [.nilFunc] := ⟨by kernel_rfl, rfl⟩
instance : Row Tryd.prog 46 1 8 := Row.of (n := 0) (by kernel_rfl)
instance : Und Tryd.prog 47 (.func #[23, 23, 23] #[4] false) := ⟨by kernel_rfl⟩
instance : Siz Tryd.prog 47 1 := ⟨by kernel_rfl⟩
instance : Sgl Tryd.prog 47 := ⟨_, Und.out, rfl⟩
instance : Zer Tryd.prog 47 (.nilFunc) [.nilFunc] := ⟨by kernel_rfl, rfl⟩
instance : Row Tryd.prog 47 1 8 := Row.of (n := 0) (by kernel_rfl)
instance : Und Tryd.prog 48 (.tuple #[23, 23, 26]) := ⟨by kernel_rfl⟩
instance : Siz Tryd.prog 48 1 := ⟨by kernel_rfl⟩
instance : Sgl Tryd.prog 48 := ⟨_, Und.out, rfl⟩
instance : Und Tryd.prog 49 (.func #[23, 23] #[23, 23, 26] false) := ⟨by kernel_rfl⟩
instance : Siz Tryd.prog 49 1 := ⟨by kernel_rfl⟩
instance : Sgl Tryd.prog 49 := ⟨_, Und.out, rfl⟩
instance : Zer Tryd.prog 49 (.nilFunc) [.nilFunc] := ⟨by kernel_rfl, rfl⟩
instance : Row Tryd.prog 49 1 8 := Row.of (n := 0) (by kernel_rfl)
instance : Und Tryd.prog 50 (.func #[9] #[23] false) := ⟨by kernel_rfl⟩
instance : Siz Tryd.prog 50 1 := ⟨by kernel_rfl⟩
instance : Sgl Tryd.prog 50 := ⟨_, Und.out, rfl⟩
instance : Zer Tryd.prog 50 (.nilFunc) [.nilFunc] := ⟨by kernel_rfl, rfl⟩
instance : Row Tryd.prog 50 1 8 := Row.of (n := 0) (by kernel_rfl)
instance : Und Tryd.prog 51 (.func #[9, 3] #[9] false) := ⟨by kernel_rfl⟩
instance : Siz Tryd.prog 51 1 := ⟨by kernel_rfl⟩
instance : Sgl Tryd.prog 51 := ⟨_, Und.out, rfl⟩
instance : Zer Tryd.prog 51 (.nilFunc) [.nilFunc] := ⟨by kernel_rfl, rfl⟩
instance : Row Tryd.prog 51 1 8 := Row.of (n := 0) (by kernel_rfl)
instance : Und Tryd.prog 52 (.func #[23, 23, 3, 3, 9] #[4] false) := ⟨by kernel_rfl⟩
instance : Siz Tryd.prog 52 1 := ⟨by kernel_rfl⟩
instance : Sgl Tryd.prog 52 := ⟨_, Und.out, rfl⟩
instance : Zer Tryd.prog 52 (.nilFunc) [.nilFunc] := ⟨by kernel_rfl, rfl⟩
instance : Row Tryd.prog 52 1 8 := Row.of (n := 0) (by kernel_rfl)
instance : Und Tryd.prog 53 (.pointer 56) := ⟨by kernel_rfl⟩
instance : Siz Tryd.prog 53 1 := ⟨by kernel_rfl⟩
instance : Sgl Tryd.prog 53 := ⟨_, Und.out, rfl⟩
instance : Zer Tryd.prog 53 (.pointer none) [.pointer none] := ⟨by kernel_rfl, rfl⟩
instance : Row Tryd.prog 53 1 8 := Row.of (n := 0) (by kernel_rfl)
instance : Und Tryd.prog 54 (.slice 5) := ⟨by kernel_rfl⟩
instance : Siz Tryd.prog 54 1 := ⟨by kernel_rfl⟩
instance : Sgl Tryd.prog 54 := ⟨_, Und.out, rfl⟩
instance : Zer Tryd.prog 54 (.slice none 0 0) [.slice none 0 0] := ⟨by kernel_rfl, rfl⟩
instance : Row Tryd.prog 54 1 24 := Row.of (n := 0) (by kernel_rfl)
instance : Und Tryd.prog 55 (.struct (Tryd.prog.fieldsOf 55)) := ⟨by kernel_rfl⟩
instance : Siz Tryd.prog 55 2 := ⟨by kernel_rfl⟩
instance : Agl Tryd.prog 55 := ⟨_, Und.out, rfl⟩
instance : Zer Tryd.prog 55 (.agg #[.pointer none, .slice none 0 0]) [.pointer none, .slice none 0 0] := ⟨by kernel_rfl, rfl⟩
instance : Row Tryd.prog 55 2 32 := Row.of (n := 1) (by kernel_rfl)
instance : Fld Tryd.prog 55 0 0 := Fld.of (n := 0) (by kernel_rfl)
instance : Fld Tryd.prog 55 1 1 := Fld.of (n := 0) (by kernel_rfl)
instance : Bld Tryd.prog 55 [(0, 1), (1, 1)] := Bld.of (fs := Tryd.prog.fieldsOf 55) (by kernel_rfl) (fun w => by kernel_rfl)
instance : Und Tryd.prog 56 (.struct (Tryd.prog.fieldsOf 56)) := ⟨by kernel_rfl⟩
instance : Siz Tryd.prog 56 2 := ⟨by kernel_rfl⟩
instance : Agl Tryd.prog 56 := ⟨_, Und.out, rfl⟩
instance : Zer Tryd.prog 56 (.agg #[.pointer none, .slice none 0 0]) [.pointer none, .slice none 0 0] := ⟨by kernel_rfl, rfl⟩
instance : Row Tryd.prog 56 2 32 := Row.of (n := 1) (by kernel_rfl)
instance : Fld Tryd.prog 56 0 0 := Fld.of (n := 0) (by kernel_rfl)
instance : Fld Tryd.prog 56 1 1 := Fld.of (n := 0) (by kernel_rfl)
instance : Bld Tryd.prog 56 [(0, 1), (1, 1)] := Bld.of (fs := Tryd.prog.fieldsOf 56) (by kernel_rfl) (fun w => by kernel_rfl)
instance : Und Tryd.prog 57 (.interface #[("Error", 61)]) := ⟨by kernel_rfl⟩
instance : Siz Tryd.prog 57 1 := ⟨by kernel_rfl⟩
instance : Sgl Tryd.prog 57 := ⟨_, Und.out, rfl⟩
instance : Zer Tryd.prog 57 (.nilIface) [.nilIface] := ⟨by kernel_rfl, rfl⟩
instance : Row Tryd.prog 57 1 16 := Row.of (n := 0) (by kernel_rfl)
instance : Und Tryd.prog 58 (.interface #[("Error", 61)]) := ⟨by kernel_rfl⟩
instance : Siz Tryd.prog 58 1 := ⟨by kernel_rfl⟩
instance : Sgl Tryd.prog 58 := ⟨_, Und.out, rfl⟩
instance : Zer Tryd.prog 58 (.nilIface) [.nilIface] := ⟨by kernel_rfl, rfl⟩
instance : Row Tryd.prog 58 1 16 := Row.of (n := 0) (by kernel_rfl)
instance : Und Tryd.prog 59 (.func #[5] #[58] false) := ⟨by kernel_rfl⟩
instance : Siz Tryd.prog 59 1 := ⟨by kernel_rfl⟩
instance : Sgl Tryd.prog 59 := ⟨_, Und.out, rfl⟩
instance : Zer Tryd.prog 59 (.nilFunc) [.nilFunc] := ⟨by kernel_rfl, rfl⟩
instance : Row Tryd.prog 59 1 8 := Row.of (n := 0) (by kernel_rfl)
instance : Und Tryd.prog 60 (.func #[] #[3] false) := ⟨by kernel_rfl⟩
instance : Siz Tryd.prog 60 1 := ⟨by kernel_rfl⟩
instance : Sgl Tryd.prog 60 := ⟨_, Und.out, rfl⟩
instance : Zer Tryd.prog 60 (.nilFunc) [.nilFunc] := ⟨by kernel_rfl, rfl⟩
instance : Row Tryd.prog 60 1 8 := Row.of (n := 0) (by kernel_rfl)
instance : Und Tryd.prog 61 (.func #[] #[9] false) := ⟨by kernel_rfl⟩
instance : Siz Tryd.prog 61 1 := ⟨by kernel_rfl⟩
instance : Sgl Tryd.prog 61 := ⟨_, Und.out, rfl⟩
instance : Zer Tryd.prog 61 (.nilFunc) [.nilFunc] := ⟨by kernel_rfl, rfl⟩
instance : Row Tryd.prog 61 1 8 := Row.of (n := 0) (by kernel_rfl)
instance : Und Tryd.prog 62 (.func #[9] #[9] false) := ⟨by kernel_rfl⟩
instance : Siz Tryd.prog 62 1 := ⟨by kernel_rfl⟩
instance : Sgl Tryd.prog 62 := ⟨_, Und.out, rfl⟩
instance : Zer Tryd.prog 62 (.nilFunc) [.nilFunc] := ⟨by kernel_rfl, rfl⟩
instance : Row Tryd.prog 62 1 8 := Row.of (n := 0) (by kernel_rfl)
instance : Und Tryd.prog 63 (.func #[9, 5] #[3] false) := ⟨by kernel_rfl⟩
instance : Siz Tryd.prog 63 1 := ⟨by kernel_rfl⟩
instance : Sgl Tryd.prog 63 := ⟨_, Und.out, rfl⟩
instance : Zer Tryd.prog 63 (.nilFunc) [.nilFunc] := ⟨by kernel_rfl, rfl⟩
instance : Row Tryd.prog 63 1 8 := Row.of (n := 0) (by kernel_rfl)
instance : Und Tryd.prog 64 (.func #[22] #[] false) := ⟨by kernel_rfl⟩
instance : Siz Tryd.prog 64 1 := ⟨by kernel_rfl⟩
instance : Sgl Tryd.prog 64 := ⟨_, Und.out, rfl⟩
instance : Zer Tryd.prog 64 (.nilFunc) [.nilFunc] := ⟨by kernel_rfl, rfl⟩
instance : Row Tryd.prog 64 1 8 := Row.of (n := 0) (by kernel_rfl)
instance : Und Tryd.prog 65 (.slice 34) := ⟨by kernel_rfl⟩
instance : Siz Tryd.prog 65 1 := ⟨by kernel_rfl⟩
instance : Sgl Tryd.prog 65 := ⟨_, Und.out, rfl⟩
instance : Zer Tryd.prog 65 (.slice none 0 0) [.slice none 0 0] := ⟨by kernel_rfl, rfl⟩
instance : Row Tryd.prog 65 1 24 := Row.of (n := 0) (by kernel_rfl)
instance : Und Tryd.prog 66 (.func #[] #[65] false) := ⟨by kernel_rfl⟩
instance : Siz Tryd.prog 66 1 := ⟨by kernel_rfl⟩
instance : Sgl Tryd.prog 66 := ⟨_, Und.out, rfl⟩
instance : Zer Tryd.prog 66 (.nilFunc) [.nilFunc] := ⟨by kernel_rfl, rfl⟩
instance : Row Tryd.prog 66 1 8 := Row.of (n := 0) (by kernel_rfl)
instance : Und Tryd.prog 67 (.func #[86] #[] false) := ⟨by kernel_rfl⟩
instance : Siz Tryd.prog 67 1 := ⟨by kernel_rfl⟩
instance : Sgl Tryd.prog 67 := ⟨_, Und.out, rfl⟩
instance : Zer Tryd.prog 67 (.nilFunc) [.nilFunc] := ⟨by kernel_rfl, rfl⟩
instance : Row Tryd.prog 67 1 8 := Row.of (n := 0) (by kernel_rfl)
instance : Und Tryd.prog 68 (.func #[86] #[] false) := ⟨by kernel_rfl⟩
instance : Siz Tryd.prog 68 1 := ⟨by kernel_rfl⟩
instance : Sgl Tryd.prog 68 := ⟨_, Und.out, rfl⟩
instance : Zer Tryd.prog 68 (.nilFunc) [.nilFunc] := ⟨by kernel_rfl, rfl⟩
instance : Row Tryd.prog 68 1 8 := Row.of (n := 0) (by kernel_rfl)
instance : Und Tryd.prog 69 (.func #[22, 3] #[68] false) := ⟨by kernel_rfl⟩
instance : Siz Tryd.prog 69 1 := ⟨by kernel_rfl⟩
instance : Sgl Tryd.prog 69 := ⟨_, Und.out, rfl⟩
instance : Zer Tryd.prog 69 (.nilFunc) [.nilFunc] := ⟨by kernel_rfl, rfl⟩
instance : Row Tryd.prog 69 1 8 := Row.of (n := 0) (by kernel_rfl)
instance : Und Tryd.prog 70 (.tuple #[34, 34]) := ⟨by kernel_rfl⟩
instance : Siz Tryd.prog 70 1 := ⟨by kernel_rfl⟩
instance : Sgl Tryd.prog 70 := ⟨_, Und.out, rfl⟩
instance : Und Tryd.prog 71 (.func #[34, 34] #[34, 34] false) := ⟨by kernel_rfl⟩
instance : Siz Tryd.prog 71 1 := ⟨by kernel_rfl⟩
instance : Sgl Tryd.prog 71 := ⟨_, Und.out, rfl⟩
instance : Zer Tryd.prog 71 (.nilFunc) [.nilFunc] := ⟨by kernel_rfl, rfl⟩
instance : Row Tryd.prog 71 1 8 := Row.of (n := 0) (by kernel_rfl)
instance : Und Tryd.prog 72 (.tuple #[34, 4]) := ⟨by kernel_rfl⟩
instance : Siz Tryd.prog 72 1 := ⟨by kernel_rfl⟩
instance : Sgl Tryd.prog 72 := ⟨_, Und.out, rfl⟩
instance : Und Tryd.prog 73 (.func #[34, 34, 4] #[34, 4] false) := ⟨by kernel_rfl⟩
instance : Siz Tryd.prog 73 1 := ⟨by kernel_rfl⟩
instance : Sgl Tryd.prog 73 := ⟨_, Und.out, rfl⟩
instance : Zer Tryd.prog 73 (.nilFunc) [.nilFunc] := ⟨by kernel_rfl, rfl⟩
instance : Row Tryd.prog 73 1 8 := Row.of (n := 0) (by kernel_rfl)
instance : Und Tryd.prog 74 (.func #[87] #[] false) := ⟨by kernel_rfl⟩
instance : Siz Tryd.prog 74 1 := ⟨by kernel_rfl⟩
instance : Sgl Tryd.prog 74 := ⟨_, Und.out, rfl⟩
instance : Zer Tryd.prog 74 (.nilFunc) [.nilFunc] := ⟨by kernel_rfl, rfl⟩
instance : Row Tryd.prog 74 1 8 := Row.of (n := 0) (by kernel_rfl)
instance : Und Tryd.prog 75 (.func #[87] #[] false) := ⟨by kernel_rfl⟩
instance : Siz Tryd.prog 75 1 := ⟨by kernel_rfl⟩
instance : Sgl Tryd.prog 75 := ⟨_, Und.out, rfl⟩
instance : Zer Tryd.prog 75 (.nilFunc) [.nilFunc] := ⟨by kernel_rfl, rfl⟩
instance : Row Tryd.prog 75 1 8 := Row.of (n := 0) (by kernel_rfl)
instance : Und Tryd.prog 76 (.func #[23, 23, 3] #[75] false) := ⟨by kernel_rfl⟩
instance : Siz Tryd.prog 76 1 := ⟨by kernel_rfl⟩
instance : Sgl Tryd.prog 76 := ⟨_, Und.out, rfl⟩
instance : Zer Tryd.prog 76 (.nilFunc) [.nilFunc] := ⟨by kernel_rfl, rfl⟩
instance : Row Tryd.prog 76 1 8 := Row.of (n := 0) (by kernel_rfl)
instance : Und Tryd.prog 77 (.func #[34] #[65] false) := ⟨by kernel_rfl⟩
instance : Siz Tryd.prog 77 1 := ⟨by kernel_rfl⟩
instance : Sgl Tryd.prog 77 := ⟨_, Und.out, rfl⟩
instance : Zer Tryd.prog 77 (.nilFunc) [.nilFunc] := ⟨by kernel_rfl, rfl⟩
instance : Row Tryd.prog 77 1 8 := Row.of (n := 0) (by kernel_rfl)
instance : Und Tryd.prog 78 (.func #[23, 3] #[34] false) := ⟨by kernel_rfl⟩
instance : Siz Tryd.prog 78 1 := ⟨by kernel_rfl⟩
instance : Sgl Tryd.prog 78 := ⟨_, Und.out, rfl⟩
instance : Zer Tryd.prog 78 (.nilFunc) [.nilFunc] := ⟨by kernel_rfl, rfl⟩
instance : Row Tryd.prog 78 1 8 := Row.of (n := 0) (by kernel_rfl)
instance : Und Tryd.prog 79 (.func #[5] #[3] false) := ⟨by kernel_rfl⟩
instance : Siz Tryd.prog 79 1 := ⟨by kernel_rfl⟩
instance : Sgl Tryd.prog 79 := ⟨_, Und.out, rfl⟩
instance : Zer Tryd.prog 79 (.nilFunc) [.nilFunc] := ⟨by kernel_rfl, rfl⟩
instance : Row Tryd.prog 79 1 8 := Row.of (n := 0) (by kernel_rfl)
instance : Und Tryd.prog 80 (.pointer 5) := ⟨by kernel_rfl⟩
instance : Siz Tryd.prog 80 1 := ⟨by kernel_rfl⟩
instance : Sgl Tryd.prog 80 := ⟨_, Und.out, rfl⟩
instance : Zer Tryd.prog 80 (.pointer none) [.pointer none] := ⟨by kernel_rfl, rfl⟩
instance : Row Tryd.prog 80 1 8 := Row.of (n := 0) (by kernel_rfl)
instance : Und Tryd.prog 81 (.func #[3] #[] false) := ⟨by kernel_rfl⟩
instance : Siz Tryd.prog 81 1 := ⟨by kernel_rfl⟩
instance : Sgl Tryd.prog 81 := ⟨_, Und.out, rfl⟩
instance : Zer Tryd.prog 81 (.nilFunc) [.nilFunc] := ⟨by kernel_rfl, rfl⟩
instance : Row Tryd.prog 81 1 8 := Row.of (n := 0) (by kernel_rfl)
instance : Und Tryd.prog 82 (.tuple #[3, 58]) := ⟨by kernel_rfl⟩
instance : Siz Tryd.prog 82 1 := ⟨by kernel_rfl⟩
instance : Sgl Tryd.prog 82 := ⟨_, Und.out, rfl⟩
instance : Und Tryd.prog 83 (.func #[9] #[3, 58] false) := ⟨by kernel_rfl⟩
instance : Siz Tryd.prog 83 1 := ⟨by kernel_rfl⟩
instance : Sgl Tryd.prog 83 := ⟨_, Und.out, rfl⟩
instance : Zer Tryd.prog 83 (.nilFunc) [.nilFunc] := ⟨by kernel_rfl, rfl⟩
instance : Row Tryd.prog 83 1 8 := Row.of (n := 0) (by kernel_rfl)
instance : Und Tryd.prog 84 (.func #[85, 9] #[9] false) := ⟨by kernel_rfl⟩
instance : Siz Tryd.prog 84 1 := ⟨by kernel_rfl⟩
instance : Sgl Tryd.prog 84 := ⟨_, Und.out, rfl⟩
instance : Zer Tryd.prog 84 (.nilFunc) [.nilFunc] := ⟨by kernel_rfl, rfl⟩
instance : Row Tryd.prog 84 1 8 := Row.of (n := 0) (by kernel_rfl)
instance : Und Tryd.prog 85 (.func #[21] #[21] false) := ⟨by kernel_rfl⟩
instance : Siz Tryd.prog 85 1 := ⟨by kernel_rfl⟩
instance : Sgl Tryd.prog 85 := ⟨_, Und.out, rfl⟩
instance : Zer Tryd.prog 85 (.nilFunc) [.nilFunc] := ⟨by kernel_rfl, rfl⟩
instance : Row Tryd.prog 85 1 8 := Row.of (n := 0) (by kernel_rfl)
instance : Und Tryd.prog 86 (.func #[22] #[4] false) := ⟨by kernel_rfl⟩
instance : Siz Tryd.prog 86 1 := ⟨by kernel_rfl⟩
instance : Sgl Tryd.prog 86 := ⟨_, Und.out, rfl⟩
instance : Zer Tryd.prog 86 (.nilFunc) [.nilFunc] := ⟨by kernel_rfl, rfl⟩
instance : Row Tryd.prog 86 1 8 := Row.of (n := 0) (by kernel_rfl)
instance : Und Tryd.prog 87 (.func #[34, 34] #[4] false) := ⟨by kernel_rfl⟩
instance : Siz Tryd.prog 87 1 := ⟨by kernel_rfl⟩
instance : Sgl Tryd.prog 87 := ⟨_, Und.out, rfl⟩
instance : Zer Tryd.prog 87 (.nilFunc) [.nilFunc] := ⟨by kernel_rfl, rfl⟩
instance : Row Tryd.prog 87 1 8 := Row.of (n := 0) (by kernel_rfl)
instance : Und Tryd.prog 89 (.func #[88] #[88] false) := ⟨by kernel_rfl⟩
instance : Siz Tryd.prog 89 1 := ⟨by kernel_rfl⟩
instance : Sgl Tryd.prog 89 := ⟨_, Und.out, rfl⟩
instance : Zer Tryd.prog 89 (.nilFunc) [.nilFunc] := ⟨by kernel_rfl, rfl⟩
instance : Row Tryd.prog 89 1 8 := Row.of (n := 0) (by kernel_rfl)
instance : Und Tryd.prog 90 (.tuple #[21, 3]) := ⟨by kernel_rfl⟩
instance : Siz Tryd.prog 90 1 := ⟨by kernel_rfl⟩
instance : Sgl Tryd.prog 90 := ⟨_, Und.out, rfl⟩
instance : Und Tryd.prog 91 (.func #[9] #[21, 3] false) := ⟨by kernel_rfl⟩
instance : Siz Tryd.prog 91 1 := ⟨by kernel_rfl⟩
instance : Sgl Tryd.prog 91 := ⟨_, Und.out, rfl⟩
instance : Zer Tryd.prog 91 (.nilFunc) [.nilFunc] := ⟨by kernel_rfl, rfl⟩
instance : Row Tryd.prog 91 1 8 := Row.of (n := 0) (by kernel_rfl)
instance : Und Tryd.prog 92 (.func #[21] #[3] false) := ⟨by kernel_rfl⟩
instance : Siz Tryd.prog 92 1 := ⟨by kernel_rfl⟩
instance : Sgl Tryd.prog 92 := ⟨_, Und.out, rfl⟩
instance : Zer Tryd.prog 92 (.nilFunc) [.nilFunc] := ⟨by kernel_rfl, rfl⟩
instance : Row Tryd.prog 92 1 8 := Row.of (n := 0) (by kernel_rfl)
instance : Und Tryd.prog 93 (.func #[21] #[3, 58] false) := ⟨by kernel_rfl⟩
instance : Siz Tryd.prog 93 1 := ⟨by kernel_rfl⟩
instance : Sgl Tryd.prog 93 := ⟨_, Und.out, rfl⟩
instance : Zer Tryd.prog 93 (.nilFunc) [.nilFunc] := ⟨by kernel_rfl, rfl⟩
instance : Row Tryd.prog 93 1 8 := Row.of (n := 0) (by kernel_rfl)
instance : Und Tryd.prog 94 (.func #[3, 21] #[21] false) := ⟨by kernel_rfl⟩
instance : Siz Tryd.prog 94 1 := ⟨by kernel_rfl⟩
instance : Sgl Tryd.prog 94 := ⟨_, Und.out, rfl⟩
instance : Zer Tryd.prog 94 (.nilFunc) [.nilFunc] := ⟨by kernel_rfl, rfl⟩
instance : Row Tryd.prog 94 1 8 := Row.of (n := 0) (by kernel_rfl)
instance : Und Tryd.prog 95 (.func #[3] #[54] false) := ⟨by kernel_rfl⟩
instance : Siz Tryd.prog 95 1 := ⟨by kernel_rfl⟩
instance : Sgl Tryd.prog 95 := ⟨_, Und.out, rfl⟩
instance : Zer Tryd.prog 95 (.nilFunc) [.nilFunc] := ⟨by kernel_rfl, rfl⟩
instance : Row Tryd.prog 95 1 8 := Row.of (n := 0) (by kernel_rfl)
instance : Und Tryd.prog 96 (.func #[54, 21] #[54] false) := ⟨by kernel_rfl⟩
instance : Siz Tryd.prog 96 1 := ⟨by kernel_rfl⟩
instance : Sgl Tryd.prog 96 := ⟨_, Und.out, rfl⟩
instance : Zer Tryd.prog 96 (.nilFunc) [.nilFunc] := ⟨by kernel_rfl, rfl⟩
instance : Row Tryd.prog 96 1 8 := Row.of (n := 0) (by kernel_rfl)
instance : Und Tryd.prog 97 (.tuple #[21, 4]) := ⟨by kernel_rfl⟩
instance : Siz Tryd.prog 97 1 := ⟨by kernel_rfl⟩
instance : Sgl Tryd.prog 97 := ⟨_, Und.out, rfl⟩
instance : Und Tryd.prog 98 (.func #[3, 21, 99] #[21, 4] false) := ⟨by kernel_rfl⟩
instance : Siz Tryd.prog 98 1 := ⟨by kernel_rfl⟩
instance : Sgl Tryd.prog 98 := ⟨_, Und.out, rfl⟩
instance : Zer Tryd.prog 98 (.nilFunc) [.nilFunc] := ⟨by kernel_rfl, rfl⟩
instance : Row Tryd.prog 98 1 8 := Row.of (n := 0) (by kernel_rfl)
instance : Und Tryd.prog 99 (.slice 111) := ⟨by kernel_rfl⟩
instance : Siz Tryd.prog 99 1 := ⟨by kernel_rfl⟩
instance : Sgl Tryd.prog 99 := ⟨_, Und.out, rfl⟩
instance : Zer Tryd.prog 99 (.slice none 0 0) [.slice none 0 0] := ⟨by kernel_rfl, rfl⟩
instance : Row Tryd.prog 99 1 24 := Row.of (n := 0) (by kernel_rfl)
instance : Und Tryd.prog 100 (.array 256 5) := ⟨by kernel_rfl⟩
instance : Siz Tryd.prog 100 256 := ⟨by kernel_rfl⟩
instance : Agl Tryd.prog 100 := ⟨_, Und.out, rfl⟩
instance : Und Tryd.prog 101 (.struct (Tryd.prog.fieldsOf 101)) := ⟨by kernel_rfl⟩
instance : Siz Tryd.prog 101 2 := ⟨by kernel_rfl⟩
instance : Agl Tryd.prog 101 := ⟨_, Und.out, rfl⟩
instance : Zer Tryd.prog 101 (.agg #[.int .u8 (0), .int .u8 (0)]) [.int .u8 (0), .int .u8 (0)] := ⟨by kernel_rfl, rfl⟩
instance : Row Tryd.prog 101 2 2 := Row.of (n := 1) (by kernel_rfl)
instance : EqT Tryd.prog 101 [.int .u8, .int .u8] := EqT.of (fs := Tryd.prog.fieldsOf 101) (by kernel_rfl) (by kernel_rfl) (by kernel_rfl)
instance : Fld Tryd.prog 101 0 0 := Fld.of (n := 0) (by kernel_rfl)
instance : Fld Tryd.prog 101 1 1 := Fld.of (n := 0) (by kernel_rfl)
instance : Bld Tryd.prog 101 [(0, 1), (1, 1)] := Bld.of (fs := Tryd.prog.fieldsOf 101) (by kernel_rfl) (fun w => by kernel_rfl)
instance : Und Tryd.prog 102 (.struct (Tryd.prog.fieldsOf 102)) := ⟨by kernel_rfl⟩
instance : Siz Tryd.prog 102 2 := ⟨by kernel_rfl⟩
instance : Agl Tryd.prog 102 := ⟨_, Und.out, rfl⟩
instance : Zer Tryd.prog 102 (.agg #[.int .u8 (0), .int .u8 (0)]) [.int .u8 (0), .int .u8 (0)] := ⟨by kernel_rfl, rfl⟩
instance : Row Tryd.prog 102 2 2 := Row.of (n := 1) (by kernel_rfl)
instance : EqT Tryd.prog 102 [.int .u8, .int .u8] := EqT.of (fs := Tryd.prog.fieldsOf 102) (by kernel_rfl) (by kernel_rfl) (by kernel_rfl)
instance : Fld Tryd.prog 102 0 0 := Fld.of (n := 0) (by kernel_rfl)
instance : Fld Tryd.prog 102 1 1 := Fld.of (n := 0) (by kernel_rfl)
instance : Bld Tryd.prog 102 [(0, 1), (1, 1)] := Bld.of (fs := Tryd.prog.fieldsOf 102) (by kernel_rfl) (fun w => by kernel_rfl)
instance : Und Tryd.prog 103 (.array 16 102) := ⟨by kernel_rfl⟩
instance : Siz Tryd.prog 103 32 := ⟨by kernel_rfl⟩
instance : Agl Tryd.prog 103 := ⟨_, Und.out, rfl⟩
instance : Zer Tryd.prog 103 (.agg #[.int .u8 (0), .int .u8 (0), .int .u8 (0), .int .u8 (0), .int .u8 (0), .int .u8 (0), .int .u8 (0), .int .u8 (0), .int .u8 (0), .int .u8 (0), .int .u8 (0), .int .u8 (0), .int .u8 (0), .int .u8 (0), .int .u8 (0), .int .u8 (0), .int .u8 (0), .int .u8 (0), .int .u8 (0), .int .u8 (0), .int .u8 (0), .int .u8 (0), .int .u8 (0), .int .u8 (0), .int .u8 (0), .int .u8 (0), .int .u8 (0), .int .u8 (0), .int .u8 (0), .int .u8 (0), .int .u8 (0), .int .u8 (0)]) [.int .u8 (0), .int .u8 (0), .int .u8 (0), .int .u8 (0), .int .u8 (0), .int .u8 (0), .int .u8 (0), .int .u8 (0), .int .u8 (0), .int .u8 (0), .int .u8 (0), .int .u8 (0), .int .u8 (0), .int .u8 (0), .int .u8 (0), .int .u8 (0), .int .u8 (0), .int .u8 (0), .int .u8 (0), .int .u8 (0), .int .u8 (0), .int .u8 (0), .int .u8 (0), .int .u8 (0), .int .u8 (0), .int .u8 (0), .int .u8 (0), .int .u8 (0), .int .u8 (0), .int .u8 (0), .int .u8 (0), .int .u8 (0)] := ⟨by kernel_rfl, rfl⟩
instance : Row Tryd.prog 103 32 32 := Row.of (n := 31) (by kernel_rfl)
instance : Und Tryd.prog 104 (.int .u32) := ⟨by kernel_rfl⟩
instance : Siz Tryd.prog 104 1 := ⟨by kernel_rfl⟩
instance : Sgl Tryd.prog 104 := ⟨_, Und.out, rfl⟩
instance : Zer Tryd.prog 104 (.int .u32 (0)) [.int .u32 (0)] := ⟨by kernel_rfl, rfl⟩
instance : Row Tryd.prog 104 1 4 := Row.of (n := 0) (by kernel_rfl)
instance : Und Tryd.prog 105 (.pointer 111) := ⟨by kernel_rfl⟩
instance : Siz Tryd.prog 105 1 := ⟨by kernel_rfl⟩
instance : Sgl Tryd.prog 105 := ⟨_, Und.out, rfl⟩
instance : Zer Tryd.prog 105 (.pointer none) [.pointer none] := ⟨by kernel_rfl, rfl⟩
instance : Row Tryd.prog 105 1 8 := Row.of (n := 0) (by kernel_rfl)
instance : Und Tryd.prog 106 (.func #[21, 99] #[105] false) := ⟨by kernel_rfl⟩
instance : Siz Tryd.prog 106 1 := ⟨by kernel_rfl⟩
instance : Sgl Tryd.prog 106 := ⟨_, Und.out, rfl⟩
instance : Zer Tryd.prog 106 (.nilFunc) [.nilFunc] := ⟨by kernel_rfl, rfl⟩
instance : Row Tryd.prog 106 1 8 := Row.of (n := 0) (by kernel_rfl)
instance : Und Tryd.prog 107 (.func #[3, 21, 105] #[21] false) := ⟨by kernel_rfl⟩
instance : Siz Tryd.prog 107 1 := ⟨by kernel_rfl⟩
instance : Sgl Tryd.prog 107 := ⟨_, Und.out, rfl⟩
instance : Zer Tryd.prog 107 (.nilFunc) [.nilFunc] := ⟨by kernel_rfl, rfl⟩
instance : Row Tryd.prog 107 1 8 := Row.of (n := 0) (by kernel_rfl)
instance : Und Tryd.prog 108 (.array 3 21) := ⟨by kernel_rfl⟩
instance : Siz Tryd.prog 108 3 := ⟨by kernel_rfl⟩
instance : Agl Tryd.prog 108 := ⟨_, Und.out, rfl⟩
instance : Zer Tryd.prog 108 (.agg #[.int .i32 (0), .int .i32 (0), .int .i32 (0)]) [.int .i32 (0), .int .i32 (0), .int .i32 (0)] := ⟨by kernel_rfl, rfl⟩
instance : Row Tryd.prog 108 3 12 := Row.of (n := 2) (by kernel_rfl)
instance : Und Tryd.prog 109 (.array 3 21) := ⟨by kernel_rfl⟩
instance : Siz Tryd.prog 109 3 := ⟨by kernel_rfl⟩
instance : Agl Tryd.prog 109 := ⟨_, Und.out, rfl⟩
instance : Zer Tryd.prog 109 (.agg #[.int .i32 (0), .int .i32 (0), .int .i32 (0)]) [.int .i32 (0), .int .i32 (0), .int .i32 (0)] := ⟨by kernel_rfl, rfl⟩
instance : Row Tryd.prog 109 3 12 := Row.of (n := 2) (by kernel_rfl)
instance : Und Tryd.prog 110 (.struct (Tryd.prog.fieldsOf 110)) := ⟨by kernel_rfl⟩
instance : Siz Tryd.prog 110 5 := ⟨by kernel_rfl⟩
instance : Agl Tryd.prog 110 := ⟨_, Und.out, rfl⟩
instance : Zer Tryd.prog 110 (.agg #[.int .u32 (0), .int .u32 (0), .int .i32 (0), .int .i32 (0), .int .i32 (0)]) [.int .u32 (0), .int .u32 (0), .int .i32 (0), .int .i32 (0), .int .i32 (0)] := ⟨by kernel_rfl, rfl⟩
instance : Row Tryd.prog 110 5 20 := Row.of (n := 4) (by kernel_rfl)
instance : Fld Tryd.prog 110 0 0 := Fld.of (n := 0) (by kernel_rfl)
instance : Fld Tryd.prog 110 1 1 := Fld.of (n := 0) (by kernel_rfl)
instance : Fld Tryd.prog 110 2 2 := Fld.of (n := 2) (by kernel_rfl)
instance : Bld Tryd.prog 110 [(0, 1), (1, 1), (2, 3)] := Bld.of (fs := Tryd.prog.fieldsOf 110) (by kernel_rfl) (fun w => by kernel_rfl)
instance : Und Tryd.prog 111 (.struct (Tryd.prog.fieldsOf 111)) := ⟨by kernel_rfl⟩
instance : Siz Tryd.prog 111 5 := ⟨by kernel_rfl⟩
instance : Agl Tryd.prog 111 := ⟨_, Und.out, rfl⟩
instance : Zer Tryd.prog 111 (.agg #[.int .u32 (0), .int .u32 (0), .int .i32 (0), .int .i32 (0), .int .i32 (0)]) [.int .u32 (0), .int .u32 (0), .int .i32 (0), .int .i32 (0), .int .i32 (0)] := ⟨by kernel_rfl, rfl⟩
instance : Row Tryd.prog 111 5 20 := Row.of (n := 4) (by kernel_rfl)
instance : Fld Tryd.prog 111 0 0 := Fld.of (n := 0) (by kernel_rfl)
instance : Fld Tryd.prog 111 1 1 := Fld.of (n := 0) (by kernel_rfl)
instance : Fld Tryd.prog 111 2 2 := Fld.of (n := 2) (by kernel_rfl)
instance : Bld Tryd.prog 111 [(0, 1), (1, 1), (2, 3)] := Bld.of (fs := Tryd.prog.fieldsOf 111) (by kernel_rfl) (fun w => by kernel_rfl)
instance : Und Tryd.prog 112 (.struct (Tryd.prog.fieldsOf 112)) := ⟨by kernel_rfl⟩
instance : Siz Tryd.prog 112 4 := ⟨by kernel_rfl⟩
instance : Agl Tryd.prog 112 := ⟨_, Und.out, rfl⟩
instance : Zer Tryd.prog 112 (.agg #[.pointer none, .pointer none, .pointer none, .string ⟨#[]⟩]) [.pointer none, .pointer none, .pointer none, .string ⟨#[]⟩] := ⟨by kernel_rfl, rfl⟩
instance : Row Tryd.prog 112 4 40 := Row.of (n := 3) (by kernel_rfl)
instance : Fld Tryd.prog 112 0 0 := Fld.of (n := 0) (by kernel_rfl)
instance : Fld Tryd.prog 112 1 1 := Fld.of (n := 0) (by kernel_rfl)
instance : Fld Tryd.prog 112 2 2 := Fld.of (n := 0) (by kernel_rfl)
instance : Fld Tryd.prog 112 3 3 := Fld.of (n := 0) (by kernel_rfl)
instance : Bld Tryd.prog 112 [(0, 1), (1, 1), (2, 1), (3, 1)] := Bld.of (fs := Tryd.prog.fieldsOf 112) (by kernel_rfl) (fun w => by kernel_rfl)
instance : Und Tryd.prog 113 (.struct (Tryd.prog.fieldsOf 113)) := ⟨by kernel_rfl⟩
instance : Siz Tryd.prog 113 4 := ⟨by kernel_rfl⟩
instance : Agl Tryd.prog 113 := ⟨_, Und.out, rfl⟩
instance : Zer Tryd.prog 113 (.agg #[.pointer none, .pointer none, .pointer none, .string ⟨#[]⟩]) [.pointer none, .pointer none, .pointer none, .string ⟨#[]⟩] := ⟨by kernel_rfl, rfl⟩
instance : Row Tryd.prog 113 4 40 := Row.of (n := 3) (by kernel_rfl)
instance : Fld Tryd.prog 113 0 0 := Fld.of (n := 0) (by kernel_rfl)
instance : Fld Tryd.prog 113 1 1 := Fld.of (n := 0) (by kernel_rfl)
instance : Fld Tryd.prog 113 2 2 := Fld.of (n := 0) (by kernel_rfl)
instance : Fld Tryd.prog 113 3 3 := Fld.of (n := 0) (by kernel_rfl)
instance : Bld Tryd.prog 113 [(0, 1), (1, 1), (2, 1), (3, 1)] := Bld.of (fs := Tryd.prog.fieldsOf 113) (by kernel_rfl) (fun w => by kernel_rfl)
instance : Und Tryd.prog 114 (.array 0 16) := ⟨by kernel_rfl⟩
instance : Siz Tryd.prog 114 0 := ⟨by kernel_rfl⟩
instance : Agl Tryd.prog 114 := ⟨_, Und.out, rfl⟩
instance : Zer Tryd.prog 114 (.agg #[]) [] := ⟨by kernel_rfl, rfl⟩
instance : Und Tryd.prog 115 (.struct (Tryd.prog.fieldsOf 115)) := ⟨by kernel_rfl⟩
instance : Siz Tryd.prog 115 0 := ⟨by kernel_rfl⟩
instance : Agl Tryd.prog 115 := ⟨_, Und.out, rfl⟩
instance : Zer Tryd.prog 115 (.agg #[]) [] := ⟨by kernel_rfl, rfl⟩
instance : Bld Tryd.prog 115 [(0, 0)] := Bld.of (fs := Tryd.prog.fieldsOf 115) (by kernel_rfl) (fun w => by kernel_rfl)
instance : Und Tryd.prog 116 (.struct (Tryd.prog.fieldsOf 116)) := ⟨by kernel_rfl⟩
instance : Siz Tryd.prog 116 0 := ⟨by kernel_rfl⟩
instance : Agl Tryd.prog 116 := ⟨_, Und.out, rfl⟩
instance : Zer Tryd.prog 116 (.agg #[]) [] := ⟨by kernel_rfl, rfl⟩
instance : Bld Tryd.prog 116 [(0, 0)] := Bld.of (fs := Tryd.prog.fieldsOf 116) (by kernel_rfl) (fun w => by kernel_rfl)
instance : Und Tryd.prog 117 (.int .u8) := ⟨by kernel_rfl⟩
instance : Siz Tryd.prog 117 1 := ⟨by kernel_rfl⟩
instance : Sgl Tryd.prog 117 := ⟨_, Und.out, rfl⟩
instance : Zer Tryd.prog 117 (.int .u8 (0)) [.int .u8 (0)] := ⟨by kernel_rfl, rfl⟩
instance : Row Tryd.prog 117 1 1 := Row.of (n := 0) (by kernel_rfl)
instance : Und Tryd.prog 118 (.int .u8) := ⟨by kernel_rfl⟩
instance : Siz Tryd.prog 118 1 := ⟨by kernel_rfl⟩
instance : Sgl Tryd.prog 118 := ⟨_, Und.out, rfl⟩
instance : Zer Tryd.prog 118 (.int .u8 (0)) [.int .u8 (0)] := ⟨by kernel_rfl, rfl⟩
instance : Row Tryd.prog 118 1 1 := Row.of (n := 0) (by kernel_rfl)
instance : Und Tryd.prog 119 (.func #[88, 88] #[4] false) := ⟨by kernel_rfl⟩
instance : Siz Tryd.prog 119 1 := ⟨by kernel_rfl⟩
instance : Sgl Tryd.prog 119 := ⟨_, Und.out, rfl⟩
instance : Zer Tryd.prog 119 (.nilFunc) [.nilFunc] := ⟨by kernel_rfl, rfl⟩
instance : Row Tryd.prog 119 1 8 := Row.of (n := 0) (by kernel_rfl)
instance : Und Tryd.prog 120 (.int .i32) := ⟨by kernel_rfl⟩
instance : Siz Tryd.prog 120 1 := ⟨by kernel_rfl⟩
instance : Sgl Tryd.prog 120 := ⟨_, Und.out, rfl⟩
instance : Zer Tryd.prog 120 (.int .i32 (0)) [.int .i32 (0)] := ⟨by kernel_rfl, rfl⟩
instance : Row Tryd.prog 120 1 4 := Row.of (n := 0) (by kernel_rfl)
instance : Und Tryd.prog 121 (.int .i32) := ⟨by kernel_rfl⟩
instance : Siz Tryd.prog 121 1 := ⟨by kernel_rfl⟩
instance : Sgl Tryd.prog 121 := ⟨_, Und.out, rfl⟩
instance : Zer Tryd.prog 121 (.int .i32 (0)) [.int .i32 (0)] := ⟨by kernel_rfl, rfl⟩
instance : Row Tryd.prog 121 1 4 := Row.of (n := 0) (by kernel_rfl)
instance : Und Tryd.prog 122 (.struct (Tryd.prog.fieldsOf 122)) := ⟨by kernel_rfl⟩
instance : Siz Tryd.prog 122 11 := ⟨by kernel_rfl⟩
instance : Agl Tryd.prog 122 := ⟨_, Und.out, rfl⟩
instance : Zer Tryd.prog 122 (.agg #[.int .u64 (0), .int .u64 (0), .int .u32 (0), .int .u8 (0), .int .u8 (0), .int .u8 (0), .int .u8 (0), .nilFunc, .pointer none, .int .i32 (0), .int .i32 (0)]) [.int .u64 (0), .int .u64 (0), .int .u32 (0), .int .u8 (0), .int .u8 (0), .int .u8 (0), .int .u8 (0), .nilFunc, .pointer none, .int .i32 (0), .int .i32 (0)] := ⟨by kernel_rfl, rfl⟩
instance : Row Tryd.prog 122 11 48 := Row.of (n := 10) (by kernel_rfl)
instance : Fld Tryd.prog 122 0 0 := Fld.of (n := 0) (by kernel_rfl)
instance : Fld Tryd.prog 122 1 1 := Fld.of (n := 0) (by kernel_rfl)
instance : Fld Tryd.prog 122 2 2 := Fld.of (n := 0) (by kernel_rfl)
instance : Fld Tryd.prog 122 3 3 := Fld.of (n := 0) (by kernel_rfl)
instance : Fld Tryd.prog 122 4 4 := Fld.of (n := 0) (by kernel_rfl)
instance : Fld Tryd.prog 122 5 5 := Fld.of (n := 0) (by kernel_rfl)
instance : Fld Tryd.prog 122 6 6 := Fld.of (n := 0) (by kernel_rfl)
instance : Fld Tryd.prog 122 7 7 := Fld.of (n := 0) (by kernel_rfl)
instance : Fld Tryd.prog 122 8 8 := Fld.of (n := 0) (by kernel_rfl)
instance : Fld Tryd.prog 122 9 9 := Fld.of (n := 0) (by kernel_rfl)
instance : Fld Tryd.prog 122 10 10 := Fld.of (n := 0) (by kernel_rfl)
instance : Bld Tryd.prog 122 [(0, 1), (1, 1), (2, 1), (3, 1), (4, 1), (5, 1), (6, 1), (7, 1), (8, 1), (9, 1), (10, 1)] := Bld.of (fs := Tryd.prog.fieldsOf 122) (by kernel_rfl) (fun w => by kernel_rfl)
instance : Und Tryd.prog 123 (.struct (Tryd.prog.fieldsOf 123)) := ⟨by kernel_rfl⟩
instance : Siz Tryd.prog 123 11 := ⟨by kernel_rfl⟩
instance : Agl Tryd.prog 123 := ⟨_, Und.out, rfl⟩
instance : Zer Tryd.prog 123 (.agg #[.int .u64 (0), .int .u64 (0), .int .u32 (0), .int .u8 (0), .int .u8 (0), .int .u8 (0), .int .u8 (0), .nilFunc, .pointer none, .int .i32 (0), .int .i32 (0)]) [.int .u64 (0), .int .u64 (0), .int .u32 (0), .int .u8 (0), .int .u8 (0), .int .u8 (0), .int .u8 (0), .nilFunc, .pointer none, .int .i32 (0), .int .i32 (0)] := ⟨by kernel_rfl, rfl⟩
instance : Row Tryd.prog 123 11 48 := Row.of (n := 10) (by kernel_rfl)
instance : Fld Tryd.prog 123 0 0 := Fld.of (n := 0) (by kernel_rfl)
instance : Fld Tryd.prog 123 1 1 := Fld.of (n := 0) (by kernel_rfl)
instance : Fld Tryd.prog 123 2 2 := Fld.of (n := 0) (by kernel_rfl)
instance : Fld Tryd.prog 123 3 3 := Fld.of (n := 0) (by kernel_rfl)
instance : Fld Tryd.prog 123 4 4 := Fld.of (n := 0) (by kernel_rfl)
instance : Fld Tryd.prog 123 5 5 := Fld.of (n := 0) (by kernel_rfl)
instance : Fld Tryd.prog 123 6 6 := Fld.of (n := 0) (by kernel_rfl)
instance : Fld Tryd.prog 123 7 7 := Fld.of (n := 0) (by kernel_rfl)
instance : Fld Tryd.prog 123 8 8 := Fld.of (n := 0) (by kernel_rfl)
instance : Fld Tryd.prog 123 9 9 := Fld.of (n := 0) (by kernel_rfl)
instance : Fld Tryd.prog 123 10 10 := Fld.of (n := 0) (by kernel_rfl)
instance : Bld Tryd.prog 123 [(0, 1), (1, 1), (2, 1), (3, 1), (4, 1), (5, 1), (6, 1), (7, 1), (8, 1), (9, 1), (10, 1)] := Bld.of (fs := Tryd.prog.fieldsOf 123) (by kernel_rfl) (fun w => by kernel_rfl)
instance : Fun Tryd.prog 2 := ⟨_, Tryd.func2, by kernel_rfl, rfl⟩
instance : Fun Tryd.prog 3 := ⟨_, Tryd.func3, by kernel_rfl, rfl⟩
instance : Fun Tryd.prog 4 := ⟨_, Tryd.func4, by kernel_rfl, rfl⟩
instance : Fun Tryd.prog 5 := ⟨_, Tryd.func5, by kernel_rfl, rfl⟩
instance : Fun Tryd.prog 6 := ⟨_, Tryd.func6, by kernel_rfl, rfl⟩
instance : Fun Tryd.prog 7 := ⟨_, Tryd.func7, by kernel_rfl, rfl⟩
instance : Fun Tryd.prog 8 := ⟨_, Tryd.func8, by kernel_rfl, rfl⟩
instance : Fun Tryd.prog 9 := ⟨_, Tryd.func9, by kernel_rfl, rfl⟩
instance : Fun Tryd.prog 10 := ⟨_, Tryd.func10, by kernel_rfl, rfl⟩
instance : Fun Tryd.prog 11 := ⟨_, Tryd.func11, by kernel_rfl, rfl⟩
instance : Fun Tryd.prog 12 := ⟨_, Tryd.func12, by kernel_rfl, rfl⟩
instance : Fun Tryd.prog 13 := ⟨_, Tryd.func13, by kernel_rfl, rfl⟩
instance : Fun Tryd.prog 14 := ⟨_, Tryd.func14, by kernel_rfl, rfl⟩
instance : Fun Tryd.prog 15 := ⟨_, Tryd.func15, by kernel_rfl, rfl⟩
instance : Fun Tryd.prog 16 := ⟨_, Tryd.func16, by kernel_rfl, rfl⟩
instance : Fun Tryd.prog 17 := ⟨_, Tryd.func17, by kernel_rfl, rfl⟩
instance : Fun Tryd.prog 18 := ⟨_, Tryd.func18, by kernel_rfl, rfl⟩
instance : Fun Tryd.prog 19 := ⟨_, Tryd.func19, by kernel_rfl, rfl⟩
instance : Fun Tryd.prog 20 := ⟨_, Tryd.func20, by kernel_rfl, rfl⟩
instance : Fun Tryd.prog 21 := ⟨_, Tryd.func21, by kernel_rfl, rfl⟩
instance : Fun Tryd.prog 22 := ⟨_, Tryd.func22, by kernel_rfl, rfl⟩
instance : Fun Tryd.prog 23 := ⟨_, Tryd.func23, by kernel_rfl, rfl⟩
instance : Fun Tryd.prog 24 := ⟨_, Tryd.func24, by kernel_rfl, rfl⟩
instance : Fun Tryd.prog 25 := ⟨_, Tryd.func25, by kernel_rfl, rfl⟩
instance : Fun Tryd.prog 26 := ⟨_, Tryd.func26, by kernel_rfl, rfl⟩
instance : Fun Tryd.prog 27 := ⟨_, Tryd.func27, by kernel_rfl, rfl⟩
instance : Fun Tryd.prog 28 := ⟨_, Tryd.func28, by kernel_rfl, rfl⟩
instance : Fun Tryd.prog 29 := ⟨_, Tryd.func29, by kernel_rfl, rfl⟩
instance : Fun Tryd.prog 30 := ⟨_, Tryd.func30, by kernel_rfl, rfl⟩
instance : Fun Tryd.prog 31 := ⟨_, Tryd.func31, by kernel_rfl, rfl⟩
instance : Fun Tryd.prog 32 := ⟨_, Tryd.func32, by kernel_rfl, rfl⟩
instance : Fun Tryd.prog 33 := ⟨_, Tryd.func33, by kernel_rfl, rfl⟩
instance : Fun Tryd.prog 34 := ⟨_, Tryd.func34, by kernel_rfl, rfl⟩
instance : Fun Tryd.prog 35 := ⟨_, Tryd.func35, by kernel_rfl, rfl⟩
instance : Fun Tryd.prog 36 := ⟨_, Tryd.func36, by kernel_rfl, rfl⟩
instance : Fun Tryd.prog 37 := ⟨_, Tryd.func37, by kernel_rfl, rfl⟩
instance : Fun Tryd.prog 38 := ⟨_, Tryd.func38, by kernel_rfl, rfl⟩
instance : Fun Tryd.prog 39 := ⟨_, Tryd.func39, by kernel_rfl, rfl⟩
instance : Fun Tryd.prog 40 := ⟨_, Tryd.func40, by kernel_rfl, rfl⟩
instance : Fun Tryd.prog 41 := ⟨_, Tryd.func41, by kernel_rfl, rfl⟩
instance : Fun Tryd.prog 42 := ⟨_, Tryd.func42, by kernel_rfl, rfl⟩
instance : Fun Tryd.prog 43 := ⟨_, Tryd.func43, by kernel_rfl, rfl⟩
instance : Fun Tryd.prog 44 := ⟨_, Tryd.func44, by kernel_rfl, rfl⟩
instance : Fun Tryd.prog 45 := ⟨_, Tryd.func45, by kernel_rfl, rfl⟩
instance : Fun Tryd.prog 46 := ⟨_, Tryd.func46, by kernel_rfl, rfl⟩
instance : Fun Tryd.prog 47 := ⟨_, Tryd.func47, by kernel_rfl, rfl⟩
instance : Fun Tryd.prog 48 := ⟨_, Tryd.func48, by kernel_rfl, rfl⟩
instance : Fun Tryd.prog 49 := ⟨_, Tryd.func49, by kernel_rfl, rfl⟩
instance : Fun Tryd.prog 50 := ⟨_, Tryd.func50, by kernel_rfl, rfl⟩
instance : Fun Tryd.prog 51 := ⟨_, Tryd.func51, by kernel_rfl, rfl⟩
instance : Fun Tryd.prog 52 := ⟨_, Tryd.func52, by kernel_rfl, rfl⟩
instance : Fun Tryd.prog 53 := ⟨_, Tryd.func53, by kernel_rfl, rfl⟩
instance : Fun Tryd.prog 54 := ⟨_, Tryd.func54, by kernel_rfl, rfl⟩
instance : Fun Tryd.prog 55 := ⟨_, Tryd.func55, by kernel_rfl, rfl⟩
instance : Fun Tryd.prog 56 := ⟨_, Tryd.func56, by kernel_rfl, rfl⟩
instance : Fun Tryd.prog 57 := ⟨_, Tryd.func57, by kernel_rfl, rfl⟩
instance : Fun Tryd.prog 58 := ⟨_, Tryd.func58, by kernel_rfl, rfl⟩
instance : Fun Tryd.prog 59 := ⟨_, Tryd.func59, by kernel_rfl, rfl⟩
instance : Fun Tryd.prog 60 := ⟨_, Tryd.func60, by kernel_rfl, rfl⟩
instance : Fun Tryd.prog 61 := ⟨_, Tryd.func61, by kernel_rfl, rfl⟩
instance : Fun Tryd.prog 62 := ⟨_, Tryd.func62, by kernel_rfl, rfl⟩
instance : Fun Tryd.prog 63 := ⟨_, Tryd.func63, by kernel_rfl, rfl⟩
instance : Fun Tryd.prog 64 := ⟨_, Tryd.func64, by kernel_rfl, rfl⟩
instance : Fun Tryd.prog 65 := ⟨_, Tryd.func65, by kernel_rfl, rfl⟩
instance : Fun Tryd.prog 66 := ⟨_, Tryd.func66, by kernel_rfl, rfl⟩
instance : Fun Tryd.prog 67 := ⟨_, Tryd.func67, by kernel_rfl, rfl⟩
instance : Fun Tryd.prog 68 := ⟨_, Tryd.func68, by kernel_rfl, rfl⟩
instance : Fun Tryd.prog 69 := ⟨_, Tryd.func69, by kernel_rfl, rfl⟩
instance : Fun Tryd.prog 70 := ⟨_, Tryd.func70, by kernel_rfl, rfl⟩
instance : Fun Tryd.prog 72 := ⟨_, Tryd.func72, by kernel_rfl, rfl⟩
instance : Fun Tryd.prog 73 := ⟨_, Tryd.func73, by kernel_rfl, rfl⟩
instance : Fun Tryd.prog 74 := ⟨_, Tryd.func74, by kernel_rfl, rfl⟩
instance : Fun Tryd.prog 75 := ⟨_, Tryd.func75, by kernel_rfl, rfl⟩
instance : Fun Tryd.prog 76 := ⟨_, Tryd.func76, by kernel_rfl, rfl⟩
instance : Fun Tryd.prog 77 := ⟨_, Tryd.func77, by kernel_rfl, rfl⟩
instance : Fun Tryd.prog 80 := ⟨_, Tryd.func80, by kernel_rfl, rfl⟩
instance : Fun Tryd.prog 81 := ⟨_, Tryd.func81, by kernel_rfl, rfl⟩
instance : Fun Tryd.prog 82 := ⟨_, Tryd.func82, by kernel_rfl, rfl⟩
instance : Fun Tryd.prog 83 := ⟨_, Tryd.func83, by kernel_rfl, rfl⟩
instance : Fun Tryd.prog 84 := ⟨_, Tryd.func84, by kernel_rfl, rfl⟩
instance : Fun Tryd.prog 85 := ⟨_, Tryd.func85, by kernel_rfl, rfl⟩
instance : Fun Tryd.prog 108 := ⟨_, Tryd.func108, by kernel_rfl, rfl⟩
end Go.Proofs.YtpemoeincepilaaDoor
