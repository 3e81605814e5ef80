/- What the program's types and functions are, told to the separation logic's rules. Each by the kernel. -/
import Derived.Test.YtokcamgipnaoeaaDoorProg
import Derived.Test.YtokcamgipnaoeaaDoorSepX
import Derived.KernelRfl
set_option maxRecDepth 100000
namespace Go.Proofs.YtokcamgipnaoeaaDoor
open Go.Proofs.YtokcamgipnaoeaaDoor.SL
instance : Und Tryd.prog 0 (.tuple #[]) := ⟨by kernel_rfl⟩
instance : Siz Tryd.prog 0 1 := ⟨by kernel_rfl⟩
instance : Sgl Tryd.prog 0 := ⟨_, Und.out, rfl⟩
instance : Und Tryd.prog 1 (.func #[] #[] false) := ⟨by kernel_rfl⟩
instance : Siz Tryd.prog 1 1 := ⟨by kernel_rfl⟩
instance : Sgl Tryd.prog 1 := ⟨_, Und.out, rfl⟩
instance : Zer Tryd.prog 1 (.nilFunc) [.nilFunc] := ⟨by kernel_rfl, rfl⟩
instance : Row Tryd.prog 1 1 8 := Row.of (n := 0) (by kernel_rfl)
instance : Und Tryd.prog 2 (.int .i64) := ⟨by kernel_rfl⟩
instance : Siz Tryd.prog 2 1 := ⟨by kernel_rfl⟩
instance : Sgl Tryd.prog 2 := ⟨_, Und.out, rfl⟩
instance : Zer Tryd.prog 2 (.int .i64 (0)) [.int .i64 (0)] := ⟨by kernel_rfl, rfl⟩
instance : Row Tryd.prog 2 1 8 := Row.of (n := 0) (by kernel_rfl)
instance : Und Tryd.prog 3 (.int .i64) := ⟨by kernel_rfl⟩
instance : Siz Tryd.prog 3 1 := ⟨by kernel_rfl⟩
instance : Sgl Tryd.prog 3 := ⟨_, Und.out, rfl⟩
instance : Zer Tryd.prog 3 (.int .i64 (0)) [.int .i64 (0)] := ⟨by kernel_rfl, rfl⟩
instance : Row Tryd.prog 3 1 8 := Row.of (n := 0) (by kernel_rfl)
instance : Und Tryd.prog 4 (.bool) := ⟨by kernel_rfl⟩
instance : Siz Tryd.prog 4 1 := ⟨by kernel_rfl⟩
instance : Sgl Tryd.prog 4 := ⟨_, Und.out, rfl⟩
instance : Zer Tryd.prog 4 (.bool false) [.bool false] := ⟨by kernel_rfl, rfl⟩
instance : Row Tryd.prog 4 1 1 := Row.of (n := 0) (by kernel_rfl)
instance : Und Tryd.prog 5 (.int .u8) := ⟨by kernel_rfl⟩
instance : Siz Tryd.prog 5 1 := ⟨by kernel_rfl⟩
instance : Sgl Tryd.prog 5 := ⟨_, Und.out, rfl⟩
instance : Zer Tryd.prog 5 (.int .u8 (0)) [.int .u8 (0)] := ⟨by kernel_rfl, rfl⟩
instance : Row Tryd.prog 5 1 1 := Row.of (n := 0) (by kernel_rfl)
instance : Und Tryd.prog 6 (.int .u8) := ⟨by kernel_rfl⟩
instance : Siz Tryd.prog 6 1 := ⟨by kernel_rfl⟩
instance : Sgl Tryd.prog 6 := ⟨_, Und.out, rfl⟩
instance : Zer Tryd.prog 6 (.int .u8 (0)) [.int .u8 (0)] := ⟨by kernel_rfl, rfl⟩
instance : Row Tryd.prog 6 1 1 := Row.of (n := 0) (by kernel_rfl)
instance : Und Tryd.prog 7 (.struct (Tryd.prog.fieldsOf 7)) := ⟨by kernel_rfl⟩
instance : Siz Tryd.prog 7 4 := ⟨by kernel_rfl⟩
instance : Agl Tryd.prog 7 := ⟨_, Und.out, rfl⟩
instance : Zer Tryd.prog 7 (.agg #[.int .i64 (0), .int .i64 (0), .bool false, .int .u8 (0)]) [.int .i64 (0), .int .i64 (0), .bool false, .int .u8 (0)] := ⟨by kernel_rfl, rfl⟩
instance : Row Tryd.prog 7 4 24 := Row.of (n := 3) (by kernel_rfl)
instance : EqT Tryd.prog 7 [.int .i64, .int .i64, .bool, .int .u8] := EqT.of (fs := Tryd.prog.fieldsOf 7) (by kernel_rfl) (by kernel_rfl) (by kernel_rfl)
instance : Fld Tryd.prog 7 0 0 := Fld.of (n := 0) (by kernel_rfl)
instance : Fld Tryd.prog 7 1 1 := Fld.of (n := 0) (by kernel_rfl)
instance : Fld Tryd.prog 7 2 2 := Fld.of (n := 0) (by kernel_rfl)
instance : Fld Tryd.prog 7 3 3 := Fld.of (n := 0) (by kernel_rfl)
instance : Bld Tryd.prog 7 [(0, 1), (1, 1), (2, 1), (3, 1)] := Bld.of (fs := Tryd.prog.fieldsOf 7) (by kernel_rfl) (fun w => by kernel_rfl)
instance : Und Tryd.prog 8 (.struct (Tryd.prog.fieldsOf 8)) := ⟨by kernel_rfl⟩
instance : Siz Tryd.prog 8 4 := ⟨by kernel_rfl⟩
instance : Agl Tryd.prog 8 := ⟨_, Und.out, rfl⟩
instance : Zer Tryd.prog 8 (.agg #[.int .i64 (0), .int .i64 (0), .bool false, .int .u8 (0)]) [.int .i64 (0), .int .i64 (0), .bool false, .int .u8 (0)] := ⟨by kernel_rfl, rfl⟩
instance : Row Tryd.prog 8 4 24 := Row.of (n := 3) (by kernel_rfl)
instance : EqT Tryd.prog 8 [.int .i64, .int .i64, .bool, .int .u8] := EqT.of (fs := Tryd.prog.fieldsOf 8) (by kernel_rfl) (by kernel_rfl) (by kernel_rfl)
instance : Fld Tryd.prog 8 0 0 := Fld.of (n := 0) (by kernel_rfl)
instance : Fld Tryd.prog 8 1 1 := Fld.of (n := 0) (by kernel_rfl)
instance : Fld Tryd.prog 8 2 2 := Fld.of (n := 0) (by kernel_rfl)
instance : Fld Tryd.prog 8 3 3 := Fld.of (n := 0) (by kernel_rfl)
instance : Bld Tryd.prog 8 [(0, 1), (1, 1), (2, 1), (3, 1)] := Bld.of (fs := Tryd.prog.fieldsOf 8) (by kernel_rfl) (fun w => by kernel_rfl)
instance : Und Tryd.prog 9 (.string) := ⟨by kernel_rfl⟩
instance : Siz Tryd.prog 9 1 := ⟨by kernel_rfl⟩
instance : Sgl Tryd.prog 9 := ⟨_, Und.out, rfl⟩
instance : Zer Tryd.prog 9 (.string ⟨#[]⟩) [.string ⟨#[]⟩] := ⟨by kernel_rfl, rfl⟩
instance : Row Tryd.prog 9 1 16 := Row.of (n := 0) (by kernel_rfl)
instance : Und Tryd.prog 10 (.string) := ⟨by kernel_rfl⟩
instance : Siz Tryd.prog 10 1 := ⟨by kernel_rfl⟩
instance : Sgl Tryd.prog 10 := ⟨_, Und.out, rfl⟩
instance : Zer Tryd.prog 10 (.string ⟨#[]⟩) [.string ⟨#[]⟩] := ⟨by kernel_rfl, rfl⟩
instance : Row Tryd.prog 10 1 16 := Row.of (n := 0) (by kernel_rfl)
instance : Und Tryd.prog 11 (.string) := ⟨by kernel_rfl⟩
instance : Siz Tryd.prog 11 1 := ⟨by kernel_rfl⟩
instance : Sgl Tryd.prog 11 := ⟨_, Und.out, rfl⟩
instance : Zer Tryd.prog 11 (.string ⟨#[]⟩) [.string ⟨#[]⟩] := ⟨by kernel_rfl, rfl⟩
instance : Row Tryd.prog 11 1 16 := Row.of (n := 0) (by kernel_rfl)
instance : Und Tryd.prog 12 (.int .u64) := ⟨by kernel_rfl⟩
instance : Siz Tryd.prog 12 1 := ⟨by kernel_rfl⟩
instance : Sgl Tryd.prog 12 := ⟨_, Und.out, rfl⟩
instance : Zer Tryd.prog 12 (.int .u64 (0)) [.int .u64 (0)] := ⟨by kernel_rfl, rfl⟩
instance : Row Tryd.prog 12 1 8 := Row.of (n := 0) (by kernel_rfl)
instance : Und Tryd.prog 13 (.struct (Tryd.prog.fieldsOf 13)) := ⟨by kernel_rfl⟩
instance : Siz Tryd.prog 13 2 := ⟨by kernel_rfl⟩
instance : Agl Tryd.prog 13 := ⟨_, Und.out, rfl⟩
instance : Zer Tryd.prog 13 (.agg #[.string ⟨#[]⟩, .int .u64 (0)]) [.string ⟨#[]⟩, .int .u64 (0)] := ⟨by kernel_rfl, rfl⟩
instance : Row Tryd.prog 13 2 24 := Row.of (n := 1) (by kernel_rfl)
instance : Fld Tryd.prog 13 0 0 := Fld.of (n := 0) (by kernel_rfl)
instance : Fld Tryd.prog 13 1 1 := Fld.of (n := 0) (by kernel_rfl)
instance : Bld Tryd.prog 13 [(0, 1), (1, 1)] := Bld.of (fs := Tryd.prog.fieldsOf 13) (by kernel_rfl) (fun w => by kernel_rfl)
instance : Und Tryd.prog 14 (.struct (Tryd.prog.fieldsOf 14)) := ⟨by kernel_rfl⟩
instance : Siz Tryd.prog 14 2 := ⟨by kernel_rfl⟩
instance : Agl Tryd.prog 14 := ⟨_, Und.out, rfl⟩
instance : Zer Tryd.prog 14 (.agg #[.string ⟨#[]⟩, .int .u64 (0)]) [.string ⟨#[]⟩, .int .u64 (0)] := ⟨by kernel_rfl, rfl⟩
instance : Row Tryd.prog 14 2 24 := Row.of (n := 1) (by kernel_rfl)
instance : Fld Tryd.prog 14 0 0 := Fld.of (n := 0) (by kernel_rfl)
instance : Fld Tryd.prog 14 1 1 := Fld.of (n := 0) (by kernel_rfl)
instance : Bld Tryd.prog 14 [(0, 1), (1, 1)] := Bld.of (fs := Tryd.prog.fieldsOf 14) (by kernel_rfl) (fun w => by kernel_rfl)
instance : Und Tryd.prog 15 (.pointer 141) := ⟨by kernel_rfl⟩
instance : Siz Tryd.prog 15 1 := ⟨by kernel_rfl⟩
instance : Sgl Tryd.prog 15 := ⟨_, Und.out, rfl⟩
instance : Zer Tryd.prog 15 (.pointer none) [.pointer none] := ⟨by kernel_rfl, rfl⟩
instance : Row Tryd.prog 15 1 8 := Row.of (n := 0) (by kernel_rfl)
instance : Und Tryd.prog 16 (.pointer 144) := ⟨by kernel_rfl⟩
instance : Siz Tryd.prog 16 1 := ⟨by kernel_rfl⟩
instance : Sgl Tryd.prog 16 := ⟨_, Und.out, rfl⟩
instance : Zer Tryd.prog 16 (.pointer none) [.pointer none] := ⟨by kernel_rfl, rfl⟩
instance : Row Tryd.prog 16 1 8 := Row.of (n := 0) (by kernel_rfl)
instance : Und Tryd.prog 17 (.pointer 152) := ⟨by kernel_rfl⟩
instance : Siz Tryd.prog 17 1 := ⟨by kernel_rfl⟩
instance : Sgl Tryd.prog 17 := ⟨_, Und.out, rfl⟩
instance : Zer Tryd.prog 17 (.pointer none) [.pointer none] := ⟨by kernel_rfl, rfl⟩
instance : Row Tryd.prog 17 1 8 := Row.of (n := 0) (by kernel_rfl)
instance : Und Tryd.prog 18 (.struct (Tryd.prog.fieldsOf 18)) := ⟨by kernel_rfl⟩
instance : Siz Tryd.prog 18 1 := ⟨by kernel_rfl⟩
instance : Agl Tryd.prog 18 := ⟨_, Und.out, rfl⟩
instance : Zer Tryd.prog 18 (.agg #[.pointer none]) [.pointer none] := ⟨by kernel_rfl, rfl⟩
instance : Row Tryd.prog 18 1 8 := Row.of (n := 0) (by kernel_rfl)
instance : Fld Tryd.prog 18 0 0 := Fld.of (n := 0) (by kernel_rfl)
instance : Bld Tryd.prog 18 [(0, 1)] := Bld.of (fs := Tryd.prog.fieldsOf 18) (by kernel_rfl) (fun w => by kernel_rfl)
instance : Und Tryd.prog 19 (.struct (Tryd.prog.fieldsOf 19)) := ⟨by kernel_rfl⟩
instance : Siz Tryd.prog 19 1 := ⟨by kernel_rfl⟩
instance : Agl Tryd.prog 19 := ⟨_, Und.out, rfl⟩
instance : Zer Tryd.prog 19 (.agg #[.pointer none]) [.pointer none] := ⟨by kernel_rfl, rfl⟩
instance : Row Tryd.prog 19 1 8 := Row.of (n := 0) (by kernel_rfl)
instance : Fld Tryd.prog 19 0 0 := Fld.of (n := 0) (by kernel_rfl)
instance : Bld Tryd.prog 19 [(0, 1)] := Bld.of (fs := Tryd.prog.fieldsOf 19) (by kernel_rfl) (fun w => by kernel_rfl)
instance : Und Tryd.prog 20 (.interface #[]) := ⟨by kernel_rfl⟩
instance : Siz Tryd.prog 20 1 := ⟨by kernel_rfl⟩
instance : Sgl Tryd.prog 20 := ⟨_, Und.out, rfl⟩
instance : Zer Tryd.prog 20 (.nilIface) [.nilIface] := ⟨by kernel_rfl, rfl⟩
instance : Row Tryd.prog 20 1 16 := Row.of (n := 0) (by kernel_rfl)
instance : Und Tryd.prog 21 (.int .i32) := ⟨by kernel_rfl⟩
instance : Siz Tryd.prog 21 1 := ⟨by kernel_rfl⟩
instance : Sgl Tryd.prog 21 := ⟨_, Und.out, rfl⟩
instance : Zer Tryd.prog 21 (.int .i32 (0)) [.int .i32 (0)] := ⟨by kernel_rfl, rfl⟩
instance : Row Tryd.prog 21 1 4 := Row.of (n := 0) (by kernel_rfl)
instance : Und Tryd.prog 22 (.func #[] #[4] false) := ⟨by kernel_rfl⟩
instance : Siz Tryd.prog 22 1 := ⟨by kernel_rfl⟩
instance : Sgl Tryd.prog 22 := ⟨_, Und.out, rfl⟩
instance : Zer Tryd.prog 22 (.nilFunc) [.nilFunc] := ⟨by kernel_rfl, rfl⟩
instance : Row Tryd.prog 22 1 8 := Row.of (n := 0) (by kernel_rfl)
instance : Und Tryd.prog 23 (.int .i64) := ⟨by kernel_rfl⟩
instance : Siz Tryd.prog 23 1 := ⟨by kernel_rfl⟩
instance : Sgl Tryd.prog 23 := ⟨_, Und.out, rfl⟩
instance : Zer Tryd.prog 23 (.int .i64 (0)) [.int .i64 (0)] := ⟨by kernel_rfl, rfl⟩
instance : Row Tryd.prog 23 1 8 := Row.of (n := 0) (by kernel_rfl)
instance : Und Tryd.prog 24 (.tuple #[9, 23]) := ⟨by kernel_rfl⟩
instance : Siz Tryd.prog 24 1 := ⟨by kernel_rfl⟩
instance : Sgl Tryd.prog 24 := ⟨_, Und.out, rfl⟩
instance : Und Tryd.prog 25 (.func #[29] #[9, 23] false) := ⟨by kernel_rfl⟩
instance : Siz Tryd.prog 25 1 := ⟨by kernel_rfl⟩
instance : Sgl Tryd.prog 25 := ⟨_, Und.out, rfl⟩
instance : Zer Tryd.prog 25 (.nilFunc) [.nilFunc] := ⟨by kernel_rfl, rfl⟩
instance : Row Tryd.prog 25 1 8 := Row.of (n := 0) (by kernel_rfl)
instance : Und Tryd.prog 26 (.struct (Tryd.prog.fieldsOf 26)) := ⟨by kernel_rfl⟩
instance : Siz Tryd.prog 26 4 := ⟨by kernel_rfl⟩
instance : Agl Tryd.prog 26 := ⟨_, Und.out, rfl⟩
instance : Zer Tryd.prog 26 (.agg #[.int .i64 (0), .int .i64 (0), .int .i64 (0), .int .i64 (0)]) [.int .i64 (0), .int .i64 (0), .int .i64 (0), .int .i64 (0)] := ⟨by kernel_rfl, rfl⟩
instance : Row Tryd.prog 26 4 32 := Row.of (n := 3) (by kernel_rfl)
instance : EqT Tryd.prog 26 [.int .i64, .int .i64, .int .i64, .int .i64] := EqT.of (fs := Tryd.prog.fieldsOf 26) (by kernel_rfl) (by kernel_rfl) (by kernel_rfl)
instance : Fld Tryd.prog 26 0 0 := Fld.of (n := 0) (by kernel_rfl)
instance : Fld Tryd.prog 26 1 1 := Fld.of (n := 0) (by kernel_rfl)
instance : Fld Tryd.prog 26 2 2 := Fld.of (n := 0) (by kernel_rfl)
instance : Fld Tryd.prog 26 3 3 := Fld.of (n := 0) (by kernel_rfl)
instance : Bld Tryd.prog 26 [(0, 1), (1, 1), (2, 1), (3, 1)] := Bld.of (fs := Tryd.prog.fieldsOf 26) (by kernel_rfl) (fun w => by kernel_rfl)
instance : Und Tryd.prog 27 (.struct (Tryd.prog.fieldsOf 27)) := ⟨by kernel_rfl⟩
instance : Siz Tryd.prog 27 4 := ⟨by kernel_rfl⟩
instance : Agl Tryd.prog 27 := ⟨_, Und.out, rfl⟩
instance : Zer Tryd.prog 27 (.agg #[.int .i64 (0), .int .i64 (0), .int .i64 (0), .int .i64 (0)]) [.int .i64 (0), .int .i64 (0), .int .i64 (0), .int .i64 (0)] := ⟨by kernel_rfl, rfl⟩
instance : Row Tryd.prog 27 4 32 := Row.of (n := 3) (by kernel_rfl)
instance : EqT Tryd.prog 27 [.int .i64, .int .i64, .int .i64, .int .i64] := EqT.of (fs := Tryd.prog.fieldsOf 27) (by kernel_rfl) (by kernel_rfl) (by kernel_rfl)
instance : Fld Tryd.prog 27 0 0 := Fld.of (n := 0) (by kernel_rfl)
instance : Fld Tryd.prog 27 1 1 := Fld.of (n := 0) (by kernel_rfl)
instance : Fld Tryd.prog 27 2 2 := Fld.of (n := 0) (by kernel_rfl)
instance : Fld Tryd.prog 27 3 3 := Fld.of (n := 0) (by kernel_rfl)
instance : Bld Tryd.prog 27 [(0, 1), (1, 1), (2, 1), (3, 1)] := Bld.of (fs := Tryd.prog.fieldsOf 27) (by kernel_rfl) (fun w => by kernel_rfl)
instance : Und Tryd.prog 28 (.struct (Tryd.prog.fieldsOf 28)) := ⟨by kernel_rfl⟩
instance : Siz Tryd.prog 28 9 := ⟨by kernel_rfl⟩
instance : Agl Tryd.prog 28 := ⟨_, Und.out, rfl⟩
instance : Zer Tryd.prog 28 (.agg #[.int .i64 (0), .int .i64 (0), .int .i64 (0), .int .i64 (0), .int .i64 (0), .int .i64 (0), .int .i64 (0), .int .i64 (0), .int .i64 (0)]) [.int .i64 (0), .int .i64 (0), .int .i64 (0), .int .i64 (0), .int .i64 (0), .int .i64 (0), .int .i64 (0), .int .i64 (0), .int .i64 (0)] := ⟨by kernel_rfl, rfl⟩
instance : Row Tryd.prog 28 9 72 := Row.of (n := 8) (by kernel_rfl)
instance : EqT Tryd.prog 28 [.int .i64, .int .i64, .int .i64, .int .i64, .int .i64, .int .i64, .int .i64, .int .i64, .int .i64] := EqT.of (fs := Tryd.prog.fieldsOf 28) (by kernel_rfl) (by kernel_rfl) (by kernel_rfl)
instance : Fld Tryd.prog 28 0 0 := Fld.of (n := 0) (by kernel_rfl)
instance : Fld Tryd.prog 28 1 1 := Fld.of (n := 0) (by kernel_rfl)
instance : Fld Tryd.prog 28 2 2 := Fld.of (n := 0) (by kernel_rfl)
instance : Fld Tryd.prog 28 3 3 := Fld.of (n := 0) (by kernel_rfl)
instance : Fld Tryd.prog 28 4 4 := Fld.of (n := 3) (by kernel_rfl)
instance : Fld Tryd.prog 28 5 8 := Fld.of (n := 0) (by kernel_rfl)
instance : Bld Tryd.prog 28 [(0, 1), (1, 1), (2, 1), (3, 1), (4, 4), (8, 1)] := Bld.of (fs := Tryd.prog.fieldsOf 28) (by kernel_rfl) (fun w => by kernel_rfl)
instance : Und Tryd.prog 29 (.struct (Tryd.prog.fieldsOf 29)) := ⟨by kernel_rfl⟩
instance : Siz Tryd.prog 29 9 := ⟨by kernel_rfl⟩
instance : Agl Tryd.prog 29 := ⟨_, Und.out, rfl⟩
instance : Zer Tryd.prog 29 (.agg #[.int .i64 (0), .int .i64 (0), .int .i64 (0), .int .i64 (0), .int .i64 (0), .int .i64 (0), .int .i64 (0), .int .i64 (0), .int .i64 (0)]) [.int .i64 (0), .int .i64 (0), .int .i64 (0), .int .i64 (0), .int .i64 (0), .int .i64 (0), .int .i64 (0), .int .i64 (0), .int .i64 (0)] := ⟨by kernel_rfl, rfl⟩
instance : Row Tryd.prog 29 9 72 := Row.of (n := 8) (by kernel_rfl)
instance : EqT Tryd.prog 29 [.int .i64, .int .i64, .int .i64, .int .i64, .int .i64, .int .i64, .int .i64, .int .i64, .int .i64] := EqT.of (fs := Tryd.prog.fieldsOf 29) (by kernel_rfl) (by kernel_rfl) (by kernel_rfl)
instance : Fld Tryd.prog 29 0 0 := Fld.of (n := 0) (by kernel_rfl)
instance : Fld Tryd.prog 29 1 1 := Fld.of (n := 0) (by kernel_rfl)
instance : Fld Tryd.prog 29 2 2 := Fld.of (n := 0) (by kernel_rfl)
instance : Fld Tryd.prog 29 3 3 := Fld.of (n := 0) (by kernel_rfl)
instance : Fld Tryd.prog 29 4 4 := Fld.of (n := 3) (by kernel_rfl)
instance : Fld Tryd.prog 29 5 8 := Fld.of (n := 0) (by kernel_rfl)
instance : Bld Tryd.prog 29 [(0, 1), (1, 1), (2, 1), (3, 1), (4, 4), (8, 1)] := Bld.of (fs := Tryd.prog.fieldsOf 29) (by kernel_rfl) (fun w => by kernel_rfl)
instance : Und Tryd.prog 30 (.slice 29) := ⟨by kernel_rfl⟩
instance : Siz Tryd.prog 30 1 := ⟨by kernel_rfl⟩
instance : Sgl Tryd.prog 30 := ⟨_, Und.out, rfl⟩
instance : Zer Tryd.prog 30 (.slice none 0 0) [.slice none 0 0] := ⟨by kernel_rfl, rfl⟩
instance : Row Tryd.prog 30 1 24 := Row.of (n := 0) (by kernel_rfl)
instance : Und Tryd.prog 31 (.tuple #[30, 3, 23]) := ⟨by kernel_rfl⟩
instance : Siz Tryd.prog 31 1 := ⟨by kernel_rfl⟩
instance : Sgl Tryd.prog 31 := ⟨_, Und.out, rfl⟩
instance : Und Tryd.prog 32 (.func #[9] #[30, 3, 23] false) := ⟨by kernel_rfl⟩
instance : Siz Tryd.prog 32 1 := ⟨by kernel_rfl⟩
instance : Sgl Tryd.prog 32 := ⟨_, Und.out, rfl⟩
instance : Zer Tryd.prog 32 (.nilFunc) [.nilFunc] := ⟨by kernel_rfl, rfl⟩
instance : Row Tryd.prog 32 1 8 := Row.of (n := 0) (by kernel_rfl)
instance : Und Tryd.prog 33 (.func #[30] #[9, 23] false) := ⟨by kernel_rfl⟩
instance : Siz Tryd.prog 33 1 := ⟨by kernel_rfl⟩
instance : Sgl Tryd.prog 33 := ⟨_, Und.out, rfl⟩
instance : Zer Tryd.prog 33 (.nilFunc) [.nilFunc] := ⟨by kernel_rfl, rfl⟩
instance : Row Tryd.prog 33 1 8 := Row.of (n := 0) (by kernel_rfl)
instance : Und Tryd.prog 34 (.slice 9) := ⟨by kernel_rfl⟩
instance : Siz Tryd.prog 34 1 := ⟨by kernel_rfl⟩
instance : Sgl Tryd.prog 34 := ⟨_, Und.out, rfl⟩
instance : Zer Tryd.prog 34 (.slice none 0 0) [.slice none 0 0] := ⟨by kernel_rfl, rfl⟩
instance : Row Tryd.prog 34 1 24 := Row.of (n := 0) (by kernel_rfl)
instance : Und Tryd.prog 35 (.tuple #[29, 23]) := ⟨by kernel_rfl⟩
instance : Siz Tryd.prog 35 1 := ⟨by kernel_rfl⟩
instance : Sgl Tryd.prog 35 := ⟨_, Und.out, rfl⟩
instance : Und Tryd.prog 36 (.func #[9] #[29, 23] false) := ⟨by kernel_rfl⟩
instance : Siz Tryd.prog 36 1 := ⟨by kernel_rfl⟩
instance : Sgl Tryd.prog 36 := ⟨_, Und.out, rfl⟩
instance : Zer Tryd.prog 36 (.nilFunc) [.nilFunc] := ⟨by kernel_rfl, rfl⟩
instance : Row Tryd.prog 36 1 8 := Row.of (n := 0) (by kernel_rfl)
instance : Und Tryd.prog 37 (.func #[29] #[9] false) := ⟨by kernel_rfl⟩
instance : Siz Tryd.prog 37 1 := ⟨by kernel_rfl⟩
instance : Sgl Tryd.prog 37 := ⟨_, Und.out, rfl⟩
instance : Zer Tryd.prog 37 (.nilFunc) [.nilFunc] := ⟨by kernel_rfl, rfl⟩
instance : Row Tryd.prog 37 1 8 := Row.of (n := 0) (by kernel_rfl)
instance : Und Tryd.prog 38 (.func #[3, 3, 3, 2] #[27] false) := ⟨by kernel_rfl⟩
instance : Siz Tryd.prog 38 1 := ⟨by kernel_rfl⟩
instance : Sgl Tryd.prog 38 := ⟨_, Und.out, rfl⟩
instance : Zer Tryd.prog 38 (.nilFunc) [.nilFunc] := ⟨by kernel_rfl, rfl⟩
instance : Row Tryd.prog 38 1 8 := Row.of (n := 0) (by kernel_rfl)
instance : Und Tryd.prog 39 (.func #[9, 9] #[4] false) := ⟨by kernel_rfl⟩
instance : Siz Tryd.prog 39 1 := ⟨by kernel_rfl⟩
instance : Sgl Tryd.prog 39 := ⟨_, Und.out, rfl⟩
instance : Zer Tryd.prog 39 (.nilFunc) [.nilFunc] := ⟨by kernel_rfl, rfl⟩
instance : Row Tryd.prog 39 1 8 := Row.of (n := 0) (by kernel_rfl)
instance : Und Tryd.prog 40 (.func #[29] #[23] false) := ⟨by kernel_rfl⟩
instance : Siz Tryd.prog 40 1 := ⟨by kernel_rfl⟩
instance : Sgl Tryd.prog 40 := ⟨_, Und.out, rfl⟩
instance : Zer Tryd.prog 40 (.nilFunc) [.nilFunc] := ⟨by kernel_rfl, rfl⟩
instance : Row Tryd.prog 40 1 8 := Row.of (n := 0) (by kernel_rfl)
instance : Und Tryd.prog 41 (.slice 44) := ⟨by kernel_rfl⟩
instance : Siz Tryd.prog 41 1 := ⟨by kernel_rfl⟩
instance : Sgl Tryd.prog 41 := ⟨_, Und.out, rfl⟩
instance : Zer Tryd.prog 41 (.slice none 0 0) [.slice none 0 0] := ⟨by kernel_rfl, rfl⟩
instance : Row Tryd.prog 41 1 24 := Row.of (n := 0) (by kernel_rfl)
instance : Und Tryd.prog 42 (.func #[29] #[41] false) := ⟨by kernel_rfl⟩
instance : Siz Tryd.prog 42 1 := ⟨by kernel_rfl⟩
instance : Sgl Tryd.prog 42 := ⟨_, Und.out, rfl⟩
instance : Zer Tryd.prog 42 (.nilFunc) [.nilFunc] := ⟨by kernel_rfl, rfl⟩
instance : Row Tryd.prog 42 1 8 := Row.of (n := 0) (by kernel_rfl)
instance : Und Tryd.prog 43 (.interface #[("keysmith/listing.text", 45)]) := ⟨by kernel_rfl⟩
instance : Siz Tryd.prog 43 1 := ⟨by kernel_rfl⟩
instance : Sgl Tryd.prog 43 := ⟨_, Und.out, rfl⟩
instance : Zer Tryd.prog 43 (.nilIface) [.nilIface] := ⟨by kernel_rfl, rfl⟩
instance : Row Tryd.prog 43 1 16 := Row.of (n := 0) (by kernel_rfl)
instance : Und Tryd.prog 44 (.interface #[("keysmith/listing.text", 45)]) := ⟨by kernel_rfl⟩
instance : Siz Tryd.prog 44 1 := ⟨by kernel_rfl⟩
instance : Sgl Tryd.prog 44 := ⟨_, Und.out, rfl⟩
instance : Zer Tryd.prog 44 (.nilIface) [.nilIface] := ⟨by kernel_rfl, rfl⟩
instance : Row Tryd.prog 44 1 16 := Row.of (n := 0) (by kernel_rfl)
instance : Und Tryd.prog 45 (.func #[] #[9] false) := ⟨by kernel_rfl⟩
instance : Siz Tryd.prog 45 1 := ⟨by kernel_rfl⟩
instance : Sgl Tryd.prog 45 := ⟨_, Und.out, rfl⟩
instance : Zer Tryd.prog 45 (.nilFunc) [.nilFunc] := ⟨by kernel_rfl, rfl⟩
instance : Row Tryd.prog 45 1 8 := Row.of (n := 0) (by kernel_rfl)
instance : Und Tryd.prog 46 (.func #[9, 9] #[9] false) := ⟨by kernel_rfl⟩
instance : Siz Tryd.prog 46 1 := ⟨by kernel_rfl⟩
instance : Sgl Tryd.prog 46 := ⟨_, Und.out, rfl⟩
instance : Zer Tryd.prog 46 (.nilFunc) [.nilFunc] := ⟨by kernel_rfl, rfl⟩
instance : Row Tryd.prog 46 1 8 := Row.of (n := 0) (by kernel_rfl)
instance : Und Tryd.prog 47 (.func #[3] #[9] false) := ⟨by kernel_rfl⟩
instance : Siz Tryd.prog 47 1 := ⟨by kernel_rfl⟩
instance : Sgl Tryd.prog 47 := ⟨_, Und.out, rfl⟩
instance : Zer Tryd.prog 47 (.nilFunc) [.nilFunc] := ⟨by kernel_rfl, rfl⟩
instance : Row Tryd.prog 47 1 8 := Row.of (n := 0) (by kernel_rfl)
instance : Und Tryd.prog 48 (.func #[34, 9] #[9] false) := ⟨by kernel_rfl⟩
instance : Siz Tryd.prog 48 1 := ⟨by kernel_rfl⟩
instance : Sgl Tryd.prog 48 := ⟨_, Und.out, rfl⟩
instance : Zer Tryd.prog 48 (.nilFunc) [.nilFunc] := ⟨by kernel_rfl, rfl⟩
instance : Row Tryd.prog 48 1 8 := Row.of (n := 0) (by kernel_rfl)
instance : Und Tryd.prog 49 (.tuple #[9, 9, 4]) := ⟨by kernel_rfl⟩
instance : Siz Tryd.prog 49 1 := ⟨by kernel_rfl⟩
instance : Sgl Tryd.prog 49 := ⟨_, Und.out, rfl⟩
instance : Und Tryd.prog 50 (.func #[9, 9] #[9, 9, 4] false) := ⟨by kernel_rfl⟩
instance : Siz Tryd.prog 50 1 := ⟨by kernel_rfl⟩
instance : Sgl Tryd.prog 50 := ⟨_, Und.out, rfl⟩
instance : Zer Tryd.prog 50 (.nilFunc) [.nilFunc] := ⟨by kernel_rfl, rfl⟩
instance : Row Tryd.prog 50 1 8 := Row.of (n := 0) (by kernel_rfl)
instance : Und Tryd.prog 51 (.pointer 54) := ⟨by kernel_rfl⟩
instance : Siz Tryd.prog 51 1 := ⟨by kernel_rfl⟩
instance : Sgl Tryd.prog 51 := ⟨_, Und.out, rfl⟩
instance : Zer Tryd.prog 51 (.pointer none) [.pointer none] := ⟨by kernel_rfl, rfl⟩
instance : Row Tryd.prog 51 1 8 := Row.of (n := 0) (by kernel_rfl)
instance : Und Tryd.prog 52 (.slice 5) := ⟨by kernel_rfl⟩
instance : Siz Tryd.prog 52 1 := ⟨by kernel_rfl⟩
instance : Sgl Tryd.prog 52 := ⟨_, Und.out, rfl⟩
instance : Zer Tryd.prog 52 (.slice none 0 0) [.slice none 0 0] := ⟨by kernel_rfl, rfl⟩
instance : Row Tryd.prog 52 1 24 := Row.of (n := 0) (by kernel_rfl)
instance : Und Tryd.prog 53 (.struct (Tryd.prog.fieldsOf 53)) := ⟨by kernel_rfl⟩
instance : Siz Tryd.prog 53 2 := ⟨by kernel_rfl⟩
instance : Agl Tryd.prog 53 := ⟨_, Und.out, rfl⟩
instance : Zer Tryd.prog 53 (.agg #[.pointer none, .slice none 0 0]) [.pointer none, .slice none 0 0] := ⟨by kernel_rfl, rfl⟩
instance : Row Tryd.prog 53 2 32 := Row.of (n := 1) (by kernel_rfl)
instance : Fld Tryd.prog 53 0 0 := Fld.of (n := 0) (by kernel_rfl)
instance : Fld Tryd.prog 53 1 1 := Fld.of (n := 0) (by kernel_rfl)
instance : Bld Tryd.prog 53 [(0, 1), (1, 1)] := Bld.of (fs := Tryd.prog.fieldsOf 53) (by kernel_rfl) (fun w => by kernel_rfl)
instance : Und Tryd.prog 54 (.struct (Tryd.prog.fieldsOf 54)) := ⟨by kernel_rfl⟩
instance : Siz Tryd.prog 54 2 := ⟨by kernel_rfl⟩
instance : Agl Tryd.prog 54 := ⟨_, Und.out, rfl⟩
instance : Zer Tryd.prog 54 (.agg #[.pointer none, .slice none 0 0]) [.pointer none, .slice none 0 0] := ⟨by kernel_rfl, rfl⟩
instance : Row Tryd.prog 54 2 32 := Row.of (n := 1) (by kernel_rfl)
instance : Fld Tryd.prog 54 0 0 := Fld.of (n := 0) (by kernel_rfl)
instance : Fld Tryd.prog 54 1 1 := Fld.of (n := 0) (by kernel_rfl)
instance : Bld Tryd.prog 54 [(0, 1), (1, 1)] := Bld.of (fs := Tryd.prog.fieldsOf 54) (by kernel_rfl) (fun w => by kernel_rfl)
instance : Und Tryd.prog 55 (.interface #[("Error", 45)]) := ⟨by kernel_rfl⟩
instance : Siz Tryd.prog 55 1 := ⟨by kernel_rfl⟩
instance : Sgl Tryd.prog 55 := ⟨_, Und.out, rfl⟩
instance : Zer Tryd.prog 55 (.nilIface) [.nilIface] := ⟨by kernel_rfl, rfl⟩
instance : Row Tryd.prog 55 1 16 := Row.of (n := 0) (by kernel_rfl)
instance : Und Tryd.prog 56 (.interface #[("Error", 45)]) := ⟨by kernel_rfl⟩
instance : Siz Tryd.prog 56 1 := ⟨by kernel_rfl⟩
instance : Sgl Tryd.prog 56 := ⟨_, Und.out, rfl⟩
instance : Zer Tryd.prog 56 (.nilIface) [.nilIface] := ⟨by kernel_rfl, rfl⟩
instance : Row Tryd.prog 56 1 16 := Row.of (n := 0) (by kernel_rfl)
instance : Und Tryd.prog 57 (.tuple #[3, 56]) := ⟨by kernel_rfl⟩
instance : Siz Tryd.prog 57 1 := ⟨by kernel_rfl⟩
instance : Sgl Tryd.prog 57 := ⟨_, Und.out, rfl⟩
instance : Und Tryd.prog 58 (.func #[9] #[3, 56] false) := ⟨by kernel_rfl⟩
instance : Siz Tryd.prog 58 1 := ⟨by kernel_rfl⟩
instance : Sgl Tryd.prog 58 := ⟨_, Und.out, rfl⟩
instance : Zer Tryd.prog 58 (.nilFunc) [.nilFunc] := ⟨by kernel_rfl, rfl⟩
instance : Row Tryd.prog 58 1 8 := Row.of (n := 0) (by kernel_rfl)
instance : Und Tryd.prog 59 (.tuple #[44, 4]) := ⟨by kernel_rfl⟩
instance : Siz Tryd.prog 59 1 := ⟨by kernel_rfl⟩
instance : Sgl Tryd.prog 59 := ⟨_, Und.out, rfl⟩
instance : Und Tryd.prog 60 (.func #[9] #[44, 4] false) := ⟨by kernel_rfl⟩
instance : Siz Tryd.prog 60 1 := ⟨by kernel_rfl⟩
instance : Sgl Tryd.prog 60 := ⟨_, Und.out, rfl⟩
instance : Zer Tryd.prog 60 (.nilFunc) [.nilFunc] := ⟨by kernel_rfl, rfl⟩
instance : Row Tryd.prog 60 1 8 := Row.of (n := 0) (by kernel_rfl)
instance : Und Tryd.prog 61 (.func #[3, 41] #[29] false) := ⟨by kernel_rfl⟩
instance : Siz Tryd.prog 61 1 := ⟨by kernel_rfl⟩
instance : Sgl Tryd.prog 61 := ⟨_, Und.out, rfl⟩
instance : Zer Tryd.prog 61 (.nilFunc) [.nilFunc] := ⟨by kernel_rfl, rfl⟩
instance : Row Tryd.prog 61 1 8 := Row.of (n := 0) (by kernel_rfl)
instance : Und Tryd.prog 62 (.struct (Tryd.prog.fieldsOf 62)) := ⟨by kernel_rfl⟩
instance : Siz Tryd.prog 62 4 := ⟨by kernel_rfl⟩
instance : Agl Tryd.prog 62 := ⟨_, Und.out, rfl⟩
instance : Zer Tryd.prog 62 (.agg #[.string ⟨#[]⟩, .int .i64 (0), .int .i64 (0), .int .i64 (0)]) [.string ⟨#[]⟩, .int .i64 (0), .int .i64 (0), .int .i64 (0)] := ⟨by kernel_rfl, rfl⟩
instance : Row Tryd.prog 62 4 40 := Row.of (n := 3) (by kernel_rfl)
instance : EqT Tryd.prog 62 [.str, .int .i64, .int .i64, .int .i64] := EqT.of (fs := Tryd.prog.fieldsOf 62) (by kernel_rfl) (by kernel_rfl) (by kernel_rfl)
instance : Fld Tryd.prog 62 0 0 := Fld.of (n := 0) (by kernel_rfl)
instance : Fld Tryd.prog 62 1 1 := Fld.of (n := 0) (by kernel_rfl)
instance : Fld Tryd.prog 62 2 2 := Fld.of (n := 0) (by kernel_rfl)
instance : Fld Tryd.prog 62 3 3 := Fld.of (n := 0) (by kernel_rfl)
instance : Bld Tryd.prog 62 [(0, 1), (1, 1), (2, 1), (3, 1)] := Bld.of (fs := Tryd.prog.fieldsOf 62) (by kernel_rfl) (fun w => by kernel_rfl)
instance : Und Tryd.prog 63 (.struct (Tryd.prog.fieldsOf 63)) := ⟨by kernel_rfl⟩
instance : Siz Tryd.prog 63 4 := ⟨by kernel_rfl⟩
instance : Agl Tryd.prog 63 := ⟨_, Und.out, rfl⟩
instance : Zer Tryd.prog 63 (.agg #[.string ⟨#[]⟩, .int .i64 (0), .int .i64 (0), .int .i64 (0)]) [.string ⟨#[]⟩, .int .i64 (0), .int .i64 (0), .int .i64 (0)] := ⟨by kernel_rfl, rfl⟩
instance : Row Tryd.prog 63 4 40 := Row.of (n := 3) (by kernel_rfl)
instance : EqT Tryd.prog 63 [.str, .int .i64, .int .i64, .int .i64] := EqT.of (fs := Tryd.prog.fieldsOf 63) (by kernel_rfl) (by kernel_rfl) (by kernel_rfl)
instance : Fld Tryd.prog 63 0 0 := Fld.of (n := 0) (by kernel_rfl)
instance : Fld Tryd.prog 63 1 1 := Fld.of (n := 0) (by kernel_rfl)
instance : Fld Tryd.prog 63 2 2 := Fld.of (n := 0) (by kernel_rfl)
instance : Fld Tryd.prog 63 3 3 := Fld.of (n := 0) (by kernel_rfl)
instance : Bld Tryd.prog 63 [(0, 1), (1, 1), (2, 1), (3, 1)] := Bld.of (fs := Tryd.prog.fieldsOf 63) (by kernel_rfl) (fun w => by kernel_rfl)
instance : Und Tryd.prog 64 (.func #[3] #[63] false) := ⟨by kernel_rfl⟩
instance : Siz Tryd.prog 64 1 := ⟨by kernel_rfl⟩
instance : Sgl Tryd.prog 64 := ⟨_, Und.out, rfl⟩
instance : Zer Tryd.prog 64 (.nilFunc) [.nilFunc] := ⟨by kernel_rfl, rfl⟩
instance : Row Tryd.prog 64 1 8 := Row.of (n := 0) (by kernel_rfl)
instance : Und Tryd.prog 65 (.func #[2] #[4] false) := ⟨by kernel_rfl⟩
instance : Siz Tryd.prog 65 1 := ⟨by kernel_rfl⟩
instance : Sgl Tryd.prog 65 := ⟨_, Und.out, rfl⟩
instance : Zer Tryd.prog 65 (.nilFunc) [.nilFunc] := ⟨by kernel_rfl, rfl⟩
instance : Row Tryd.prog 65 1 8 := Row.of (n := 0) (by kernel_rfl)
instance : Und Tryd.prog 66 (.struct (Tryd.prog.fieldsOf 66)) := ⟨by kernel_rfl⟩
instance : Siz Tryd.prog 66 2 := ⟨by kernel_rfl⟩
instance : Agl Tryd.prog 66 := ⟨_, Und.out, rfl⟩
instance : Zer Tryd.prog 66 (.agg #[.int .i64 (0), .int .i64 (0)]) [.int .i64 (0), .int .i64 (0)] := ⟨by kernel_rfl, rfl⟩
instance : Row Tryd.prog 66 2 16 := Row.of (n := 1) (by kernel_rfl)
instance : EqT Tryd.prog 66 [.int .i64, .int .i64] := EqT.of (fs := Tryd.prog.fieldsOf 66) (by kernel_rfl) (by kernel_rfl) (by kernel_rfl)
instance : Fld Tryd.prog 66 0 0 := Fld.of (n := 0) (by kernel_rfl)
instance : Fld Tryd.prog 66 1 1 := Fld.of (n := 0) (by kernel_rfl)
instance : Bld Tryd.prog 66 [(0, 1), (1, 1)] := Bld.of (fs := Tryd.prog.fieldsOf 66) (by kernel_rfl) (fun w => by kernel_rfl)
instance : Und Tryd.prog 67 (.array 3 66) := ⟨by kernel_rfl⟩
instance : Siz Tryd.prog 67 6 := ⟨by kernel_rfl⟩
instance : Agl Tryd.prog 67 := ⟨_, Und.out, rfl⟩
instance : Zer Tryd.prog 67 (.agg #[.int .i64 (0), .int .i64 (0), .int .i64 (0), .int .i64 (0), .int .i64 (0), .int .i64 (0)]) [.int .i64 (0), .int .i64 (0), .int .i64 (0), .int .i64 (0), .int .i64 (0), .int .i64 (0)] := ⟨by kernel_rfl, rfl⟩
instance : Row Tryd.prog 67 6 48 := Row.of (n := 5) (by kernel_rfl)
instance : Und Tryd.prog 68 (.func #[3] #[4] false) := ⟨by kernel_rfl⟩
instance : Siz Tryd.prog 68 1 := ⟨by kernel_rfl⟩
instance : Sgl Tryd.prog 68 := ⟨_, Und.out, rfl⟩
instance : Zer Tryd.prog 68 (.nilFunc) [.nilFunc] := ⟨by kernel_rfl, rfl⟩
instance : Row Tryd.prog 68 1 8 := Row.of (n := 0) (by kernel_rfl)
instance : Und Tryd.prog 69 (.func #[27] #[4] false) := ⟨by kernel_rfl⟩
instance : Siz Tryd.prog 69 1 := ⟨by kernel_rfl⟩
instance : Sgl Tryd.prog 69 := ⟨_, Und.out, rfl⟩
instance : Zer Tryd.prog 69 (.nilFunc) [.nilFunc] := ⟨by kernel_rfl, rfl⟩
instance : Row Tryd.prog 69 1 8 := Row.of (n := 0) (by kernel_rfl)
instance : Und Tryd.prog 70 (.int .i64) := ⟨by kernel_rfl⟩
instance : Siz Tryd.prog 70 1 := ⟨by kernel_rfl⟩
instance : Sgl Tryd.prog 70 := ⟨_, Und.out, rfl⟩
instance : Zer Tryd.prog 70 (.int .i64 (0)) [.int .i64 (0)] := ⟨by kernel_rfl, rfl⟩
instance : Row Tryd.prog 70 1 8 := Row.of (n := 0) (by kernel_rfl)
instance : Und Tryd.prog 71 (.struct (Tryd.prog.fieldsOf 71)) := ⟨by kernel_rfl⟩
instance : Siz Tryd.prog 71 4 := ⟨by kernel_rfl⟩
instance : Agl Tryd.prog 71 := ⟨_, Und.out, rfl⟩
instance : Zer Tryd.prog 71 (.agg #[.int .i64 (0), .int .i64 (0), .int .i64 (0), .int .i64 (0)]) [.int .i64 (0), .int .i64 (0), .int .i64 (0), .int .i64 (0)] := ⟨by kernel_rfl, rfl⟩
instance : Row Tryd.prog 71 4 32 := Row.of (n := 3) (by kernel_rfl)
instance : EqT Tryd.prog 71 [.int .i64, .int .i64, .int .i64, .int .i64] := EqT.of (fs := Tryd.prog.fieldsOf 71) (by kernel_rfl) (by kernel_rfl) (by kernel_rfl)
instance : Fld Tryd.prog 71 0 0 := Fld.of (n := 0) (by kernel_rfl)
instance : Fld Tryd.prog 71 1 1 := Fld.of (n := 0) (by kernel_rfl)
instance : Fld Tryd.prog 71 2 2 := Fld.of (n := 0) (by kernel_rfl)
instance : Fld Tryd.prog 71 3 3 := Fld.of (n := 0) (by kernel_rfl)
instance : Bld Tryd.prog 71 [(0, 1), (1, 1), (2, 1), (3, 1)] := Bld.of (fs := Tryd.prog.fieldsOf 71) (by kernel_rfl) (fun w => by kernel_rfl)
instance : Und Tryd.prog 72 (.int .i64) := ⟨by kernel_rfl⟩
instance : Siz Tryd.prog 72 1 := ⟨by kernel_rfl⟩
instance : Sgl Tryd.prog 72 := ⟨_, Und.out, rfl⟩
instance : Zer Tryd.prog 72 (.int .i64 (0)) [.int .i64 (0)] := ⟨by kernel_rfl, rfl⟩
instance : Row Tryd.prog 72 1 8 := Row.of (n := 0) (by kernel_rfl)
instance : Und Tryd.prog 73 (.int .i64) := ⟨by kernel_rfl⟩
instance : Siz Tryd.prog 73 1 := ⟨by kernel_rfl⟩
instance : Sgl Tryd.prog 73 := ⟨_, Und.out, rfl⟩
instance : Zer Tryd.prog 73 (.int .i64 (0)) [.int .i64 (0)] := ⟨by kernel_rfl, rfl⟩
instance : Row Tryd.prog 73 1 8 := Row.of (n := 0) (by kernel_rfl)
instance : Und Tryd.prog 74 (.func #[3] #[] false) := ⟨by kernel_rfl⟩
instance : Siz Tryd.prog 74 1 := ⟨by kernel_rfl⟩
instance : Sgl Tryd.prog 74 := ⟨_, Und.out, rfl⟩
instance : Zer Tryd.prog 74 (.nilFunc) [.nilFunc] := ⟨by kernel_rfl, rfl⟩
instance : Row Tryd.prog 74 1 8 := Row.of (n := 0) (by kernel_rfl)
instance : Und Tryd.prog 75 (.pointer 5) := ⟨by kernel_rfl⟩
instance : Siz Tryd.prog 75 1 := ⟨by kernel_rfl⟩
instance : Sgl Tryd.prog 75 := ⟨_, Und.out, rfl⟩
instance : Zer Tryd.prog 75 (.pointer none) [.pointer none] := ⟨by kernel_rfl, rfl⟩
instance : Row Tryd.prog 75 1 8 := Row.of (n := 0) (by kernel_rfl)
instance : Und Tryd.prog 76 (.func #[9] #[3] false) := ⟨by kernel_rfl⟩
instance : Siz Tryd.prog 76 1 := ⟨by kernel_rfl⟩
instance : Sgl Tryd.prog 76 := ⟨_, Und.out, rfl⟩
instance : Zer Tryd.prog 76 (.nilFunc) [.nilFunc] := ⟨by kernel_rfl, rfl⟩
instance : Row Tryd.prog 76 1 8 := Row.of (n := 0) (by kernel_rfl)
instance : Und Tryd.prog 77 (.func #[9] #[71] false) := ⟨by kernel_rfl⟩
instance : Siz Tryd.prog 77 1 := ⟨by kernel_rfl⟩
instance : Sgl Tryd.prog 77 := ⟨_, Und.out, rfl⟩
instance : Zer Tryd.prog 77 (.nilFunc) [.nilFunc] := ⟨by kernel_rfl, rfl⟩
instance : Row Tryd.prog 77 1 8 := Row.of (n := 0) (by kernel_rfl)
instance : Und Tryd.prog 78 (.tuple #[2, 56]) := ⟨by kernel_rfl⟩
instance : Siz Tryd.prog 78 1 := ⟨by kernel_rfl⟩
instance : Sgl Tryd.prog 78 := ⟨_, Und.out, rfl⟩
instance : Und Tryd.prog 79 (.func #[9, 3, 3] #[2, 56] false) := ⟨by kernel_rfl⟩
instance : Siz Tryd.prog 79 1 := ⟨by kernel_rfl⟩
instance : Sgl Tryd.prog 79 := ⟨_, Und.out, rfl⟩
instance : Zer Tryd.prog 79 (.nilFunc) [.nilFunc] := ⟨by kernel_rfl, rfl⟩
instance : Row Tryd.prog 79 1 8 := Row.of (n := 0) (by kernel_rfl)
instance : Und Tryd.prog 80 (.array 34 63) := ⟨by kernel_rfl⟩
instance : Siz Tryd.prog 80 136 := ⟨by kernel_rfl⟩
instance : Agl Tryd.prog 80 := ⟨_, Und.out, rfl⟩
instance : Und Tryd.prog 81 (.func #[] #[80] false) := ⟨by kernel_rfl⟩
instance : Siz Tryd.prog 81 1 := ⟨by kernel_rfl⟩
instance : Sgl Tryd.prog 81 := ⟨_, Und.out, rfl⟩
instance : Zer Tryd.prog 81 (.nilFunc) [.nilFunc] := ⟨by kernel_rfl, rfl⟩
instance : Row Tryd.prog 81 1 8 := Row.of (n := 0) (by kernel_rfl)
instance : Und Tryd.prog 82 (.func #[83, 3] #[4] false) := ⟨by kernel_rfl⟩
instance : Siz Tryd.prog 82 1 := ⟨by kernel_rfl⟩
instance : Sgl Tryd.prog 82 := ⟨_, Und.out, rfl⟩
instance : Zer Tryd.prog 82 (.nilFunc) [.nilFunc] := ⟨by kernel_rfl, rfl⟩
instance : Row Tryd.prog 82 1 8 := Row.of (n := 0) (by kernel_rfl)
instance : Und Tryd.prog 83 (.slice 3) := ⟨by kernel_rfl⟩
instance : Siz Tryd.prog 83 1 := ⟨by kernel_rfl⟩
instance : Sgl Tryd.prog 83 := ⟨_, Und.out, rfl⟩
instance : Zer Tryd.prog 83 (.slice none 0 0) [.slice none 0 0] := ⟨by kernel_rfl, rfl⟩
instance : Row Tryd.prog 83 1 24 := Row.of (n := 0) (by kernel_rfl)
instance : Und Tryd.prog 84 (.func #[9, 9] #[3] false) := ⟨by kernel_rfl⟩
instance : Siz Tryd.prog 84 1 := ⟨by kernel_rfl⟩
instance : Sgl Tryd.prog 84 := ⟨_, Und.out, rfl⟩
instance : Zer Tryd.prog 84 (.nilFunc) [.nilFunc] := ⟨by kernel_rfl, rfl⟩
instance : Row Tryd.prog 84 1 8 := Row.of (n := 0) (by kernel_rfl)
instance : Und Tryd.prog 86 (.func #[85] #[85] false) := ⟨by kernel_rfl⟩
instance : Siz Tryd.prog 86 1 := ⟨by kernel_rfl⟩
instance : Sgl Tryd.prog 86 := ⟨_, Und.out, rfl⟩
instance : Zer Tryd.prog 86 (.nilFunc) [.nilFunc] := ⟨by kernel_rfl, rfl⟩
instance : Row Tryd.prog 86 1 8 := Row.of (n := 0) (by kernel_rfl)
instance : Und Tryd.prog 87 (.func #[9, 9, 3, 3, 56] #[56] false) := ⟨by kernel_rfl⟩
instance : Siz Tryd.prog 87 1 := ⟨by kernel_rfl⟩
instance : Sgl Tryd.prog 87 := ⟨_, Und.out, rfl⟩
instance : Zer Tryd.prog 87 (.nilFunc) [.nilFunc] := ⟨by kernel_rfl, rfl⟩
instance : Row Tryd.prog 87 1 8 := Row.of (n := 0) (by kernel_rfl)
instance : Und Tryd.prog 88 (.func #[83, 3] #[3] false) := ⟨by kernel_rfl⟩
instance : Siz Tryd.prog 88 1 := ⟨by kernel_rfl⟩
instance : Sgl Tryd.prog 88 := ⟨_, Und.out, rfl⟩
instance : Zer Tryd.prog 88 (.nilFunc) [.nilFunc] := ⟨by kernel_rfl, rfl⟩
instance : Row Tryd.prog 88 1 8 := Row.of (n := 0) (by kernel_rfl)
instance : Und Tryd.prog 89 (.func #[3] #[52] false) := ⟨by kernel_rfl⟩
instance : Siz Tryd.prog 89 1 := ⟨by kernel_rfl⟩
instance : Sgl Tryd.prog 89 := ⟨_, Und.out, rfl⟩
instance : Zer Tryd.prog 89 (.nilFunc) [.nilFunc] := ⟨by kernel_rfl, rfl⟩
instance : Row Tryd.prog 89 1 8 := Row.of (n := 0) (by kernel_rfl)
instance : Und Tryd.prog 90 (.func #[9, 5] #[3] false) := ⟨by kernel_rfl⟩
instance : Siz Tryd.prog 90 1 := ⟨by kernel_rfl⟩
instance : Sgl Tryd.prog 90 := ⟨_, Und.out, rfl⟩
instance : Zer Tryd.prog 90 (.nilFunc) [.nilFunc] := ⟨by kernel_rfl, rfl⟩
instance : Row Tryd.prog 90 1 8 := Row.of (n := 0) (by kernel_rfl)
instance : Und Tryd.prog 91 (.func #[3] #[3] false) := ⟨by kernel_rfl⟩
instance : Siz Tryd.prog 91 1 := ⟨by kernel_rfl⟩
instance : Sgl Tryd.prog 91 := ⟨_, Und.out, rfl⟩
instance : Zer Tryd.prog 91 (.nilFunc) [.nilFunc] := ⟨by kernel_rfl, rfl⟩
instance : Row Tryd.prog 91 1 8 := Row.of (n := 0) (by kernel_rfl)
instance : Und Tryd.prog 92 (.int .u64) := ⟨by kernel_rfl⟩
instance : Siz Tryd.prog 92 1 := ⟨by kernel_rfl⟩
instance : Sgl Tryd.prog 92 := ⟨_, Und.out, rfl⟩
instance : Zer Tryd.prog 92 (.int .u64 (0)) [.int .u64 (0)] := ⟨by kernel_rfl, rfl⟩
instance : Row Tryd.prog 92 1 8 := Row.of (n := 0) (by kernel_rfl)
instance : Und Tryd.prog 93 (.array 16 9) := ⟨by kernel_rfl⟩
instance : Siz Tryd.prog 93 16 := ⟨by kernel_rfl⟩
instance : Agl Tryd.prog 93 := ⟨_, Und.out, rfl⟩
instance : Zer Tryd.prog 93 (.agg #[.string ⟨#[]⟩, .string ⟨#[]⟩, .string ⟨#[]⟩, .string ⟨#[]⟩, .string ⟨#[]⟩, .string ⟨#[]⟩, .string ⟨#[]⟩, .string ⟨#[]⟩, .string ⟨#[]⟩, .string ⟨#[]⟩, .string ⟨#[]⟩, .string ⟨#[]⟩, .string ⟨#[]⟩, .string ⟨#[]⟩, .string ⟨#[]⟩, .string ⟨#[]⟩]) [.string ⟨#[]⟩, .string ⟨#[]⟩, .string ⟨#[]⟩, .string ⟨#[]⟩, .string ⟨#[]⟩, .string ⟨#[]⟩, .string ⟨#[]⟩, .string ⟨#[]⟩, .string ⟨#[]⟩, .string ⟨#[]⟩, .string ⟨#[]⟩, .string ⟨#[]⟩, .string ⟨#[]⟩, .string ⟨#[]⟩, .string ⟨#[]⟩, .string ⟨#[]⟩] := ⟨by kernel_rfl, rfl⟩
instance : Row Tryd.prog 93 16 256 := Row.of (n := 15) (by kernel_rfl)
instance : Und Tryd.prog 94 (.func #[9, 21] #[3] false) := ⟨by kernel_rfl⟩
instance : Siz Tryd.prog 94 1 := ⟨by kernel_rfl⟩
instance : Sgl Tryd.prog 94 := ⟨_, Und.out, rfl⟩
instance : Zer Tryd.prog 94 (.nilFunc) [.nilFunc] := ⟨by kernel_rfl, rfl⟩
instance : Row Tryd.prog 94 1 8 := Row.of (n := 0) (by kernel_rfl)
instance : Und Tryd.prog 95 (.array 256 4) := ⟨by kernel_rfl⟩
instance : Siz Tryd.prog 95 256 := ⟨by kernel_rfl⟩
instance : Agl Tryd.prog 95 := ⟨_, Und.out, rfl⟩
instance : Und Tryd.prog 96 (.array 256 4) := ⟨by kernel_rfl⟩
instance : Siz Tryd.prog 96 256 := ⟨by kernel_rfl⟩
instance : Agl Tryd.prog 96 := ⟨_, Und.out, rfl⟩
instance : Und Tryd.prog 97 (.tuple #[96, 4]) := ⟨by kernel_rfl⟩
instance : Siz Tryd.prog 97 1 := ⟨by kernel_rfl⟩
instance : Sgl Tryd.prog 97 := ⟨_, Und.out, rfl⟩
instance : Und Tryd.prog 98 (.func #[9] #[96, 4] false) := ⟨by kernel_rfl⟩
instance : Siz Tryd.prog 98 1 := ⟨by kernel_rfl⟩
instance : Sgl Tryd.prog 98 := ⟨_, Und.out, rfl⟩
instance : Zer Tryd.prog 98 (.nilFunc) [.nilFunc] := ⟨by kernel_rfl, rfl⟩
instance : Row Tryd.prog 98 1 8 := Row.of (n := 0) (by kernel_rfl)
instance : Und Tryd.prog 99 (.func #[5] #[4] false) := ⟨by kernel_rfl⟩
instance : Siz Tryd.prog 99 1 := ⟨by kernel_rfl⟩
instance : Sgl Tryd.prog 99 := ⟨_, Und.out, rfl⟩
instance : Zer Tryd.prog 99 (.nilFunc) [.nilFunc] := ⟨by kernel_rfl, rfl⟩
instance : Row Tryd.prog 99 1 8 := Row.of (n := 0) (by kernel_rfl)
instance : Und Tryd.prog 100 (.tuple #[21, 3]) := ⟨by kernel_rfl⟩
instance : Siz Tryd.prog 100 1 := ⟨by kernel_rfl⟩
instance : Sgl Tryd.prog 100 := ⟨_, Und.out, rfl⟩
instance : Und Tryd.prog 101 (.func #[9] #[21, 3] false) := ⟨by kernel_rfl⟩
instance : Siz Tryd.prog 101 1 := ⟨by kernel_rfl⟩
instance : Sgl Tryd.prog 101 := ⟨_, Und.out, rfl⟩
instance : Zer Tryd.prog 101 (.nilFunc) [.nilFunc] := ⟨by kernel_rfl, rfl⟩
instance : Row Tryd.prog 101 1 8 := Row.of (n := 0) (by kernel_rfl)
instance : Und Tryd.prog 102 (.int .i64) := ⟨by kernel_rfl⟩
instance : Siz Tryd.prog 102 1 := ⟨by kernel_rfl⟩
instance : Sgl Tryd.prog 102 := ⟨_, Und.out, rfl⟩
instance : Zer Tryd.prog 102 (.int .i64 (0)) [.int .i64 (0)] := ⟨by kernel_rfl, rfl⟩
instance : Row Tryd.prog 102 1 8 := Row.of (n := 0) (by kernel_rfl)
instance : Und Tryd.prog 103 (.int .u64) := ⟨by kernel_rfl⟩
instance : Siz Tryd.prog 103 1 := ⟨by kernel_rfl⟩
instance : Sgl Tryd.prog 103 := ⟨_, Und.out, rfl⟩
instance : Zer Tryd.prog 103 (.int .u64 (0)) [.int .u64 (0)] := ⟨by kernel_rfl, rfl⟩
instance : Row Tryd.prog 103 1 8 := Row.of (n := 0) (by kernel_rfl)
instance : Und Tryd.prog 104 (.tuple #[103, 56]) := ⟨by kernel_rfl⟩
instance : Siz Tryd.prog 104 1 := ⟨by kernel_rfl⟩
instance : Sgl Tryd.prog 104 := ⟨_, Und.out, rfl⟩
instance : Und Tryd.prog 105 (.func #[9, 3, 3] #[103, 56] false) := ⟨by kernel_rfl⟩
instance : Siz Tryd.prog 105 1 := ⟨by kernel_rfl⟩
instance : Sgl Tryd.prog 105 := ⟨_, Und.out, rfl⟩
instance : Zer Tryd.prog 105 (.nilFunc) [.nilFunc] := ⟨by kernel_rfl, rfl⟩
instance : Row Tryd.prog 105 1 8 := Row.of (n := 0) (by kernel_rfl)
instance : Und Tryd.prog 106 (.pointer 118) := ⟨by kernel_rfl⟩
instance : Siz Tryd.prog 106 1 := ⟨by kernel_rfl⟩
instance : Sgl Tryd.prog 106 := ⟨_, Und.out, rfl⟩
instance : Zer Tryd.prog 106 (.pointer none) [.pointer none] := ⟨by kernel_rfl, rfl⟩
instance : Row Tryd.prog 106 1 8 := Row.of (n := 0) (by kernel_rfl)
instance : Und Tryd.prog 107 (.func #[9, 9] #[106] false) := ⟨by kernel_rfl⟩
instance : Siz Tryd.prog 107 1 := ⟨by kernel_rfl⟩
instance : Sgl Tryd.prog 107 := ⟨_, Und.out, rfl⟩
instance : Zer Tryd.prog 107 (.nilFunc) [.nilFunc] := ⟨by kernel_rfl, rfl⟩
instance : Row Tryd.prog 107 1 8 := Row.of (n := 0) (by kernel_rfl)
instance : Und Tryd.prog 108 (.func #[9, 9, 3] #[106] false) := ⟨by kernel_rfl⟩
instance : Siz Tryd.prog 108 1 := ⟨by kernel_rfl⟩
instance : Sgl Tryd.prog 108 := ⟨_, Und.out, rfl⟩
instance : Zer Tryd.prog 108 (.nilFunc) [.nilFunc] := ⟨by kernel_rfl, rfl⟩
instance : Row Tryd.prog 108 1 8 := Row.of (n := 0) (by kernel_rfl)
instance : Und Tryd.prog 109 (.int .u32) := ⟨by kernel_rfl⟩
instance : Siz Tryd.prog 109 1 := ⟨by kernel_rfl⟩
instance : Sgl Tryd.prog 109 := ⟨_, Und.out, rfl⟩
instance : Zer Tryd.prog 109 (.int .u32 (0)) [.int .u32 (0)] := ⟨by kernel_rfl, rfl⟩
instance : Row Tryd.prog 109 1 4 := Row.of (n := 0) (by kernel_rfl)
instance : Und Tryd.prog 110 (.tuple #[109, 109]) := ⟨by kernel_rfl⟩
instance : Siz Tryd.prog 110 1 := ⟨by kernel_rfl⟩
instance : Sgl Tryd.prog 110 := ⟨_, Und.out, rfl⟩
instance : Und Tryd.prog 111 (.func #[9] #[109, 109] false) := ⟨by kernel_rfl⟩
instance : Siz Tryd.prog 111 1 := ⟨by kernel_rfl⟩
instance : Sgl Tryd.prog 111 := ⟨_, Und.out, rfl⟩
instance : Zer Tryd.prog 111 (.nilFunc) [.nilFunc] := ⟨by kernel_rfl, rfl⟩
instance : Row Tryd.prog 111 1 8 := Row.of (n := 0) (by kernel_rfl)
instance : Und Tryd.prog 112 (.func #[21] #[4] false) := ⟨by kernel_rfl⟩
instance : Siz Tryd.prog 112 1 := ⟨by kernel_rfl⟩
instance : Sgl Tryd.prog 112 := ⟨_, Und.out, rfl⟩
instance : Zer Tryd.prog 112 (.nilFunc) [.nilFunc] := ⟨by kernel_rfl, rfl⟩
instance : Row Tryd.prog 112 1 8 := Row.of (n := 0) (by kernel_rfl)
instance : Und Tryd.prog 113 (.pointer 96) := ⟨by kernel_rfl⟩
instance : Siz Tryd.prog 113 1 := ⟨by kernel_rfl⟩
instance : Sgl Tryd.prog 113 := ⟨_, Und.out, rfl⟩
instance : Zer Tryd.prog 113 (.pointer none) [.pointer none] := ⟨by kernel_rfl, rfl⟩
instance : Row Tryd.prog 113 1 8 := Row.of (n := 0) (by kernel_rfl)
instance : Und Tryd.prog 114 (.func #[5] #[5] false) := ⟨by kernel_rfl⟩
instance : Siz Tryd.prog 114 1 := ⟨by kernel_rfl⟩
instance : Sgl Tryd.prog 114 := ⟨_, Und.out, rfl⟩
instance : Zer Tryd.prog 114 (.nilFunc) [.nilFunc] := ⟨by kernel_rfl, rfl⟩
instance : Row Tryd.prog 114 1 8 := Row.of (n := 0) (by kernel_rfl)
instance : Und Tryd.prog 115 (.func #[9] #[4] false) := ⟨by kernel_rfl⟩
instance : Siz Tryd.prog 115 1 := ⟨by kernel_rfl⟩
instance : Sgl Tryd.prog 115 := ⟨_, Und.out, rfl⟩
instance : Zer Tryd.prog 115 (.nilFunc) [.nilFunc] := ⟨by kernel_rfl, rfl⟩
instance : Row Tryd.prog 115 1 8 := Row.of (n := 0) (by kernel_rfl)
instance : Und Tryd.prog 116 (.func #[9] #[9] false) := ⟨by kernel_rfl⟩
instance : Siz Tryd.prog 116 1 := ⟨by kernel_rfl⟩
instance : Sgl Tryd.prog 116 := ⟨_, Und.out, rfl⟩
instance : Zer Tryd.prog 116 (.nilFunc) [.nilFunc] := ⟨by kernel_rfl, rfl⟩
instance : Row Tryd.prog 116 1 8 := Row.of (n := 0) (by kernel_rfl)
instance : Und Tryd.prog 117 (.struct (Tryd.prog.fieldsOf 117)) := ⟨by kernel_rfl⟩
instance : Siz Tryd.prog 117 3 := ⟨by kernel_rfl⟩
instance : Agl Tryd.prog 117 := ⟨_, Und.out, rfl⟩
instance : Zer Tryd.prog 117 (.agg #[.string ⟨#[]⟩, .string ⟨#[]⟩, .nilIface]) [.string ⟨#[]⟩, .string ⟨#[]⟩, .nilIface] := ⟨by kernel_rfl, rfl⟩
instance : Row Tryd.prog 117 3 48 := Row.of (n := 2) (by kernel_rfl)
instance : Fld Tryd.prog 117 0 0 := Fld.of (n := 0) (by kernel_rfl)
instance : Fld Tryd.prog 117 1 1 := Fld.of (n := 0) (by kernel_rfl)
instance : Fld Tryd.prog 117 2 2 := Fld.of (n := 0) (by kernel_rfl)
instance : Bld Tryd.prog 117 [(0, 1), (1, 1), (2, 1)] := Bld.of (fs := Tryd.prog.fieldsOf 117) (by kernel_rfl) (fun w => by kernel_rfl)
instance : Und Tryd.prog 118 (.struct (Tryd.prog.fieldsOf 118)) := ⟨by kernel_rfl⟩
instance : Siz Tryd.prog 118 3 := ⟨by kernel_rfl⟩
instance : Agl Tryd.prog 118 := ⟨_, Und.out, rfl⟩
instance : Zer Tryd.prog 118 (.agg #[.string ⟨#[]⟩, .string ⟨#[]⟩, .nilIface]) [.string ⟨#[]⟩, .string ⟨#[]⟩, .nilIface] := ⟨by kernel_rfl, rfl⟩
instance : Row Tryd.prog 118 3 48 := Row.of (n := 2) (by kernel_rfl)
instance : Fld Tryd.prog 118 0 0 := Fld.of (n := 0) (by kernel_rfl)
instance : Fld Tryd.prog 118 1 1 := Fld.of (n := 0) (by kernel_rfl)
instance : Fld Tryd.prog 118 2 2 := Fld.of (n := 0) (by kernel_rfl)
instance : Bld Tryd.prog 118 [(0, 1), (1, 1), (2, 1)] := Bld.of (fs := Tryd.prog.fieldsOf 118) (by kernel_rfl) (fun w => by kernel_rfl)
instance : Und Tryd.prog 119 (.func #[9] #[56] false) := ⟨by kernel_rfl⟩
instance : Siz Tryd.prog 119 1 := ⟨by kernel_rfl⟩
instance : Sgl Tryd.prog 119 := ⟨_, Und.out, rfl⟩
instance : Zer Tryd.prog 119 (.nilFunc) [.nilFunc] := ⟨by kernel_rfl, rfl⟩
instance : Row Tryd.prog 119 1 8 := Row.of (n := 0) (by kernel_rfl)
instance : Und Tryd.prog 120 (.pointer 122) := ⟨by kernel_rfl⟩
instance : Siz Tryd.prog 120 1 := ⟨by kernel_rfl⟩
instance : Sgl Tryd.prog 120 := ⟨_, Und.out, rfl⟩
instance : Zer Tryd.prog 120 (.pointer none) [.pointer none] := ⟨by kernel_rfl, rfl⟩
instance : Row Tryd.prog 120 1 8 := Row.of (n := 0) (by kernel_rfl)
instance : Und Tryd.prog 121 (.struct (Tryd.prog.fieldsOf 121)) := ⟨by kernel_rfl⟩
instance : Siz Tryd.prog 121 1 := ⟨by kernel_rfl⟩
instance : Agl Tryd.prog 121 := ⟨_, Und.out, rfl⟩
instance : Zer Tryd.prog 121 (.agg #[.string ⟨#[]⟩]) [.string ⟨#[]⟩] := ⟨by kernel_rfl, rfl⟩
instance : Row Tryd.prog 121 1 16 := Row.of (n := 0) (by kernel_rfl)
instance : EqT Tryd.prog 121 [.str] := EqT.of (fs := Tryd.prog.fieldsOf 121) (by kernel_rfl) (by kernel_rfl) (by kernel_rfl)
instance : Fld Tryd.prog 121 0 0 := Fld.of (n := 0) (by kernel_rfl)
instance : Bld Tryd.prog 121 [(0, 1)] := Bld.of (fs := Tryd.prog.fieldsOf 121) (by kernel_rfl) (fun w => by kernel_rfl)
instance : Und Tryd.prog 122 (.struct (Tryd.prog.fieldsOf 122)) := ⟨by kernel_rfl⟩
instance : Siz Tryd.prog 122 1 := ⟨by kernel_rfl⟩
instance : Agl Tryd.prog 122 := ⟨_, Und.out, rfl⟩
instance : Zer Tryd.prog 122 (.agg #[.string ⟨#[]⟩]) [.string ⟨#[]⟩] := ⟨by kernel_rfl, rfl⟩
instance : Row Tryd.prog 122 1 16 := Row.of (n := 0) (by kernel_rfl)
instance : EqT Tryd.prog 122 [.str] := EqT.of (fs := Tryd.prog.fieldsOf 122) (by kernel_rfl) (by kernel_rfl) (by kernel_rfl)
instance : Fld Tryd.prog 122 0 0 := Fld.of (n := 0) (by kernel_rfl)
instance : Bld Tryd.prog 122 [(0, 1)] := Bld.of (fs := Tryd.prog.fieldsOf 122) (by kernel_rfl) (fun w => by kernel_rfl)
instance : Und Tryd.prog 123 (.array 256 5) := ⟨by kernel_rfl⟩
instance : Siz Tryd.prog 123 256 := ⟨by kernel_rfl⟩
instance : Agl Tryd.prog 123 := ⟨_, Und.out, rfl⟩
instance : Und Tryd.prog 124 (.struct (Tryd.prog.fieldsOf 124)) := ⟨by kernel_rfl⟩
instance : Siz Tryd.prog 124 2 := ⟨by kernel_rfl⟩
instance : Agl Tryd.prog 124 := ⟨_, Und.out, rfl⟩
instance : Zer Tryd.prog 124 (.agg #[.int .u8 (0), .int .u8 (0)]) [.int .u8 (0), .int .u8 (0)] := ⟨by kernel_rfl, rfl⟩
instance : Row Tryd.prog 124 2 2 := Row.of (n := 1) (by kernel_rfl)
instance : EqT Tryd.prog 124 [.int .u8, .int .u8] := EqT.of (fs := Tryd.prog.fieldsOf 124) (by kernel_rfl) (by kernel_rfl) (by kernel_rfl)
instance : Fld Tryd.prog 124 0 0 := Fld.of (n := 0) (by kernel_rfl)
instance : Fld Tryd.prog 124 1 1 := Fld.of (n := 0) (by kernel_rfl)
instance : Bld Tryd.prog 124 [(0, 1), (1, 1)] := Bld.of (fs := Tryd.prog.fieldsOf 124) (by kernel_rfl) (fun w => by kernel_rfl)
instance : Und Tryd.prog 125 (.struct (Tryd.prog.fieldsOf 125)) := ⟨by kernel_rfl⟩
instance : Siz Tryd.prog 125 2 := ⟨by kernel_rfl⟩
instance : Agl Tryd.prog 125 := ⟨_, Und.out, rfl⟩
instance : Zer Tryd.prog 125 (.agg #[.int .u8 (0), .int .u8 (0)]) [.int .u8 (0), .int .u8 (0)] := ⟨by kernel_rfl, rfl⟩
instance : Row Tryd.prog 125 2 2 := Row.of (n := 1) (by kernel_rfl)
instance : EqT Tryd.prog 125 [.int .u8, .int .u8] := EqT.of (fs := Tryd.prog.fieldsOf 125) (by kernel_rfl) (by kernel_rfl) (by kernel_rfl)
instance : Fld Tryd.prog 125 0 0 := Fld.of (n := 0) (by kernel_rfl)
instance : Fld Tryd.prog 125 1 1 := Fld.of (n := 0) (by kernel_rfl)
instance : Bld Tryd.prog 125 [(0, 1), (1, 1)] := Bld.of (fs := Tryd.prog.fieldsOf 125) (by kernel_rfl) (fun w => by kernel_rfl)
instance : Und Tryd.prog 126 (.array 16 125) := ⟨by kernel_rfl⟩
instance : Siz Tryd.prog 126 32 := ⟨by kernel_rfl⟩
instance : Agl Tryd.prog 126 := ⟨_, Und.out, rfl⟩
instance : Zer Tryd.prog 126 (.agg #[.int .u8 (0), .int .u8 (0), .int .u8 (0), .int .u8 (0), .int .u8 (0), .int .u8 (0), .int .u8 (0), .int .u8 (0), .int .u8 (0), .int .u8 (0), .int .u8 (0), .int .u8 (0), .int .u8 (0), .int .u8 (0), .int .u8 (0), .int .u8 (0), .int .u8 (0), .int .u8 (0), .int .u8 (0), .int .u8 (0), .int .u8 (0), .int .u8 (0), .int .u8 (0), .int .u8 (0), .int .u8 (0), .int .u8 (0), .int .u8 (0), .int .u8 (0), .int .u8 (0), .int .u8 (0), .int .u8 (0), .int .u8 (0)]) [.int .u8 (0), .int .u8 (0), .int .u8 (0), .int .u8 (0), .int .u8 (0), .int .u8 (0), .int .u8 (0), .int .u8 (0), .int .u8 (0), .int .u8 (0), .int .u8 (0), .int .u8 (0), .int .u8 (0), .int .u8 (0), .int .u8 (0), .int .u8 (0), .int .u8 (0), .int .u8 (0), .int .u8 (0), .int .u8 (0), .int .u8 (0), .int .u8 (0), .int .u8 (0), .int .u8 (0), .int .u8 (0), .int .u8 (0), .int .u8 (0), .int .u8 (0), .int .u8 (0), .int .u8 (0), .int .u8 (0), .int .u8 (0)] := ⟨by kernel_rfl, rfl⟩
instance : Row Tryd.prog 126 32 32 := Row.of (n := 31) (by kernel_rfl)
instance : Und Tryd.prog 127 (.func #[2, 3] #[9] false) := ⟨by kernel_rfl⟩
instance : Siz Tryd.prog 127 1 := ⟨by kernel_rfl⟩
instance : Sgl Tryd.prog 127 := ⟨_, Und.out, rfl⟩
instance : Zer Tryd.prog 127 (.nilFunc) [.nilFunc] := ⟨by kernel_rfl, rfl⟩
instance : Row Tryd.prog 127 1 8 := Row.of (n := 0) (by kernel_rfl)
instance : Und Tryd.prog 128 (.array 24 5) := ⟨by kernel_rfl⟩
instance : Siz Tryd.prog 128 24 := ⟨by kernel_rfl⟩
instance : Agl Tryd.prog 128 := ⟨_, Und.out, rfl⟩
instance : Zer Tryd.prog 128 (.agg #[.int .u8 (0), .int .u8 (0), .int .u8 (0), .int .u8 (0), .int .u8 (0), .int .u8 (0), .int .u8 (0), .int .u8 (0), .int .u8 (0), .int .u8 (0), .int .u8 (0), .int .u8 (0), .int .u8 (0), .int .u8 (0), .int .u8 (0), .int .u8 (0), .int .u8 (0), .int .u8 (0), .int .u8 (0), .int .u8 (0), .int .u8 (0), .int .u8 (0), .int .u8 (0), .int .u8 (0)]) [.int .u8 (0), .int .u8 (0), .int .u8 (0), .int .u8 (0), .int .u8 (0), .int .u8 (0), .int .u8 (0), .int .u8 (0), .int .u8 (0), .int .u8 (0), .int .u8 (0), .int .u8 (0), .int .u8 (0), .int .u8 (0), .int .u8 (0), .int .u8 (0), .int .u8 (0), .int .u8 (0), .int .u8 (0), .int .u8 (0), .int .u8 (0), .int .u8 (0), .int .u8 (0), .int .u8 (0)] := ⟨by kernel_rfl, rfl⟩
instance : Row Tryd.prog 128 24 24 := Row.of (n := 23) (by kernel_rfl)
instance : Und Tryd.prog 129 (.func #[103] #[3] false) := ⟨by kernel_rfl⟩
instance : Siz Tryd.prog 129 1 := ⟨by kernel_rfl⟩
instance : Sgl Tryd.prog 129 := ⟨_, Und.out, rfl⟩
instance : Zer Tryd.prog 129 (.nilFunc) [.nilFunc] := ⟨by kernel_rfl, rfl⟩
instance : Row Tryd.prog 129 1 8 := Row.of (n := 0) (by kernel_rfl)
instance : Und Tryd.prog 130 (.func #[52, 103] #[] false) := ⟨by kernel_rfl⟩
instance : Siz Tryd.prog 130 1 := ⟨by kernel_rfl⟩
instance : Sgl Tryd.prog 130 := ⟨_, Und.out, rfl⟩
instance : Zer Tryd.prog 130 (.nilFunc) [.nilFunc] := ⟨by kernel_rfl, rfl⟩
instance : Row Tryd.prog 130 1 8 := Row.of (n := 0) (by kernel_rfl)
instance : Und Tryd.prog 131 (.tuple #[52, 9]) := ⟨by kernel_rfl⟩
instance : Siz Tryd.prog 131 1 := ⟨by kernel_rfl⟩
instance : Sgl Tryd.prog 131 := ⟨_, Und.out, rfl⟩
instance : Und Tryd.prog 132 (.func #[52, 103, 3, 4, 4] #[52, 9] false) := ⟨by kernel_rfl⟩
instance : Siz Tryd.prog 132 1 := ⟨by kernel_rfl⟩
instance : Sgl Tryd.prog 132 := ⟨_, Und.out, rfl⟩
instance : Zer Tryd.prog 132 (.nilFunc) [.nilFunc] := ⟨by kernel_rfl, rfl⟩
instance : Row Tryd.prog 132 1 8 := Row.of (n := 0) (by kernel_rfl)
instance : Und Tryd.prog 133 (.func #[4] #[3] false) := ⟨by kernel_rfl⟩
instance : Siz Tryd.prog 133 1 := ⟨by kernel_rfl⟩
instance : Sgl Tryd.prog 133 := ⟨_, Und.out, rfl⟩
instance : Zer Tryd.prog 133 (.nilFunc) [.nilFunc] := ⟨by kernel_rfl, rfl⟩
instance : Row Tryd.prog 133 1 8 := Row.of (n := 0) (by kernel_rfl)
instance : Und Tryd.prog 134 (.array 20 103) := ⟨by kernel_rfl⟩
instance : Siz Tryd.prog 134 20 := ⟨by kernel_rfl⟩
instance : Agl Tryd.prog 134 := ⟨_, Und.out, rfl⟩
instance : Zer Tryd.prog 134 (.agg #[.int .u64 (0), .int .u64 (0), .int .u64 (0), .int .u64 (0), .int .u64 (0), .int .u64 (0), .int .u64 (0), .int .u64 (0), .int .u64 (0), .int .u64 (0), .int .u64 (0), .int .u64 (0), .int .u64 (0), .int .u64 (0), .int .u64 (0), .int .u64 (0), .int .u64 (0), .int .u64 (0), .int .u64 (0), .int .u64 (0)]) [.int .u64 (0), .int .u64 (0), .int .u64 (0), .int .u64 (0), .int .u64 (0), .int .u64 (0), .int .u64 (0), .int .u64 (0), .int .u64 (0), .int .u64 (0), .int .u64 (0), .int .u64 (0), .int .u64 (0), .int .u64 (0), .int .u64 (0), .int .u64 (0), .int .u64 (0), .int .u64 (0), .int .u64 (0), .int .u64 (0)] := ⟨by kernel_rfl, rfl⟩
instance : Row Tryd.prog 134 20 160 := Row.of (n := 19) (by kernel_rfl)
instance : Und Tryd.prog 135 (.array 65 5) := ⟨by kernel_rfl⟩
instance : Siz Tryd.prog 135 65 := ⟨by kernel_rfl⟩
instance : Agl Tryd.prog 135 := ⟨_, Und.out, rfl⟩
instance : Zer Tryd.prog 135 (.agg #[.int .u8 (0), .int .u8 (0), .int .u8 (0), .int .u8 (0), .int .u8 (0), .int .u8 (0), .int .u8 (0), .int .u8 (0), .int .u8 (0), .int .u8 (0), .int .u8 (0), .int .u8 (0), .int .u8 (0), .int .u8 (0), .int .u8 (0), .int .u8 (0), .int .u8 (0), .int .u8 (0), .int .u8 (0), .int .u8 (0), .int .u8 (0), .int .u8 (0), .int .u8 (0), .int .u8 (0), .int .u8 (0), .int .u8 (0), .int .u8 (0), .int .u8 (0), .int .u8 (0), .int .u8 (0), .int .u8 (0), .int .u8 (0), .int .u8 (0), .int .u8 (0), .int .u8 (0), .int .u8 (0), .int .u8 (0), .int .u8 (0), .int .u8 (0), .int .u8 (0), .int .u8 (0), .int .u8 (0), .int .u8 (0), .int .u8 (0), .int .u8 (0), .int .u8 (0), .int .u8 (0), .int .u8 (0), .int .u8 (0), .int .u8 (0), .int .u8 (0), .int .u8 (0), .int .u8 (0), .int .u8 (0), .int .u8 (0), .int .u8 (0), .int .u8 (0), .int .u8 (0), .int .u8 (0), .int .u8 (0), .int .u8 (0), .int .u8 (0), .int .u8 (0), .int .u8 (0), .int .u8 (0)]) [.int .u8 (0), .int .u8 (0), .int .u8 (0), .int .u8 (0), .int .u8 (0), .int .u8 (0), .int .u8 (0), .int .u8 (0), .int .u8 (0), .int .u8 (0), .int .u8 (0), .int .u8 (0), .int .u8 (0), .int .u8 (0), .int .u8 (0), .int .u8 (0), .int .u8 (0), .int .u8 (0), .int .u8 (0), .int .u8 (0), .int .u8 (0), .int .u8 (0), .int .u8 (0), .int .u8 (0), .int .u8 (0), .int .u8 (0), .int .u8 (0), .int .u8 (0), .int .u8 (0), .int .u8 (0), .int .u8 (0), .int .u8 (0), .int .u8 (0), .int .u8 (0), .int .u8 (0), .int .u8 (0), .int .u8 (0), .int .u8 (0), .int .u8 (0), .int .u8 (0), .int .u8 (0), .int .u8 (0), .int .u8 (0), .int .u8 (0), .int .u8 (0), .int .u8 (0), .int .u8 (0), .int .u8 (0), .int .u8 (0), .int .u8 (0), .int .u8 (0), .int .u8 (0), .int .u8 (0), .int .u8 (0), .int .u8 (0), .int .u8 (0), .int .u8 (0), .int .u8 (0), .int .u8 (0), .int .u8 (0), .int .u8 (0), .int .u8 (0), .int .u8 (0), .int .u8 (0), .int .u8 (0)] := ⟨by kernel_rfl, rfl⟩
instance : Row Tryd.prog 135 65 65 := Row.of (n := 64) (by kernel_rfl)
instance : Und Tryd.prog 136 (.func #[92] #[3] false) := ⟨by kernel_rfl⟩
instance : Siz Tryd.prog 136 1 := ⟨by kernel_rfl⟩
instance : Sgl Tryd.prog 136 := ⟨_, Und.out, rfl⟩
instance : Zer Tryd.prog 136 (.nilFunc) [.nilFunc] := ⟨by kernel_rfl, rfl⟩
instance : Row Tryd.prog 136 1 8 := Row.of (n := 0) (by kernel_rfl)
instance : Und Tryd.prog 137 (.func #[109] #[3] false) := ⟨by kernel_rfl⟩
instance : Siz Tryd.prog 137 1 := ⟨by kernel_rfl⟩
instance : Sgl Tryd.prog 137 := ⟨_, Und.out, rfl⟩
instance : Zer Tryd.prog 137 (.nilFunc) [.nilFunc] := ⟨by kernel_rfl, rfl⟩
instance : Row Tryd.prog 137 1 8 := Row.of (n := 0) (by kernel_rfl)
instance : Und Tryd.prog 138 (.array 32 5) := ⟨by kernel_rfl⟩
instance : Siz Tryd.prog 138 32 := ⟨by kernel_rfl⟩
instance : Agl Tryd.prog 138 := ⟨_, Und.out, rfl⟩
instance : Zer Tryd.prog 138 (.agg #[.int .u8 (0), .int .u8 (0), .int .u8 (0), .int .u8 (0), .int .u8 (0), .int .u8 (0), .int .u8 (0), .int .u8 (0), .int .u8 (0), .int .u8 (0), .int .u8 (0), .int .u8 (0), .int .u8 (0), .int .u8 (0), .int .u8 (0), .int .u8 (0), .int .u8 (0), .int .u8 (0), .int .u8 (0), .int .u8 (0), .int .u8 (0), .int .u8 (0), .int .u8 (0), .int .u8 (0), .int .u8 (0), .int .u8 (0), .int .u8 (0), .int .u8 (0), .int .u8 (0), .int .u8 (0), .int .u8 (0), .int .u8 (0)]) [.int .u8 (0), .int .u8 (0), .int .u8 (0), .int .u8 (0), .int .u8 (0), .int .u8 (0), .int .u8 (0), .int .u8 (0), .int .u8 (0), .int .u8 (0), .int .u8 (0), .int .u8 (0), .int .u8 (0), .int .u8 (0), .int .u8 (0), .int .u8 (0), .int .u8 (0), .int .u8 (0), .int .u8 (0), .int .u8 (0), .int .u8 (0), .int .u8 (0), .int .u8 (0), .int .u8 (0), .int .u8 (0), .int .u8 (0), .int .u8 (0), .int .u8 (0), .int .u8 (0), .int .u8 (0), .int .u8 (0), .int .u8 (0)] := ⟨by kernel_rfl, rfl⟩
instance : Row Tryd.prog 138 32 32 := Row.of (n := 31) (by kernel_rfl)
instance : Und Tryd.prog 139 (.array 64 5) := ⟨by kernel_rfl⟩
instance : Siz Tryd.prog 139 64 := ⟨by kernel_rfl⟩
instance : Agl Tryd.prog 139 := ⟨_, Und.out, rfl⟩
instance : Zer Tryd.prog 139 (.agg #[.int .u8 (0), .int .u8 (0), .int .u8 (0), .int .u8 (0), .int .u8 (0), .int .u8 (0), .int .u8 (0), .int .u8 (0), .int .u8 (0), .int .u8 (0), .int .u8 (0), .int .u8 (0), .int .u8 (0), .int .u8 (0), .int .u8 (0), .int .u8 (0), .int .u8 (0), .int .u8 (0), .int .u8 (0), .int .u8 (0), .int .u8 (0), .int .u8 (0), .int .u8 (0), .int .u8 (0), .int .u8 (0), .int .u8 (0), .int .u8 (0), .int .u8 (0), .int .u8 (0), .int .u8 (0), .int .u8 (0), .int .u8 (0), .int .u8 (0), .int .u8 (0), .int .u8 (0), .int .u8 (0), .int .u8 (0), .int .u8 (0), .int .u8 (0), .int .u8 (0), .int .u8 (0), .int .u8 (0), .int .u8 (0), .int .u8 (0), .int .u8 (0), .int .u8 (0), .int .u8 (0), .int .u8 (0), .int .u8 (0), .int .u8 (0), .int .u8 (0), .int .u8 (0), .int .u8 (0), .int .u8 (0), .int .u8 (0), .int .u8 (0), .int .u8 (0), .int .u8 (0), .int .u8 (0), .int .u8 (0), .int .u8 (0), .int .u8 (0), .int .u8 (0), .int .u8 (0)]) [.int .u8 (0), .int .u8 (0), .int .u8 (0), .int .u8 (0), .int .u8 (0), .int .u8 (0), .int .u8 (0), .int .u8 (0), .int .u8 (0), .int .u8 (0), .int .u8 (0), .int .u8 (0), .int .u8 (0), .int .u8 (0), .int .u8 (0), .int .u8 (0), .int .u8 (0), .int .u8 (0), .int .u8 (0), .int .u8 (0), .int .u8 (0), .int .u8 (0), .int .u8 (0), .int .u8 (0), .int .u8 (0), .int .u8 (0), .int .u8 (0), .int .u8 (0), .int .u8 (0), .int .u8 (0), .int .u8 (0), .int .u8 (0), .int .u8 (0), .int .u8 (0), .int .u8 (0), .int .u8 (0), .int .u8 (0), .int .u8 (0), .int .u8 (0), .int .u8 (0), .int .u8 (0), .int .u8 (0), .int .u8 (0), .int .u8 (0), .int .u8 (0), .int .u8 (0), .int .u8 (0), .int .u8 (0), .int .u8 (0), .int .u8 (0), .int .u8 (0), .int .u8 (0), .int .u8 (0), .int .u8 (0), .int .u8 (0), .int .u8 (0), .int .u8 (0), .int .u8 (0), .int .u8 (0), .int .u8 (0), .int .u8 (0), .int .u8 (0), .int .u8 (0), .int .u8 (0)] := ⟨by kernel_rfl, rfl⟩
instance : Row Tryd.prog 139 64 64 := Row.of (n := 63) (by kernel_rfl)
instance : Und Tryd.prog 140 (.struct (Tryd.prog.fieldsOf 140)) := ⟨by kernel_rfl⟩
instance : Siz Tryd.prog 140 4 := ⟨by kernel_rfl⟩
instance : Agl Tryd.prog 140 := ⟨_, Und.out, rfl⟩
instance : Zer Tryd.prog 140 (.agg #[.pointer none, .pointer none, .pointer none, .string ⟨#[]⟩]) [.pointer none, .pointer none, .pointer none, .string ⟨#[]⟩] := ⟨by kernel_rfl, rfl⟩
instance : Row Tryd.prog 140 4 40 := Row.of (n := 3) (by kernel_rfl)
instance : Fld Tryd.prog 140 0 0 := Fld.of (n := 0) (by kernel_rfl)
instance : Fld Tryd.prog 140 1 1 := Fld.of (n := 0) (by kernel_rfl)
instance : Fld Tryd.prog 140 2 2 := Fld.of (n := 0) (by kernel_rfl)
instance : Fld Tryd.prog 140 3 3 := Fld.of (n := 0) (by kernel_rfl)
instance : Bld Tryd.prog 140 [(0, 1), (1, 1), (2, 1), (3, 1)] := Bld.of (fs := Tryd.prog.fieldsOf 140) (by kernel_rfl) (fun w => by kernel_rfl)
instance : Und Tryd.prog 141 (.struct (Tryd.prog.fieldsOf 141)) := ⟨by kernel_rfl⟩
instance : Siz Tryd.prog 141 4 := ⟨by kernel_rfl⟩
instance : Agl Tryd.prog 141 := ⟨_, Und.out, rfl⟩
instance : Zer Tryd.prog 141 (.agg #[.pointer none, .pointer none, .pointer none, .string ⟨#[]⟩]) [.pointer none, .pointer none, .pointer none, .string ⟨#[]⟩] := ⟨by kernel_rfl, rfl⟩
instance : Row Tryd.prog 141 4 40 := Row.of (n := 3) (by kernel_rfl)
instance : Fld Tryd.prog 141 0 0 := Fld.of (n := 0) (by kernel_rfl)
instance : Fld Tryd.prog 141 1 1 := Fld.of (n := 0) (by kernel_rfl)
instance : Fld Tryd.prog 141 2 2 := Fld.of (n := 0) (by kernel_rfl)
instance : Fld Tryd.prog 141 3 3 := Fld.of (n := 0) (by kernel_rfl)
instance : Bld Tryd.prog 141 [(0, 1), (1, 1), (2, 1), (3, 1)] := Bld.of (fs := Tryd.prog.fieldsOf 141) (by kernel_rfl) (fun w => by kernel_rfl)
instance : Und Tryd.prog 142 (.array 0 16) := ⟨by kernel_rfl⟩
instance : Siz Tryd.prog 142 0 := ⟨by kernel_rfl⟩
instance : Agl Tryd.prog 142 := ⟨_, Und.out, rfl⟩
instance : Zer Tryd.prog 142 (.agg #[]) [] := ⟨by kernel_rfl, rfl⟩
instance : Und Tryd.prog 143 (.struct (Tryd.prog.fieldsOf 143)) := ⟨by kernel_rfl⟩
instance : Siz Tryd.prog 143 0 := ⟨by kernel_rfl⟩
instance : Agl Tryd.prog 143 := ⟨_, Und.out, rfl⟩
instance : Zer Tryd.prog 143 (.agg #[]) [] := ⟨by kernel_rfl, rfl⟩
instance : Bld Tryd.prog 143 [(0, 0)] := Bld.of (fs := Tryd.prog.fieldsOf 143) (by kernel_rfl) (fun w => by kernel_rfl)
instance : Und Tryd.prog 144 (.struct (Tryd.prog.fieldsOf 144)) := ⟨by kernel_rfl⟩
instance : Siz Tryd.prog 144 0 := ⟨by kernel_rfl⟩
instance : Agl Tryd.prog 144 := ⟨_, Und.out, rfl⟩
instance : Zer Tryd.prog 144 (.agg #[]) [] := ⟨by kernel_rfl, rfl⟩
instance : Bld Tryd.prog 144 [(0, 0)] := Bld.of (fs := Tryd.prog.fieldsOf 144) (by kernel_rfl) (fun w => by kernel_rfl)
instance : Und Tryd.prog 145 (.func #[] #[3] false) := ⟨by kernel_rfl⟩
instance : Siz Tryd.prog 145 1 := ⟨by kernel_rfl⟩
instance : Sgl Tryd.prog 145 := ⟨_, Und.out, rfl⟩
instance : Zer Tryd.prog 145 (.nilFunc) [.nilFunc] := ⟨by kernel_rfl, rfl⟩
instance : Row Tryd.prog 145 1 8 := Row.of (n := 0) (by kernel_rfl)
instance : Und Tryd.prog 146 (.int .u8) := ⟨by kernel_rfl⟩
instance : Siz Tryd.prog 146 1 := ⟨by kernel_rfl⟩
instance : Sgl Tryd.prog 146 := ⟨_, Und.out, rfl⟩
instance : Zer Tryd.prog 146 (.int .u8 (0)) [.int .u8 (0)] := ⟨by kernel_rfl, rfl⟩
instance : Row Tryd.prog 146 1 1 := Row.of (n := 0) (by kernel_rfl)
instance : Und Tryd.prog 147 (.int .u8) := ⟨by kernel_rfl⟩
instance : Siz Tryd.prog 147 1 := ⟨by kernel_rfl⟩
instance : Sgl Tryd.prog 147 := ⟨_, Und.out, rfl⟩
instance : Zer Tryd.prog 147 (.int .u8 (0)) [.int .u8 (0)] := ⟨by kernel_rfl, rfl⟩
instance : Row Tryd.prog 147 1 1 := Row.of (n := 0) (by kernel_rfl)
instance : Und Tryd.prog 148 (.func #[85, 85] #[4] false) := ⟨by kernel_rfl⟩
instance : Siz Tryd.prog 148 1 := ⟨by kernel_rfl⟩
instance : Sgl Tryd.prog 148 := ⟨_, Und.out, rfl⟩
instance : Zer Tryd.prog 148 (.nilFunc) [.nilFunc] := ⟨by kernel_rfl, rfl⟩
instance : Row Tryd.prog 148 1 8 := Row.of (n := 0) (by kernel_rfl)
instance : Und Tryd.prog 149 (.int .i32) := ⟨by kernel_rfl⟩
instance : Siz Tryd.prog 149 1 := ⟨by kernel_rfl⟩
instance : Sgl Tryd.prog 149 := ⟨_, Und.out, rfl⟩
instance : Zer Tryd.prog 149 (.int .i32 (0)) [.int .i32 (0)] := ⟨by kernel_rfl, rfl⟩
instance : Row Tryd.prog 149 1 4 := Row.of (n := 0) (by kernel_rfl)
instance : Und Tryd.prog 150 (.int .i32) := ⟨by kernel_rfl⟩
instance : Siz Tryd.prog 150 1 := ⟨by kernel_rfl⟩
instance : Sgl Tryd.prog 150 := ⟨_, Und.out, rfl⟩
instance : Zer Tryd.prog 150 (.int .i32 (0)) [.int .i32 (0)] := ⟨by kernel_rfl, rfl⟩
instance : Row Tryd.prog 150 1 4 := Row.of (n := 0) (by kernel_rfl)
instance : Und Tryd.prog 151 (.struct (Tryd.prog.fieldsOf 151)) := ⟨by kernel_rfl⟩
instance : Siz Tryd.prog 151 11 := ⟨by kernel_rfl⟩
instance : Agl Tryd.prog 151 := ⟨_, Und.out, rfl⟩
instance : Zer Tryd.prog 151 (.agg #[.int .u64 (0), .int .u64 (0), .int .u32 (0), .int .u8 (0), .int .u8 (0), .int .u8 (0), .int .u8 (0), .nilFunc, .pointer none, .int .i32 (0), .int .i32 (0)]) [.int .u64 (0), .int .u64 (0), .int .u32 (0), .int .u8 (0), .int .u8 (0), .int .u8 (0), .int .u8 (0), .nilFunc, .pointer none, .int .i32 (0), .int .i32 (0)] := ⟨by kernel_rfl, rfl⟩
instance : Row Tryd.prog 151 11 48 := Row.of (n := 10) (by kernel_rfl)
instance : Fld Tryd.prog 151 0 0 := Fld.of (n := 0) (by kernel_rfl)
instance : Fld Tryd.prog 151 1 1 := Fld.of (n := 0) (by kernel_rfl)
instance : Fld Tryd.prog 151 2 2 := Fld.of (n := 0) (by kernel_rfl)
instance : Fld Tryd.prog 151 3 3 := Fld.of (n := 0) (by kernel_rfl)
instance : Fld Tryd.prog 151 4 4 := Fld.of (n := 0) (by kernel_rfl)
instance : Fld Tryd.prog 151 5 5 := Fld.of (n := 0) (by kernel_rfl)
instance : Fld Tryd.prog 151 6 6 := Fld.of (n := 0) (by kernel_rfl)
instance : Fld Tryd.prog 151 7 7 := Fld.of (n := 0) (by kernel_rfl)
instance : Fld Tryd.prog 151 8 8 := Fld.of (n := 0) (by kernel_rfl)
instance : Fld Tryd.prog 151 9 9 := Fld.of (n := 0) (by kernel_rfl)
instance : Fld Tryd.prog 151 10 10 := Fld.of (n := 0) (by kernel_rfl)
instance : Bld Tryd.prog 151 [(0, 1), (1, 1), (2, 1), (3, 1), (4, 1), (5, 1), (6, 1), (7, 1), (8, 1), (9, 1), (10, 1)] := Bld.of (fs := Tryd.prog.fieldsOf 151) (by kernel_rfl) (fun w => by kernel_rfl)
instance : Und Tryd.prog 152 (.struct (Tryd.prog.fieldsOf 152)) := ⟨by kernel_rfl⟩
instance : Siz Tryd.prog 152 11 := ⟨by kernel_rfl⟩
instance : Agl Tryd.prog 152 := ⟨_, Und.out, rfl⟩
instance : Zer Tryd.prog 152 (.agg #[.int .u64 (0), .int .u64 (0), .int .u32 (0), .int .u8 (0), .int .u8 (0), .int .u8 (0), .int .u8 (0), .nilFunc, .pointer none, .int .i32 (0), .int .i32 (0)]) [.int .u64 (0), .int .u64 (0), .int .u32 (0), .int .u8 (0), .int .u8 (0), .int .u8 (0), .int .u8 (0), .nilFunc, .pointer none, .int .i32 (0), .int .i32 (0)] := ⟨by kernel_rfl, rfl⟩
instance : Row Tryd.prog 152 11 48 := Row.of (n := 10) (by kernel_rfl)
instance : Fld Tryd.prog 152 0 0 := Fld.of (n := 0) (by kernel_rfl)
instance : Fld Tryd.prog 152 1 1 := Fld.of (n := 0) (by kernel_rfl)
instance : Fld Tryd.prog 152 2 2 := Fld.of (n := 0) (by kernel_rfl)
instance : Fld Tryd.prog 152 3 3 := Fld.of (n := 0) (by kernel_rfl)
instance : Fld Tryd.prog 152 4 4 := Fld.of (n := 0) (by kernel_rfl)
instance : Fld Tryd.prog 152 5 5 := Fld.of (n := 0) (by kernel_rfl)
instance : Fld Tryd.prog 152 6 6 := Fld.of (n := 0) (by kernel_rfl)
instance : Fld Tryd.prog 152 7 7 := Fld.of (n := 0) (by kernel_rfl)
instance : Fld Tryd.prog 152 8 8 := Fld.of (n := 0) (by kernel_rfl)
instance : Fld Tryd.prog 152 9 9 := Fld.of (n := 0) (by kernel_rfl)
instance : Fld Tryd.prog 152 10 10 := Fld.of (n := 0) (by kernel_rfl)
instance : Bld Tryd.prog 152 [(0, 1), (1, 1), (2, 1), (3, 1), (4, 1), (5, 1), (6, 1), (7, 1), (8, 1), (9, 1), (10, 1)] := Bld.of (fs := Tryd.prog.fieldsOf 152) (by kernel_rfl) (fun w => by kernel_rfl)
instance : Fun Tryd.prog 2 := ⟨_, Tryd.func2, by kernel_rfl, rfl⟩
instance : Fun Tryd.prog 3 := ⟨_, Tryd.func3, by kernel_rfl, rfl⟩
instance : Fun Tryd.prog 4 := ⟨_, Tryd.func4, by kernel_rfl, rfl⟩
instance : Fun Tryd.prog 5 := ⟨_, Tryd.func5, by kernel_rfl, rfl⟩
instance : Fun Tryd.prog 6 := ⟨_, Tryd.func6, by kernel_rfl, rfl⟩
instance : Fun Tryd.prog 7 := ⟨_, Tryd.func7, by kernel_rfl, rfl⟩
instance : Fun Tryd.prog 8 := ⟨_, Tryd.func8, by kernel_rfl, rfl⟩
instance : Fun Tryd.prog 9 := ⟨_, Tryd.func9, by kernel_rfl, rfl⟩
instance : Fun Tryd.prog 10 := ⟨_, Tryd.func10, by kernel_rfl, rfl⟩
instance : Fun Tryd.prog 11 := ⟨_, Tryd.func11, by kernel_rfl, rfl⟩
instance : Fun Tryd.prog 12 := ⟨_, Tryd.func12, by kernel_rfl, rfl⟩
instance : Fun Tryd.prog 13 := ⟨_, Tryd.func13, by kernel_rfl, rfl⟩
instance : Fun Tryd.prog 14 := ⟨_, Tryd.func14, by kernel_rfl, rfl⟩
instance : Fun Tryd.prog 15 := ⟨_, Tryd.func15, by kernel_rfl, rfl⟩
instance : Fun Tryd.prog 16 := ⟨_, Tryd.func16, by kernel_rfl, rfl⟩
instance : Fun Tryd.prog 17 := ⟨_, Tryd.func17, by kernel_rfl, rfl⟩
instance : Fun Tryd.prog 18 := ⟨_, Tryd.func18, by kernel_rfl, rfl⟩
instance : Fun Tryd.prog 19 := ⟨_, Tryd.func19, by kernel_rfl, rfl⟩
instance : Fun Tryd.prog 20 := ⟨_, Tryd.func20, by kernel_rfl, rfl⟩
instance : Fun Tryd.prog 21 := ⟨_, Tryd.func21, by kernel_rfl, rfl⟩
instance : Fun Tryd.prog 22 := ⟨_, Tryd.func22, by kernel_rfl, rfl⟩
instance : Fun Tryd.prog 23 := ⟨_, Tryd.func23, by kernel_rfl, rfl⟩
instance : Fun Tryd.prog 24 := ⟨_, Tryd.func24, by kernel_rfl, rfl⟩
instance : Fun Tryd.prog 25 := ⟨_, Tryd.func25, by kernel_rfl, rfl⟩
instance : Fun Tryd.prog 26 := ⟨_, Tryd.func26, by kernel_rfl, rfl⟩
instance : Fun Tryd.prog 27 := ⟨_, Tryd.func27, by kernel_rfl, rfl⟩
instance : Fun Tryd.prog 28 := ⟨_, Tryd.func28, by kernel_rfl, rfl⟩
instance : Fun Tryd.prog 29 := ⟨_, Tryd.func29, by kernel_rfl, rfl⟩
instance : Fun Tryd.prog 30 := ⟨_, Tryd.func30, by kernel_rfl, rfl⟩
instance : Fun Tryd.prog 31 := ⟨_, Tryd.func31, by kernel_rfl, rfl⟩
instance : Fun Tryd.prog 32 := ⟨_, Tryd.func32, by kernel_rfl, rfl⟩
instance : Fun Tryd.prog 33 := ⟨_, Tryd.func33, by kernel_rfl, rfl⟩
instance : Fun Tryd.prog 34 := ⟨_, Tryd.func34, by kernel_rfl, rfl⟩
instance : Fun Tryd.prog 35 := ⟨_, Tryd.func35, by kernel_rfl, rfl⟩
instance : Fun Tryd.prog 36 := ⟨_, Tryd.func36, by kernel_rfl, rfl⟩
instance : Fun Tryd.prog 37 := ⟨_, Tryd.func37, by kernel_rfl, rfl⟩
instance : Fun Tryd.prog 38 := ⟨_, Tryd.func38, by kernel_rfl, rfl⟩
instance : Fun Tryd.prog 39 := ⟨_, Tryd.func39, by kernel_rfl, rfl⟩
instance : Fun Tryd.prog 40 := ⟨_, Tryd.func40, by kernel_rfl, rfl⟩
instance : Fun Tryd.prog 41 := ⟨_, Tryd.func41, by kernel_rfl, rfl⟩
instance : Fun Tryd.prog 42 := ⟨_, Tryd.func42, by kernel_rfl, rfl⟩
instance : Fun Tryd.prog 44 := ⟨_, Tryd.func44, by kernel_rfl, rfl⟩
instance : Fun Tryd.prog 45 := ⟨_, Tryd.func45, by kernel_rfl, rfl⟩
instance : Fun Tryd.prog 46 := ⟨_, Tryd.func46, by kernel_rfl, rfl⟩
instance : Fun Tryd.prog 47 := ⟨_, Tryd.func47, by kernel_rfl, rfl⟩
instance : Fun Tryd.prog 48 := ⟨_, Tryd.func48, by kernel_rfl, rfl⟩
instance : Fun Tryd.prog 49 := ⟨_, Tryd.func49, by kernel_rfl, rfl⟩
instance : Fun Tryd.prog 50 := ⟨_, Tryd.func50, by kernel_rfl, rfl⟩
instance : Fun Tryd.prog 52 := ⟨_, Tryd.func52, by kernel_rfl, rfl⟩
instance : Fun Tryd.prog 54 := ⟨_, Tryd.func54, by kernel_rfl, rfl⟩
instance : Fun Tryd.prog 55 := ⟨_, Tryd.func55, by kernel_rfl, rfl⟩
instance : Fun Tryd.prog 56 := ⟨_, Tryd.func56, by kernel_rfl, rfl⟩
instance : Fun Tryd.prog 57 := ⟨_, Tryd.func57, by kernel_rfl, rfl⟩
instance : Fun Tryd.prog 58 := ⟨_, Tryd.func58, by kernel_rfl, rfl⟩
instance : Fun Tryd.prog 59 := ⟨_, Tryd.func59, by kernel_rfl, rfl⟩
instance : Fun Tryd.prog 60 := ⟨_, Tryd.func60, by kernel_rfl, rfl⟩
instance : Fun Tryd.prog 61 := ⟨_, Tryd.func61, by kernel_rfl, rfl⟩
instance : Fun Tryd.prog 62 := ⟨_, Tryd.func62, by kernel_rfl, rfl⟩
instance : Fun Tryd.prog 63 := ⟨_, Tryd.func63, by kernel_rfl, rfl⟩
instance : Fun Tryd.prog 64 := ⟨_, Tryd.func64, by kernel_rfl, rfl⟩
instance : Fun Tryd.prog 65 := ⟨_, Tryd.func65, by kernel_rfl, rfl⟩
instance : Fun Tryd.prog 66 := ⟨_, Tryd.func66, by kernel_rfl, rfl⟩
instance : Fun Tryd.prog 68 := ⟨_, Tryd.func68, by kernel_rfl, rfl⟩
instance : Fun Tryd.prog 69 := ⟨_, Tryd.func69, by kernel_rfl, rfl⟩
instance : Fun Tryd.prog 70 := ⟨_, Tryd.func70, by kernel_rfl, rfl⟩
instance : Fun Tryd.prog 71 := ⟨_, Tryd.func71, by kernel_rfl, rfl⟩
instance : Fun Tryd.prog 72 := ⟨_, Tryd.func72, by kernel_rfl, rfl⟩
instance : Fun Tryd.prog 73 := ⟨_, Tryd.func73, by kernel_rfl, rfl⟩
instance : Fun Tryd.prog 74 := ⟨_, Tryd.func74, by kernel_rfl, rfl⟩
instance : Fun Tryd.prog 75 := ⟨_, Tryd.func75, by kernel_rfl, rfl⟩
instance : Fun Tryd.prog 76 := ⟨_, Tryd.func76, by kernel_rfl, rfl⟩
instance : Fun Tryd.prog 77 := ⟨_, Tryd.func77, by kernel_rfl, rfl⟩
instance : Fun Tryd.prog 78 := ⟨_, Tryd.func78, by kernel_rfl, rfl⟩
instance : Fun Tryd.prog 79 := ⟨_, Tryd.func79, by kernel_rfl, rfl⟩
instance : Fun Tryd.prog 80 := ⟨_, Tryd.func80, by kernel_rfl, rfl⟩
instance : Fun Tryd.prog 81 := ⟨_, Tryd.func81, by kernel_rfl, rfl⟩
instance : Fun Tryd.prog 82 := ⟨_, Tryd.func82, by kernel_rfl, rfl⟩
instance : Fun Tryd.prog 83 := ⟨_, Tryd.func83, by kernel_rfl, rfl⟩
instance : Fun Tryd.prog 84 := ⟨_, Tryd.func84, by kernel_rfl, rfl⟩
instance : Fun Tryd.prog 85 := ⟨_, Tryd.func85, by kernel_rfl, rfl⟩
instance : Fun Tryd.prog 86 := ⟨_, Tryd.func86, by kernel_rfl, rfl⟩
instance : Fun Tryd.prog 87 := ⟨_, Tryd.func87, by kernel_rfl, rfl⟩
instance : Fun Tryd.prog 88 := ⟨_, Tryd.func88, by kernel_rfl, rfl⟩
instance : Fun Tryd.prog 89 := ⟨_, Tryd.func89, by kernel_rfl, rfl⟩
instance : Fun Tryd.prog 90 := ⟨_, Tryd.func90, by kernel_rfl, rfl⟩
instance : Fun Tryd.prog 91 := ⟨_, Tryd.func91, by kernel_rfl, rfl⟩
instance : Fun Tryd.prog 108 := ⟨_, Tryd.func108, by kernel_rfl, rfl⟩
instance : Fun Tryd.prog 109 := ⟨_, Tryd.func109, by kernel_rfl, rfl⟩
instance : Fun Tryd.prog 110 := ⟨_, Tryd.func110, by kernel_rfl, rfl⟩
instance : Fun Tryd.prog 111 := ⟨_, Tryd.func111, by kernel_rfl, rfl⟩
instance : Fun Tryd.prog 112 := ⟨_, Tryd.func112, by kernel_rfl, rfl⟩
instance : Fun Tryd.prog 126 := ⟨_, Tryd.func126, by kernel_rfl, rfl⟩
end Go.Proofs.YtokcamgipnaoeaaDoor
