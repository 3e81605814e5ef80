/- What the program's types and functions are, told to the separation logic's rules. Each by the kernel. -/
import Derived.Test.YtokcamgipnaoeaaGreatDoorProg
import Derived.Test.YtokcamgipnaoeaaGreatDoorSepX
import Derived.KernelRfl
set_option maxRecDepth 100000
namespace Go.Proofs.YtokcamgipnaoeaaGreatDoor
open Go.Proofs.YtokcamgipnaoeaaGreatDoor.SL
instance : Und Tryz.prog 0 (.tuple #[]) := ⟨by kernel_rfl⟩
instance : Siz Tryz.prog 0 1 := ⟨by kernel_rfl⟩
instance : Sgl Tryz.prog 0 := ⟨_, Und.out, rfl⟩
instance : Und Tryz.prog 1 (.func #[] #[] false) := ⟨by kernel_rfl⟩
instance : Siz Tryz.prog 1 1 := ⟨by kernel_rfl⟩
instance : Sgl Tryz.prog 1 := ⟨_, Und.out, rfl⟩
instance : Zer Tryz.prog 1 (.nilFunc) [.nilFunc] := ⟨by kernel_rfl, rfl⟩
instance : Row Tryz.prog 1 1 8 := Row.of (n := 0) (by kernel_rfl)
instance : Und Tryz.prog 2 (.int .i64) := ⟨by kernel_rfl⟩
instance : Siz Tryz.prog 2 1 := ⟨by kernel_rfl⟩
instance : Sgl Tryz.prog 2 := ⟨_, Und.out, rfl⟩
instance : Zer Tryz.prog 2 (.int .i64 (0)) [.int .i64 (0)] := ⟨by kernel_rfl, rfl⟩
instance : Row Tryz.prog 2 1 8 := Row.of (n := 0) (by kernel_rfl)
instance : Und Tryz.prog 3 (.int .i64) := ⟨by kernel_rfl⟩
instance : Siz Tryz.prog 3 1 := ⟨by kernel_rfl⟩
instance : Sgl Tryz.prog 3 := ⟨_, Und.out, rfl⟩
instance : Zer Tryz.prog 3 (.int .i64 (0)) [.int .i64 (0)] := ⟨by kernel_rfl, rfl⟩
instance : Row Tryz.prog 3 1 8 := Row.of (n := 0) (by kernel_rfl)
instance : Und Tryz.prog 4 (.bool) := ⟨by kernel_rfl⟩
instance : Siz Tryz.prog 4 1 := ⟨by kernel_rfl⟩
instance : Sgl Tryz.prog 4 := ⟨_, Und.out, rfl⟩
instance : Zer Tryz.prog 4 (.bool false) [.bool false] := ⟨by kernel_rfl, rfl⟩
instance : Row Tryz.prog 4 1 1 := Row.of (n := 0) (by kernel_rfl)
instance : Und Tryz.prog 5 (.int .u8) := ⟨by kernel_rfl⟩
instance : Siz Tryz.prog 5 1 := ⟨by kernel_rfl⟩
instance : Sgl Tryz.prog 5 := ⟨_, Und.out, rfl⟩
instance : Zer Tryz.prog 5 (.int .u8 (0)) [.int .u8 (0)] := ⟨by kernel_rfl, rfl⟩
instance : Row Tryz.prog 5 1 1 := Row.of (n := 0) (by kernel_rfl)
instance : Und Tryz.prog 6 (.int .u8) := ⟨by kernel_rfl⟩
instance : Siz Tryz.prog 6 1 := ⟨by kernel_rfl⟩
instance : Sgl Tryz.prog 6 := ⟨_, Und.out, rfl⟩
instance : Zer Tryz.prog 6 (.int .u8 (0)) [.int .u8 (0)] := ⟨by kernel_rfl, rfl⟩
instance : Row Tryz.prog 6 1 1 := Row.of (n := 0) (by kernel_rfl)
instance : Und Tryz.prog 7 (.struct (Tryz.prog.fieldsOf 7)) := ⟨by kernel_rfl⟩
instance : Siz Tryz.prog 7 4 := ⟨by kernel_rfl⟩
instance : Agl Tryz.prog 7 := ⟨_, Und.out, rfl⟩
instance : Zer Tryz.prog 7 (.agg #[.int .i64 (0), .int .i64 (0), .bool false, .int .u8 (0)]) [.int .i64 (0), .int .i64 (0), .bool false, .int .u8 (0)] := ⟨by kernel_rfl, rfl⟩
instance : Row Tryz.prog 7 4 24 := Row.of (n := 3) (by kernel_rfl)
instance : EqT Tryz.prog 7 [.int .i64, .int .i64, .bool, .int .u8] := EqT.of (fs := Tryz.prog.fieldsOf 7) (by kernel_rfl) (by kernel_rfl) (by kernel_rfl)
instance : Fld Tryz.prog 7 0 0 := Fld.of (n := 0) (by kernel_rfl)
instance : Fld Tryz.prog 7 1 1 := Fld.of (n := 0) (by kernel_rfl)
instance : Fld Tryz.prog 7 2 2 := Fld.of (n := 0) (by kernel_rfl)
instance : Fld Tryz.prog 7 3 3 := Fld.of (n := 0) (by kernel_rfl)
instance : Bld Tryz.prog 7 [(0, 1), (1, 1), (2, 1), (3, 1)] := Bld.of (fs := Tryz.prog.fieldsOf 7) (by kernel_rfl) (fun w => by kernel_rfl)
instance : Und Tryz.prog 8 (.struct (Tryz.prog.fieldsOf 8)) := ⟨by kernel_rfl⟩
instance : Siz Tryz.prog 8 4 := ⟨by kernel_rfl⟩
instance : Agl Tryz.prog 8 := ⟨_, Und.out, rfl⟩
instance : Zer Tryz.prog 8 (.agg #[.int .i64 (0), .int .i64 (0), .bool false, .int .u8 (0)]) [.int .i64 (0), .int .i64 (0), .bool false, .int .u8 (0)] := ⟨by kernel_rfl, rfl⟩
instance : Row Tryz.prog 8 4 24 := Row.of (n := 3) (by kernel_rfl)
instance : EqT Tryz.prog 8 [.int .i64, .int .i64, .bool, .int .u8] := EqT.of (fs := Tryz.prog.fieldsOf 8) (by kernel_rfl) (by kernel_rfl) (by kernel_rfl)
instance : Fld Tryz.prog 8 0 0 := Fld.of (n := 0) (by kernel_rfl)
instance : Fld Tryz.prog 8 1 1 := Fld.of (n := 0) (by kernel_rfl)
instance : Fld Tryz.prog 8 2 2 := Fld.of (n := 0) (by kernel_rfl)
instance : Fld Tryz.prog 8 3 3 := Fld.of (n := 0) (by kernel_rfl)
instance : Bld Tryz.prog 8 [(0, 1), (1, 1), (2, 1), (3, 1)] := Bld.of (fs := Tryz.prog.fieldsOf 8) (by kernel_rfl) (fun w => by kernel_rfl)
instance : Und Tryz.prog 9 (.string) := ⟨by kernel_rfl⟩
instance : Siz Tryz.prog 9 1 := ⟨by kernel_rfl⟩
instance : Sgl Tryz.prog 9 := ⟨_, Und.out, rfl⟩
instance : Zer Tryz.prog 9 (.string ⟨#[]⟩) [.string ⟨#[]⟩] := ⟨by kernel_rfl, rfl⟩
instance : Row Tryz.prog 9 1 16 := Row.of (n := 0) (by kernel_rfl)
instance : Und Tryz.prog 10 (.string) := ⟨by kernel_rfl⟩
instance : Siz Tryz.prog 10 1 := ⟨by kernel_rfl⟩
instance : Sgl Tryz.prog 10 := ⟨_, Und.out, rfl⟩
instance : Zer Tryz.prog 10 (.string ⟨#[]⟩) [.string ⟨#[]⟩] := ⟨by kernel_rfl, rfl⟩
instance : Row Tryz.prog 10 1 16 := Row.of (n := 0) (by kernel_rfl)
instance : Und Tryz.prog 11 (.string) := ⟨by kernel_rfl⟩
instance : Siz Tryz.prog 11 1 := ⟨by kernel_rfl⟩
instance : Sgl Tryz.prog 11 := ⟨_, Und.out, rfl⟩
instance : Zer Tryz.prog 11 (.string ⟨#[]⟩) [.string ⟨#[]⟩] := ⟨by kernel_rfl, rfl⟩
instance : Row Tryz.prog 11 1 16 := Row.of (n := 0) (by kernel_rfl)
instance : Und Tryz.prog 12 (.int .u64) := ⟨by kernel_rfl⟩
instance : Siz Tryz.prog 12 1 := ⟨by kernel_rfl⟩
instance : Sgl Tryz.prog 12 := ⟨_, Und.out, rfl⟩
instance : Zer Tryz.prog 12 (.int .u64 (0)) [.int .u64 (0)] := ⟨by kernel_rfl, rfl⟩
instance : Row Tryz.prog 12 1 8 := Row.of (n := 0) (by kernel_rfl)
instance : Und Tryz.prog 13 (.struct (Tryz.prog.fieldsOf 13)) := ⟨by kernel_rfl⟩
instance : Siz Tryz.prog 13 2 := ⟨by kernel_rfl⟩
instance : Agl Tryz.prog 13 := ⟨_, Und.out, rfl⟩
instance : Zer Tryz.prog 13 (.agg #[.string ⟨#[]⟩, .int .u64 (0)]) [.string ⟨#[]⟩, .int .u64 (0)] := ⟨by kernel_rfl, rfl⟩
instance : Row Tryz.prog 13 2 24 := Row.of (n := 1) (by kernel_rfl)
instance : Fld Tryz.prog 13 0 0 := Fld.of (n := 0) (by kernel_rfl)
instance : Fld Tryz.prog 13 1 1 := Fld.of (n := 0) (by kernel_rfl)
instance : Bld Tryz.prog 13 [(0, 1), (1, 1)] := Bld.of (fs := Tryz.prog.fieldsOf 13) (by kernel_rfl) (fun w => by kernel_rfl)
instance : Und Tryz.prog 14 (.struct (Tryz.prog.fieldsOf 14)) := ⟨by kernel_rfl⟩
instance : Siz Tryz.prog 14 2 := ⟨by kernel_rfl⟩
instance : Agl Tryz.prog 14 := ⟨_, Und.out, rfl⟩
instance : Zer Tryz.prog 14 (.agg #[.string ⟨#[]⟩, .int .u64 (0)]) [.string ⟨#[]⟩, .int .u64 (0)] := ⟨by kernel_rfl, rfl⟩
instance : Row Tryz.prog 14 2 24 := Row.of (n := 1) (by kernel_rfl)
instance : Fld Tryz.prog 14 0 0 := Fld.of (n := 0) (by kernel_rfl)
instance : Fld Tryz.prog 14 1 1 := Fld.of (n := 0) (by kernel_rfl)
instance : Bld Tryz.prog 14 [(0, 1), (1, 1)] := Bld.of (fs := Tryz.prog.fieldsOf 14) (by kernel_rfl) (fun w => by kernel_rfl)
instance : Und Tryz.prog 15 (.pointer 152) := ⟨by kernel_rfl⟩
instance : Siz Tryz.prog 15 1 := ⟨by kernel_rfl⟩
instance : Sgl Tryz.prog 15 := ⟨_, Und.out, rfl⟩
instance : Zer Tryz.prog 15 (.pointer none) [.pointer none] := ⟨by kernel_rfl, rfl⟩
instance : Row Tryz.prog 15 1 8 := Row.of (n := 0) (by kernel_rfl)
instance : Und Tryz.prog 16 (.pointer 155) := ⟨by kernel_rfl⟩
instance : Siz Tryz.prog 16 1 := ⟨by kernel_rfl⟩
instance : Sgl Tryz.prog 16 := ⟨_, Und.out, rfl⟩
instance : Zer Tryz.prog 16 (.pointer none) [.pointer none] := ⟨by kernel_rfl, rfl⟩
instance : Row Tryz.prog 16 1 8 := Row.of (n := 0) (by kernel_rfl)
instance : Und Tryz.prog 17 (.pointer 163) := ⟨by kernel_rfl⟩
instance : Siz Tryz.prog 17 1 := ⟨by kernel_rfl⟩
instance : Sgl Tryz.prog 17 := ⟨_, Und.out, rfl⟩
instance : Zer Tryz.prog 17 (.pointer none) [.pointer none] := ⟨by kernel_rfl, rfl⟩
instance : Row Tryz.prog 17 1 8 := Row.of (n := 0) (by kernel_rfl)
instance : Und Tryz.prog 18 (.struct (Tryz.prog.fieldsOf 18)) := ⟨by kernel_rfl⟩
instance : Siz Tryz.prog 18 1 := ⟨by kernel_rfl⟩
instance : Agl Tryz.prog 18 := ⟨_, Und.out, rfl⟩
instance : Zer Tryz.prog 18 (.agg #[.pointer none]) [.pointer none] := ⟨by kernel_rfl, rfl⟩
instance : Row Tryz.prog 18 1 8 := Row.of (n := 0) (by kernel_rfl)
instance : Fld Tryz.prog 18 0 0 := Fld.of (n := 0) (by kernel_rfl)
instance : Bld Tryz.prog 18 [(0, 1)] := Bld.of (fs := Tryz.prog.fieldsOf 18) (by kernel_rfl) (fun w => by kernel_rfl)
instance : Und Tryz.prog 19 (.struct (Tryz.prog.fieldsOf 19)) := ⟨by kernel_rfl⟩
instance : Siz Tryz.prog 19 1 := ⟨by kernel_rfl⟩
instance : Agl Tryz.prog 19 := ⟨_, Und.out, rfl⟩
instance : Zer Tryz.prog 19 (.agg #[.pointer none]) [.pointer none] := ⟨by kernel_rfl, rfl⟩
instance : Row Tryz.prog 19 1 8 := Row.of (n := 0) (by kernel_rfl)
instance : Fld Tryz.prog 19 0 0 := Fld.of (n := 0) (by kernel_rfl)
instance : Bld Tryz.prog 19 [(0, 1)] := Bld.of (fs := Tryz.prog.fieldsOf 19) (by kernel_rfl) (fun w => by kernel_rfl)
instance : Und Tryz.prog 20 (.interface #[]) := ⟨by kernel_rfl⟩
instance : Siz Tryz.prog 20 1 := ⟨by kernel_rfl⟩
instance : Sgl Tryz.prog 20 := ⟨_, Und.out, rfl⟩
instance : Zer Tryz.prog 20 (.nilIface) [.nilIface] := ⟨by kernel_rfl, rfl⟩
instance : Row Tryz.prog 20 1 16 := Row.of (n := 0) (by kernel_rfl)
instance : Und Tryz.prog 21 (.int .i32) := ⟨by kernel_rfl⟩
instance : Siz Tryz.prog 21 1 := ⟨by kernel_rfl⟩
instance : Sgl Tryz.prog 21 := ⟨_, Und.out, rfl⟩
instance : Zer Tryz.prog 21 (.int .i32 (0)) [.int .i32 (0)] := ⟨by kernel_rfl, rfl⟩
instance : Row Tryz.prog 21 1 4 := Row.of (n := 0) (by kernel_rfl)
instance : Und Tryz.prog 22 (.struct (Tryz.prog.fieldsOf 22)) := ⟨by kernel_rfl⟩
instance : Siz Tryz.prog 22 4 := ⟨by kernel_rfl⟩
instance : Agl Tryz.prog 22 := ⟨_, Und.out, rfl⟩
instance : Zer Tryz.prog 22 (.agg #[.int .i64 (0), .int .i64 (0), .int .i64 (0), .int .i64 (0)]) [.int .i64 (0), .int .i64 (0), .int .i64 (0), .int .i64 (0)] := ⟨by kernel_rfl, rfl⟩
instance : Row Tryz.prog 22 4 32 := Row.of (n := 3) (by kernel_rfl)
instance : EqT Tryz.prog 22 [.int .i64, .int .i64, .int .i64, .int .i64] := EqT.of (fs := Tryz.prog.fieldsOf 22) (by kernel_rfl) (by kernel_rfl) (by kernel_rfl)
instance : Fld Tryz.prog 22 0 0 := Fld.of (n := 0) (by kernel_rfl)
instance : Fld Tryz.prog 22 1 1 := Fld.of (n := 0) (by kernel_rfl)
instance : Fld Tryz.prog 22 2 2 := Fld.of (n := 0) (by kernel_rfl)
instance : Fld Tryz.prog 22 3 3 := Fld.of (n := 0) (by kernel_rfl)
instance : Bld Tryz.prog 22 [(0, 1), (1, 1), (2, 1), (3, 1)] := Bld.of (fs := Tryz.prog.fieldsOf 22) (by kernel_rfl) (fun w => by kernel_rfl)
instance : Und Tryz.prog 23 (.struct (Tryz.prog.fieldsOf 23)) := ⟨by kernel_rfl⟩
instance : Siz Tryz.prog 23 4 := ⟨by kernel_rfl⟩
instance : Agl Tryz.prog 23 := ⟨_, Und.out, rfl⟩
instance : Zer Tryz.prog 23 (.agg #[.int .i64 (0), .int .i64 (0), .int .i64 (0), .int .i64 (0)]) [.int .i64 (0), .int .i64 (0), .int .i64 (0), .int .i64 (0)] := ⟨by kernel_rfl, rfl⟩
instance : Row Tryz.prog 23 4 32 := Row.of (n := 3) (by kernel_rfl)
instance : EqT Tryz.prog 23 [.int .i64, .int .i64, .int .i64, .int .i64] := EqT.of (fs := Tryz.prog.fieldsOf 23) (by kernel_rfl) (by kernel_rfl) (by kernel_rfl)
instance : Fld Tryz.prog 23 0 0 := Fld.of (n := 0) (by kernel_rfl)
instance : Fld Tryz.prog 23 1 1 := Fld.of (n := 0) (by kernel_rfl)
instance : Fld Tryz.prog 23 2 2 := Fld.of (n := 0) (by kernel_rfl)
instance : Fld Tryz.prog 23 3 3 := Fld.of (n := 0) (by kernel_rfl)
instance : Bld Tryz.prog 23 [(0, 1), (1, 1), (2, 1), (3, 1)] := Bld.of (fs := Tryz.prog.fieldsOf 23) (by kernel_rfl) (fun w => by kernel_rfl)
instance : Und Tryz.prog 24 (.struct (Tryz.prog.fieldsOf 24)) := ⟨by kernel_rfl⟩
instance : Siz Tryz.prog 24 9 := ⟨by kernel_rfl⟩
instance : Agl Tryz.prog 24 := ⟨_, Und.out, rfl⟩
instance : Zer Tryz.prog 24 (.agg #[.int .i64 (0), .int .i64 (0), .int .i64 (0), .int .i64 (0), .int .i64 (0), .int .i64 (0), .int .i64 (0), .int .i64 (0), .int .i64 (0)]) [.int .i64 (0), .int .i64 (0), .int .i64 (0), .int .i64 (0), .int .i64 (0), .int .i64 (0), .int .i64 (0), .int .i64 (0), .int .i64 (0)] := ⟨by kernel_rfl, rfl⟩
instance : Row Tryz.prog 24 9 72 := Row.of (n := 8) (by kernel_rfl)
instance : EqT Tryz.prog 24 [.int .i64, .int .i64, .int .i64, .int .i64, .int .i64, .int .i64, .int .i64, .int .i64, .int .i64] := EqT.of (fs := Tryz.prog.fieldsOf 24) (by kernel_rfl) (by kernel_rfl) (by kernel_rfl)
instance : Fld Tryz.prog 24 0 0 := Fld.of (n := 0) (by kernel_rfl)
instance : Fld Tryz.prog 24 1 1 := Fld.of (n := 0) (by kernel_rfl)
instance : Fld Tryz.prog 24 2 2 := Fld.of (n := 0) (by kernel_rfl)
instance : Fld Tryz.prog 24 3 3 := Fld.of (n := 0) (by kernel_rfl)
instance : Fld Tryz.prog 24 4 4 := Fld.of (n := 3) (by kernel_rfl)
instance : Fld Tryz.prog 24 5 8 := Fld.of (n := 0) (by kernel_rfl)
instance : Bld Tryz.prog 24 [(0, 1), (1, 1), (2, 1), (3, 1), (4, 4), (8, 1)] := Bld.of (fs := Tryz.prog.fieldsOf 24) (by kernel_rfl) (fun w => by kernel_rfl)
instance : Und Tryz.prog 25 (.struct (Tryz.prog.fieldsOf 25)) := ⟨by kernel_rfl⟩
instance : Siz Tryz.prog 25 9 := ⟨by kernel_rfl⟩
instance : Agl Tryz.prog 25 := ⟨_, Und.out, rfl⟩
instance : Zer Tryz.prog 25 (.agg #[.int .i64 (0), .int .i64 (0), .int .i64 (0), .int .i64 (0), .int .i64 (0), .int .i64 (0), .int .i64 (0), .int .i64 (0), .int .i64 (0)]) [.int .i64 (0), .int .i64 (0), .int .i64 (0), .int .i64 (0), .int .i64 (0), .int .i64 (0), .int .i64 (0), .int .i64 (0), .int .i64 (0)] := ⟨by kernel_rfl, rfl⟩
instance : Row Tryz.prog 25 9 72 := Row.of (n := 8) (by kernel_rfl)
instance : EqT Tryz.prog 25 [.int .i64, .int .i64, .int .i64, .int .i64, .int .i64, .int .i64, .int .i64, .int .i64, .int .i64] := EqT.of (fs := Tryz.prog.fieldsOf 25) (by kernel_rfl) (by kernel_rfl) (by kernel_rfl)
instance : Fld Tryz.prog 25 0 0 := Fld.of (n := 0) (by kernel_rfl)
instance : Fld Tryz.prog 25 1 1 := Fld.of (n := 0) (by kernel_rfl)
instance : Fld Tryz.prog 25 2 2 := Fld.of (n := 0) (by kernel_rfl)
instance : Fld Tryz.prog 25 3 3 := Fld.of (n := 0) (by kernel_rfl)
instance : Fld Tryz.prog 25 4 4 := Fld.of (n := 3) (by kernel_rfl)
instance : Fld Tryz.prog 25 5 8 := Fld.of (n := 0) (by kernel_rfl)
instance : Bld Tryz.prog 25 [(0, 1), (1, 1), (2, 1), (3, 1), (4, 4), (8, 1)] := Bld.of (fs := Tryz.prog.fieldsOf 25) (by kernel_rfl) (fun w => by kernel_rfl)
instance : Und Tryz.prog 26 (.slice 25) := ⟨by kernel_rfl⟩
instance : Siz Tryz.prog 26 1 := ⟨by kernel_rfl⟩
instance : Sgl Tryz.prog 26 := ⟨_, Und.out, rfl⟩
instance : Zer Tryz.prog 26 (.slice none 0 0) [.slice none 0 0] := ⟨by kernel_rfl, rfl⟩
instance : Row Tryz.prog 26 1 24 := Row.of (n := 0) (by kernel_rfl)
instance : Und Tryz.prog 27 (.func #[] #[4] false) := ⟨by kernel_rfl⟩
instance : Siz Tryz.prog 27 1 := ⟨by kernel_rfl⟩
instance : Sgl Tryz.prog 27 := ⟨_, Und.out, rfl⟩
instance : Zer Tryz.prog 27 (.nilFunc) [.nilFunc] := ⟨by kernel_rfl, rfl⟩
instance : Row Tryz.prog 27 1 8 := Row.of (n := 0) (by kernel_rfl)
instance : Und Tryz.prog 28 (.int .i64) := ⟨by kernel_rfl⟩
instance : Siz Tryz.prog 28 1 := ⟨by kernel_rfl⟩
instance : Sgl Tryz.prog 28 := ⟨_, Und.out, rfl⟩
instance : Zer Tryz.prog 28 (.int .i64 (0)) [.int .i64 (0)] := ⟨by kernel_rfl, rfl⟩
instance : Row Tryz.prog 28 1 8 := Row.of (n := 0) (by kernel_rfl)
instance : Und Tryz.prog 29 (.tuple #[9, 28]) := ⟨by kernel_rfl⟩
instance : Siz Tryz.prog 29 1 := ⟨by kernel_rfl⟩
instance : Sgl Tryz.prog 29 := ⟨_, Und.out, rfl⟩
instance : Und Tryz.prog 30 (.func #[25] #[9, 28] false) := ⟨by kernel_rfl⟩
instance : Siz Tryz.prog 30 1 := ⟨by kernel_rfl⟩
instance : Sgl Tryz.prog 30 := ⟨_, Und.out, rfl⟩
instance : Zer Tryz.prog 30 (.nilFunc) [.nilFunc] := ⟨by kernel_rfl, rfl⟩
instance : Row Tryz.prog 30 1 8 := Row.of (n := 0) (by kernel_rfl)
instance : Und Tryz.prog 31 (.tuple #[25, 28]) := ⟨by kernel_rfl⟩
instance : Siz Tryz.prog 31 1 := ⟨by kernel_rfl⟩
instance : Sgl Tryz.prog 31 := ⟨_, Und.out, rfl⟩
instance : Und Tryz.prog 32 (.func #[9] #[25, 28] false) := ⟨by kernel_rfl⟩
instance : Siz Tryz.prog 32 1 := ⟨by kernel_rfl⟩
instance : Sgl Tryz.prog 32 := ⟨_, Und.out, rfl⟩
instance : Zer Tryz.prog 32 (.nilFunc) [.nilFunc] := ⟨by kernel_rfl, rfl⟩
instance : Row Tryz.prog 32 1 8 := Row.of (n := 0) (by kernel_rfl)
instance : Und Tryz.prog 33 (.func #[26] #[9, 28] false) := ⟨by kernel_rfl⟩
instance : Siz Tryz.prog 33 1 := ⟨by kernel_rfl⟩
instance : Sgl Tryz.prog 33 := ⟨_, Und.out, rfl⟩
instance : Zer Tryz.prog 33 (.nilFunc) [.nilFunc] := ⟨by kernel_rfl, rfl⟩
instance : Row Tryz.prog 33 1 8 := Row.of (n := 0) (by kernel_rfl)
instance : Und Tryz.prog 34 (.tuple #[26, 3, 28]) := ⟨by kernel_rfl⟩
instance : Siz Tryz.prog 34 1 := ⟨by kernel_rfl⟩
instance : Sgl Tryz.prog 34 := ⟨_, Und.out, rfl⟩
instance : Und Tryz.prog 35 (.func #[9] #[26, 3, 28] false) := ⟨by kernel_rfl⟩
instance : Siz Tryz.prog 35 1 := ⟨by kernel_rfl⟩
instance : Sgl Tryz.prog 35 := ⟨_, Und.out, rfl⟩
instance : Zer Tryz.prog 35 (.nilFunc) [.nilFunc] := ⟨by kernel_rfl, rfl⟩
instance : Row Tryz.prog 35 1 8 := Row.of (n := 0) (by kernel_rfl)
instance : Und Tryz.prog 36 (.func #[26, 26] #[4] false) := ⟨by kernel_rfl⟩
instance : Siz Tryz.prog 36 1 := ⟨by kernel_rfl⟩
instance : Sgl Tryz.prog 36 := ⟨_, Und.out, rfl⟩
instance : Zer Tryz.prog 36 (.nilFunc) [.nilFunc] := ⟨by kernel_rfl, rfl⟩
instance : Row Tryz.prog 36 1 8 := Row.of (n := 0) (by kernel_rfl)
instance : Und Tryz.prog 37 (.func #[25, 26, 9, 9] #[4] false) := ⟨by kernel_rfl⟩
instance : Siz Tryz.prog 37 1 := ⟨by kernel_rfl⟩
instance : Sgl Tryz.prog 37 := ⟨_, Und.out, rfl⟩
instance : Zer Tryz.prog 37 (.nilFunc) [.nilFunc] := ⟨by kernel_rfl, rfl⟩
instance : Row Tryz.prog 37 1 8 := Row.of (n := 0) (by kernel_rfl)
instance : Und Tryz.prog 38 (.func #[25] #[28] false) := ⟨by kernel_rfl⟩
instance : Siz Tryz.prog 38 1 := ⟨by kernel_rfl⟩
instance : Sgl Tryz.prog 38 := ⟨_, Und.out, rfl⟩
instance : Zer Tryz.prog 38 (.nilFunc) [.nilFunc] := ⟨by kernel_rfl, rfl⟩
instance : Row Tryz.prog 38 1 8 := Row.of (n := 0) (by kernel_rfl)
instance : Und Tryz.prog 39 (.func #[25, 25, 26] #[4] false) := ⟨by kernel_rfl⟩
instance : Siz Tryz.prog 39 1 := ⟨by kernel_rfl⟩
instance : Sgl Tryz.prog 39 := ⟨_, Und.out, rfl⟩
instance : Zer Tryz.prog 39 (.nilFunc) [.nilFunc] := ⟨by kernel_rfl, rfl⟩
instance : Row Tryz.prog 39 1 8 := Row.of (n := 0) (by kernel_rfl)
instance : Und Tryz.prog 40 (.func #[3, 3, 3, 2] #[23] false) := ⟨by kernel_rfl⟩
instance : Siz Tryz.prog 40 1 := ⟨by kernel_rfl⟩
instance : Sgl Tryz.prog 40 := ⟨_, Und.out, rfl⟩
instance : Zer Tryz.prog 40 (.nilFunc) [.nilFunc] := ⟨by kernel_rfl, rfl⟩
instance : Row Tryz.prog 40 1 8 := Row.of (n := 0) (by kernel_rfl)
instance : Und Tryz.prog 41 (.slice 9) := ⟨by kernel_rfl⟩
instance : Siz Tryz.prog 41 1 := ⟨by kernel_rfl⟩
instance : Sgl Tryz.prog 41 := ⟨_, Und.out, rfl⟩
instance : Zer Tryz.prog 41 (.slice none 0 0) [.slice none 0 0] := ⟨by kernel_rfl, rfl⟩
instance : Row Tryz.prog 41 1 24 := Row.of (n := 0) (by kernel_rfl)
instance : Und Tryz.prog 42 (.slice 45) := ⟨by kernel_rfl⟩
instance : Siz Tryz.prog 42 1 := ⟨by kernel_rfl⟩
instance : Sgl Tryz.prog 42 := ⟨_, Und.out, rfl⟩
instance : Zer Tryz.prog 42 (.slice none 0 0) [.slice none 0 0] := ⟨by kernel_rfl, rfl⟩
instance : Row Tryz.prog 42 1 24 := Row.of (n := 0) (by kernel_rfl)
instance : Und Tryz.prog 43 (.func #[25] #[42] false) := ⟨by kernel_rfl⟩
instance : Siz Tryz.prog 43 1 := ⟨by kernel_rfl⟩
instance : Sgl Tryz.prog 43 := ⟨_, Und.out, rfl⟩
instance : Zer Tryz.prog 43 (.nilFunc) [.nilFunc] := ⟨by kernel_rfl, rfl⟩
instance : Row Tryz.prog 43 1 8 := Row.of (n := 0) (by kernel_rfl)
instance : Und Tryz.prog 44 (.interface #[("keysmith/listing.text", 46)]) := ⟨by kernel_rfl⟩
instance : Siz Tryz.prog 44 1 := ⟨by kernel_rfl⟩
instance : Sgl Tryz.prog 44 := ⟨_, Und.out, rfl⟩
instance : Zer Tryz.prog 44 (.nilIface) [.nilIface] := ⟨by kernel_rfl, rfl⟩
instance : Row Tryz.prog 44 1 16 := Row.of (n := 0) (by kernel_rfl)
instance : Und Tryz.prog 45 (.interface #[("keysmith/listing.text", 46)]) := ⟨by kernel_rfl⟩
instance : Siz Tryz.prog 45 1 := ⟨by kernel_rfl⟩
instance : Sgl Tryz.prog 45 := ⟨_, Und.out, rfl⟩
instance : Zer Tryz.prog 45 (.nilIface) [.nilIface] := ⟨by kernel_rfl, rfl⟩
instance : Row Tryz.prog 45 1 16 := Row.of (n := 0) (by kernel_rfl)
instance : Und Tryz.prog 46 (.func #[] #[9] false) := ⟨by kernel_rfl⟩
instance : Siz Tryz.prog 46 1 := ⟨by kernel_rfl⟩
instance : Sgl Tryz.prog 46 := ⟨_, Und.out, rfl⟩
instance : Zer Tryz.prog 46 (.nilFunc) [.nilFunc] := ⟨by kernel_rfl, rfl⟩
instance : Row Tryz.prog 46 1 8 := Row.of (n := 0) (by kernel_rfl)
instance : Und Tryz.prog 47 (.func #[9, 9] #[9] false) := ⟨by kernel_rfl⟩
instance : Siz Tryz.prog 47 1 := ⟨by kernel_rfl⟩
instance : Sgl Tryz.prog 47 := ⟨_, Und.out, rfl⟩
instance : Zer Tryz.prog 47 (.nilFunc) [.nilFunc] := ⟨by kernel_rfl, rfl⟩
instance : Row Tryz.prog 47 1 8 := Row.of (n := 0) (by kernel_rfl)
instance : Und Tryz.prog 48 (.func #[3] #[9] false) := ⟨by kernel_rfl⟩
instance : Siz Tryz.prog 48 1 := ⟨by kernel_rfl⟩
instance : Sgl Tryz.prog 48 := ⟨_, Und.out, rfl⟩
instance : Zer Tryz.prog 48 (.nilFunc) [.nilFunc] := ⟨by kernel_rfl, rfl⟩
instance : Row Tryz.prog 48 1 8 := Row.of (n := 0) (by kernel_rfl)
instance : Und Tryz.prog 49 (.func #[41, 9] #[9] false) := ⟨by kernel_rfl⟩
instance : Siz Tryz.prog 49 1 := ⟨by kernel_rfl⟩
instance : Sgl Tryz.prog 49 := ⟨_, Und.out, rfl⟩
instance : Zer Tryz.prog 49 (.nilFunc) [.nilFunc] := ⟨by kernel_rfl, rfl⟩
instance : Row Tryz.prog 49 1 8 := Row.of (n := 0) (by kernel_rfl)
instance : Und Tryz.prog 50 (.func #[23] #[9] false) := ⟨by kernel_rfl⟩
instance : Siz Tryz.prog 50 1 := ⟨by kernel_rfl⟩
instance : Sgl Tryz.prog 50 := ⟨_, Und.out, rfl⟩
instance : Zer Tryz.prog 50 (.nilFunc) [.nilFunc] := ⟨by kernel_rfl, rfl⟩
instance : Row Tryz.prog 50 1 8 := Row.of (n := 0) (by kernel_rfl)
instance : Und Tryz.prog 51 (.func #[9, 5] #[4] false) := ⟨by kernel_rfl⟩
instance : Siz Tryz.prog 51 1 := ⟨by kernel_rfl⟩
instance : Sgl Tryz.prog 51 := ⟨_, Und.out, rfl⟩
instance : Zer Tryz.prog 51 (.nilFunc) [.nilFunc] := ⟨by kernel_rfl, rfl⟩
instance : Row Tryz.prog 51 1 8 := Row.of (n := 0) (by kernel_rfl)
instance : Und Tryz.prog 52 (.func #[25] #[4] false) := ⟨by kernel_rfl⟩
instance : Siz Tryz.prog 52 1 := ⟨by kernel_rfl⟩
instance : Sgl Tryz.prog 52 := ⟨_, Und.out, rfl⟩
instance : Zer Tryz.prog 52 (.nilFunc) [.nilFunc] := ⟨by kernel_rfl, rfl⟩
instance : Row Tryz.prog 52 1 8 := Row.of (n := 0) (by kernel_rfl)
instance : Und Tryz.prog 53 (.func #[2] #[9] false) := ⟨by kernel_rfl⟩
instance : Siz Tryz.prog 53 1 := ⟨by kernel_rfl⟩
instance : Sgl Tryz.prog 53 := ⟨_, Und.out, rfl⟩
instance : Zer Tryz.prog 53 (.nilFunc) [.nilFunc] := ⟨by kernel_rfl, rfl⟩
instance : Row Tryz.prog 53 1 8 := Row.of (n := 0) (by kernel_rfl)
instance : Und Tryz.prog 54 (.tuple #[9, 9, 4]) := ⟨by kernel_rfl⟩
instance : Siz Tryz.prog 54 1 := ⟨by kernel_rfl⟩
instance : Sgl Tryz.prog 54 := ⟨_, Und.out, rfl⟩
instance : Und Tryz.prog 55 (.func #[9, 9] #[9, 9, 4] false) := ⟨by kernel_rfl⟩
instance : Siz Tryz.prog 55 1 := ⟨by kernel_rfl⟩
instance : Sgl Tryz.prog 55 := ⟨_, Und.out, rfl⟩
instance : Zer Tryz.prog 55 (.nilFunc) [.nilFunc] := ⟨by kernel_rfl, rfl⟩
instance : Row Tryz.prog 55 1 8 := Row.of (n := 0) (by kernel_rfl)
instance : Und Tryz.prog 56 (.tuple #[45, 4]) := ⟨by kernel_rfl⟩
instance : Siz Tryz.prog 56 1 := ⟨by kernel_rfl⟩
instance : Sgl Tryz.prog 56 := ⟨_, Und.out, rfl⟩
instance : Und Tryz.prog 57 (.func #[9] #[45, 4] false) := ⟨by kernel_rfl⟩
instance : Siz Tryz.prog 57 1 := ⟨by kernel_rfl⟩
instance : Sgl Tryz.prog 57 := ⟨_, Und.out, rfl⟩
instance : Zer Tryz.prog 57 (.nilFunc) [.nilFunc] := ⟨by kernel_rfl, rfl⟩
instance : Row Tryz.prog 57 1 8 := Row.of (n := 0) (by kernel_rfl)
instance : Und Tryz.prog 58 (.func #[3, 42] #[25] false) := ⟨by kernel_rfl⟩
instance : Siz Tryz.prog 58 1 := ⟨by kernel_rfl⟩
instance : Sgl Tryz.prog 58 := ⟨_, Und.out, rfl⟩
instance : Zer Tryz.prog 58 (.nilFunc) [.nilFunc] := ⟨by kernel_rfl, rfl⟩
instance : Row Tryz.prog 58 1 8 := Row.of (n := 0) (by kernel_rfl)
instance : Und Tryz.prog 59 (.func #[9, 5] #[3] false) := ⟨by kernel_rfl⟩
instance : Siz Tryz.prog 59 1 := ⟨by kernel_rfl⟩
instance : Sgl Tryz.prog 59 := ⟨_, Und.out, rfl⟩
instance : Zer Tryz.prog 59 (.nilFunc) [.nilFunc] := ⟨by kernel_rfl, rfl⟩
instance : Row Tryz.prog 59 1 8 := Row.of (n := 0) (by kernel_rfl)
instance : Und Tryz.prog 60 (.func #[9] #[41] false) := ⟨by kernel_rfl⟩
instance : Siz Tryz.prog 60 1 := ⟨by kernel_rfl⟩
instance : Sgl Tryz.prog 60 := ⟨_, Und.out, rfl⟩
instance : Zer Tryz.prog 60 (.nilFunc) [.nilFunc] := ⟨by kernel_rfl, rfl⟩
instance : Row Tryz.prog 60 1 8 := Row.of (n := 0) (by kernel_rfl)
instance : Und Tryz.prog 61 (.func #[3, 41] #[25] false) := ⟨by kernel_rfl⟩
instance : Siz Tryz.prog 61 1 := ⟨by kernel_rfl⟩
instance : Sgl Tryz.prog 61 := ⟨_, Und.out, rfl⟩
instance : Zer Tryz.prog 61 (.nilFunc) [.nilFunc] := ⟨by kernel_rfl, rfl⟩
instance : Row Tryz.prog 61 1 8 := Row.of (n := 0) (by kernel_rfl)
instance : Und Tryz.prog 62 (.pointer 65) := ⟨by kernel_rfl⟩
instance : Siz Tryz.prog 62 1 := ⟨by kernel_rfl⟩
instance : Sgl Tryz.prog 62 := ⟨_, Und.out, rfl⟩
instance : Zer Tryz.prog 62 (.pointer none) [.pointer none] := ⟨by kernel_rfl, rfl⟩
instance : Row Tryz.prog 62 1 8 := Row.of (n := 0) (by kernel_rfl)
instance : Und Tryz.prog 63 (.slice 5) := ⟨by kernel_rfl⟩
instance : Siz Tryz.prog 63 1 := ⟨by kernel_rfl⟩
instance : Sgl Tryz.prog 63 := ⟨_, Und.out, rfl⟩
instance : Zer Tryz.prog 63 (.slice none 0 0) [.slice none 0 0] := ⟨by kernel_rfl, rfl⟩
instance : Row Tryz.prog 63 1 24 := Row.of (n := 0) (by kernel_rfl)
instance : Und Tryz.prog 64 (.struct (Tryz.prog.fieldsOf 64)) := ⟨by kernel_rfl⟩
instance : Siz Tryz.prog 64 2 := ⟨by kernel_rfl⟩
instance : Agl Tryz.prog 64 := ⟨_, Und.out, rfl⟩
instance : Zer Tryz.prog 64 (.agg #[.pointer none, .slice none 0 0]) [.pointer none, .slice none 0 0] := ⟨by kernel_rfl, rfl⟩
instance : Row Tryz.prog 64 2 32 := Row.of (n := 1) (by kernel_rfl)
instance : Fld Tryz.prog 64 0 0 := Fld.of (n := 0) (by kernel_rfl)
instance : Fld Tryz.prog 64 1 1 := Fld.of (n := 0) (by kernel_rfl)
instance : Bld Tryz.prog 64 [(0, 1), (1, 1)] := Bld.of (fs := Tryz.prog.fieldsOf 64) (by kernel_rfl) (fun w => by kernel_rfl)
instance : Und Tryz.prog 65 (.struct (Tryz.prog.fieldsOf 65)) := ⟨by kernel_rfl⟩
instance : Siz Tryz.prog 65 2 := ⟨by kernel_rfl⟩
instance : Agl Tryz.prog 65 := ⟨_, Und.out, rfl⟩
instance : Zer Tryz.prog 65 (.agg #[.pointer none, .slice none 0 0]) [.pointer none, .slice none 0 0] := ⟨by kernel_rfl, rfl⟩
instance : Row Tryz.prog 65 2 32 := Row.of (n := 1) (by kernel_rfl)
instance : Fld Tryz.prog 65 0 0 := Fld.of (n := 0) (by kernel_rfl)
instance : Fld Tryz.prog 65 1 1 := Fld.of (n := 0) (by kernel_rfl)
instance : Bld Tryz.prog 65 [(0, 1), (1, 1)] := Bld.of (fs := Tryz.prog.fieldsOf 65) (by kernel_rfl) (fun w => by kernel_rfl)
instance : Und Tryz.prog 66 (.interface #[("Error", 46)]) := ⟨by kernel_rfl⟩
instance : Siz Tryz.prog 66 1 := ⟨by kernel_rfl⟩
instance : Sgl Tryz.prog 66 := ⟨_, Und.out, rfl⟩
instance : Zer Tryz.prog 66 (.nilIface) [.nilIface] := ⟨by kernel_rfl, rfl⟩
instance : Row Tryz.prog 66 1 16 := Row.of (n := 0) (by kernel_rfl)
instance : Und Tryz.prog 67 (.interface #[("Error", 46)]) := ⟨by kernel_rfl⟩
instance : Siz Tryz.prog 67 1 := ⟨by kernel_rfl⟩
instance : Sgl Tryz.prog 67 := ⟨_, Und.out, rfl⟩
instance : Zer Tryz.prog 67 (.nilIface) [.nilIface] := ⟨by kernel_rfl, rfl⟩
instance : Row Tryz.prog 67 1 16 := Row.of (n := 0) (by kernel_rfl)
instance : Und Tryz.prog 68 (.tuple #[3, 67]) := ⟨by kernel_rfl⟩
instance : Siz Tryz.prog 68 1 := ⟨by kernel_rfl⟩
instance : Sgl Tryz.prog 68 := ⟨_, Und.out, rfl⟩
instance : Und Tryz.prog 69 (.func #[9] #[3, 67] false) := ⟨by kernel_rfl⟩
instance : Siz Tryz.prog 69 1 := ⟨by kernel_rfl⟩
instance : Sgl Tryz.prog 69 := ⟨_, Und.out, rfl⟩
instance : Zer Tryz.prog 69 (.nilFunc) [.nilFunc] := ⟨by kernel_rfl, rfl⟩
instance : Row Tryz.prog 69 1 8 := Row.of (n := 0) (by kernel_rfl)
instance : Und Tryz.prog 70 (.func #[3] #[4] false) := ⟨by kernel_rfl⟩
instance : Siz Tryz.prog 70 1 := ⟨by kernel_rfl⟩
instance : Sgl Tryz.prog 70 := ⟨_, Und.out, rfl⟩
instance : Zer Tryz.prog 70 (.nilFunc) [.nilFunc] := ⟨by kernel_rfl, rfl⟩
instance : Row Tryz.prog 70 1 8 := Row.of (n := 0) (by kernel_rfl)
instance : Und Tryz.prog 71 (.func #[23] #[4] false) := ⟨by kernel_rfl⟩
instance : Siz Tryz.prog 71 1 := ⟨by kernel_rfl⟩
instance : Sgl Tryz.prog 71 := ⟨_, Und.out, rfl⟩
instance : Zer Tryz.prog 71 (.nilFunc) [.nilFunc] := ⟨by kernel_rfl, rfl⟩
instance : Row Tryz.prog 71 1 8 := Row.of (n := 0) (by kernel_rfl)
instance : Und Tryz.prog 72 (.func #[2] #[4] false) := ⟨by kernel_rfl⟩
instance : Siz Tryz.prog 72 1 := ⟨by kernel_rfl⟩
instance : Sgl Tryz.prog 72 := ⟨_, Und.out, rfl⟩
instance : Zer Tryz.prog 72 (.nilFunc) [.nilFunc] := ⟨by kernel_rfl, rfl⟩
instance : Row Tryz.prog 72 1 8 := Row.of (n := 0) (by kernel_rfl)
instance : Und Tryz.prog 73 (.struct (Tryz.prog.fieldsOf 73)) := ⟨by kernel_rfl⟩
instance : Siz Tryz.prog 73 4 := ⟨by kernel_rfl⟩
instance : Agl Tryz.prog 73 := ⟨_, Und.out, rfl⟩
instance : Zer Tryz.prog 73 (.agg #[.string ⟨#[]⟩, .int .i64 (0), .int .i64 (0), .int .i64 (0)]) [.string ⟨#[]⟩, .int .i64 (0), .int .i64 (0), .int .i64 (0)] := ⟨by kernel_rfl, rfl⟩
instance : Row Tryz.prog 73 4 40 := Row.of (n := 3) (by kernel_rfl)
instance : EqT Tryz.prog 73 [.str, .int .i64, .int .i64, .int .i64] := EqT.of (fs := Tryz.prog.fieldsOf 73) (by kernel_rfl) (by kernel_rfl) (by kernel_rfl)
instance : Fld Tryz.prog 73 0 0 := Fld.of (n := 0) (by kernel_rfl)
instance : Fld Tryz.prog 73 1 1 := Fld.of (n := 0) (by kernel_rfl)
instance : Fld Tryz.prog 73 2 2 := Fld.of (n := 0) (by kernel_rfl)
instance : Fld Tryz.prog 73 3 3 := Fld.of (n := 0) (by kernel_rfl)
instance : Bld Tryz.prog 73 [(0, 1), (1, 1), (2, 1), (3, 1)] := Bld.of (fs := Tryz.prog.fieldsOf 73) (by kernel_rfl) (fun w => by kernel_rfl)
instance : Und Tryz.prog 74 (.struct (Tryz.prog.fieldsOf 74)) := ⟨by kernel_rfl⟩
instance : Siz Tryz.prog 74 4 := ⟨by kernel_rfl⟩
instance : Agl Tryz.prog 74 := ⟨_, Und.out, rfl⟩
instance : Zer Tryz.prog 74 (.agg #[.string ⟨#[]⟩, .int .i64 (0), .int .i64 (0), .int .i64 (0)]) [.string ⟨#[]⟩, .int .i64 (0), .int .i64 (0), .int .i64 (0)] := ⟨by kernel_rfl, rfl⟩
instance : Row Tryz.prog 74 4 40 := Row.of (n := 3) (by kernel_rfl)
instance : EqT Tryz.prog 74 [.str, .int .i64, .int .i64, .int .i64] := EqT.of (fs := Tryz.prog.fieldsOf 74) (by kernel_rfl) (by kernel_rfl) (by kernel_rfl)
instance : Fld Tryz.prog 74 0 0 := Fld.of (n := 0) (by kernel_rfl)
instance : Fld Tryz.prog 74 1 1 := Fld.of (n := 0) (by kernel_rfl)
instance : Fld Tryz.prog 74 2 2 := Fld.of (n := 0) (by kernel_rfl)
instance : Fld Tryz.prog 74 3 3 := Fld.of (n := 0) (by kernel_rfl)
instance : Bld Tryz.prog 74 [(0, 1), (1, 1), (2, 1), (3, 1)] := Bld.of (fs := Tryz.prog.fieldsOf 74) (by kernel_rfl) (fun w => by kernel_rfl)
instance : Und Tryz.prog 75 (.func #[3] #[74] false) := ⟨by kernel_rfl⟩
instance : Siz Tryz.prog 75 1 := ⟨by kernel_rfl⟩
instance : Sgl Tryz.prog 75 := ⟨_, Und.out, rfl⟩
instance : Zer Tryz.prog 75 (.nilFunc) [.nilFunc] := ⟨by kernel_rfl, rfl⟩
instance : Row Tryz.prog 75 1 8 := Row.of (n := 0) (by kernel_rfl)
instance : Und Tryz.prog 76 (.struct (Tryz.prog.fieldsOf 76)) := ⟨by kernel_rfl⟩
instance : Siz Tryz.prog 76 2 := ⟨by kernel_rfl⟩
instance : Agl Tryz.prog 76 := ⟨_, Und.out, rfl⟩
instance : Zer Tryz.prog 76 (.agg #[.int .i64 (0), .int .i64 (0)]) [.int .i64 (0), .int .i64 (0)] := ⟨by kernel_rfl, rfl⟩
instance : Row Tryz.prog 76 2 16 := Row.of (n := 1) (by kernel_rfl)
instance : EqT Tryz.prog 76 [.int .i64, .int .i64] := EqT.of (fs := Tryz.prog.fieldsOf 76) (by kernel_rfl) (by kernel_rfl) (by kernel_rfl)
instance : Fld Tryz.prog 76 0 0 := Fld.of (n := 0) (by kernel_rfl)
instance : Fld Tryz.prog 76 1 1 := Fld.of (n := 0) (by kernel_rfl)
instance : Bld Tryz.prog 76 [(0, 1), (1, 1)] := Bld.of (fs := Tryz.prog.fieldsOf 76) (by kernel_rfl) (fun w => by kernel_rfl)
instance : Und Tryz.prog 77 (.array 3 76) := ⟨by kernel_rfl⟩
instance : Siz Tryz.prog 77 6 := ⟨by kernel_rfl⟩
instance : Agl Tryz.prog 77 := ⟨_, Und.out, rfl⟩
instance : Zer Tryz.prog 77 (.agg #[.int .i64 (0), .int .i64 (0), .int .i64 (0), .int .i64 (0), .int .i64 (0), .int .i64 (0)]) [.int .i64 (0), .int .i64 (0), .int .i64 (0), .int .i64 (0), .int .i64 (0), .int .i64 (0)] := ⟨by kernel_rfl, rfl⟩
instance : Row Tryz.prog 77 6 48 := Row.of (n := 5) (by kernel_rfl)
instance : Und Tryz.prog 78 (.int .i64) := ⟨by kernel_rfl⟩
instance : Siz Tryz.prog 78 1 := ⟨by kernel_rfl⟩
instance : Sgl Tryz.prog 78 := ⟨_, Und.out, rfl⟩
instance : Zer Tryz.prog 78 (.int .i64 (0)) [.int .i64 (0)] := ⟨by kernel_rfl, rfl⟩
instance : Row Tryz.prog 78 1 8 := Row.of (n := 0) (by kernel_rfl)
instance : Und Tryz.prog 79 (.struct (Tryz.prog.fieldsOf 79)) := ⟨by kernel_rfl⟩
instance : Siz Tryz.prog 79 4 := ⟨by kernel_rfl⟩
instance : Agl Tryz.prog 79 := ⟨_, Und.out, rfl⟩
instance : Zer Tryz.prog 79 (.agg #[.int .i64 (0), .int .i64 (0), .int .i64 (0), .int .i64 (0)]) [.int .i64 (0), .int .i64 (0), .int .i64 (0), .int .i64 (0)] := ⟨by kernel_rfl, rfl⟩
instance : Row Tryz.prog 79 4 32 := Row.of (n := 3) (by kernel_rfl)
instance : EqT Tryz.prog 79 [.int .i64, .int .i64, .int .i64, .int .i64] := EqT.of (fs := Tryz.prog.fieldsOf 79) (by kernel_rfl) (by kernel_rfl) (by kernel_rfl)
instance : Fld Tryz.prog 79 0 0 := Fld.of (n := 0) (by kernel_rfl)
instance : Fld Tryz.prog 79 1 1 := Fld.of (n := 0) (by kernel_rfl)
instance : Fld Tryz.prog 79 2 2 := Fld.of (n := 0) (by kernel_rfl)
instance : Fld Tryz.prog 79 3 3 := Fld.of (n := 0) (by kernel_rfl)
instance : Bld Tryz.prog 79 [(0, 1), (1, 1), (2, 1), (3, 1)] := Bld.of (fs := Tryz.prog.fieldsOf 79) (by kernel_rfl) (fun w => by kernel_rfl)
instance : Und Tryz.prog 80 (.int .i64) := ⟨by kernel_rfl⟩
instance : Siz Tryz.prog 80 1 := ⟨by kernel_rfl⟩
instance : Sgl Tryz.prog 80 := ⟨_, Und.out, rfl⟩
instance : Zer Tryz.prog 80 (.int .i64 (0)) [.int .i64 (0)] := ⟨by kernel_rfl, rfl⟩
instance : Row Tryz.prog 80 1 8 := Row.of (n := 0) (by kernel_rfl)
instance : Und Tryz.prog 81 (.int .i64) := ⟨by kernel_rfl⟩
instance : Siz Tryz.prog 81 1 := ⟨by kernel_rfl⟩
instance : Sgl Tryz.prog 81 := ⟨_, Und.out, rfl⟩
instance : Zer Tryz.prog 81 (.int .i64 (0)) [.int .i64 (0)] := ⟨by kernel_rfl, rfl⟩
instance : Row Tryz.prog 81 1 8 := Row.of (n := 0) (by kernel_rfl)
instance : Und Tryz.prog 82 (.func #[3] #[] false) := ⟨by kernel_rfl⟩
instance : Siz Tryz.prog 82 1 := ⟨by kernel_rfl⟩
instance : Sgl Tryz.prog 82 := ⟨_, Und.out, rfl⟩
instance : Zer Tryz.prog 82 (.nilFunc) [.nilFunc] := ⟨by kernel_rfl, rfl⟩
instance : Row Tryz.prog 82 1 8 := Row.of (n := 0) (by kernel_rfl)
instance : Und Tryz.prog 83 (.func #[9] #[3] false) := ⟨by kernel_rfl⟩
instance : Siz Tryz.prog 83 1 := ⟨by kernel_rfl⟩
instance : Sgl Tryz.prog 83 := ⟨_, Und.out, rfl⟩
instance : Zer Tryz.prog 83 (.nilFunc) [.nilFunc] := ⟨by kernel_rfl, rfl⟩
instance : Row Tryz.prog 83 1 8 := Row.of (n := 0) (by kernel_rfl)
instance : Und Tryz.prog 84 (.func #[9, 9] #[4] false) := ⟨by kernel_rfl⟩
instance : Siz Tryz.prog 84 1 := ⟨by kernel_rfl⟩
instance : Sgl Tryz.prog 84 := ⟨_, Und.out, rfl⟩
instance : Zer Tryz.prog 84 (.nilFunc) [.nilFunc] := ⟨by kernel_rfl, rfl⟩
instance : Row Tryz.prog 84 1 8 := Row.of (n := 0) (by kernel_rfl)
instance : Und Tryz.prog 85 (.func #[9] #[79] false) := ⟨by kernel_rfl⟩
instance : Siz Tryz.prog 85 1 := ⟨by kernel_rfl⟩
instance : Sgl Tryz.prog 85 := ⟨_, Und.out, rfl⟩
instance : Zer Tryz.prog 85 (.nilFunc) [.nilFunc] := ⟨by kernel_rfl, rfl⟩
instance : Row Tryz.prog 85 1 8 := Row.of (n := 0) (by kernel_rfl)
instance : Und Tryz.prog 86 (.tuple #[2, 67]) := ⟨by kernel_rfl⟩
instance : Siz Tryz.prog 86 1 := ⟨by kernel_rfl⟩
instance : Sgl Tryz.prog 86 := ⟨_, Und.out, rfl⟩
instance : Und Tryz.prog 87 (.func #[9, 3, 3] #[2, 67] false) := ⟨by kernel_rfl⟩
instance : Siz Tryz.prog 87 1 := ⟨by kernel_rfl⟩
instance : Sgl Tryz.prog 87 := ⟨_, Und.out, rfl⟩
instance : Zer Tryz.prog 87 (.nilFunc) [.nilFunc] := ⟨by kernel_rfl, rfl⟩
instance : Row Tryz.prog 87 1 8 := Row.of (n := 0) (by kernel_rfl)
instance : Und Tryz.prog 88 (.func #[9] #[23] false) := ⟨by kernel_rfl⟩
instance : Siz Tryz.prog 88 1 := ⟨by kernel_rfl⟩
instance : Sgl Tryz.prog 88 := ⟨_, Und.out, rfl⟩
instance : Zer Tryz.prog 88 (.nilFunc) [.nilFunc] := ⟨by kernel_rfl, rfl⟩
instance : Row Tryz.prog 88 1 8 := Row.of (n := 0) (by kernel_rfl)
instance : Und Tryz.prog 89 (.tuple #[2, 4]) := ⟨by kernel_rfl⟩
instance : Siz Tryz.prog 89 1 := ⟨by kernel_rfl⟩
instance : Sgl Tryz.prog 89 := ⟨_, Und.out, rfl⟩
instance : Und Tryz.prog 90 (.func #[9] #[2, 4] false) := ⟨by kernel_rfl⟩
instance : Siz Tryz.prog 90 1 := ⟨by kernel_rfl⟩
instance : Sgl Tryz.prog 90 := ⟨_, Und.out, rfl⟩
instance : Zer Tryz.prog 90 (.nilFunc) [.nilFunc] := ⟨by kernel_rfl, rfl⟩
instance : Row Tryz.prog 90 1 8 := Row.of (n := 0) (by kernel_rfl)
instance : Und Tryz.prog 91 (.pointer 5) := ⟨by kernel_rfl⟩
instance : Siz Tryz.prog 91 1 := ⟨by kernel_rfl⟩
instance : Sgl Tryz.prog 91 := ⟨_, Und.out, rfl⟩
instance : Zer Tryz.prog 91 (.pointer none) [.pointer none] := ⟨by kernel_rfl, rfl⟩
instance : Row Tryz.prog 91 1 8 := Row.of (n := 0) (by kernel_rfl)
instance : Und Tryz.prog 92 (.array 34 74) := ⟨by kernel_rfl⟩
instance : Siz Tryz.prog 92 136 := ⟨by kernel_rfl⟩
instance : Agl Tryz.prog 92 := ⟨_, Und.out, rfl⟩
instance : Und Tryz.prog 93 (.func #[] #[92] false) := ⟨by kernel_rfl⟩
instance : Siz Tryz.prog 93 1 := ⟨by kernel_rfl⟩
instance : Sgl Tryz.prog 93 := ⟨_, Und.out, rfl⟩
instance : Zer Tryz.prog 93 (.nilFunc) [.nilFunc] := ⟨by kernel_rfl, rfl⟩
instance : Row Tryz.prog 93 1 8 := Row.of (n := 0) (by kernel_rfl)
instance : Und Tryz.prog 94 (.func #[95, 3] #[4] false) := ⟨by kernel_rfl⟩
instance : Siz Tryz.prog 94 1 := ⟨by kernel_rfl⟩
instance : Sgl Tryz.prog 94 := ⟨_, Und.out, rfl⟩
instance : Zer Tryz.prog 94 (.nilFunc) [.nilFunc] := ⟨by kernel_rfl, rfl⟩
instance : Row Tryz.prog 94 1 8 := Row.of (n := 0) (by kernel_rfl)
instance : Und Tryz.prog 95 (.slice 3) := ⟨by kernel_rfl⟩
instance : Siz Tryz.prog 95 1 := ⟨by kernel_rfl⟩
instance : Sgl Tryz.prog 95 := ⟨_, Und.out, rfl⟩
instance : Zer Tryz.prog 95 (.slice none 0 0) [.slice none 0 0] := ⟨by kernel_rfl, rfl⟩
instance : Row Tryz.prog 95 1 24 := Row.of (n := 0) (by kernel_rfl)
instance : Und Tryz.prog 96 (.func #[9, 9] #[3] false) := ⟨by kernel_rfl⟩
instance : Siz Tryz.prog 96 1 := ⟨by kernel_rfl⟩
instance : Sgl Tryz.prog 96 := ⟨_, Und.out, rfl⟩
instance : Zer Tryz.prog 96 (.nilFunc) [.nilFunc] := ⟨by kernel_rfl, rfl⟩
instance : Row Tryz.prog 96 1 8 := Row.of (n := 0) (by kernel_rfl)
instance : Und Tryz.prog 97 (.func #[9, 9, 3, 3, 67] #[67] false) := ⟨by kernel_rfl⟩
instance : Siz Tryz.prog 97 1 := ⟨by kernel_rfl⟩
instance : Sgl Tryz.prog 97 := ⟨_, Und.out, rfl⟩
instance : Zer Tryz.prog 97 (.nilFunc) [.nilFunc] := ⟨by kernel_rfl, rfl⟩
instance : Row Tryz.prog 97 1 8 := Row.of (n := 0) (by kernel_rfl)
instance : Und Tryz.prog 98 (.int .u64) := ⟨by kernel_rfl⟩
instance : Siz Tryz.prog 98 1 := ⟨by kernel_rfl⟩
instance : Sgl Tryz.prog 98 := ⟨_, Und.out, rfl⟩
instance : Zer Tryz.prog 98 (.int .u64 (0)) [.int .u64 (0)] := ⟨by kernel_rfl, rfl⟩
instance : Row Tryz.prog 98 1 8 := Row.of (n := 0) (by kernel_rfl)
instance : Und Tryz.prog 100 (.func #[99] #[99] false) := ⟨by kernel_rfl⟩
instance : Siz Tryz.prog 100 1 := ⟨by kernel_rfl⟩
instance : Sgl Tryz.prog 100 := ⟨_, Und.out, rfl⟩
instance : Zer Tryz.prog 100 (.nilFunc) [.nilFunc] := ⟨by kernel_rfl, rfl⟩
instance : Row Tryz.prog 100 1 8 := Row.of (n := 0) (by kernel_rfl)
instance : Und Tryz.prog 101 (.func #[95, 3] #[3] false) := ⟨by kernel_rfl⟩
instance : Siz Tryz.prog 101 1 := ⟨by kernel_rfl⟩
instance : Sgl Tryz.prog 101 := ⟨_, Und.out, rfl⟩
instance : Zer Tryz.prog 101 (.nilFunc) [.nilFunc] := ⟨by kernel_rfl, rfl⟩
instance : Row Tryz.prog 101 1 8 := Row.of (n := 0) (by kernel_rfl)
instance : Und Tryz.prog 102 (.func #[3] #[63] false) := ⟨by kernel_rfl⟩
instance : Siz Tryz.prog 102 1 := ⟨by kernel_rfl⟩
instance : Sgl Tryz.prog 102 := ⟨_, Und.out, rfl⟩
instance : Zer Tryz.prog 102 (.nilFunc) [.nilFunc] := ⟨by kernel_rfl, rfl⟩
instance : Row Tryz.prog 102 1 8 := Row.of (n := 0) (by kernel_rfl)
instance : Und Tryz.prog 103 (.func #[3] #[3] false) := ⟨by kernel_rfl⟩
instance : Siz Tryz.prog 103 1 := ⟨by kernel_rfl⟩
instance : Sgl Tryz.prog 103 := ⟨_, Und.out, rfl⟩
instance : Zer Tryz.prog 103 (.nilFunc) [.nilFunc] := ⟨by kernel_rfl, rfl⟩
instance : Row Tryz.prog 103 1 8 := Row.of (n := 0) (by kernel_rfl)
instance : Und Tryz.prog 104 (.int .u64) := ⟨by kernel_rfl⟩
instance : Siz Tryz.prog 104 1 := ⟨by kernel_rfl⟩
instance : Sgl Tryz.prog 104 := ⟨_, Und.out, rfl⟩
instance : Zer Tryz.prog 104 (.int .u64 (0)) [.int .u64 (0)] := ⟨by kernel_rfl, rfl⟩
instance : Row Tryz.prog 104 1 8 := Row.of (n := 0) (by kernel_rfl)
instance : Und Tryz.prog 105 (.array 16 9) := ⟨by kernel_rfl⟩
instance : Siz Tryz.prog 105 16 := ⟨by kernel_rfl⟩
instance : Agl Tryz.prog 105 := ⟨_, Und.out, rfl⟩
instance : Zer Tryz.prog 105 (.agg #[.string ⟨#[]⟩, .string ⟨#[]⟩, .string ⟨#[]⟩, .string ⟨#[]⟩, .string ⟨#[]⟩, .string ⟨#[]⟩, .string ⟨#[]⟩, .string ⟨#[]⟩, .string ⟨#[]⟩, .string ⟨#[]⟩, .string ⟨#[]⟩, .string ⟨#[]⟩, .string ⟨#[]⟩, .string ⟨#[]⟩, .string ⟨#[]⟩, .string ⟨#[]⟩]) [.string ⟨#[]⟩, .string ⟨#[]⟩, .string ⟨#[]⟩, .string ⟨#[]⟩, .string ⟨#[]⟩, .string ⟨#[]⟩, .string ⟨#[]⟩, .string ⟨#[]⟩, .string ⟨#[]⟩, .string ⟨#[]⟩, .string ⟨#[]⟩, .string ⟨#[]⟩, .string ⟨#[]⟩, .string ⟨#[]⟩, .string ⟨#[]⟩, .string ⟨#[]⟩] := ⟨by kernel_rfl, rfl⟩
instance : Row Tryz.prog 105 16 256 := Row.of (n := 15) (by kernel_rfl)
instance : Und Tryz.prog 106 (.func #[9, 21] #[3] false) := ⟨by kernel_rfl⟩
instance : Siz Tryz.prog 106 1 := ⟨by kernel_rfl⟩
instance : Sgl Tryz.prog 106 := ⟨_, Und.out, rfl⟩
instance : Zer Tryz.prog 106 (.nilFunc) [.nilFunc] := ⟨by kernel_rfl, rfl⟩
instance : Row Tryz.prog 106 1 8 := Row.of (n := 0) (by kernel_rfl)
instance : Und Tryz.prog 107 (.array 256 4) := ⟨by kernel_rfl⟩
instance : Siz Tryz.prog 107 256 := ⟨by kernel_rfl⟩
instance : Agl Tryz.prog 107 := ⟨_, Und.out, rfl⟩
instance : Und Tryz.prog 108 (.array 256 4) := ⟨by kernel_rfl⟩
instance : Siz Tryz.prog 108 256 := ⟨by kernel_rfl⟩
instance : Agl Tryz.prog 108 := ⟨_, Und.out, rfl⟩
instance : Und Tryz.prog 109 (.tuple #[108, 4]) := ⟨by kernel_rfl⟩
instance : Siz Tryz.prog 109 1 := ⟨by kernel_rfl⟩
instance : Sgl Tryz.prog 109 := ⟨_, Und.out, rfl⟩
instance : Und Tryz.prog 110 (.func #[9] #[108, 4] false) := ⟨by kernel_rfl⟩
instance : Siz Tryz.prog 110 1 := ⟨by kernel_rfl⟩
instance : Sgl Tryz.prog 110 := ⟨_, Und.out, rfl⟩
instance : Zer Tryz.prog 110 (.nilFunc) [.nilFunc] := ⟨by kernel_rfl, rfl⟩
instance : Row Tryz.prog 110 1 8 := Row.of (n := 0) (by kernel_rfl)
instance : Und Tryz.prog 111 (.func #[5] #[4] false) := ⟨by kernel_rfl⟩
instance : Siz Tryz.prog 111 1 := ⟨by kernel_rfl⟩
instance : Sgl Tryz.prog 111 := ⟨_, Und.out, rfl⟩
instance : Zer Tryz.prog 111 (.nilFunc) [.nilFunc] := ⟨by kernel_rfl, rfl⟩
instance : Row Tryz.prog 111 1 8 := Row.of (n := 0) (by kernel_rfl)
instance : Und Tryz.prog 112 (.tuple #[21, 3]) := ⟨by kernel_rfl⟩
instance : Siz Tryz.prog 112 1 := ⟨by kernel_rfl⟩
instance : Sgl Tryz.prog 112 := ⟨_, Und.out, rfl⟩
instance : Und Tryz.prog 113 (.func #[9] #[21, 3] false) := ⟨by kernel_rfl⟩
instance : Siz Tryz.prog 113 1 := ⟨by kernel_rfl⟩
instance : Sgl Tryz.prog 113 := ⟨_, Und.out, rfl⟩
instance : Zer Tryz.prog 113 (.nilFunc) [.nilFunc] := ⟨by kernel_rfl, rfl⟩
instance : Row Tryz.prog 113 1 8 := Row.of (n := 0) (by kernel_rfl)
instance : Und Tryz.prog 114 (.int .i64) := ⟨by kernel_rfl⟩
instance : Siz Tryz.prog 114 1 := ⟨by kernel_rfl⟩
instance : Sgl Tryz.prog 114 := ⟨_, Und.out, rfl⟩
instance : Zer Tryz.prog 114 (.int .i64 (0)) [.int .i64 (0)] := ⟨by kernel_rfl, rfl⟩
instance : Row Tryz.prog 114 1 8 := Row.of (n := 0) (by kernel_rfl)
instance : Und Tryz.prog 115 (.tuple #[98, 67]) := ⟨by kernel_rfl⟩
instance : Siz Tryz.prog 115 1 := ⟨by kernel_rfl⟩
instance : Sgl Tryz.prog 115 := ⟨_, Und.out, rfl⟩
instance : Und Tryz.prog 116 (.func #[9, 3, 3] #[98, 67] false) := ⟨by kernel_rfl⟩
instance : Siz Tryz.prog 116 1 := ⟨by kernel_rfl⟩
instance : Sgl Tryz.prog 116 := ⟨_, Und.out, rfl⟩
instance : Zer Tryz.prog 116 (.nilFunc) [.nilFunc] := ⟨by kernel_rfl, rfl⟩
instance : Row Tryz.prog 116 1 8 := Row.of (n := 0) (by kernel_rfl)
instance : Und Tryz.prog 117 (.pointer 129) := ⟨by kernel_rfl⟩
instance : Siz Tryz.prog 117 1 := ⟨by kernel_rfl⟩
instance : Sgl Tryz.prog 117 := ⟨_, Und.out, rfl⟩
instance : Zer Tryz.prog 117 (.pointer none) [.pointer none] := ⟨by kernel_rfl, rfl⟩
instance : Row Tryz.prog 117 1 8 := Row.of (n := 0) (by kernel_rfl)
instance : Und Tryz.prog 118 (.func #[9, 9] #[117] false) := ⟨by kernel_rfl⟩
instance : Siz Tryz.prog 118 1 := ⟨by kernel_rfl⟩
instance : Sgl Tryz.prog 118 := ⟨_, Und.out, rfl⟩
instance : Zer Tryz.prog 118 (.nilFunc) [.nilFunc] := ⟨by kernel_rfl, rfl⟩
instance : Row Tryz.prog 118 1 8 := Row.of (n := 0) (by kernel_rfl)
instance : Und Tryz.prog 119 (.func #[9, 9, 3] #[117] false) := ⟨by kernel_rfl⟩
instance : Siz Tryz.prog 119 1 := ⟨by kernel_rfl⟩
instance : Sgl Tryz.prog 119 := ⟨_, Und.out, rfl⟩
instance : Zer Tryz.prog 119 (.nilFunc) [.nilFunc] := ⟨by kernel_rfl, rfl⟩
instance : Row Tryz.prog 119 1 8 := Row.of (n := 0) (by kernel_rfl)
instance : Und Tryz.prog 120 (.int .u32) := ⟨by kernel_rfl⟩
instance : Siz Tryz.prog 120 1 := ⟨by kernel_rfl⟩
instance : Sgl Tryz.prog 120 := ⟨_, Und.out, rfl⟩
instance : Zer Tryz.prog 120 (.int .u32 (0)) [.int .u32 (0)] := ⟨by kernel_rfl, rfl⟩
instance : Row Tryz.prog 120 1 4 := Row.of (n := 0) (by kernel_rfl)
instance : Und Tryz.prog 121 (.tuple #[120, 120]) := ⟨by kernel_rfl⟩
instance : Siz Tryz.prog 121 1 := ⟨by kernel_rfl⟩
instance : Sgl Tryz.prog 121 := ⟨_, Und.out, rfl⟩
instance : Und Tryz.prog 122 (.func #[9] #[120, 120] false) := ⟨by kernel_rfl⟩
instance : Siz Tryz.prog 122 1 := ⟨by kernel_rfl⟩
instance : Sgl Tryz.prog 122 := ⟨_, Und.out, rfl⟩
instance : Zer Tryz.prog 122 (.nilFunc) [.nilFunc] := ⟨by kernel_rfl, rfl⟩
instance : Row Tryz.prog 122 1 8 := Row.of (n := 0) (by kernel_rfl)
instance : Und Tryz.prog 123 (.func #[21] #[4] false) := ⟨by kernel_rfl⟩
instance : Siz Tryz.prog 123 1 := ⟨by kernel_rfl⟩
instance : Sgl Tryz.prog 123 := ⟨_, Und.out, rfl⟩
instance : Zer Tryz.prog 123 (.nilFunc) [.nilFunc] := ⟨by kernel_rfl, rfl⟩
instance : Row Tryz.prog 123 1 8 := Row.of (n := 0) (by kernel_rfl)
instance : Und Tryz.prog 124 (.pointer 108) := ⟨by kernel_rfl⟩
instance : Siz Tryz.prog 124 1 := ⟨by kernel_rfl⟩
instance : Sgl Tryz.prog 124 := ⟨_, Und.out, rfl⟩
instance : Zer Tryz.prog 124 (.pointer none) [.pointer none] := ⟨by kernel_rfl, rfl⟩
instance : Row Tryz.prog 124 1 8 := Row.of (n := 0) (by kernel_rfl)
instance : Und Tryz.prog 125 (.func #[5] #[5] false) := ⟨by kernel_rfl⟩
instance : Siz Tryz.prog 125 1 := ⟨by kernel_rfl⟩
instance : Sgl Tryz.prog 125 := ⟨_, Und.out, rfl⟩
instance : Zer Tryz.prog 125 (.nilFunc) [.nilFunc] := ⟨by kernel_rfl, rfl⟩
instance : Row Tryz.prog 125 1 8 := Row.of (n := 0) (by kernel_rfl)
instance : Und Tryz.prog 126 (.func #[9] #[4] false) := ⟨by kernel_rfl⟩
instance : Siz Tryz.prog 126 1 := ⟨by kernel_rfl⟩
instance : Sgl Tryz.prog 126 := ⟨_, Und.out, rfl⟩
instance : Zer Tryz.prog 126 (.nilFunc) [.nilFunc] := ⟨by kernel_rfl, rfl⟩
instance : Row Tryz.prog 126 1 8 := Row.of (n := 0) (by kernel_rfl)
instance : Und Tryz.prog 127 (.func #[9] #[9] false) := ⟨by kernel_rfl⟩
instance : Siz Tryz.prog 127 1 := ⟨by kernel_rfl⟩
instance : Sgl Tryz.prog 127 := ⟨_, Und.out, rfl⟩
instance : Zer Tryz.prog 127 (.nilFunc) [.nilFunc] := ⟨by kernel_rfl, rfl⟩
instance : Row Tryz.prog 127 1 8 := Row.of (n := 0) (by kernel_rfl)
instance : Und Tryz.prog 128 (.struct (Tryz.prog.fieldsOf 128)) := ⟨by kernel_rfl⟩
instance : Siz Tryz.prog 128 3 := ⟨by kernel_rfl⟩
instance : Agl Tryz.prog 128 := ⟨_, Und.out, rfl⟩
instance : Zer Tryz.prog 128 (.agg #[.string ⟨#[]⟩, .string ⟨#[]⟩, .nilIface]) [.string ⟨#[]⟩, .string ⟨#[]⟩, .nilIface] := ⟨by kernel_rfl, rfl⟩
instance : Row Tryz.prog 128 3 48 := Row.of (n := 2) (by kernel_rfl)
instance : Fld Tryz.prog 128 0 0 := Fld.of (n := 0) (by kernel_rfl)
instance : Fld Tryz.prog 128 1 1 := Fld.of (n := 0) (by kernel_rfl)
instance : Fld Tryz.prog 128 2 2 := Fld.of (n := 0) (by kernel_rfl)
instance : Bld Tryz.prog 128 [(0, 1), (1, 1), (2, 1)] := Bld.of (fs := Tryz.prog.fieldsOf 128) (by kernel_rfl) (fun w => by kernel_rfl)
instance : Und Tryz.prog 129 (.struct (Tryz.prog.fieldsOf 129)) := ⟨by kernel_rfl⟩
instance : Siz Tryz.prog 129 3 := ⟨by kernel_rfl⟩
instance : Agl Tryz.prog 129 := ⟨_, Und.out, rfl⟩
instance : Zer Tryz.prog 129 (.agg #[.string ⟨#[]⟩, .string ⟨#[]⟩, .nilIface]) [.string ⟨#[]⟩, .string ⟨#[]⟩, .nilIface] := ⟨by kernel_rfl, rfl⟩
instance : Row Tryz.prog 129 3 48 := Row.of (n := 2) (by kernel_rfl)
instance : Fld Tryz.prog 129 0 0 := Fld.of (n := 0) (by kernel_rfl)
instance : Fld Tryz.prog 129 1 1 := Fld.of (n := 0) (by kernel_rfl)
instance : Fld Tryz.prog 129 2 2 := Fld.of (n := 0) (by kernel_rfl)
instance : Bld Tryz.prog 129 [(0, 1), (1, 1), (2, 1)] := Bld.of (fs := Tryz.prog.fieldsOf 129) (by kernel_rfl) (fun w => by kernel_rfl)
instance : Und Tryz.prog 130 (.func #[9] #[67] false) := ⟨by kernel_rfl⟩
instance : Siz Tryz.prog 130 1 := ⟨by kernel_rfl⟩
instance : Sgl Tryz.prog 130 := ⟨_, Und.out, rfl⟩
instance : Zer Tryz.prog 130 (.nilFunc) [.nilFunc] := ⟨by kernel_rfl, rfl⟩
instance : Row Tryz.prog 130 1 8 := Row.of (n := 0) (by kernel_rfl)
instance : Und Tryz.prog 131 (.pointer 133) := ⟨by kernel_rfl⟩
instance : Siz Tryz.prog 131 1 := ⟨by kernel_rfl⟩
instance : Sgl Tryz.prog 131 := ⟨_, Und.out, rfl⟩
instance : Zer Tryz.prog 131 (.pointer none) [.pointer none] := ⟨by kernel_rfl, rfl⟩
instance : Row Tryz.prog 131 1 8 := Row.of (n := 0) (by kernel_rfl)
instance : Und Tryz.prog 132 (.struct (Tryz.prog.fieldsOf 132)) := ⟨by kernel_rfl⟩
instance : Siz Tryz.prog 132 1 := ⟨by kernel_rfl⟩
instance : Agl Tryz.prog 132 := ⟨_, Und.out, rfl⟩
instance : Zer Tryz.prog 132 (.agg #[.string ⟨#[]⟩]) [.string ⟨#[]⟩] := ⟨by kernel_rfl, rfl⟩
instance : Row Tryz.prog 132 1 16 := Row.of (n := 0) (by kernel_rfl)
instance : EqT Tryz.prog 132 [.str] := EqT.of (fs := Tryz.prog.fieldsOf 132) (by kernel_rfl) (by kernel_rfl) (by kernel_rfl)
instance : Fld Tryz.prog 132 0 0 := Fld.of (n := 0) (by kernel_rfl)
instance : Bld Tryz.prog 132 [(0, 1)] := Bld.of (fs := Tryz.prog.fieldsOf 132) (by kernel_rfl) (fun w => by kernel_rfl)
instance : Und Tryz.prog 133 (.struct (Tryz.prog.fieldsOf 133)) := ⟨by kernel_rfl⟩
instance : Siz Tryz.prog 133 1 := ⟨by kernel_rfl⟩
instance : Agl Tryz.prog 133 := ⟨_, Und.out, rfl⟩
instance : Zer Tryz.prog 133 (.agg #[.string ⟨#[]⟩]) [.string ⟨#[]⟩] := ⟨by kernel_rfl, rfl⟩
instance : Row Tryz.prog 133 1 16 := Row.of (n := 0) (by kernel_rfl)
instance : EqT Tryz.prog 133 [.str] := EqT.of (fs := Tryz.prog.fieldsOf 133) (by kernel_rfl) (by kernel_rfl) (by kernel_rfl)
instance : Fld Tryz.prog 133 0 0 := Fld.of (n := 0) (by kernel_rfl)
instance : Bld Tryz.prog 133 [(0, 1)] := Bld.of (fs := Tryz.prog.fieldsOf 133) (by kernel_rfl) (fun w => by kernel_rfl)
instance : Und Tryz.prog 134 (.array 256 5) := ⟨by kernel_rfl⟩
instance : Siz Tryz.prog 134 256 := ⟨by kernel_rfl⟩
instance : Agl Tryz.prog 134 := ⟨_, Und.out, rfl⟩
instance : Und Tryz.prog 135 (.struct (Tryz.prog.fieldsOf 135)) := ⟨by kernel_rfl⟩
instance : Siz Tryz.prog 135 2 := ⟨by kernel_rfl⟩
instance : Agl Tryz.prog 135 := ⟨_, Und.out, rfl⟩
instance : Zer Tryz.prog 135 (.agg #[.int .u8 (0), .int .u8 (0)]) [.int .u8 (0), .int .u8 (0)] := ⟨by kernel_rfl, rfl⟩
instance : Row Tryz.prog 135 2 2 := Row.of (n := 1) (by kernel_rfl)
instance : EqT Tryz.prog 135 [.int .u8, .int .u8] := EqT.of (fs := Tryz.prog.fieldsOf 135) (by kernel_rfl) (by kernel_rfl) (by kernel_rfl)
instance : Fld Tryz.prog 135 0 0 := Fld.of (n := 0) (by kernel_rfl)
instance : Fld Tryz.prog 135 1 1 := Fld.of (n := 0) (by kernel_rfl)
instance : Bld Tryz.prog 135 [(0, 1), (1, 1)] := Bld.of (fs := Tryz.prog.fieldsOf 135) (by kernel_rfl) (fun w => by kernel_rfl)
instance : Und Tryz.prog 136 (.struct (Tryz.prog.fieldsOf 136)) := ⟨by kernel_rfl⟩
instance : Siz Tryz.prog 136 2 := ⟨by kernel_rfl⟩
instance : Agl Tryz.prog 136 := ⟨_, Und.out, rfl⟩
instance : Zer Tryz.prog 136 (.agg #[.int .u8 (0), .int .u8 (0)]) [.int .u8 (0), .int .u8 (0)] := ⟨by kernel_rfl, rfl⟩
instance : Row Tryz.prog 136 2 2 := Row.of (n := 1) (by kernel_rfl)
instance : EqT Tryz.prog 136 [.int .u8, .int .u8] := EqT.of (fs := Tryz.prog.fieldsOf 136) (by kernel_rfl) (by kernel_rfl) (by kernel_rfl)
instance : Fld Tryz.prog 136 0 0 := Fld.of (n := 0) (by kernel_rfl)
instance : Fld Tryz.prog 136 1 1 := Fld.of (n := 0) (by kernel_rfl)
instance : Bld Tryz.prog 136 [(0, 1), (1, 1)] := Bld.of (fs := Tryz.prog.fieldsOf 136) (by kernel_rfl) (fun w => by kernel_rfl)
instance : Und Tryz.prog 137 (.array 16 136) := ⟨by kernel_rfl⟩
instance : Siz Tryz.prog 137 32 := ⟨by kernel_rfl⟩
instance : Agl Tryz.prog 137 := ⟨_, Und.out, rfl⟩
instance : Zer Tryz.prog 137 (.agg #[.int .u8 (0), .int .u8 (0), .int .u8 (0), .int .u8 (0), .int .u8 (0), .int .u8 (0), .int .u8 (0), .int .u8 (0), .int .u8 (0), .int .u8 (0), .int .u8 (0), .int .u8 (0), .int .u8 (0), .int .u8 (0), .int .u8 (0), .int .u8 (0), .int .u8 (0), .int .u8 (0), .int .u8 (0), .int .u8 (0), .int .u8 (0), .int .u8 (0), .int .u8 (0), .int .u8 (0), .int .u8 (0), .int .u8 (0), .int .u8 (0), .int .u8 (0), .int .u8 (0), .int .u8 (0), .int .u8 (0), .int .u8 (0)]) [.int .u8 (0), .int .u8 (0), .int .u8 (0), .int .u8 (0), .int .u8 (0), .int .u8 (0), .int .u8 (0), .int .u8 (0), .int .u8 (0), .int .u8 (0), .int .u8 (0), .int .u8 (0), .int .u8 (0), .int .u8 (0), .int .u8 (0), .int .u8 (0), .int .u8 (0), .int .u8 (0), .int .u8 (0), .int .u8 (0), .int .u8 (0), .int .u8 (0), .int .u8 (0), .int .u8 (0), .int .u8 (0), .int .u8 (0), .int .u8 (0), .int .u8 (0), .int .u8 (0), .int .u8 (0), .int .u8 (0), .int .u8 (0)] := ⟨by kernel_rfl, rfl⟩
instance : Row Tryz.prog 137 32 32 := Row.of (n := 31) (by kernel_rfl)
instance : Und Tryz.prog 138 (.func #[2, 3] #[9] false) := ⟨by kernel_rfl⟩
instance : Siz Tryz.prog 138 1 := ⟨by kernel_rfl⟩
instance : Sgl Tryz.prog 138 := ⟨_, Und.out, rfl⟩
instance : Zer Tryz.prog 138 (.nilFunc) [.nilFunc] := ⟨by kernel_rfl, rfl⟩
instance : Row Tryz.prog 138 1 8 := Row.of (n := 0) (by kernel_rfl)
instance : Und Tryz.prog 139 (.array 24 5) := ⟨by kernel_rfl⟩
instance : Siz Tryz.prog 139 24 := ⟨by kernel_rfl⟩
instance : Agl Tryz.prog 139 := ⟨_, Und.out, rfl⟩
instance : Zer Tryz.prog 139 (.agg #[.int .u8 (0), .int .u8 (0), .int .u8 (0), .int .u8 (0), .int .u8 (0), .int .u8 (0), .int .u8 (0), .int .u8 (0), .int .u8 (0), .int .u8 (0), .int .u8 (0), .int .u8 (0), .int .u8 (0), .int .u8 (0), .int .u8 (0), .int .u8 (0), .int .u8 (0), .int .u8 (0), .int .u8 (0), .int .u8 (0), .int .u8 (0), .int .u8 (0), .int .u8 (0), .int .u8 (0)]) [.int .u8 (0), .int .u8 (0), .int .u8 (0), .int .u8 (0), .int .u8 (0), .int .u8 (0), .int .u8 (0), .int .u8 (0), .int .u8 (0), .int .u8 (0), .int .u8 (0), .int .u8 (0), .int .u8 (0), .int .u8 (0), .int .u8 (0), .int .u8 (0), .int .u8 (0), .int .u8 (0), .int .u8 (0), .int .u8 (0), .int .u8 (0), .int .u8 (0), .int .u8 (0), .int .u8 (0)] := ⟨by kernel_rfl, rfl⟩
instance : Row Tryz.prog 139 24 24 := Row.of (n := 23) (by kernel_rfl)
instance : Und Tryz.prog 140 (.func #[98] #[3] false) := ⟨by kernel_rfl⟩
instance : Siz Tryz.prog 140 1 := ⟨by kernel_rfl⟩
instance : Sgl Tryz.prog 140 := ⟨_, Und.out, rfl⟩
instance : Zer Tryz.prog 140 (.nilFunc) [.nilFunc] := ⟨by kernel_rfl, rfl⟩
instance : Row Tryz.prog 140 1 8 := Row.of (n := 0) (by kernel_rfl)
instance : Und Tryz.prog 141 (.func #[63, 98] #[] false) := ⟨by kernel_rfl⟩
instance : Siz Tryz.prog 141 1 := ⟨by kernel_rfl⟩
instance : Sgl Tryz.prog 141 := ⟨_, Und.out, rfl⟩
instance : Zer Tryz.prog 141 (.nilFunc) [.nilFunc] := ⟨by kernel_rfl, rfl⟩
instance : Row Tryz.prog 141 1 8 := Row.of (n := 0) (by kernel_rfl)
instance : Und Tryz.prog 142 (.tuple #[63, 9]) := ⟨by kernel_rfl⟩
instance : Siz Tryz.prog 142 1 := ⟨by kernel_rfl⟩
instance : Sgl Tryz.prog 142 := ⟨_, Und.out, rfl⟩
instance : Und Tryz.prog 143 (.func #[63, 98, 3, 4, 4] #[63, 9] false) := ⟨by kernel_rfl⟩
instance : Siz Tryz.prog 143 1 := ⟨by kernel_rfl⟩
instance : Sgl Tryz.prog 143 := ⟨_, Und.out, rfl⟩
instance : Zer Tryz.prog 143 (.nilFunc) [.nilFunc] := ⟨by kernel_rfl, rfl⟩
instance : Row Tryz.prog 143 1 8 := Row.of (n := 0) (by kernel_rfl)
instance : Und Tryz.prog 144 (.func #[4] #[3] false) := ⟨by kernel_rfl⟩
instance : Siz Tryz.prog 144 1 := ⟨by kernel_rfl⟩
instance : Sgl Tryz.prog 144 := ⟨_, Und.out, rfl⟩
instance : Zer Tryz.prog 144 (.nilFunc) [.nilFunc] := ⟨by kernel_rfl, rfl⟩
instance : Row Tryz.prog 144 1 8 := Row.of (n := 0) (by kernel_rfl)
instance : Und Tryz.prog 145 (.array 20 98) := ⟨by kernel_rfl⟩
instance : Siz Tryz.prog 145 20 := ⟨by kernel_rfl⟩
instance : Agl Tryz.prog 145 := ⟨_, Und.out, rfl⟩
instance : Zer Tryz.prog 145 (.agg #[.int .u64 (0), .int .u64 (0), .int .u64 (0), .int .u64 (0), .int .u64 (0), .int .u64 (0), .int .u64 (0), .int .u64 (0), .int .u64 (0), .int .u64 (0), .int .u64 (0), .int .u64 (0), .int .u64 (0), .int .u64 (0), .int .u64 (0), .int .u64 (0), .int .u64 (0), .int .u64 (0), .int .u64 (0), .int .u64 (0)]) [.int .u64 (0), .int .u64 (0), .int .u64 (0), .int .u64 (0), .int .u64 (0), .int .u64 (0), .int .u64 (0), .int .u64 (0), .int .u64 (0), .int .u64 (0), .int .u64 (0), .int .u64 (0), .int .u64 (0), .int .u64 (0), .int .u64 (0), .int .u64 (0), .int .u64 (0), .int .u64 (0), .int .u64 (0), .int .u64 (0)] := ⟨by kernel_rfl, rfl⟩
instance : Row Tryz.prog 145 20 160 := Row.of (n := 19) (by kernel_rfl)
instance : Und Tryz.prog 146 (.array 65 5) := ⟨by kernel_rfl⟩
instance : Siz Tryz.prog 146 65 := ⟨by kernel_rfl⟩
instance : Agl Tryz.prog 146 := ⟨_, Und.out, rfl⟩
instance : Zer Tryz.prog 146 (.agg #[.int .u8 (0), .int .u8 (0), .int .u8 (0), .int .u8 (0), .int .u8 (0), .int .u8 (0), .int .u8 (0), .int .u8 (0), .int .u8 (0), .int .u8 (0), .int .u8 (0), .int .u8 (0), .int .u8 (0), .int .u8 (0), .int .u8 (0), .int .u8 (0), .int .u8 (0), .int .u8 (0), .int .u8 (0), .int .u8 (0), .int .u8 (0), .int .u8 (0), .int .u8 (0), .int .u8 (0), .int .u8 (0), .int .u8 (0), .int .u8 (0), .int .u8 (0), .int .u8 (0), .int .u8 (0), .int .u8 (0), .int .u8 (0), .int .u8 (0), .int .u8 (0), .int .u8 (0), .int .u8 (0), .int .u8 (0), .int .u8 (0), .int .u8 (0), .int .u8 (0), .int .u8 (0), .int .u8 (0), .int .u8 (0), .int .u8 (0), .int .u8 (0), .int .u8 (0), .int .u8 (0), .int .u8 (0), .int .u8 (0), .int .u8 (0), .int .u8 (0), .int .u8 (0), .int .u8 (0), .int .u8 (0), .int .u8 (0), .int .u8 (0), .int .u8 (0), .int .u8 (0), .int .u8 (0), .int .u8 (0), .int .u8 (0), .int .u8 (0), .int .u8 (0), .int .u8 (0), .int .u8 (0)]) [.int .u8 (0), .int .u8 (0), .int .u8 (0), .int .u8 (0), .int .u8 (0), .int .u8 (0), .int .u8 (0), .int .u8 (0), .int .u8 (0), .int .u8 (0), .int .u8 (0), .int .u8 (0), .int .u8 (0), .int .u8 (0), .int .u8 (0), .int .u8 (0), .int .u8 (0), .int .u8 (0), .int .u8 (0), .int .u8 (0), .int .u8 (0), .int .u8 (0), .int .u8 (0), .int .u8 (0), .int .u8 (0), .int .u8 (0), .int .u8 (0), .int .u8 (0), .int .u8 (0), .int .u8 (0), .int .u8 (0), .int .u8 (0), .int .u8 (0), .int .u8 (0), .int .u8 (0), .int .u8 (0), .int .u8 (0), .int .u8 (0), .int .u8 (0), .int .u8 (0), .int .u8 (0), .int .u8 (0), .int .u8 (0), .int .u8 (0), .int .u8 (0), .int .u8 (0), .int .u8 (0), .int .u8 (0), .int .u8 (0), .int .u8 (0), .int .u8 (0), .int .u8 (0), .int .u8 (0), .int .u8 (0), .int .u8 (0), .int .u8 (0), .int .u8 (0), .int .u8 (0), .int .u8 (0), .int .u8 (0), .int .u8 (0), .int .u8 (0), .int .u8 (0), .int .u8 (0), .int .u8 (0)] := ⟨by kernel_rfl, rfl⟩
instance : Row Tryz.prog 146 65 65 := Row.of (n := 64) (by kernel_rfl)
instance : Und Tryz.prog 147 (.func #[104] #[3] false) := ⟨by kernel_rfl⟩
instance : Siz Tryz.prog 147 1 := ⟨by kernel_rfl⟩
instance : Sgl Tryz.prog 147 := ⟨_, Und.out, rfl⟩
instance : Zer Tryz.prog 147 (.nilFunc) [.nilFunc] := ⟨by kernel_rfl, rfl⟩
instance : Row Tryz.prog 147 1 8 := Row.of (n := 0) (by kernel_rfl)
instance : Und Tryz.prog 148 (.func #[120] #[3] false) := ⟨by kernel_rfl⟩
instance : Siz Tryz.prog 148 1 := ⟨by kernel_rfl⟩
instance : Sgl Tryz.prog 148 := ⟨_, Und.out, rfl⟩
instance : Zer Tryz.prog 148 (.nilFunc) [.nilFunc] := ⟨by kernel_rfl, rfl⟩
instance : Row Tryz.prog 148 1 8 := Row.of (n := 0) (by kernel_rfl)
instance : Und Tryz.prog 149 (.array 32 5) := ⟨by kernel_rfl⟩
instance : Siz Tryz.prog 149 32 := ⟨by kernel_rfl⟩
instance : Agl Tryz.prog 149 := ⟨_, Und.out, rfl⟩
instance : Zer Tryz.prog 149 (.agg #[.int .u8 (0), .int .u8 (0), .int .u8 (0), .int .u8 (0), .int .u8 (0), .int .u8 (0), .int .u8 (0), .int .u8 (0), .int .u8 (0), .int .u8 (0), .int .u8 (0), .int .u8 (0), .int .u8 (0), .int .u8 (0), .int .u8 (0), .int .u8 (0), .int .u8 (0), .int .u8 (0), .int .u8 (0), .int .u8 (0), .int .u8 (0), .int .u8 (0), .int .u8 (0), .int .u8 (0), .int .u8 (0), .int .u8 (0), .int .u8 (0), .int .u8 (0), .int .u8 (0), .int .u8 (0), .int .u8 (0), .int .u8 (0)]) [.int .u8 (0), .int .u8 (0), .int .u8 (0), .int .u8 (0), .int .u8 (0), .int .u8 (0), .int .u8 (0), .int .u8 (0), .int .u8 (0), .int .u8 (0), .int .u8 (0), .int .u8 (0), .int .u8 (0), .int .u8 (0), .int .u8 (0), .int .u8 (0), .int .u8 (0), .int .u8 (0), .int .u8 (0), .int .u8 (0), .int .u8 (0), .int .u8 (0), .int .u8 (0), .int .u8 (0), .int .u8 (0), .int .u8 (0), .int .u8 (0), .int .u8 (0), .int .u8 (0), .int .u8 (0), .int .u8 (0), .int .u8 (0)] := ⟨by kernel_rfl, rfl⟩
instance : Row Tryz.prog 149 32 32 := Row.of (n := 31) (by kernel_rfl)
instance : Und Tryz.prog 150 (.array 64 5) := ⟨by kernel_rfl⟩
instance : Siz Tryz.prog 150 64 := ⟨by kernel_rfl⟩
instance : Agl Tryz.prog 150 := ⟨_, Und.out, rfl⟩
instance : Zer Tryz.prog 150 (.agg #[.int .u8 (0), .int .u8 (0), .int .u8 (0), .int .u8 (0), .int .u8 (0), .int .u8 (0), .int .u8 (0), .int .u8 (0), .int .u8 (0), .int .u8 (0), .int .u8 (0), .int .u8 (0), .int .u8 (0), .int .u8 (0), .int .u8 (0), .int .u8 (0), .int .u8 (0), .int .u8 (0), .int .u8 (0), .int .u8 (0), .int .u8 (0), .int .u8 (0), .int .u8 (0), .int .u8 (0), .int .u8 (0), .int .u8 (0), .int .u8 (0), .int .u8 (0), .int .u8 (0), .int .u8 (0), .int .u8 (0), .int .u8 (0), .int .u8 (0), .int .u8 (0), .int .u8 (0), .int .u8 (0), .int .u8 (0), .int .u8 (0), .int .u8 (0), .int .u8 (0), .int .u8 (0), .int .u8 (0), .int .u8 (0), .int .u8 (0), .int .u8 (0), .int .u8 (0), .int .u8 (0), .int .u8 (0), .int .u8 (0), .int .u8 (0), .int .u8 (0), .int .u8 (0), .int .u8 (0), .int .u8 (0), .int .u8 (0), .int .u8 (0), .int .u8 (0), .int .u8 (0), .int .u8 (0), .int .u8 (0), .int .u8 (0), .int .u8 (0), .int .u8 (0), .int .u8 (0)]) [.int .u8 (0), .int .u8 (0), .int .u8 (0), .int .u8 (0), .int .u8 (0), .int .u8 (0), .int .u8 (0), .int .u8 (0), .int .u8 (0), .int .u8 (0), .int .u8 (0), .int .u8 (0), .int .u8 (0), .int .u8 (0), .int .u8 (0), .int .u8 (0), .int .u8 (0), .int .u8 (0), .int .u8 (0), .int .u8 (0), .int .u8 (0), .int .u8 (0), .int .u8 (0), .int .u8 (0), .int .u8 (0), .int .u8 (0), .int .u8 (0), .int .u8 (0), .int .u8 (0), .int .u8 (0), .int .u8 (0), .int .u8 (0), .int .u8 (0), .int .u8 (0), .int .u8 (0), .int .u8 (0), .int .u8 (0), .int .u8 (0), .int .u8 (0), .int .u8 (0), .int .u8 (0), .int .u8 (0), .int .u8 (0), .int .u8 (0), .int .u8 (0), .int .u8 (0), .int .u8 (0), .int .u8 (0), .int .u8 (0), .int .u8 (0), .int .u8 (0), .int .u8 (0), .int .u8 (0), .int .u8 (0), .int .u8 (0), .int .u8 (0), .int .u8 (0), .int .u8 (0), .int .u8 (0), .int .u8 (0), .int .u8 (0), .int .u8 (0), .int .u8 (0), .int .u8 (0)] := ⟨by kernel_rfl, rfl⟩
instance : Row Tryz.prog 150 64 64 := Row.of (n := 63) (by kernel_rfl)
instance : Und Tryz.prog 151 (.struct (Tryz.prog.fieldsOf 151)) := ⟨by kernel_rfl⟩
instance : Siz Tryz.prog 151 4 := ⟨by kernel_rfl⟩
instance : Agl Tryz.prog 151 := ⟨_, Und.out, rfl⟩
instance : Zer Tryz.prog 151 (.agg #[.pointer none, .pointer none, .pointer none, .string ⟨#[]⟩]) [.pointer none, .pointer none, .pointer none, .string ⟨#[]⟩] := ⟨by kernel_rfl, rfl⟩
instance : Row Tryz.prog 151 4 40 := Row.of (n := 3) (by kernel_rfl)
instance : Fld Tryz.prog 151 0 0 := Fld.of (n := 0) (by kernel_rfl)
instance : Fld Tryz.prog 151 1 1 := Fld.of (n := 0) (by kernel_rfl)
instance : Fld Tryz.prog 151 2 2 := Fld.of (n := 0) (by kernel_rfl)
instance : Fld Tryz.prog 151 3 3 := Fld.of (n := 0) (by kernel_rfl)
instance : Bld Tryz.prog 151 [(0, 1), (1, 1), (2, 1), (3, 1)] := Bld.of (fs := Tryz.prog.fieldsOf 151) (by kernel_rfl) (fun w => by kernel_rfl)
instance : Und Tryz.prog 152 (.struct (Tryz.prog.fieldsOf 152)) := ⟨by kernel_rfl⟩
instance : Siz Tryz.prog 152 4 := ⟨by kernel_rfl⟩
instance : Agl Tryz.prog 152 := ⟨_, Und.out, rfl⟩
instance : Zer Tryz.prog 152 (.agg #[.pointer none, .pointer none, .pointer none, .string ⟨#[]⟩]) [.pointer none, .pointer none, .pointer none, .string ⟨#[]⟩] := ⟨by kernel_rfl, rfl⟩
instance : Row Tryz.prog 152 4 40 := Row.of (n := 3) (by kernel_rfl)
instance : Fld Tryz.prog 152 0 0 := Fld.of (n := 0) (by kernel_rfl)
instance : Fld Tryz.prog 152 1 1 := Fld.of (n := 0) (by kernel_rfl)
instance : Fld Tryz.prog 152 2 2 := Fld.of (n := 0) (by kernel_rfl)
instance : Fld Tryz.prog 152 3 3 := Fld.of (n := 0) (by kernel_rfl)
instance : Bld Tryz.prog 152 [(0, 1), (1, 1), (2, 1), (3, 1)] := Bld.of (fs := Tryz.prog.fieldsOf 152) (by kernel_rfl) (fun w => by kernel_rfl)
instance : Und Tryz.prog 153 (.array 0 16) := ⟨by kernel_rfl⟩
instance : Siz Tryz.prog 153 0 := ⟨by kernel_rfl⟩
instance : Agl Tryz.prog 153 := ⟨_, Und.out, rfl⟩
instance : Zer Tryz.prog 153 (.agg #[]) [] := ⟨by kernel_rfl, rfl⟩
instance : Und Tryz.prog 154 (.struct (Tryz.prog.fieldsOf 154)) := ⟨by kernel_rfl⟩
instance : Siz Tryz.prog 154 0 := ⟨by kernel_rfl⟩
instance : Agl Tryz.prog 154 := ⟨_, Und.out, rfl⟩
instance : Zer Tryz.prog 154 (.agg #[]) [] := ⟨by kernel_rfl, rfl⟩
instance : Bld Tryz.prog 154 [(0, 0)] := Bld.of (fs := Tryz.prog.fieldsOf 154) (by kernel_rfl) (fun w => by kernel_rfl)
instance : Und Tryz.prog 155 (.struct (Tryz.prog.fieldsOf 155)) := ⟨by kernel_rfl⟩
instance : Siz Tryz.prog 155 0 := ⟨by kernel_rfl⟩
instance : Agl Tryz.prog 155 := ⟨_, Und.out, rfl⟩
instance : Zer Tryz.prog 155 (.agg #[]) [] := ⟨by kernel_rfl, rfl⟩
instance : Bld Tryz.prog 155 [(0, 0)] := Bld.of (fs := Tryz.prog.fieldsOf 155) (by kernel_rfl) (fun w => by kernel_rfl)
instance : Und Tryz.prog 156 (.func #[] #[3] false) := ⟨by kernel_rfl⟩
instance : Siz Tryz.prog 156 1 := ⟨by kernel_rfl⟩
instance : Sgl Tryz.prog 156 := ⟨_, Und.out, rfl⟩
instance : Zer Tryz.prog 156 (.nilFunc) [.nilFunc] := ⟨by kernel_rfl, rfl⟩
instance : Row Tryz.prog 156 1 8 := Row.of (n := 0) (by kernel_rfl)
instance : Und Tryz.prog 157 (.int .u8) := ⟨by kernel_rfl⟩
instance : Siz Tryz.prog 157 1 := ⟨by kernel_rfl⟩
instance : Sgl Tryz.prog 157 := ⟨_, Und.out, rfl⟩
instance : Zer Tryz.prog 157 (.int .u8 (0)) [.int .u8 (0)] := ⟨by kernel_rfl, rfl⟩
instance : Row Tryz.prog 157 1 1 := Row.of (n := 0) (by kernel_rfl)
instance : Und Tryz.prog 158 (.int .u8) := ⟨by kernel_rfl⟩
instance : Siz Tryz.prog 158 1 := ⟨by kernel_rfl⟩
instance : Sgl Tryz.prog 158 := ⟨_, Und.out, rfl⟩
instance : Zer Tryz.prog 158 (.int .u8 (0)) [.int .u8 (0)] := ⟨by kernel_rfl, rfl⟩
instance : Row Tryz.prog 158 1 1 := Row.of (n := 0) (by kernel_rfl)
instance : Und Tryz.prog 159 (.func #[99, 99] #[4] false) := ⟨by kernel_rfl⟩
instance : Siz Tryz.prog 159 1 := ⟨by kernel_rfl⟩
instance : Sgl Tryz.prog 159 := ⟨_, Und.out, rfl⟩
instance : Zer Tryz.prog 159 (.nilFunc) [.nilFunc] := ⟨by kernel_rfl, rfl⟩
instance : Row Tryz.prog 159 1 8 := Row.of (n := 0) (by kernel_rfl)
instance : Und Tryz.prog 160 (.int .i32) := ⟨by kernel_rfl⟩
instance : Siz Tryz.prog 160 1 := ⟨by kernel_rfl⟩
instance : Sgl Tryz.prog 160 := ⟨_, Und.out, rfl⟩
instance : Zer Tryz.prog 160 (.int .i32 (0)) [.int .i32 (0)] := ⟨by kernel_rfl, rfl⟩
instance : Row Tryz.prog 160 1 4 := Row.of (n := 0) (by kernel_rfl)
instance : Und Tryz.prog 161 (.int .i32) := ⟨by kernel_rfl⟩
instance : Siz Tryz.prog 161 1 := ⟨by kernel_rfl⟩
instance : Sgl Tryz.prog 161 := ⟨_, Und.out, rfl⟩
instance : Zer Tryz.prog 161 (.int .i32 (0)) [.int .i32 (0)] := ⟨by kernel_rfl, rfl⟩
instance : Row Tryz.prog 161 1 4 := Row.of (n := 0) (by kernel_rfl)
instance : Und Tryz.prog 162 (.struct (Tryz.prog.fieldsOf 162)) := ⟨by kernel_rfl⟩
instance : Siz Tryz.prog 162 11 := ⟨by kernel_rfl⟩
instance : Agl Tryz.prog 162 := ⟨_, Und.out, rfl⟩
instance : Zer Tryz.prog 162 (.agg #[.int .u64 (0), .int .u64 (0), .int .u32 (0), .int .u8 (0), .int .u8 (0), .int .u8 (0), .int .u8 (0), .nilFunc, .pointer none, .int .i32 (0), .int .i32 (0)]) [.int .u64 (0), .int .u64 (0), .int .u32 (0), .int .u8 (0), .int .u8 (0), .int .u8 (0), .int .u8 (0), .nilFunc, .pointer none, .int .i32 (0), .int .i32 (0)] := ⟨by kernel_rfl, rfl⟩
instance : Row Tryz.prog 162 11 48 := Row.of (n := 10) (by kernel_rfl)
instance : Fld Tryz.prog 162 0 0 := Fld.of (n := 0) (by kernel_rfl)
instance : Fld Tryz.prog 162 1 1 := Fld.of (n := 0) (by kernel_rfl)
instance : Fld Tryz.prog 162 2 2 := Fld.of (n := 0) (by kernel_rfl)
instance : Fld Tryz.prog 162 3 3 := Fld.of (n := 0) (by kernel_rfl)
instance : Fld Tryz.prog 162 4 4 := Fld.of (n := 0) (by kernel_rfl)
instance : Fld Tryz.prog 162 5 5 := Fld.of (n := 0) (by kernel_rfl)
instance : Fld Tryz.prog 162 6 6 := Fld.of (n := 0) (by kernel_rfl)
instance : Fld Tryz.prog 162 7 7 := Fld.of (n := 0) (by kernel_rfl)
instance : Fld Tryz.prog 162 8 8 := Fld.of (n := 0) (by kernel_rfl)
instance : Fld Tryz.prog 162 9 9 := Fld.of (n := 0) (by kernel_rfl)
instance : Fld Tryz.prog 162 10 10 := Fld.of (n := 0) (by kernel_rfl)
instance : Bld Tryz.prog 162 [(0, 1), (1, 1), (2, 1), (3, 1), (4, 1), (5, 1), (6, 1), (7, 1), (8, 1), (9, 1), (10, 1)] := Bld.of (fs := Tryz.prog.fieldsOf 162) (by kernel_rfl) (fun w => by kernel_rfl)
instance : Und Tryz.prog 163 (.struct (Tryz.prog.fieldsOf 163)) := ⟨by kernel_rfl⟩
instance : Siz Tryz.prog 163 11 := ⟨by kernel_rfl⟩
instance : Agl Tryz.prog 163 := ⟨_, Und.out, rfl⟩
instance : Zer Tryz.prog 163 (.agg #[.int .u64 (0), .int .u64 (0), .int .u32 (0), .int .u8 (0), .int .u8 (0), .int .u8 (0), .int .u8 (0), .nilFunc, .pointer none, .int .i32 (0), .int .i32 (0)]) [.int .u64 (0), .int .u64 (0), .int .u32 (0), .int .u8 (0), .int .u8 (0), .int .u8 (0), .int .u8 (0), .nilFunc, .pointer none, .int .i32 (0), .int .i32 (0)] := ⟨by kernel_rfl, rfl⟩
instance : Row Tryz.prog 163 11 48 := Row.of (n := 10) (by kernel_rfl)
instance : Fld Tryz.prog 163 0 0 := Fld.of (n := 0) (by kernel_rfl)
instance : Fld Tryz.prog 163 1 1 := Fld.of (n := 0) (by kernel_rfl)
instance : Fld Tryz.prog 163 2 2 := Fld.of (n := 0) (by kernel_rfl)
instance : Fld Tryz.prog 163 3 3 := Fld.of (n := 0) (by kernel_rfl)
instance : Fld Tryz.prog 163 4 4 := Fld.of (n := 0) (by kernel_rfl)
instance : Fld Tryz.prog 163 5 5 := Fld.of (n := 0) (by kernel_rfl)
instance : Fld Tryz.prog 163 6 6 := Fld.of (n := 0) (by kernel_rfl)
instance : Fld Tryz.prog 163 7 7 := Fld.of (n := 0) (by kernel_rfl)
instance : Fld Tryz.prog 163 8 8 := Fld.of (n := 0) (by kernel_rfl)
instance : Fld Tryz.prog 163 9 9 := Fld.of (n := 0) (by kernel_rfl)
instance : Fld Tryz.prog 163 10 10 := Fld.of (n := 0) (by kernel_rfl)
instance : Bld Tryz.prog 163 [(0, 1), (1, 1), (2, 1), (3, 1), (4, 1), (5, 1), (6, 1), (7, 1), (8, 1), (9, 1), (10, 1)] := Bld.of (fs := Tryz.prog.fieldsOf 163) (by kernel_rfl) (fun w => by kernel_rfl)
instance : Fun Tryz.prog 2 := ⟨_, Tryz.func2, by kernel_rfl, rfl⟩
instance : Fun Tryz.prog 3 := ⟨_, Tryz.func3, by kernel_rfl, rfl⟩
instance : Fun Tryz.prog 4 := ⟨_, Tryz.func4, by kernel_rfl, rfl⟩
instance : Fun Tryz.prog 5 := ⟨_, Tryz.func5, by kernel_rfl, rfl⟩
instance : Fun Tryz.prog 6 := ⟨_, Tryz.func6, by kernel_rfl, rfl⟩
instance : Fun Tryz.prog 7 := ⟨_, Tryz.func7, by kernel_rfl, rfl⟩
instance : Fun Tryz.prog 8 := ⟨_, Tryz.func8, by kernel_rfl, rfl⟩
instance : Fun Tryz.prog 9 := ⟨_, Tryz.func9, by kernel_rfl, rfl⟩
instance : Fun Tryz.prog 10 := ⟨_, Tryz.func10, by kernel_rfl, rfl⟩
instance : Fun Tryz.prog 11 := ⟨_, Tryz.func11, by kernel_rfl, rfl⟩
instance : Fun Tryz.prog 12 := ⟨_, Tryz.func12, by kernel_rfl, rfl⟩
instance : Fun Tryz.prog 13 := ⟨_, Tryz.func13, by kernel_rfl, rfl⟩
instance : Fun Tryz.prog 14 := ⟨_, Tryz.func14, by kernel_rfl, rfl⟩
instance : Fun Tryz.prog 15 := ⟨_, Tryz.func15, by kernel_rfl, rfl⟩
instance : Fun Tryz.prog 16 := ⟨_, Tryz.func16, by kernel_rfl, rfl⟩
instance : Fun Tryz.prog 17 := ⟨_, Tryz.func17, by kernel_rfl, rfl⟩
instance : Fun Tryz.prog 18 := ⟨_, Tryz.func18, by kernel_rfl, rfl⟩
instance : Fun Tryz.prog 19 := ⟨_, Tryz.func19, by kernel_rfl, rfl⟩
instance : Fun Tryz.prog 20 := ⟨_, Tryz.func20, by kernel_rfl, rfl⟩
instance : Fun Tryz.prog 21 := ⟨_, Tryz.func21, by kernel_rfl, rfl⟩
instance : Fun Tryz.prog 22 := ⟨_, Tryz.func22, by kernel_rfl, rfl⟩
instance : Fun Tryz.prog 23 := ⟨_, Tryz.func23, by kernel_rfl, rfl⟩
instance : Fun Tryz.prog 24 := ⟨_, Tryz.func24, by kernel_rfl, rfl⟩
instance : Fun Tryz.prog 25 := ⟨_, Tryz.func25, by kernel_rfl, rfl⟩
instance : Fun Tryz.prog 26 := ⟨_, Tryz.func26, by kernel_rfl, rfl⟩
instance : Fun Tryz.prog 27 := ⟨_, Tryz.func27, by kernel_rfl, rfl⟩
instance : Fun Tryz.prog 28 := ⟨_, Tryz.func28, by kernel_rfl, rfl⟩
instance : Fun Tryz.prog 29 := ⟨_, Tryz.func29, by kernel_rfl, rfl⟩
instance : Fun Tryz.prog 30 := ⟨_, Tryz.func30, by kernel_rfl, rfl⟩
instance : Fun Tryz.prog 31 := ⟨_, Tryz.func31, by kernel_rfl, rfl⟩
instance : Fun Tryz.prog 32 := ⟨_, Tryz.func32, by kernel_rfl, rfl⟩
instance : Fun Tryz.prog 33 := ⟨_, Tryz.func33, by kernel_rfl, rfl⟩
instance : Fun Tryz.prog 34 := ⟨_, Tryz.func34, by kernel_rfl, rfl⟩
instance : Fun Tryz.prog 35 := ⟨_, Tryz.func35, by kernel_rfl, rfl⟩
instance : Fun Tryz.prog 36 := ⟨_, Tryz.func36, by kernel_rfl, rfl⟩
instance : Fun Tryz.prog 37 := ⟨_, Tryz.func37, by kernel_rfl, rfl⟩
instance : Fun Tryz.prog 38 := ⟨_, Tryz.func38, by kernel_rfl, rfl⟩
instance : Fun Tryz.prog 39 := ⟨_, Tryz.func39, by kernel_rfl, rfl⟩
instance : Fun Tryz.prog 40 := ⟨_, Tryz.func40, by kernel_rfl, rfl⟩
instance : Fun Tryz.prog 41 := ⟨_, Tryz.func41, by kernel_rfl, rfl⟩
instance : Fun Tryz.prog 42 := ⟨_, Tryz.func42, by kernel_rfl, rfl⟩
instance : Fun Tryz.prog 43 := ⟨_, Tryz.func43, by kernel_rfl, rfl⟩
instance : Fun Tryz.prog 44 := ⟨_, Tryz.func44, by kernel_rfl, rfl⟩
instance : Fun Tryz.prog 45 := ⟨_, Tryz.func45, by kernel_rfl, rfl⟩
instance : Fun Tryz.prog 46 := ⟨_, Tryz.func46, by kernel_rfl, rfl⟩
instance : Fun Tryz.prog 47 := ⟨_, Tryz.func47, by kernel_rfl, rfl⟩
instance : Fun Tryz.prog 48 := ⟨_, Tryz.func48, by kernel_rfl, rfl⟩
instance : Fun Tryz.prog 49 := ⟨_, Tryz.func49, by kernel_rfl, rfl⟩
instance : Fun Tryz.prog 50 := ⟨_, Tryz.func50, by kernel_rfl, rfl⟩
instance : Fun Tryz.prog 51 := ⟨_, Tryz.func51, by kernel_rfl, rfl⟩
instance : Fun Tryz.prog 52 := ⟨_, Tryz.func52, by kernel_rfl, rfl⟩
instance : Fun Tryz.prog 53 := ⟨_, Tryz.func53, by kernel_rfl, rfl⟩
instance : Fun Tryz.prog 54 := ⟨_, Tryz.func54, by kernel_rfl, rfl⟩
instance : Fun Tryz.prog 55 := ⟨_, Tryz.func55, by kernel_rfl, rfl⟩
instance : Fun Tryz.prog 56 := ⟨_, Tryz.func56, by kernel_rfl, rfl⟩
instance : Fun Tryz.prog 57 := ⟨_, Tryz.func57, by kernel_rfl, rfl⟩
instance : Fun Tryz.prog 58 := ⟨_, Tryz.func58, by kernel_rfl, rfl⟩
instance : Fun Tryz.prog 59 := ⟨_, Tryz.func59, by kernel_rfl, rfl⟩
instance : Fun Tryz.prog 60 := ⟨_, Tryz.func60, by kernel_rfl, rfl⟩
instance : Fun Tryz.prog 61 := ⟨_, Tryz.func61, by kernel_rfl, rfl⟩
instance : Fun Tryz.prog 62 := ⟨_, Tryz.func62, by kernel_rfl, rfl⟩
instance : Fun Tryz.prog 63 := ⟨_, Tryz.func63, by kernel_rfl, rfl⟩
instance : Fun Tryz.prog 64 := ⟨_, Tryz.func64, by kernel_rfl, rfl⟩
instance : Fun Tryz.prog 65 := ⟨_, Tryz.func65, by kernel_rfl, rfl⟩
instance : Fun Tryz.prog 66 := ⟨_, Tryz.func66, by kernel_rfl, rfl⟩
instance : Fun Tryz.prog 67 := ⟨_, Tryz.func67, by kernel_rfl, rfl⟩
instance : Fun Tryz.prog 68 := ⟨_, Tryz.func68, by kernel_rfl, rfl⟩
instance : Fun Tryz.prog 69 := ⟨_, Tryz.func69, by kernel_rfl, rfl⟩
instance : Fun Tryz.prog 70 := ⟨_, Tryz.func70, by kernel_rfl, rfl⟩
instance : Fun Tryz.prog 72 := ⟨_, Tryz.func72, by kernel_rfl, rfl⟩
instance : Fun Tryz.prog 74 := ⟨_, Tryz.func74, by kernel_rfl, rfl⟩
instance : Fun Tryz.prog 76 := ⟨_, Tryz.func76, by kernel_rfl, rfl⟩
instance : Fun Tryz.prog 77 := ⟨_, Tryz.func77, by kernel_rfl, rfl⟩
instance : Fun Tryz.prog 78 := ⟨_, Tryz.func78, by kernel_rfl, rfl⟩
instance : Fun Tryz.prog 79 := ⟨_, Tryz.func79, by kernel_rfl, rfl⟩
instance : Fun Tryz.prog 80 := ⟨_, Tryz.func80, by kernel_rfl, rfl⟩
instance : Fun Tryz.prog 81 := ⟨_, Tryz.func81, by kernel_rfl, rfl⟩
instance : Fun Tryz.prog 82 := ⟨_, Tryz.func82, by kernel_rfl, rfl⟩
instance : Fun Tryz.prog 83 := ⟨_, Tryz.func83, by kernel_rfl, rfl⟩
instance : Fun Tryz.prog 84 := ⟨_, Tryz.func84, by kernel_rfl, rfl⟩
instance : Fun Tryz.prog 85 := ⟨_, Tryz.func85, by kernel_rfl, rfl⟩
instance : Fun Tryz.prog 86 := ⟨_, Tryz.func86, by kernel_rfl, rfl⟩
instance : Fun Tryz.prog 87 := ⟨_, Tryz.func87, by kernel_rfl, rfl⟩
instance : Fun Tryz.prog 88 := ⟨_, Tryz.func88, by kernel_rfl, rfl⟩
instance : Fun Tryz.prog 90 := ⟨_, Tryz.func90, by kernel_rfl, rfl⟩
instance : Fun Tryz.prog 91 := ⟨_, Tryz.func91, by kernel_rfl, rfl⟩
instance : Fun Tryz.prog 92 := ⟨_, Tryz.func92, by kernel_rfl, rfl⟩
instance : Fun Tryz.prog 93 := ⟨_, Tryz.func93, by kernel_rfl, rfl⟩
instance : Fun Tryz.prog 94 := ⟨_, Tryz.func94, by kernel_rfl, rfl⟩
instance : Fun Tryz.prog 95 := ⟨_, Tryz.func95, by kernel_rfl, rfl⟩
instance : Fun Tryz.prog 96 := ⟨_, Tryz.func96, by kernel_rfl, rfl⟩
instance : Fun Tryz.prog 97 := ⟨_, Tryz.func97, by kernel_rfl, rfl⟩
instance : Fun Tryz.prog 98 := ⟨_, Tryz.func98, by kernel_rfl, rfl⟩
instance : Fun Tryz.prog 99 := ⟨_, Tryz.func99, by kernel_rfl, rfl⟩
instance : Fun Tryz.prog 100 := ⟨_, Tryz.func100, by kernel_rfl, rfl⟩
instance : Fun Tryz.prog 101 := ⟨_, Tryz.func101, by kernel_rfl, rfl⟩
instance : Fun Tryz.prog 102 := ⟨_, Tryz.func102, by kernel_rfl, rfl⟩
instance : Fun Tryz.prog 103 := ⟨_, Tryz.func103, by kernel_rfl, rfl⟩
instance : Fun Tryz.prog 104 := ⟨_, Tryz.func104, by kernel_rfl, rfl⟩
instance : Fun Tryz.prog 105 := ⟨_, Tryz.func105, by kernel_rfl, rfl⟩
instance : Fun Tryz.prog 106 := ⟨_, Tryz.func106, by kernel_rfl, rfl⟩
instance : Fun Tryz.prog 107 := ⟨_, Tryz.func107, by kernel_rfl, rfl⟩
instance : Fun Tryz.prog 108 := ⟨_, Tryz.func108, by kernel_rfl, rfl⟩
instance : Fun Tryz.prog 109 := ⟨_, Tryz.func109, by kernel_rfl, rfl⟩
instance : Fun Tryz.prog 110 := ⟨_, Tryz.func110, by kernel_rfl, rfl⟩
instance : Fun Tryz.prog 111 := ⟨_, Tryz.func111, by kernel_rfl, rfl⟩
instance : Fun Tryz.prog 112 := ⟨_, Tryz.func112, by kernel_rfl, rfl⟩
instance : Fun Tryz.prog 113 := ⟨_, Tryz.func113, by kernel_rfl, rfl⟩
instance : Fun Tryz.prog 130 := ⟨_, Tryz.func130, by kernel_rfl, rfl⟩
instance : Fun Tryz.prog 131 := ⟨_, Tryz.func131, by kernel_rfl, rfl⟩
instance : Fun Tryz.prog 132 := ⟨_, Tryz.func132, by kernel_rfl, rfl⟩
instance : Fun Tryz.prog 133 := ⟨_, Tryz.func133, by kernel_rfl, rfl⟩
instance : Fun Tryz.prog 134 := ⟨_, Tryz.func134, by kernel_rfl, rfl⟩
instance : Fun Tryz.prog 148 := ⟨_, Tryz.func148, by kernel_rfl, rfl⟩
end Go.Proofs.YtokcamgipnaoeaaGreatDoor
