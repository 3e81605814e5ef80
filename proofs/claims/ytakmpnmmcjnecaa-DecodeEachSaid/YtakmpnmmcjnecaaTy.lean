/- What the program's types and functions are, told to the separation logic's rules. Each by the kernel. -/
import Derived.Test.YtakmpnmmcjnecaaProg
import Derived.Test.YtakmpnmmcjnecaaSep
import Derived.KernelRfl
set_option maxRecDepth 100000
namespace Go.Proofs.Ytakmpnmmcjnecaa
open Go.Proofs.Ytakmpnmmcjnecaa.SL
instance : Und Try.prog 0 (.tuple #[]) := ⟨by kernel_rfl⟩
instance : Siz Try.prog 0 1 := ⟨by kernel_rfl⟩
instance : Sgl Try.prog 0 := ⟨_, Und.out, rfl⟩
instance : Und Try.prog 1 (.func #[] #[] false) := ⟨by kernel_rfl⟩
instance : Siz Try.prog 1 1 := ⟨by kernel_rfl⟩
instance : Sgl Try.prog 1 := ⟨_, Und.out, rfl⟩
instance : Zer Try.prog 1 (.nilFunc) [.nilFunc] := ⟨by kernel_rfl, rfl⟩
instance : Row Try.prog 1 1 8 := Row.of (n := 0) (by kernel_rfl)
instance : Und Try.prog 2 (.int .i64) := ⟨by kernel_rfl⟩
instance : Siz Try.prog 2 1 := ⟨by kernel_rfl⟩
instance : Sgl Try.prog 2 := ⟨_, Und.out, rfl⟩
instance : Zer Try.prog 2 (.int .i64 (0)) [.int .i64 (0)] := ⟨by kernel_rfl, rfl⟩
instance : Row Try.prog 2 1 8 := Row.of (n := 0) (by kernel_rfl)
instance : Und Try.prog 3 (.int .i64) := ⟨by kernel_rfl⟩
instance : Siz Try.prog 3 1 := ⟨by kernel_rfl⟩
instance : Sgl Try.prog 3 := ⟨_, Und.out, rfl⟩
instance : Zer Try.prog 3 (.int .i64 (0)) [.int .i64 (0)] := ⟨by kernel_rfl, rfl⟩
instance : Row Try.prog 3 1 8 := Row.of (n := 0) (by kernel_rfl)
instance : Und Try.prog 4 (.bool) := ⟨by kernel_rfl⟩
instance : Siz Try.prog 4 1 := ⟨by kernel_rfl⟩
instance : Sgl Try.prog 4 := ⟨_, Und.out, rfl⟩
instance : Zer Try.prog 4 (.bool false) [.bool false] := ⟨by kernel_rfl, rfl⟩
instance : Row Try.prog 4 1 1 := Row.of (n := 0) (by kernel_rfl)
instance : Und Try.prog 5 (.int .u8) := ⟨by kernel_rfl⟩
instance : Siz Try.prog 5 1 := ⟨by kernel_rfl⟩
instance : Sgl Try.prog 5 := ⟨_, Und.out, rfl⟩
instance : Zer Try.prog 5 (.int .u8 (0)) [.int .u8 (0)] := ⟨by kernel_rfl, rfl⟩
instance : Row Try.prog 5 1 1 := Row.of (n := 0) (by kernel_rfl)
instance : Und Try.prog 6 (.int .u8) := ⟨by kernel_rfl⟩
instance : Siz Try.prog 6 1 := ⟨by kernel_rfl⟩
instance : Sgl Try.prog 6 := ⟨_, Und.out, rfl⟩
instance : Zer Try.prog 6 (.int .u8 (0)) [.int .u8 (0)] := ⟨by kernel_rfl, rfl⟩
instance : Row Try.prog 6 1 1 := Row.of (n := 0) (by kernel_rfl)
instance : Und Try.prog 7 (.struct (Try.prog.fieldsOf 7)) := ⟨by kernel_rfl⟩
instance : Siz Try.prog 7 4 := ⟨by kernel_rfl⟩
instance : Agl Try.prog 7 := ⟨_, Und.out, rfl⟩
instance : Zer Try.prog 7 (.agg #[.int .i64 (0), .int .i64 (0), .bool false, .int .u8 (0)]) [.int .i64 (0), .int .i64 (0), .bool false, .int .u8 (0)] := ⟨by kernel_rfl, rfl⟩
instance : Row Try.prog 7 4 24 := Row.of (n := 3) (by kernel_rfl)
instance : EqT Try.prog 7 [.int .i64, .int .i64, .bool, .int .u8] := EqT.of (fs := Try.prog.fieldsOf 7) (by kernel_rfl) (by kernel_rfl) (by kernel_rfl)
instance : Fld Try.prog 7 0 0 := Fld.of (n := 0) (by kernel_rfl)
instance : Fld Try.prog 7 1 1 := Fld.of (n := 0) (by kernel_rfl)
instance : Fld Try.prog 7 2 2 := Fld.of (n := 0) (by kernel_rfl)
instance : Fld Try.prog 7 3 3 := Fld.of (n := 0) (by kernel_rfl)
instance : Bld Try.prog 7 [(0, 1), (1, 1), (2, 1), (3, 1)] := Bld.of (fs := Try.prog.fieldsOf 7) (by kernel_rfl) (fun w => by kernel_rfl)
instance : Und Try.prog 8 (.struct (Try.prog.fieldsOf 8)) := ⟨by kernel_rfl⟩
instance : Siz Try.prog 8 4 := ⟨by kernel_rfl⟩
instance : Agl Try.prog 8 := ⟨_, Und.out, rfl⟩
instance : Zer Try.prog 8 (.agg #[.int .i64 (0), .int .i64 (0), .bool false, .int .u8 (0)]) [.int .i64 (0), .int .i64 (0), .bool false, .int .u8 (0)] := ⟨by kernel_rfl, rfl⟩
instance : Row Try.prog 8 4 24 := Row.of (n := 3) (by kernel_rfl)
instance : EqT Try.prog 8 [.int .i64, .int .i64, .bool, .int .u8] := EqT.of (fs := Try.prog.fieldsOf 8) (by kernel_rfl) (by kernel_rfl) (by kernel_rfl)
instance : Fld Try.prog 8 0 0 := Fld.of (n := 0) (by kernel_rfl)
instance : Fld Try.prog 8 1 1 := Fld.of (n := 0) (by kernel_rfl)
instance : Fld Try.prog 8 2 2 := Fld.of (n := 0) (by kernel_rfl)
instance : Fld Try.prog 8 3 3 := Fld.of (n := 0) (by kernel_rfl)
instance : Bld Try.prog 8 [(0, 1), (1, 1), (2, 1), (3, 1)] := Bld.of (fs := Try.prog.fieldsOf 8) (by kernel_rfl) (fun w => by kernel_rfl)
instance : Und Try.prog 9 (.string) := ⟨by kernel_rfl⟩
instance : Siz Try.prog 9 1 := ⟨by kernel_rfl⟩
instance : Sgl Try.prog 9 := ⟨_, Und.out, rfl⟩
instance : Zer Try.prog 9 (.string ⟨#[]⟩) [.string ⟨#[]⟩] := ⟨by kernel_rfl, rfl⟩
instance : Row Try.prog 9 1 16 := Row.of (n := 0) (by kernel_rfl)
instance : Und Try.prog 10 (.string) := ⟨by kernel_rfl⟩
instance : Siz Try.prog 10 1 := ⟨by kernel_rfl⟩
instance : Sgl Try.prog 10 := ⟨_, Und.out, rfl⟩
instance : Zer Try.prog 10 (.string ⟨#[]⟩) [.string ⟨#[]⟩] := ⟨by kernel_rfl, rfl⟩
instance : Row Try.prog 10 1 16 := Row.of (n := 0) (by kernel_rfl)
instance : Und Try.prog 11 (.string) := ⟨by kernel_rfl⟩
instance : Siz Try.prog 11 1 := ⟨by kernel_rfl⟩
instance : Sgl Try.prog 11 := ⟨_, Und.out, rfl⟩
instance : Zer Try.prog 11 (.string ⟨#[]⟩) [.string ⟨#[]⟩] := ⟨by kernel_rfl, rfl⟩
instance : Row Try.prog 11 1 16 := Row.of (n := 0) (by kernel_rfl)
instance : Und Try.prog 12 (.int .u64) := ⟨by kernel_rfl⟩
instance : Siz Try.prog 12 1 := ⟨by kernel_rfl⟩
instance : Sgl Try.prog 12 := ⟨_, Und.out, rfl⟩
instance : Zer Try.prog 12 (.int .u64 (0)) [.int .u64 (0)] := ⟨by kernel_rfl, rfl⟩
instance : Row Try.prog 12 1 8 := Row.of (n := 0) (by kernel_rfl)
instance : Und Try.prog 13 (.struct (Try.prog.fieldsOf 13)) := ⟨by kernel_rfl⟩
instance : Siz Try.prog 13 2 := ⟨by kernel_rfl⟩
instance : Agl Try.prog 13 := ⟨_, Und.out, rfl⟩
instance : Zer Try.prog 13 (.agg #[.string ⟨#[]⟩, .int .u64 (0)]) [.string ⟨#[]⟩, .int .u64 (0)] := ⟨by kernel_rfl, rfl⟩
instance : Row Try.prog 13 2 24 := Row.of (n := 1) (by kernel_rfl)
instance : Fld Try.prog 13 0 0 := Fld.of (n := 0) (by kernel_rfl)
instance : Fld Try.prog 13 1 1 := Fld.of (n := 0) (by kernel_rfl)
instance : Bld Try.prog 13 [(0, 1), (1, 1)] := Bld.of (fs := Try.prog.fieldsOf 13) (by kernel_rfl) (fun w => by kernel_rfl)
instance : Und Try.prog 14 (.struct (Try.prog.fieldsOf 14)) := ⟨by kernel_rfl⟩
instance : Siz Try.prog 14 2 := ⟨by kernel_rfl⟩
instance : Agl Try.prog 14 := ⟨_, Und.out, rfl⟩
instance : Zer Try.prog 14 (.agg #[.string ⟨#[]⟩, .int .u64 (0)]) [.string ⟨#[]⟩, .int .u64 (0)] := ⟨by kernel_rfl, rfl⟩
instance : Row Try.prog 14 2 24 := Row.of (n := 1) (by kernel_rfl)
instance : Fld Try.prog 14 0 0 := Fld.of (n := 0) (by kernel_rfl)
instance : Fld Try.prog 14 1 1 := Fld.of (n := 0) (by kernel_rfl)
instance : Bld Try.prog 14 [(0, 1), (1, 1)] := Bld.of (fs := Try.prog.fieldsOf 14) (by kernel_rfl) (fun w => by kernel_rfl)
instance : Und Try.prog 15 (.pointer 123) := ⟨by kernel_rfl⟩
instance : Siz Try.prog 15 1 := ⟨by kernel_rfl⟩
instance : Sgl Try.prog 15 := ⟨_, Und.out, rfl⟩
instance : Zer Try.prog 15 (.pointer none) [.pointer none] := ⟨by kernel_rfl, rfl⟩
instance : Row Try.prog 15 1 8 := Row.of (n := 0) (by kernel_rfl)
instance : Und Try.prog 16 (.pointer 126) := ⟨by kernel_rfl⟩
instance : Siz Try.prog 16 1 := ⟨by kernel_rfl⟩
instance : Sgl Try.prog 16 := ⟨_, Und.out, rfl⟩
instance : Zer Try.prog 16 (.pointer none) [.pointer none] := ⟨by kernel_rfl, rfl⟩
instance : Row Try.prog 16 1 8 := Row.of (n := 0) (by kernel_rfl)
instance : Und Try.prog 17 (.pointer 134) := ⟨by kernel_rfl⟩
instance : Siz Try.prog 17 1 := ⟨by kernel_rfl⟩
instance : Sgl Try.prog 17 := ⟨_, Und.out, rfl⟩
instance : Zer Try.prog 17 (.pointer none) [.pointer none] := ⟨by kernel_rfl, rfl⟩
instance : Row Try.prog 17 1 8 := Row.of (n := 0) (by kernel_rfl)
instance : Und Try.prog 18 (.struct (Try.prog.fieldsOf 18)) := ⟨by kernel_rfl⟩
instance : Siz Try.prog 18 1 := ⟨by kernel_rfl⟩
instance : Agl Try.prog 18 := ⟨_, Und.out, rfl⟩
instance : Zer Try.prog 18 (.agg #[.pointer none]) [.pointer none] := ⟨by kernel_rfl, rfl⟩
instance : Row Try.prog 18 1 8 := Row.of (n := 0) (by kernel_rfl)
instance : Fld Try.prog 18 0 0 := Fld.of (n := 0) (by kernel_rfl)
instance : Bld Try.prog 18 [(0, 1)] := Bld.of (fs := Try.prog.fieldsOf 18) (by kernel_rfl) (fun w => by kernel_rfl)
instance : Und Try.prog 19 (.struct (Try.prog.fieldsOf 19)) := ⟨by kernel_rfl⟩
instance : Siz Try.prog 19 1 := ⟨by kernel_rfl⟩
instance : Agl Try.prog 19 := ⟨_, Und.out, rfl⟩
instance : Zer Try.prog 19 (.agg #[.pointer none]) [.pointer none] := ⟨by kernel_rfl, rfl⟩
instance : Row Try.prog 19 1 8 := Row.of (n := 0) (by kernel_rfl)
instance : Fld Try.prog 19 0 0 := Fld.of (n := 0) (by kernel_rfl)
instance : Bld Try.prog 19 [(0, 1)] := Bld.of (fs := Try.prog.fieldsOf 19) (by kernel_rfl) (fun w => by kernel_rfl)
instance : Und Try.prog 20 (.interface #[]) := ⟨by kernel_rfl⟩
instance : Siz Try.prog 20 1 := ⟨by kernel_rfl⟩
instance : Sgl Try.prog 20 := ⟨_, Und.out, rfl⟩
instance : Zer Try.prog 20 (.nilIface) [.nilIface] := ⟨by kernel_rfl, rfl⟩
instance : Row Try.prog 20 1 16 := Row.of (n := 0) (by kernel_rfl)
instance : Und Try.prog 21 (.int .i32) := ⟨by kernel_rfl⟩
instance : Siz Try.prog 21 1 := ⟨by kernel_rfl⟩
instance : Sgl Try.prog 21 := ⟨_, Und.out, rfl⟩
instance : Zer Try.prog 21 (.int .i32 (0)) [.int .i32 (0)] := ⟨by kernel_rfl, rfl⟩
instance : Row Try.prog 21 1 4 := Row.of (n := 0) (by kernel_rfl)
instance : Und Try.prog 22 (.struct (Try.prog.fieldsOf 22)) := ⟨by kernel_rfl⟩
instance : Siz Try.prog 22 4 := ⟨by kernel_rfl⟩
instance : Agl Try.prog 22 := ⟨_, Und.out, rfl⟩
instance : Zer Try.prog 22 (.agg #[.int .i64 (0), .int .i64 (0), .int .i64 (0), .int .i64 (0)]) [.int .i64 (0), .int .i64 (0), .int .i64 (0), .int .i64 (0)] := ⟨by kernel_rfl, rfl⟩
instance : Row Try.prog 22 4 32 := Row.of (n := 3) (by kernel_rfl)
instance : EqT Try.prog 22 [.int .i64, .int .i64, .int .i64, .int .i64] := EqT.of (fs := Try.prog.fieldsOf 22) (by kernel_rfl) (by kernel_rfl) (by kernel_rfl)
instance : Fld Try.prog 22 0 0 := Fld.of (n := 0) (by kernel_rfl)
instance : Fld Try.prog 22 1 1 := Fld.of (n := 0) (by kernel_rfl)
instance : Fld Try.prog 22 2 2 := Fld.of (n := 0) (by kernel_rfl)
instance : Fld Try.prog 22 3 3 := Fld.of (n := 0) (by kernel_rfl)
instance : Bld Try.prog 22 [(0, 1), (1, 1), (2, 1), (3, 1)] := Bld.of (fs := Try.prog.fieldsOf 22) (by kernel_rfl) (fun w => by kernel_rfl)
instance : Und Try.prog 23 (.struct (Try.prog.fieldsOf 23)) := ⟨by kernel_rfl⟩
instance : Siz Try.prog 23 4 := ⟨by kernel_rfl⟩
instance : Agl Try.prog 23 := ⟨_, Und.out, rfl⟩
instance : Zer Try.prog 23 (.agg #[.int .i64 (0), .int .i64 (0), .int .i64 (0), .int .i64 (0)]) [.int .i64 (0), .int .i64 (0), .int .i64 (0), .int .i64 (0)] := ⟨by kernel_rfl, rfl⟩
instance : Row Try.prog 23 4 32 := Row.of (n := 3) (by kernel_rfl)
instance : EqT Try.prog 23 [.int .i64, .int .i64, .int .i64, .int .i64] := EqT.of (fs := Try.prog.fieldsOf 23) (by kernel_rfl) (by kernel_rfl) (by kernel_rfl)
instance : Fld Try.prog 23 0 0 := Fld.of (n := 0) (by kernel_rfl)
instance : Fld Try.prog 23 1 1 := Fld.of (n := 0) (by kernel_rfl)
instance : Fld Try.prog 23 2 2 := Fld.of (n := 0) (by kernel_rfl)
instance : Fld Try.prog 23 3 3 := Fld.of (n := 0) (by kernel_rfl)
instance : Bld Try.prog 23 [(0, 1), (1, 1), (2, 1), (3, 1)] := Bld.of (fs := Try.prog.fieldsOf 23) (by kernel_rfl) (fun w => by kernel_rfl)
instance : Und Try.prog 24 (.struct (Try.prog.fieldsOf 24)) := ⟨by kernel_rfl⟩
instance : Siz Try.prog 24 9 := ⟨by kernel_rfl⟩
instance : Agl Try.prog 24 := ⟨_, Und.out, rfl⟩
instance : Zer Try.prog 24 (.agg #[.int .i64 (0), .int .i64 (0), .int .i64 (0), .int .i64 (0), .int .i64 (0), .int .i64 (0), .int .i64 (0), .int .i64 (0), .int .i64 (0)]) [.int .i64 (0), .int .i64 (0), .int .i64 (0), .int .i64 (0), .int .i64 (0), .int .i64 (0), .int .i64 (0), .int .i64 (0), .int .i64 (0)] := ⟨by kernel_rfl, rfl⟩
instance : Row Try.prog 24 9 72 := Row.of (n := 8) (by kernel_rfl)
instance : EqT Try.prog 24 [.int .i64, .int .i64, .int .i64, .int .i64, .int .i64, .int .i64, .int .i64, .int .i64, .int .i64] := EqT.of (fs := Try.prog.fieldsOf 24) (by kernel_rfl) (by kernel_rfl) (by kernel_rfl)
instance : Fld Try.prog 24 0 0 := Fld.of (n := 0) (by kernel_rfl)
instance : Fld Try.prog 24 1 1 := Fld.of (n := 0) (by kernel_rfl)
instance : Fld Try.prog 24 2 2 := Fld.of (n := 0) (by kernel_rfl)
instance : Fld Try.prog 24 3 3 := Fld.of (n := 0) (by kernel_rfl)
instance : Fld Try.prog 24 4 4 := Fld.of (n := 3) (by kernel_rfl)
instance : Fld Try.prog 24 5 8 := Fld.of (n := 0) (by kernel_rfl)
instance : Bld Try.prog 24 [(0, 1), (1, 1), (2, 1), (3, 1), (4, 4), (8, 1)] := Bld.of (fs := Try.prog.fieldsOf 24) (by kernel_rfl) (fun w => by kernel_rfl)
instance : Und Try.prog 25 (.struct (Try.prog.fieldsOf 25)) := ⟨by kernel_rfl⟩
instance : Siz Try.prog 25 9 := ⟨by kernel_rfl⟩
instance : Agl Try.prog 25 := ⟨_, Und.out, rfl⟩
instance : Zer Try.prog 25 (.agg #[.int .i64 (0), .int .i64 (0), .int .i64 (0), .int .i64 (0), .int .i64 (0), .int .i64 (0), .int .i64 (0), .int .i64 (0), .int .i64 (0)]) [.int .i64 (0), .int .i64 (0), .int .i64 (0), .int .i64 (0), .int .i64 (0), .int .i64 (0), .int .i64 (0), .int .i64 (0), .int .i64 (0)] := ⟨by kernel_rfl, rfl⟩
instance : Row Try.prog 25 9 72 := Row.of (n := 8) (by kernel_rfl)
instance : EqT Try.prog 25 [.int .i64, .int .i64, .int .i64, .int .i64, .int .i64, .int .i64, .int .i64, .int .i64, .int .i64] := EqT.of (fs := Try.prog.fieldsOf 25) (by kernel_rfl) (by kernel_rfl) (by kernel_rfl)
instance : Fld Try.prog 25 0 0 := Fld.of (n := 0) (by kernel_rfl)
instance : Fld Try.prog 25 1 1 := Fld.of (n := 0) (by kernel_rfl)
instance : Fld Try.prog 25 2 2 := Fld.of (n := 0) (by kernel_rfl)
instance : Fld Try.prog 25 3 3 := Fld.of (n := 0) (by kernel_rfl)
instance : Fld Try.prog 25 4 4 := Fld.of (n := 3) (by kernel_rfl)
instance : Fld Try.prog 25 5 8 := Fld.of (n := 0) (by kernel_rfl)
instance : Bld Try.prog 25 [(0, 1), (1, 1), (2, 1), (3, 1), (4, 4), (8, 1)] := Bld.of (fs := Try.prog.fieldsOf 25) (by kernel_rfl) (fun w => by kernel_rfl)
instance : Und Try.prog 26 (.func #[] #[4] false) := ⟨by kernel_rfl⟩
instance : Siz Try.prog 26 1 := ⟨by kernel_rfl⟩
instance : Sgl Try.prog 26 := ⟨_, Und.out, rfl⟩
instance : Zer Try.prog 26 (.nilFunc) [.nilFunc] := ⟨by kernel_rfl, rfl⟩
instance : Row Try.prog 26 1 8 := Row.of (n := 0) (by kernel_rfl)
instance : Und Try.prog 27 (.int .i64) := ⟨by kernel_rfl⟩
instance : Siz Try.prog 27 1 := ⟨by kernel_rfl⟩
instance : Sgl Try.prog 27 := ⟨_, Und.out, rfl⟩
instance : Zer Try.prog 27 (.int .i64 (0)) [.int .i64 (0)] := ⟨by kernel_rfl, rfl⟩
instance : Row Try.prog 27 1 8 := Row.of (n := 0) (by kernel_rfl)
instance : Und Try.prog 28 (.func #[25] #[27] false) := ⟨by kernel_rfl⟩
instance : Siz Try.prog 28 1 := ⟨by kernel_rfl⟩
instance : Sgl Try.prog 28 := ⟨_, Und.out, rfl⟩
instance : Zer Try.prog 28 (.nilFunc) [.nilFunc] := ⟨by kernel_rfl, rfl⟩
instance : Row Try.prog 28 1 8 := Row.of (n := 0) (by kernel_rfl)
instance : Und Try.prog 29 (.func #[9, 5] #[4] false) := ⟨by kernel_rfl⟩
instance : Siz Try.prog 29 1 := ⟨by kernel_rfl⟩
instance : Sgl Try.prog 29 := ⟨_, Und.out, rfl⟩
instance : Zer Try.prog 29 (.nilFunc) [.nilFunc] := ⟨by kernel_rfl, rfl⟩
instance : Row Try.prog 29 1 8 := Row.of (n := 0) (by kernel_rfl)
instance : Und Try.prog 30 (.func #[3] #[9] false) := ⟨by kernel_rfl⟩
instance : Siz Try.prog 30 1 := ⟨by kernel_rfl⟩
instance : Sgl Try.prog 30 := ⟨_, Und.out, rfl⟩
instance : Zer Try.prog 30 (.nilFunc) [.nilFunc] := ⟨by kernel_rfl, rfl⟩
instance : Row Try.prog 30 1 8 := Row.of (n := 0) (by kernel_rfl)
instance : Und Try.prog 31 (.tuple #[9, 27]) := ⟨by kernel_rfl⟩
instance : Siz Try.prog 31 1 := ⟨by kernel_rfl⟩
instance : Sgl Try.prog 31 := ⟨_, Und.out, rfl⟩
instance : Und Try.prog 32 (.func #[25] #[9, 27] false) := ⟨by kernel_rfl⟩
instance : Siz Try.prog 32 1 := ⟨by kernel_rfl⟩
instance : Sgl Try.prog 32 := ⟨_, Und.out, rfl⟩
instance : Zer Try.prog 32 (.nilFunc) [.nilFunc] := ⟨by kernel_rfl, rfl⟩
instance : Row Try.prog 32 1 8 := Row.of (n := 0) (by kernel_rfl)
instance : Und Try.prog 33 (.int .u32) := ⟨by kernel_rfl⟩
instance : Siz Try.prog 33 1 := ⟨by kernel_rfl⟩
instance : Sgl Try.prog 33 := ⟨_, Und.out, rfl⟩
instance : Zer Try.prog 33 (.int .u32 (0)) [.int .u32 (0)] := ⟨by kernel_rfl, rfl⟩
instance : Row Try.prog 33 1 4 := Row.of (n := 0) (by kernel_rfl)
instance : Und Try.prog 34 (.int .u64) := ⟨by kernel_rfl⟩
instance : Siz Try.prog 34 1 := ⟨by kernel_rfl⟩
instance : Sgl Try.prog 34 := ⟨_, Und.out, rfl⟩
instance : Zer Try.prog 34 (.int .u64 (0)) [.int .u64 (0)] := ⟨by kernel_rfl, rfl⟩
instance : Row Try.prog 34 1 8 := Row.of (n := 0) (by kernel_rfl)
instance : Und Try.prog 35 (.func #[25, 21] #[4] false) := ⟨by kernel_rfl⟩
instance : Siz Try.prog 35 1 := ⟨by kernel_rfl⟩
instance : Sgl Try.prog 35 := ⟨_, Und.out, rfl⟩
instance : Zer Try.prog 35 (.nilFunc) [.nilFunc] := ⟨by kernel_rfl, rfl⟩
instance : Row Try.prog 35 1 8 := Row.of (n := 0) (by kernel_rfl)
instance : Und Try.prog 36 (.func #[3, 3, 3] #[4] false) := ⟨by kernel_rfl⟩
instance : Siz Try.prog 36 1 := ⟨by kernel_rfl⟩
instance : Sgl Try.prog 36 := ⟨_, Und.out, rfl⟩
instance : Zer Try.prog 36 (.nilFunc) [.nilFunc] := ⟨by kernel_rfl, rfl⟩
instance : Row Try.prog 36 1 8 := Row.of (n := 0) (by kernel_rfl)
instance : Und Try.prog 37 (.func #[38] #[9, 27] false) := ⟨by kernel_rfl⟩
instance : Siz Try.prog 37 1 := ⟨by kernel_rfl⟩
instance : Sgl Try.prog 37 := ⟨_, Und.out, rfl⟩
instance : Zer Try.prog 37 (.nilFunc) [.nilFunc] := ⟨by kernel_rfl, rfl⟩
instance : Row Try.prog 37 1 8 := Row.of (n := 0) (by kernel_rfl)
instance : Und Try.prog 38 (.slice 25) := ⟨by kernel_rfl⟩
instance : Siz Try.prog 38 1 := ⟨by kernel_rfl⟩
instance : Sgl Try.prog 38 := ⟨_, Und.out, rfl⟩
instance : Zer Try.prog 38 (.slice none 0 0) [.slice none 0 0] := ⟨by kernel_rfl, rfl⟩
instance : Row Try.prog 38 1 24 := Row.of (n := 0) (by kernel_rfl)
instance : Und Try.prog 39 (.func #[25] #[9] false) := ⟨by kernel_rfl⟩
instance : Siz Try.prog 39 1 := ⟨by kernel_rfl⟩
instance : Sgl Try.prog 39 := ⟨_, Und.out, rfl⟩
instance : Zer Try.prog 39 (.nilFunc) [.nilFunc] := ⟨by kernel_rfl, rfl⟩
instance : Row Try.prog 39 1 8 := Row.of (n := 0) (by kernel_rfl)
instance : Und Try.prog 40 (.func #[25] #[3] false) := ⟨by kernel_rfl⟩
instance : Siz Try.prog 40 1 := ⟨by kernel_rfl⟩
instance : Sgl Try.prog 40 := ⟨_, Und.out, rfl⟩
instance : Zer Try.prog 40 (.nilFunc) [.nilFunc] := ⟨by kernel_rfl, rfl⟩
instance : Row Try.prog 40 1 8 := Row.of (n := 0) (by kernel_rfl)
instance : Und Try.prog 41 (.func #[25, 38] #[4] false) := ⟨by kernel_rfl⟩
instance : Siz Try.prog 41 1 := ⟨by kernel_rfl⟩
instance : Sgl Try.prog 41 := ⟨_, Und.out, rfl⟩
instance : Zer Try.prog 41 (.nilFunc) [.nilFunc] := ⟨by kernel_rfl, rfl⟩
instance : Row Try.prog 41 1 8 := Row.of (n := 0) (by kernel_rfl)
instance : Und Try.prog 42 (.func #[25, 25] #[4] false) := ⟨by kernel_rfl⟩
instance : Siz Try.prog 42 1 := ⟨by kernel_rfl⟩
instance : Sgl Try.prog 42 := ⟨_, Und.out, rfl⟩
instance : Zer Try.prog 42 (.nilFunc) [.nilFunc] := ⟨by kernel_rfl, rfl⟩
instance : Row Try.prog 42 1 8 := Row.of (n := 0) (by kernel_rfl)
instance : Und Try.prog 43 (.tuple #[25, 3, 27]) := ⟨by kernel_rfl⟩
instance : Siz Try.prog 43 1 := ⟨by kernel_rfl⟩
instance : Sgl Try.prog 43 := ⟨_, Und.out, rfl⟩
instance : Und Try.prog 44 (.func #[9, 3] #[25, 3, 27] false) := ⟨by kernel_rfl⟩
instance : Siz Try.prog 44 1 := ⟨by kernel_rfl⟩
instance : Sgl Try.prog 44 := ⟨_, Und.out, rfl⟩
instance : Zer Try.prog 44 (.nilFunc) [.nilFunc] := ⟨by kernel_rfl, rfl⟩
instance : Row Try.prog 44 1 8 := Row.of (n := 0) (by kernel_rfl)
instance : Und Try.prog 45 (.tuple #[38, 3, 27]) := ⟨by kernel_rfl⟩
instance : Siz Try.prog 45 1 := ⟨by kernel_rfl⟩
instance : Sgl Try.prog 45 := ⟨_, Und.out, rfl⟩
instance : Und Try.prog 46 (.func #[9] #[38, 3, 27] false) := ⟨by kernel_rfl⟩
instance : Siz Try.prog 46 1 := ⟨by kernel_rfl⟩
instance : Sgl Try.prog 46 := ⟨_, Und.out, rfl⟩
instance : Zer Try.prog 46 (.nilFunc) [.nilFunc] := ⟨by kernel_rfl, rfl⟩
instance : Row Try.prog 46 1 8 := Row.of (n := 0) (by kernel_rfl)
instance : Und Try.prog 47 (.func #[76] #[] false) := ⟨by kernel_rfl⟩
instance : Siz Try.prog 47 1 := ⟨by kernel_rfl⟩
instance : Sgl Try.prog 47 := ⟨_, Und.out, rfl⟩
instance : Zer Try.prog 47 (.nilFunc) [.nilFunc] := ⟨by kernel_rfl, rfl⟩
instance : Row Try.prog 47 1 8 := Row.of (n := 0) (by kernel_rfl)
instance : Und Try.prog 48 (.func #[76] #[] false) := ⟨by kernel_rfl⟩
instance : Siz Try.prog 48 1 := ⟨by kernel_rfl⟩
instance : Sgl Try.prog 48 := ⟨_, Und.out, rfl⟩
instance : Zer Try.prog 48 (.nilFunc) [.nilFunc] := ⟨by kernel_rfl, rfl⟩
instance : Row Try.prog 48 1 8 := Row.of (n := 0) (by kernel_rfl)
instance : Und Try.prog 49 (.func #[9] #[48] false) := ⟨by kernel_rfl⟩
instance : Siz Try.prog 49 1 := ⟨by kernel_rfl⟩
instance : Sgl Try.prog 49 := ⟨_, Und.out, rfl⟩
instance : Zer Try.prog 49 (.nilFunc) [.nilFunc] := ⟨by kernel_rfl, rfl⟩
instance : Row Try.prog 49 1 8 := Row.of (n := 0) (by kernel_rfl)
instance : Und Try.prog 50 (.func #[9] #[4] false) := ⟨by kernel_rfl⟩
instance : Siz Try.prog 50 1 := ⟨by kernel_rfl⟩
instance : Sgl Try.prog 50 := ⟨_, Und.out, rfl⟩
instance : Zer Try.prog 50 (.nilFunc) [.nilFunc] := ⟨by kernel_rfl, rfl⟩
instance : Row Try.prog 50 1 8 := Row.of (n := 0) (by kernel_rfl)
instance : Und Try.prog 51 (.slice 3) := ⟨by kernel_rfl⟩
instance : Siz Try.prog 51 1 := ⟨by kernel_rfl⟩
instance : Sgl Try.prog 51 := ⟨_, Und.out, rfl⟩
instance : Zer Try.prog 51 (.slice none 0 0) [.slice none 0 0] := ⟨by kernel_rfl, rfl⟩
instance : Row Try.prog 51 1 24 := Row.of (n := 0) (by kernel_rfl)
instance : Und Try.prog 52 (.tuple #[51, 38, 4]) := ⟨by kernel_rfl⟩
instance : Siz Try.prog 52 1 := ⟨by kernel_rfl⟩
instance : Sgl Try.prog 52 := ⟨_, Und.out, rfl⟩
instance : Und Try.prog 53 (.func #[9] #[51, 38, 4] false) := ⟨by kernel_rfl⟩
instance : Siz Try.prog 53 1 := ⟨by kernel_rfl⟩
instance : Sgl Try.prog 53 := ⟨_, Und.out, rfl⟩
instance : Zer Try.prog 53 (.nilFunc) [.nilFunc] := ⟨by kernel_rfl, rfl⟩
instance : Row Try.prog 53 1 8 := Row.of (n := 0) (by kernel_rfl)
instance : Und Try.prog 54 (.func #[38, 38] #[4] false) := ⟨by kernel_rfl⟩
instance : Siz Try.prog 54 1 := ⟨by kernel_rfl⟩
instance : Sgl Try.prog 54 := ⟨_, Und.out, rfl⟩
instance : Zer Try.prog 54 (.nilFunc) [.nilFunc] := ⟨by kernel_rfl, rfl⟩
instance : Row Try.prog 54 1 8 := Row.of (n := 0) (by kernel_rfl)
instance : Und Try.prog 55 (.func #[9, 3] #[4] false) := ⟨by kernel_rfl⟩
instance : Siz Try.prog 55 1 := ⟨by kernel_rfl⟩
instance : Sgl Try.prog 55 := ⟨_, Und.out, rfl⟩
instance : Zer Try.prog 55 (.nilFunc) [.nilFunc] := ⟨by kernel_rfl, rfl⟩
instance : Row Try.prog 55 1 8 := Row.of (n := 0) (by kernel_rfl)
instance : Und Try.prog 56 (.func #[38, 9, 9] #[4] false) := ⟨by kernel_rfl⟩
instance : Siz Try.prog 56 1 := ⟨by kernel_rfl⟩
instance : Sgl Try.prog 56 := ⟨_, Und.out, rfl⟩
instance : Zer Try.prog 56 (.nilFunc) [.nilFunc] := ⟨by kernel_rfl, rfl⟩
instance : Row Try.prog 56 1 8 := Row.of (n := 0) (by kernel_rfl)
instance : Und Try.prog 57 (.func #[3, 3] #[3] false) := ⟨by kernel_rfl⟩
instance : Siz Try.prog 57 1 := ⟨by kernel_rfl⟩
instance : Sgl Try.prog 57 := ⟨_, Und.out, rfl⟩
instance : Zer Try.prog 57 (.nilFunc) [.nilFunc] := ⟨by kernel_rfl, rfl⟩
instance : Row Try.prog 57 1 8 := Row.of (n := 0) (by kernel_rfl)
instance : Und Try.prog 58 (.func #[25, 9, 3] #[4] false) := ⟨by kernel_rfl⟩
instance : Siz Try.prog 58 1 := ⟨by kernel_rfl⟩
instance : Sgl Try.prog 58 := ⟨_, Und.out, rfl⟩
instance : Zer Try.prog 58 (.nilFunc) [.nilFunc] := ⟨by kernel_rfl, rfl⟩
instance : Row Try.prog 58 1 8 := Row.of (n := 0) (by kernel_rfl)
instance : Und Try.prog 59 (.func #[3] #[4] false) := ⟨by kernel_rfl⟩
instance : Siz Try.prog 59 1 := ⟨by kernel_rfl⟩
instance : Sgl Try.prog 59 := ⟨_, Und.out, rfl⟩
instance : Zer Try.prog 59 (.nilFunc) [.nilFunc] := ⟨by kernel_rfl, rfl⟩
instance : Row Try.prog 59 1 8 := Row.of (n := 0) (by kernel_rfl)
instance : Und Try.prog 60 (.func #[23] #[4] false) := ⟨by kernel_rfl⟩
instance : Siz Try.prog 60 1 := ⟨by kernel_rfl⟩
instance : Sgl Try.prog 60 := ⟨_, Und.out, rfl⟩
instance : Zer Try.prog 60 (.nilFunc) [.nilFunc] := ⟨by kernel_rfl, rfl⟩
instance : Row Try.prog 60 1 8 := Row.of (n := 0) (by kernel_rfl)
instance : Und Try.prog 61 (.func #[2] #[4] false) := ⟨by kernel_rfl⟩
instance : Siz Try.prog 61 1 := ⟨by kernel_rfl⟩
instance : Sgl Try.prog 61 := ⟨_, Und.out, rfl⟩
instance : Zer Try.prog 61 (.nilFunc) [.nilFunc] := ⟨by kernel_rfl, rfl⟩
instance : Row Try.prog 61 1 8 := Row.of (n := 0) (by kernel_rfl)
instance : Und Try.prog 62 (.struct (Try.prog.fieldsOf 62)) := ⟨by kernel_rfl⟩
instance : Siz Try.prog 62 2 := ⟨by kernel_rfl⟩
instance : Agl Try.prog 62 := ⟨_, Und.out, rfl⟩
instance : Zer Try.prog 62 (.agg #[.int .u8 (0), .int .u8 (0)]) [.int .u8 (0), .int .u8 (0)] := ⟨by kernel_rfl, rfl⟩
instance : Row Try.prog 62 2 2 := Row.of (n := 1) (by kernel_rfl)
instance : EqT Try.prog 62 [.int .u8, .int .u8] := EqT.of (fs := Try.prog.fieldsOf 62) (by kernel_rfl) (by kernel_rfl) (by kernel_rfl)
instance : Fld Try.prog 62 0 0 := Fld.of (n := 0) (by kernel_rfl)
instance : Fld Try.prog 62 1 1 := Fld.of (n := 0) (by kernel_rfl)
instance : Bld Try.prog 62 [(0, 1), (1, 1)] := Bld.of (fs := Try.prog.fieldsOf 62) (by kernel_rfl) (fun w => by kernel_rfl)
instance : Und Try.prog 63 (.struct (Try.prog.fieldsOf 63)) := ⟨by kernel_rfl⟩
instance : Siz Try.prog 63 2 := ⟨by kernel_rfl⟩
instance : Agl Try.prog 63 := ⟨_, Und.out, rfl⟩
instance : Zer Try.prog 63 (.agg #[.int .u8 (0), .int .u8 (0)]) [.int .u8 (0), .int .u8 (0)] := ⟨by kernel_rfl, rfl⟩
instance : Row Try.prog 63 2 2 := Row.of (n := 1) (by kernel_rfl)
instance : EqT Try.prog 63 [.int .u8, .int .u8] := EqT.of (fs := Try.prog.fieldsOf 63) (by kernel_rfl) (by kernel_rfl) (by kernel_rfl)
instance : Fld Try.prog 63 0 0 := Fld.of (n := 0) (by kernel_rfl)
instance : Fld Try.prog 63 1 1 := Fld.of (n := 0) (by kernel_rfl)
instance : Bld Try.prog 63 [(0, 1), (1, 1)] := Bld.of (fs := Try.prog.fieldsOf 63) (by kernel_rfl) (fun w => by kernel_rfl)
instance : Und Try.prog 64 (.func #[63, 25] #[70] false) := ⟨by kernel_rfl⟩
instance : Siz Try.prog 64 1 := ⟨by kernel_rfl⟩
instance : Sgl Try.prog 64 := ⟨_, Und.out, rfl⟩
instance : Zer Try.prog 64 (.nilFunc) [.nilFunc] := ⟨by kernel_rfl, rfl⟩
instance : Row Try.prog 64 1 8 := Row.of (n := 0) (by kernel_rfl)
instance : Und Try.prog 65 (.func #[63, 25] #[70] false) := ⟨by kernel_rfl⟩
instance : Siz Try.prog 65 1 := ⟨by kernel_rfl⟩
instance : Sgl Try.prog 65 := ⟨_, Und.out, rfl⟩
instance : Zer Try.prog 65 (.nilFunc) [.nilFunc] := ⟨by kernel_rfl, rfl⟩
instance : Row Try.prog 65 1 8 := Row.of (n := 0) (by kernel_rfl)
instance : Und Try.prog 66 (.struct (Try.prog.fieldsOf 66)) := ⟨by kernel_rfl⟩
instance : Siz Try.prog 66 3 := ⟨by kernel_rfl⟩
instance : Agl Try.prog 66 := ⟨_, Und.out, rfl⟩
instance : Zer Try.prog 66 (.agg #[.int .u8 (0), .int .u8 (0), .nilFunc]) [.int .u8 (0), .int .u8 (0), .nilFunc] := ⟨by kernel_rfl, rfl⟩
instance : Row Try.prog 66 3 16 := Row.of (n := 2) (by kernel_rfl)
instance : Fld Try.prog 66 0 0 := Fld.of (n := 1) (by kernel_rfl)
instance : Fld Try.prog 66 1 2 := Fld.of (n := 0) (by kernel_rfl)
instance : Bld Try.prog 66 [(0, 2), (2, 1)] := Bld.of (fs := Try.prog.fieldsOf 66) (by kernel_rfl) (fun w => by kernel_rfl)
instance : Und Try.prog 67 (.struct (Try.prog.fieldsOf 67)) := ⟨by kernel_rfl⟩
instance : Siz Try.prog 67 3 := ⟨by kernel_rfl⟩
instance : Agl Try.prog 67 := ⟨_, Und.out, rfl⟩
instance : Zer Try.prog 67 (.agg #[.int .u8 (0), .int .u8 (0), .nilFunc]) [.int .u8 (0), .int .u8 (0), .nilFunc] := ⟨by kernel_rfl, rfl⟩
instance : Row Try.prog 67 3 16 := Row.of (n := 2) (by kernel_rfl)
instance : Fld Try.prog 67 0 0 := Fld.of (n := 1) (by kernel_rfl)
instance : Fld Try.prog 67 1 2 := Fld.of (n := 0) (by kernel_rfl)
instance : Bld Try.prog 67 [(0, 2), (2, 1)] := Bld.of (fs := Try.prog.fieldsOf 67) (by kernel_rfl) (fun w => by kernel_rfl)
instance : Und Try.prog 68 (.map 3 67) := ⟨by kernel_rfl⟩
instance : Siz Try.prog 68 1 := ⟨by kernel_rfl⟩
instance : Sgl Try.prog 68 := ⟨_, Und.out, rfl⟩
instance : Zer Try.prog 68 (.map none) [.map none] := ⟨by kernel_rfl, rfl⟩
instance : Row Try.prog 68 1 8 := Row.of (n := 0) (by kernel_rfl)
instance : Und Try.prog 69 (.func #[] #[68] false) := ⟨by kernel_rfl⟩
instance : Siz Try.prog 69 1 := ⟨by kernel_rfl⟩
instance : Sgl Try.prog 69 := ⟨_, Und.out, rfl⟩
instance : Zer Try.prog 69 (.nilFunc) [.nilFunc] := ⟨by kernel_rfl, rfl⟩
instance : Row Try.prog 69 1 8 := Row.of (n := 0) (by kernel_rfl)
instance : Und Try.prog 70 (.slice 5) := ⟨by kernel_rfl⟩
instance : Siz Try.prog 70 1 := ⟨by kernel_rfl⟩
instance : Sgl Try.prog 70 := ⟨_, Und.out, rfl⟩
instance : Zer Try.prog 70 (.slice none 0 0) [.slice none 0 0] := ⟨by kernel_rfl, rfl⟩
instance : Row Try.prog 70 1 24 := Row.of (n := 0) (by kernel_rfl)
instance : Und Try.prog 71 (.func #[25] #[70] false) := ⟨by kernel_rfl⟩
instance : Siz Try.prog 71 1 := ⟨by kernel_rfl⟩
instance : Sgl Try.prog 71 := ⟨_, Und.out, rfl⟩
instance : Zer Try.prog 71 (.nilFunc) [.nilFunc] := ⟨by kernel_rfl, rfl⟩
instance : Row Try.prog 71 1 8 := Row.of (n := 0) (by kernel_rfl)
instance : Und Try.prog 72 (.pointer 74) := ⟨by kernel_rfl⟩
instance : Siz Try.prog 72 1 := ⟨by kernel_rfl⟩
instance : Sgl Try.prog 72 := ⟨_, Und.out, rfl⟩
instance : Zer Try.prog 72 (.pointer none) [.pointer none] := ⟨by kernel_rfl, rfl⟩
instance : Row Try.prog 72 1 8 := Row.of (n := 0) (by kernel_rfl)
instance : Und Try.prog 73 (.struct (Try.prog.fieldsOf 73)) := ⟨by kernel_rfl⟩
instance : Siz Try.prog 73 3 := ⟨by kernel_rfl⟩
instance : Agl Try.prog 73 := ⟨_, Und.out, rfl⟩
instance : Zer Try.prog 73 (.agg #[.string ⟨#[]⟩, .int .i64 (0), .bool false]) [.string ⟨#[]⟩, .int .i64 (0), .bool false] := ⟨by kernel_rfl, rfl⟩
instance : Row Try.prog 73 3 32 := Row.of (n := 2) (by kernel_rfl)
instance : EqT Try.prog 73 [.str, .int .i64, .bool] := EqT.of (fs := Try.prog.fieldsOf 73) (by kernel_rfl) (by kernel_rfl) (by kernel_rfl)
instance : Fld Try.prog 73 0 0 := Fld.of (n := 0) (by kernel_rfl)
instance : Fld Try.prog 73 1 1 := Fld.of (n := 0) (by kernel_rfl)
instance : Fld Try.prog 73 2 2 := Fld.of (n := 0) (by kernel_rfl)
instance : Bld Try.prog 73 [(0, 1), (1, 1), (2, 1)] := Bld.of (fs := Try.prog.fieldsOf 73) (by kernel_rfl) (fun w => by kernel_rfl)
instance : Und Try.prog 74 (.struct (Try.prog.fieldsOf 74)) := ⟨by kernel_rfl⟩
instance : Siz Try.prog 74 3 := ⟨by kernel_rfl⟩
instance : Agl Try.prog 74 := ⟨_, Und.out, rfl⟩
instance : Zer Try.prog 74 (.agg #[.string ⟨#[]⟩, .int .i64 (0), .bool false]) [.string ⟨#[]⟩, .int .i64 (0), .bool false] := ⟨by kernel_rfl, rfl⟩
instance : Row Try.prog 74 3 32 := Row.of (n := 2) (by kernel_rfl)
instance : EqT Try.prog 74 [.str, .int .i64, .bool] := EqT.of (fs := Try.prog.fieldsOf 74) (by kernel_rfl) (by kernel_rfl) (by kernel_rfl)
instance : Fld Try.prog 74 0 0 := Fld.of (n := 0) (by kernel_rfl)
instance : Fld Try.prog 74 1 1 := Fld.of (n := 0) (by kernel_rfl)
instance : Fld Try.prog 74 2 2 := Fld.of (n := 0) (by kernel_rfl)
instance : Bld Try.prog 74 [(0, 1), (1, 1), (2, 1)] := Bld.of (fs := Try.prog.fieldsOf 74) (by kernel_rfl) (fun w => by kernel_rfl)
instance : Und Try.prog 75 (.func #[] #[25] false) := ⟨by kernel_rfl⟩
instance : Siz Try.prog 75 1 := ⟨by kernel_rfl⟩
instance : Sgl Try.prog 75 := ⟨_, Und.out, rfl⟩
instance : Zer Try.prog 75 (.nilFunc) [.nilFunc] := ⟨by kernel_rfl, rfl⟩
instance : Row Try.prog 75 1 8 := Row.of (n := 0) (by kernel_rfl)
instance : Und Try.prog 76 (.func #[3, 25] #[4] false) := ⟨by kernel_rfl⟩
instance : Siz Try.prog 76 1 := ⟨by kernel_rfl⟩
instance : Sgl Try.prog 76 := ⟨_, Und.out, rfl⟩
instance : Zer Try.prog 76 (.nilFunc) [.nilFunc] := ⟨by kernel_rfl, rfl⟩
instance : Row Try.prog 76 1 8 := Row.of (n := 0) (by kernel_rfl)
instance : Und Try.prog 77 (.pointer 79) := ⟨by kernel_rfl⟩
instance : Siz Try.prog 77 1 := ⟨by kernel_rfl⟩
instance : Sgl Try.prog 77 := ⟨_, Und.out, rfl⟩
instance : Zer Try.prog 77 (.pointer none) [.pointer none] := ⟨by kernel_rfl, rfl⟩
instance : Row Try.prog 77 1 8 := Row.of (n := 0) (by kernel_rfl)
instance : Und Try.prog 78 (.struct (Try.prog.fieldsOf 78)) := ⟨by kernel_rfl⟩
instance : Siz Try.prog 78 3 := ⟨by kernel_rfl⟩
instance : Agl Try.prog 78 := ⟨_, Und.out, rfl⟩
instance : Zer Try.prog 78 (.agg #[.string ⟨#[]⟩, .int .i64 (0), .bool false]) [.string ⟨#[]⟩, .int .i64 (0), .bool false] := ⟨by kernel_rfl, rfl⟩
instance : Row Try.prog 78 3 32 := Row.of (n := 2) (by kernel_rfl)
instance : EqT Try.prog 78 [.str, .int .i64, .bool] := EqT.of (fs := Try.prog.fieldsOf 78) (by kernel_rfl) (by kernel_rfl) (by kernel_rfl)
instance : Fld Try.prog 78 0 0 := Fld.of (n := 0) (by kernel_rfl)
instance : Fld Try.prog 78 1 1 := Fld.of (n := 0) (by kernel_rfl)
instance : Fld Try.prog 78 2 2 := Fld.of (n := 0) (by kernel_rfl)
instance : Bld Try.prog 78 [(0, 1), (1, 1), (2, 1)] := Bld.of (fs := Try.prog.fieldsOf 78) (by kernel_rfl) (fun w => by kernel_rfl)
instance : Und Try.prog 79 (.struct (Try.prog.fieldsOf 79)) := ⟨by kernel_rfl⟩
instance : Siz Try.prog 79 3 := ⟨by kernel_rfl⟩
instance : Agl Try.prog 79 := ⟨_, Und.out, rfl⟩
instance : Zer Try.prog 79 (.agg #[.string ⟨#[]⟩, .int .i64 (0), .bool false]) [.string ⟨#[]⟩, .int .i64 (0), .bool false] := ⟨by kernel_rfl, rfl⟩
instance : Row Try.prog 79 3 32 := Row.of (n := 2) (by kernel_rfl)
instance : EqT Try.prog 79 [.str, .int .i64, .bool] := EqT.of (fs := Try.prog.fieldsOf 79) (by kernel_rfl) (by kernel_rfl) (by kernel_rfl)
instance : Fld Try.prog 79 0 0 := Fld.of (n := 0) (by kernel_rfl)
instance : Fld Try.prog 79 1 1 := Fld.of (n := 0) (by kernel_rfl)
instance : Fld Try.prog 79 2 2 := Fld.of (n := 0) (by kernel_rfl)
instance : Bld Try.prog 79 [(0, 1), (1, 1), (2, 1)] := Bld.of (fs := Try.prog.fieldsOf 79) (by kernel_rfl) (fun w => by kernel_rfl)
instance : Und Try.prog 80 (.struct (Try.prog.fieldsOf 80)) := ⟨by kernel_rfl⟩
instance : Siz Try.prog 80 4 := ⟨by kernel_rfl⟩
instance : Agl Try.prog 80 := ⟨_, Und.out, rfl⟩
instance : Zer Try.prog 80 (.agg #[.string ⟨#[]⟩, .int .i64 (0), .int .i64 (0), .int .i64 (0)]) [.string ⟨#[]⟩, .int .i64 (0), .int .i64 (0), .int .i64 (0)] := ⟨by kernel_rfl, rfl⟩
instance : Row Try.prog 80 4 40 := Row.of (n := 3) (by kernel_rfl)
instance : EqT Try.prog 80 [.str, .int .i64, .int .i64, .int .i64] := EqT.of (fs := Try.prog.fieldsOf 80) (by kernel_rfl) (by kernel_rfl) (by kernel_rfl)
instance : Fld Try.prog 80 0 0 := Fld.of (n := 0) (by kernel_rfl)
instance : Fld Try.prog 80 1 1 := Fld.of (n := 0) (by kernel_rfl)
instance : Fld Try.prog 80 2 2 := Fld.of (n := 0) (by kernel_rfl)
instance : Fld Try.prog 80 3 3 := Fld.of (n := 0) (by kernel_rfl)
instance : Bld Try.prog 80 [(0, 1), (1, 1), (2, 1), (3, 1)] := Bld.of (fs := Try.prog.fieldsOf 80) (by kernel_rfl) (fun w => by kernel_rfl)
instance : Und Try.prog 81 (.struct (Try.prog.fieldsOf 81)) := ⟨by kernel_rfl⟩
instance : Siz Try.prog 81 4 := ⟨by kernel_rfl⟩
instance : Agl Try.prog 81 := ⟨_, Und.out, rfl⟩
instance : Zer Try.prog 81 (.agg #[.string ⟨#[]⟩, .int .i64 (0), .int .i64 (0), .int .i64 (0)]) [.string ⟨#[]⟩, .int .i64 (0), .int .i64 (0), .int .i64 (0)] := ⟨by kernel_rfl, rfl⟩
instance : Row Try.prog 81 4 40 := Row.of (n := 3) (by kernel_rfl)
instance : EqT Try.prog 81 [.str, .int .i64, .int .i64, .int .i64] := EqT.of (fs := Try.prog.fieldsOf 81) (by kernel_rfl) (by kernel_rfl) (by kernel_rfl)
instance : Fld Try.prog 81 0 0 := Fld.of (n := 0) (by kernel_rfl)
instance : Fld Try.prog 81 1 1 := Fld.of (n := 0) (by kernel_rfl)
instance : Fld Try.prog 81 2 2 := Fld.of (n := 0) (by kernel_rfl)
instance : Fld Try.prog 81 3 3 := Fld.of (n := 0) (by kernel_rfl)
instance : Bld Try.prog 81 [(0, 1), (1, 1), (2, 1), (3, 1)] := Bld.of (fs := Try.prog.fieldsOf 81) (by kernel_rfl) (fun w => by kernel_rfl)
instance : Und Try.prog 82 (.func #[3] #[81] false) := ⟨by kernel_rfl⟩
instance : Siz Try.prog 82 1 := ⟨by kernel_rfl⟩
instance : Sgl Try.prog 82 := ⟨_, Und.out, rfl⟩
instance : Zer Try.prog 82 (.nilFunc) [.nilFunc] := ⟨by kernel_rfl, rfl⟩
instance : Row Try.prog 82 1 8 := Row.of (n := 0) (by kernel_rfl)
instance : Und Try.prog 83 (.struct (Try.prog.fieldsOf 83)) := ⟨by kernel_rfl⟩
instance : Siz Try.prog 83 2 := ⟨by kernel_rfl⟩
instance : Agl Try.prog 83 := ⟨_, Und.out, rfl⟩
instance : Zer Try.prog 83 (.agg #[.int .i64 (0), .int .i64 (0)]) [.int .i64 (0), .int .i64 (0)] := ⟨by kernel_rfl, rfl⟩
instance : Row Try.prog 83 2 16 := Row.of (n := 1) (by kernel_rfl)
instance : EqT Try.prog 83 [.int .i64, .int .i64] := EqT.of (fs := Try.prog.fieldsOf 83) (by kernel_rfl) (by kernel_rfl) (by kernel_rfl)
instance : Fld Try.prog 83 0 0 := Fld.of (n := 0) (by kernel_rfl)
instance : Fld Try.prog 83 1 1 := Fld.of (n := 0) (by kernel_rfl)
instance : Bld Try.prog 83 [(0, 1), (1, 1)] := Bld.of (fs := Try.prog.fieldsOf 83) (by kernel_rfl) (fun w => by kernel_rfl)
instance : Und Try.prog 84 (.array 3 83) := ⟨by kernel_rfl⟩
instance : Siz Try.prog 84 6 := ⟨by kernel_rfl⟩
instance : Agl Try.prog 84 := ⟨_, Und.out, rfl⟩
instance : Zer Try.prog 84 (.agg #[.int .i64 (0), .int .i64 (0), .int .i64 (0), .int .i64 (0), .int .i64 (0), .int .i64 (0)]) [.int .i64 (0), .int .i64 (0), .int .i64 (0), .int .i64 (0), .int .i64 (0), .int .i64 (0)] := ⟨by kernel_rfl, rfl⟩
instance : Row Try.prog 84 6 48 := Row.of (n := 5) (by kernel_rfl)
instance : Und Try.prog 85 (.func #[3, 3, 3] #[5] false) := ⟨by kernel_rfl⟩
instance : Siz Try.prog 85 1 := ⟨by kernel_rfl⟩
instance : Sgl Try.prog 85 := ⟨_, Und.out, rfl⟩
instance : Zer Try.prog 85 (.nilFunc) [.nilFunc] := ⟨by kernel_rfl, rfl⟩
instance : Row Try.prog 85 1 8 := Row.of (n := 0) (by kernel_rfl)
instance : Und Try.prog 86 (.func #[2, 3] #[70] false) := ⟨by kernel_rfl⟩
instance : Siz Try.prog 86 1 := ⟨by kernel_rfl⟩
instance : Sgl Try.prog 86 := ⟨_, Und.out, rfl⟩
instance : Zer Try.prog 86 (.nilFunc) [.nilFunc] := ⟨by kernel_rfl, rfl⟩
instance : Row Try.prog 86 1 8 := Row.of (n := 0) (by kernel_rfl)
instance : Und Try.prog 87 (.func #[3, 23] #[70] false) := ⟨by kernel_rfl⟩
instance : Siz Try.prog 87 1 := ⟨by kernel_rfl⟩
instance : Sgl Try.prog 87 := ⟨_, Und.out, rfl⟩
instance : Zer Try.prog 87 (.nilFunc) [.nilFunc] := ⟨by kernel_rfl, rfl⟩
instance : Row Try.prog 87 1 8 := Row.of (n := 0) (by kernel_rfl)
instance : Und Try.prog 88 (.func #[3, 3] #[5] false) := ⟨by kernel_rfl⟩
instance : Siz Try.prog 88 1 := ⟨by kernel_rfl⟩
instance : Sgl Try.prog 88 := ⟨_, Und.out, rfl⟩
instance : Zer Try.prog 88 (.nilFunc) [.nilFunc] := ⟨by kernel_rfl, rfl⟩
instance : Row Try.prog 88 1 8 := Row.of (n := 0) (by kernel_rfl)
instance : Und Try.prog 89 (.func #[3] #[5] false) := ⟨by kernel_rfl⟩
instance : Siz Try.prog 89 1 := ⟨by kernel_rfl⟩
instance : Sgl Try.prog 89 := ⟨_, Und.out, rfl⟩
instance : Zer Try.prog 89 (.nilFunc) [.nilFunc] := ⟨by kernel_rfl, rfl⟩
instance : Row Try.prog 89 1 8 := Row.of (n := 0) (by kernel_rfl)
instance : Und Try.prog 90 (.func #[] #[3] false) := ⟨by kernel_rfl⟩
instance : Siz Try.prog 90 1 := ⟨by kernel_rfl⟩
instance : Sgl Try.prog 90 := ⟨_, Und.out, rfl⟩
instance : Zer Try.prog 90 (.nilFunc) [.nilFunc] := ⟨by kernel_rfl, rfl⟩
instance : Row Try.prog 90 1 8 := Row.of (n := 0) (by kernel_rfl)
instance : Und Try.prog 91 (.func #[3] #[2] false) := ⟨by kernel_rfl⟩
instance : Siz Try.prog 91 1 := ⟨by kernel_rfl⟩
instance : Sgl Try.prog 91 := ⟨_, Und.out, rfl⟩
instance : Zer Try.prog 91 (.nilFunc) [.nilFunc] := ⟨by kernel_rfl, rfl⟩
instance : Row Try.prog 91 1 8 := Row.of (n := 0) (by kernel_rfl)
instance : Und Try.prog 92 (.map 3 3) := ⟨by kernel_rfl⟩
instance : Siz Try.prog 92 1 := ⟨by kernel_rfl⟩
instance : Sgl Try.prog 92 := ⟨_, Und.out, rfl⟩
instance : Zer Try.prog 92 (.map none) [.map none] := ⟨by kernel_rfl, rfl⟩
instance : Row Try.prog 92 1 8 := Row.of (n := 0) (by kernel_rfl)
instance : Und Try.prog 93 (.func #[3] #[72] false) := ⟨by kernel_rfl⟩
instance : Siz Try.prog 93 1 := ⟨by kernel_rfl⟩
instance : Sgl Try.prog 93 := ⟨_, Und.out, rfl⟩
instance : Zer Try.prog 93 (.nilFunc) [.nilFunc] := ⟨by kernel_rfl, rfl⟩
instance : Row Try.prog 93 1 8 := Row.of (n := 0) (by kernel_rfl)
instance : Und Try.prog 94 (.int .i64) := ⟨by kernel_rfl⟩
instance : Siz Try.prog 94 1 := ⟨by kernel_rfl⟩
instance : Sgl Try.prog 94 := ⟨_, Und.out, rfl⟩
instance : Zer Try.prog 94 (.int .i64 (0)) [.int .i64 (0)] := ⟨by kernel_rfl, rfl⟩
instance : Row Try.prog 94 1 8 := Row.of (n := 0) (by kernel_rfl)
instance : Und Try.prog 95 (.func #[3] #[3] false) := ⟨by kernel_rfl⟩
instance : Siz Try.prog 95 1 := ⟨by kernel_rfl⟩
instance : Sgl Try.prog 95 := ⟨_, Und.out, rfl⟩
instance : Zer Try.prog 95 (.nilFunc) [.nilFunc] := ⟨by kernel_rfl, rfl⟩
instance : Row Try.prog 95 1 8 := Row.of (n := 0) (by kernel_rfl)
instance : Und Try.prog 96 (.func #[94] #[25] false) := ⟨by kernel_rfl⟩
instance : Siz Try.prog 96 1 := ⟨by kernel_rfl⟩
instance : Sgl Try.prog 96 := ⟨_, Und.out, rfl⟩
instance : Zer Try.prog 96 (.nilFunc) [.nilFunc] := ⟨by kernel_rfl, rfl⟩
instance : Row Try.prog 96 1 8 := Row.of (n := 0) (by kernel_rfl)
instance : Und Try.prog 97 (.func #[3] #[25] false) := ⟨by kernel_rfl⟩
instance : Siz Try.prog 97 1 := ⟨by kernel_rfl⟩
instance : Sgl Try.prog 97 := ⟨_, Und.out, rfl⟩
instance : Zer Try.prog 97 (.nilFunc) [.nilFunc] := ⟨by kernel_rfl, rfl⟩
instance : Row Try.prog 97 1 8 := Row.of (n := 0) (by kernel_rfl)
instance : Und Try.prog 98 (.array 34 81) := ⟨by kernel_rfl⟩
instance : Siz Try.prog 98 136 := ⟨by kernel_rfl⟩
instance : Agl Try.prog 98 := ⟨_, Und.out, rfl⟩
instance : Und Try.prog 99 (.func #[] #[98] false) := ⟨by kernel_rfl⟩
instance : Siz Try.prog 99 1 := ⟨by kernel_rfl⟩
instance : Sgl Try.prog 99 := ⟨_, Und.out, rfl⟩
instance : Zer Try.prog 99 (.nilFunc) [.nilFunc] := ⟨by kernel_rfl, rfl⟩
instance : Row Try.prog 99 1 8 := Row.of (n := 0) (by kernel_rfl)
instance : Und Try.prog 100 (.func #[51, 3] #[4] false) := ⟨by kernel_rfl⟩
instance : Siz Try.prog 100 1 := ⟨by kernel_rfl⟩
instance : Sgl Try.prog 100 := ⟨_, Und.out, rfl⟩
instance : Zer Try.prog 100 (.nilFunc) [.nilFunc] := ⟨by kernel_rfl, rfl⟩
instance : Row Try.prog 100 1 8 := Row.of (n := 0) (by kernel_rfl)
instance : Und Try.prog 101 (.int .u64) := ⟨by kernel_rfl⟩
instance : Siz Try.prog 101 1 := ⟨by kernel_rfl⟩
instance : Sgl Try.prog 101 := ⟨_, Und.out, rfl⟩
instance : Zer Try.prog 101 (.int .u64 (0)) [.int .u64 (0)] := ⟨by kernel_rfl, rfl⟩
instance : Row Try.prog 101 1 8 := Row.of (n := 0) (by kernel_rfl)
instance : Und Try.prog 102 (.interface #[("keysmith/decode.take", 107)]) := ⟨by kernel_rfl⟩
instance : Siz Try.prog 102 1 := ⟨by kernel_rfl⟩
instance : Sgl Try.prog 102 := ⟨_, Und.out, rfl⟩
instance : Zer Try.prog 102 (.nilIface) [.nilIface] := ⟨by kernel_rfl, rfl⟩
instance : Row Try.prog 102 1 16 := Row.of (n := 0) (by kernel_rfl)
instance : Und Try.prog 103 (.interface #[("keysmith/decode.take", 107)]) := ⟨by kernel_rfl⟩
instance : Siz Try.prog 103 1 := ⟨by kernel_rfl⟩
instance : Sgl Try.prog 103 := ⟨_, Und.out, rfl⟩
instance : Zer Try.prog 103 (.nilIface) [.nilIface] := ⟨by kernel_rfl, rfl⟩
instance : Row Try.prog 103 1 16 := Row.of (n := 0) (by kernel_rfl)
instance : Und Try.prog 104 (.tuple #[103, 4]) := ⟨by kernel_rfl⟩
instance : Siz Try.prog 104 1 := ⟨by kernel_rfl⟩
instance : Sgl Try.prog 104 := ⟨_, Und.out, rfl⟩
instance : Und Try.prog 105 (.map 3 103) := ⟨by kernel_rfl⟩
instance : Siz Try.prog 105 1 := ⟨by kernel_rfl⟩
instance : Sgl Try.prog 105 := ⟨_, Und.out, rfl⟩
instance : Zer Try.prog 105 (.map none) [.map none] := ⟨by kernel_rfl, rfl⟩
instance : Row Try.prog 105 1 8 := Row.of (n := 0) (by kernel_rfl)
instance : Und Try.prog 106 (.func #[] #[105] false) := ⟨by kernel_rfl⟩
instance : Siz Try.prog 106 1 := ⟨by kernel_rfl⟩
instance : Sgl Try.prog 106 := ⟨_, Und.out, rfl⟩
instance : Zer Try.prog 106 (.nilFunc) [.nilFunc] := ⟨by kernel_rfl, rfl⟩
instance : Row Try.prog 106 1 8 := Row.of (n := 0) (by kernel_rfl)
instance : Und Try.prog 107 (.func #[72, 94] #[25] false) := ⟨by kernel_rfl⟩
instance : Siz Try.prog 107 1 := ⟨by kernel_rfl⟩
instance : Sgl Try.prog 107 := ⟨_, Und.out, rfl⟩
instance : Zer Try.prog 107 (.nilFunc) [.nilFunc] := ⟨by kernel_rfl, rfl⟩
instance : Row Try.prog 107 1 8 := Row.of (n := 0) (by kernel_rfl)
instance : Und Try.prog 108 (.int .i64) := ⟨by kernel_rfl⟩
instance : Siz Try.prog 108 1 := ⟨by kernel_rfl⟩
instance : Sgl Try.prog 108 := ⟨_, Und.out, rfl⟩
instance : Zer Try.prog 108 (.int .i64 (0)) [.int .i64 (0)] := ⟨by kernel_rfl, rfl⟩
instance : Row Try.prog 108 1 8 := Row.of (n := 0) (by kernel_rfl)
instance : Und Try.prog 109 (.struct (Try.prog.fieldsOf 109)) := ⟨by kernel_rfl⟩
instance : Siz Try.prog 109 2 := ⟨by kernel_rfl⟩
instance : Agl Try.prog 109 := ⟨_, Und.out, rfl⟩
instance : Zer Try.prog 109 (.agg #[.int .i64 (0), .bool false]) [.int .i64 (0), .bool false] := ⟨by kernel_rfl, rfl⟩
instance : Row Try.prog 109 2 16 := Row.of (n := 1) (by kernel_rfl)
instance : EqT Try.prog 109 [.int .i64, .bool] := EqT.of (fs := Try.prog.fieldsOf 109) (by kernel_rfl) (by kernel_rfl) (by kernel_rfl)
instance : Fld Try.prog 109 0 0 := Fld.of (n := 0) (by kernel_rfl)
instance : Fld Try.prog 109 1 1 := Fld.of (n := 0) (by kernel_rfl)
instance : Bld Try.prog 109 [(0, 1), (1, 1)] := Bld.of (fs := Try.prog.fieldsOf 109) (by kernel_rfl) (fun w => by kernel_rfl)
instance : Und Try.prog 110 (.struct (Try.prog.fieldsOf 110)) := ⟨by kernel_rfl⟩
instance : Siz Try.prog 110 2 := ⟨by kernel_rfl⟩
instance : Agl Try.prog 110 := ⟨_, Und.out, rfl⟩
instance : Zer Try.prog 110 (.agg #[.int .i64 (0), .bool false]) [.int .i64 (0), .bool false] := ⟨by kernel_rfl, rfl⟩
instance : Row Try.prog 110 2 16 := Row.of (n := 1) (by kernel_rfl)
instance : EqT Try.prog 110 [.int .i64, .bool] := EqT.of (fs := Try.prog.fieldsOf 110) (by kernel_rfl) (by kernel_rfl) (by kernel_rfl)
instance : Fld Try.prog 110 0 0 := Fld.of (n := 0) (by kernel_rfl)
instance : Fld Try.prog 110 1 1 := Fld.of (n := 0) (by kernel_rfl)
instance : Bld Try.prog 110 [(0, 1), (1, 1)] := Bld.of (fs := Try.prog.fieldsOf 110) (by kernel_rfl) (fun w => by kernel_rfl)
instance : Und Try.prog 111 (.struct (Try.prog.fieldsOf 111)) := ⟨by kernel_rfl⟩
instance : Siz Try.prog 111 2 := ⟨by kernel_rfl⟩
instance : Agl Try.prog 111 := ⟨_, Und.out, rfl⟩
instance : Zer Try.prog 111 (.agg #[.int .i64 (0), .int .i64 (0)]) [.int .i64 (0), .int .i64 (0)] := ⟨by kernel_rfl, rfl⟩
instance : Row Try.prog 111 2 16 := Row.of (n := 1) (by kernel_rfl)
instance : EqT Try.prog 111 [.int .i64, .int .i64] := EqT.of (fs := Try.prog.fieldsOf 111) (by kernel_rfl) (by kernel_rfl) (by kernel_rfl)
instance : Fld Try.prog 111 0 0 := Fld.of (n := 0) (by kernel_rfl)
instance : Fld Try.prog 111 1 1 := Fld.of (n := 0) (by kernel_rfl)
instance : Bld Try.prog 111 [(0, 1), (1, 1)] := Bld.of (fs := Try.prog.fieldsOf 111) (by kernel_rfl) (fun w => by kernel_rfl)
instance : Und Try.prog 112 (.map 115 111) := ⟨by kernel_rfl⟩
instance : Siz Try.prog 112 1 := ⟨by kernel_rfl⟩
instance : Sgl Try.prog 112 := ⟨_, Und.out, rfl⟩
instance : Zer Try.prog 112 (.map none) [.map none] := ⟨by kernel_rfl, rfl⟩
instance : Row Try.prog 112 1 8 := Row.of (n := 0) (by kernel_rfl)
instance : Und Try.prog 113 (.func #[] #[112] false) := ⟨by kernel_rfl⟩
instance : Siz Try.prog 113 1 := ⟨by kernel_rfl⟩
instance : Sgl Try.prog 113 := ⟨_, Und.out, rfl⟩
instance : Zer Try.prog 113 (.nilFunc) [.nilFunc] := ⟨by kernel_rfl, rfl⟩
instance : Row Try.prog 113 1 8 := Row.of (n := 0) (by kernel_rfl)
instance : Und Try.prog 114 (.struct (Try.prog.fieldsOf 114)) := ⟨by kernel_rfl⟩
instance : Siz Try.prog 114 2 := ⟨by kernel_rfl⟩
instance : Agl Try.prog 114 := ⟨_, Und.out, rfl⟩
instance : Zer Try.prog 114 (.agg #[.int .i64 (0), .int .i64 (0)]) [.int .i64 (0), .int .i64 (0)] := ⟨by kernel_rfl, rfl⟩
instance : Row Try.prog 114 2 16 := Row.of (n := 1) (by kernel_rfl)
instance : EqT Try.prog 114 [.int .i64, .int .i64] := EqT.of (fs := Try.prog.fieldsOf 114) (by kernel_rfl) (by kernel_rfl) (by kernel_rfl)
instance : Fld Try.prog 114 0 0 := Fld.of (n := 0) (by kernel_rfl)
instance : Fld Try.prog 114 1 1 := Fld.of (n := 0) (by kernel_rfl)
instance : Bld Try.prog 114 [(0, 1), (1, 1)] := Bld.of (fs := Try.prog.fieldsOf 114) (by kernel_rfl) (fun w => by kernel_rfl)
instance : Und Try.prog 115 (.struct (Try.prog.fieldsOf 115)) := ⟨by kernel_rfl⟩
instance : Siz Try.prog 115 2 := ⟨by kernel_rfl⟩
instance : Agl Try.prog 115 := ⟨_, Und.out, rfl⟩
instance : Zer Try.prog 115 (.agg #[.int .i64 (0), .int .i64 (0)]) [.int .i64 (0), .int .i64 (0)] := ⟨by kernel_rfl, rfl⟩
instance : Row Try.prog 115 2 16 := Row.of (n := 1) (by kernel_rfl)
instance : EqT Try.prog 115 [.int .i64, .int .i64] := EqT.of (fs := Try.prog.fieldsOf 115) (by kernel_rfl) (by kernel_rfl) (by kernel_rfl)
instance : Fld Try.prog 115 0 0 := Fld.of (n := 0) (by kernel_rfl)
instance : Fld Try.prog 115 1 1 := Fld.of (n := 0) (by kernel_rfl)
instance : Bld Try.prog 115 [(0, 1), (1, 1)] := Bld.of (fs := Try.prog.fieldsOf 115) (by kernel_rfl) (fun w => by kernel_rfl)
instance : Und Try.prog 116 (.func #[3, 3] #[23] false) := ⟨by kernel_rfl⟩
instance : Siz Try.prog 116 1 := ⟨by kernel_rfl⟩
instance : Sgl Try.prog 116 := ⟨_, Und.out, rfl⟩
instance : Zer Try.prog 116 (.nilFunc) [.nilFunc] := ⟨by kernel_rfl, rfl⟩
instance : Row Try.prog 116 1 8 := Row.of (n := 0) (by kernel_rfl)
instance : Und Try.prog 117 (.func #[51, 3] #[3] false) := ⟨by kernel_rfl⟩
instance : Siz Try.prog 117 1 := ⟨by kernel_rfl⟩
instance : Sgl Try.prog 117 := ⟨_, Und.out, rfl⟩
instance : Zer Try.prog 117 (.nilFunc) [.nilFunc] := ⟨by kernel_rfl, rfl⟩
instance : Row Try.prog 117 1 8 := Row.of (n := 0) (by kernel_rfl)
instance : Und Try.prog 118 (.int .i8) := ⟨by kernel_rfl⟩
instance : Siz Try.prog 118 1 := ⟨by kernel_rfl⟩
instance : Sgl Try.prog 118 := ⟨_, Und.out, rfl⟩
instance : Zer Try.prog 118 (.int .i8 (0)) [.int .i8 (0)] := ⟨by kernel_rfl, rfl⟩
instance : Row Try.prog 118 1 1 := Row.of (n := 0) (by kernel_rfl)
instance : Und Try.prog 119 (.map 3 5) := ⟨by kernel_rfl⟩
instance : Siz Try.prog 119 1 := ⟨by kernel_rfl⟩
instance : Sgl Try.prog 119 := ⟨_, Und.out, rfl⟩
instance : Zer Try.prog 119 (.map none) [.map none] := ⟨by kernel_rfl, rfl⟩
instance : Row Try.prog 119 1 8 := Row.of (n := 0) (by kernel_rfl)
instance : Und Try.prog 120 (.func #[] #[119] false) := ⟨by kernel_rfl⟩
instance : Siz Try.prog 120 1 := ⟨by kernel_rfl⟩
instance : Sgl Try.prog 120 := ⟨_, Und.out, rfl⟩
instance : Zer Try.prog 120 (.nilFunc) [.nilFunc] := ⟨by kernel_rfl, rfl⟩
instance : Row Try.prog 120 1 8 := Row.of (n := 0) (by kernel_rfl)
instance : Und Try.prog 121 (.func #[] #[9] false) := ⟨by kernel_rfl⟩
instance : Siz Try.prog 121 1 := ⟨by kernel_rfl⟩
instance : Sgl Try.prog 121 := ⟨_, Und.out, rfl⟩
instance : Zer Try.prog 121 (.nilFunc) [.nilFunc] := ⟨by kernel_rfl, rfl⟩
instance : Row Try.prog 121 1 8 := Row.of (n := 0) (by kernel_rfl)
instance : Und Try.prog 122 (.struct (Try.prog.fieldsOf 122)) := ⟨by kernel_rfl⟩
instance : Siz Try.prog 122 4 := ⟨by kernel_rfl⟩
instance : Agl Try.prog 122 := ⟨_, Und.out, rfl⟩
instance : Zer Try.prog 122 (.agg #[.pointer none, .pointer none, .pointer none, .string ⟨#[]⟩]) [.pointer none, .pointer none, .pointer none, .string ⟨#[]⟩] := ⟨by kernel_rfl, rfl⟩
instance : Row Try.prog 122 4 40 := Row.of (n := 3) (by kernel_rfl)
instance : Fld Try.prog 122 0 0 := Fld.of (n := 0) (by kernel_rfl)
instance : Fld Try.prog 122 1 1 := Fld.of (n := 0) (by kernel_rfl)
instance : Fld Try.prog 122 2 2 := Fld.of (n := 0) (by kernel_rfl)
instance : Fld Try.prog 122 3 3 := Fld.of (n := 0) (by kernel_rfl)
instance : Bld Try.prog 122 [(0, 1), (1, 1), (2, 1), (3, 1)] := Bld.of (fs := Try.prog.fieldsOf 122) (by kernel_rfl) (fun w => by kernel_rfl)
instance : Und Try.prog 123 (.struct (Try.prog.fieldsOf 123)) := ⟨by kernel_rfl⟩
instance : Siz Try.prog 123 4 := ⟨by kernel_rfl⟩
instance : Agl Try.prog 123 := ⟨_, Und.out, rfl⟩
instance : Zer Try.prog 123 (.agg #[.pointer none, .pointer none, .pointer none, .string ⟨#[]⟩]) [.pointer none, .pointer none, .pointer none, .string ⟨#[]⟩] := ⟨by kernel_rfl, rfl⟩
instance : Row Try.prog 123 4 40 := Row.of (n := 3) (by kernel_rfl)
instance : Fld Try.prog 123 0 0 := Fld.of (n := 0) (by kernel_rfl)
instance : Fld Try.prog 123 1 1 := Fld.of (n := 0) (by kernel_rfl)
instance : Fld Try.prog 123 2 2 := Fld.of (n := 0) (by kernel_rfl)
instance : Fld Try.prog 123 3 3 := Fld.of (n := 0) (by kernel_rfl)
instance : Bld Try.prog 123 [(0, 1), (1, 1), (2, 1), (3, 1)] := Bld.of (fs := Try.prog.fieldsOf 123) (by kernel_rfl) (fun w => by kernel_rfl)
instance : Und Try.prog 124 (.array 0 16) := ⟨by kernel_rfl⟩
instance : Siz Try.prog 124 0 := ⟨by kernel_rfl⟩
instance : Agl Try.prog 124 := ⟨_, Und.out, rfl⟩
instance : Zer Try.prog 124 (.agg #[]) [] := ⟨by kernel_rfl, rfl⟩
instance : Und Try.prog 125 (.struct (Try.prog.fieldsOf 125)) := ⟨by kernel_rfl⟩
instance : Siz Try.prog 125 0 := ⟨by kernel_rfl⟩
instance : Agl Try.prog 125 := ⟨_, Und.out, rfl⟩
instance : Zer Try.prog 125 (.agg #[]) [] := ⟨by kernel_rfl, rfl⟩
instance : Bld Try.prog 125 [(0, 0)] := Bld.of (fs := Try.prog.fieldsOf 125) (by kernel_rfl) (fun w => by kernel_rfl)
instance : Und Try.prog 126 (.struct (Try.prog.fieldsOf 126)) := ⟨by kernel_rfl⟩
instance : Siz Try.prog 126 0 := ⟨by kernel_rfl⟩
instance : Agl Try.prog 126 := ⟨_, Und.out, rfl⟩
instance : Zer Try.prog 126 (.agg #[]) [] := ⟨by kernel_rfl, rfl⟩
instance : Bld Try.prog 126 [(0, 0)] := Bld.of (fs := Try.prog.fieldsOf 126) (by kernel_rfl) (fun w => by kernel_rfl)
instance : Und Try.prog 127 (.int .u8) := ⟨by kernel_rfl⟩
instance : Siz Try.prog 127 1 := ⟨by kernel_rfl⟩
instance : Sgl Try.prog 127 := ⟨_, Und.out, rfl⟩
instance : Zer Try.prog 127 (.int .u8 (0)) [.int .u8 (0)] := ⟨by kernel_rfl, rfl⟩
instance : Row Try.prog 127 1 1 := Row.of (n := 0) (by kernel_rfl)
instance : Und Try.prog 128 (.int .u8) := ⟨by kernel_rfl⟩
instance : Siz Try.prog 128 1 := ⟨by kernel_rfl⟩
instance : Sgl Try.prog 128 := ⟨_, Und.out, rfl⟩
instance : Zer Try.prog 128 (.int .u8 (0)) [.int .u8 (0)] := ⟨by kernel_rfl, rfl⟩
instance : Row Try.prog 128 1 1 := Row.of (n := 0) (by kernel_rfl)
instance : Und Try.prog 129 (.func #[136, 136] #[4] false) := ⟨by kernel_rfl⟩
instance : Siz Try.prog 129 1 := ⟨by kernel_rfl⟩
instance : Sgl Try.prog 129 := ⟨_, Und.out, rfl⟩
instance : Zer Try.prog 129 (.nilFunc) [.nilFunc] := ⟨by kernel_rfl, rfl⟩
instance : Row Try.prog 129 1 8 := Row.of (n := 0) (by kernel_rfl)
instance : Und Try.prog 130 (.pointer 5) := ⟨by kernel_rfl⟩
instance : Siz Try.prog 130 1 := ⟨by kernel_rfl⟩
instance : Sgl Try.prog 130 := ⟨_, Und.out, rfl⟩
instance : Zer Try.prog 130 (.pointer none) [.pointer none] := ⟨by kernel_rfl, rfl⟩
instance : Row Try.prog 130 1 8 := Row.of (n := 0) (by kernel_rfl)
instance : Und Try.prog 131 (.int .i32) := ⟨by kernel_rfl⟩
instance : Siz Try.prog 131 1 := ⟨by kernel_rfl⟩
instance : Sgl Try.prog 131 := ⟨_, Und.out, rfl⟩
instance : Zer Try.prog 131 (.int .i32 (0)) [.int .i32 (0)] := ⟨by kernel_rfl, rfl⟩
instance : Row Try.prog 131 1 4 := Row.of (n := 0) (by kernel_rfl)
instance : Und Try.prog 132 (.int .i32) := ⟨by kernel_rfl⟩
instance : Siz Try.prog 132 1 := ⟨by kernel_rfl⟩
instance : Sgl Try.prog 132 := ⟨_, Und.out, rfl⟩
instance : Zer Try.prog 132 (.int .i32 (0)) [.int .i32 (0)] := ⟨by kernel_rfl, rfl⟩
instance : Row Try.prog 132 1 4 := Row.of (n := 0) (by kernel_rfl)
instance : Und Try.prog 133 (.struct (Try.prog.fieldsOf 133)) := ⟨by kernel_rfl⟩
instance : Siz Try.prog 133 11 := ⟨by kernel_rfl⟩
instance : Agl Try.prog 133 := ⟨_, Und.out, rfl⟩
instance : Zer Try.prog 133 (.agg #[.int .u64 (0), .int .u64 (0), .int .u32 (0), .int .u8 (0), .int .u8 (0), .int .u8 (0), .int .u8 (0), .nilFunc, .pointer none, .int .i32 (0), .int .i32 (0)]) [.int .u64 (0), .int .u64 (0), .int .u32 (0), .int .u8 (0), .int .u8 (0), .int .u8 (0), .int .u8 (0), .nilFunc, .pointer none, .int .i32 (0), .int .i32 (0)] := ⟨by kernel_rfl, rfl⟩
instance : Row Try.prog 133 11 48 := Row.of (n := 10) (by kernel_rfl)
instance : Fld Try.prog 133 0 0 := Fld.of (n := 0) (by kernel_rfl)
instance : Fld Try.prog 133 1 1 := Fld.of (n := 0) (by kernel_rfl)
instance : Fld Try.prog 133 2 2 := Fld.of (n := 0) (by kernel_rfl)
instance : Fld Try.prog 133 3 3 := Fld.of (n := 0) (by kernel_rfl)
instance : Fld Try.prog 133 4 4 := Fld.of (n := 0) (by kernel_rfl)
instance : Fld Try.prog 133 5 5 := Fld.of (n := 0) (by kernel_rfl)
instance : Fld Try.prog 133 6 6 := Fld.of (n := 0) (by kernel_rfl)
instance : Fld Try.prog 133 7 7 := Fld.of (n := 0) (by kernel_rfl)
instance : Fld Try.prog 133 8 8 := Fld.of (n := 0) (by kernel_rfl)
instance : Fld Try.prog 133 9 9 := Fld.of (n := 0) (by kernel_rfl)
instance : Fld Try.prog 133 10 10 := Fld.of (n := 0) (by kernel_rfl)
instance : Bld Try.prog 133 [(0, 1), (1, 1), (2, 1), (3, 1), (4, 1), (5, 1), (6, 1), (7, 1), (8, 1), (9, 1), (10, 1)] := Bld.of (fs := Try.prog.fieldsOf 133) (by kernel_rfl) (fun w => by kernel_rfl)
instance : Und Try.prog 134 (.struct (Try.prog.fieldsOf 134)) := ⟨by kernel_rfl⟩
instance : Siz Try.prog 134 11 := ⟨by kernel_rfl⟩
instance : Agl Try.prog 134 := ⟨_, Und.out, rfl⟩
instance : Zer Try.prog 134 (.agg #[.int .u64 (0), .int .u64 (0), .int .u32 (0), .int .u8 (0), .int .u8 (0), .int .u8 (0), .int .u8 (0), .nilFunc, .pointer none, .int .i32 (0), .int .i32 (0)]) [.int .u64 (0), .int .u64 (0), .int .u32 (0), .int .u8 (0), .int .u8 (0), .int .u8 (0), .int .u8 (0), .nilFunc, .pointer none, .int .i32 (0), .int .i32 (0)] := ⟨by kernel_rfl, rfl⟩
instance : Row Try.prog 134 11 48 := Row.of (n := 10) (by kernel_rfl)
instance : Fld Try.prog 134 0 0 := Fld.of (n := 0) (by kernel_rfl)
instance : Fld Try.prog 134 1 1 := Fld.of (n := 0) (by kernel_rfl)
instance : Fld Try.prog 134 2 2 := Fld.of (n := 0) (by kernel_rfl)
instance : Fld Try.prog 134 3 3 := Fld.of (n := 0) (by kernel_rfl)
instance : Fld Try.prog 134 4 4 := Fld.of (n := 0) (by kernel_rfl)
instance : Fld Try.prog 134 5 5 := Fld.of (n := 0) (by kernel_rfl)
instance : Fld Try.prog 134 6 6 := Fld.of (n := 0) (by kernel_rfl)
instance : Fld Try.prog 134 7 7 := Fld.of (n := 0) (by kernel_rfl)
instance : Fld Try.prog 134 8 8 := Fld.of (n := 0) (by kernel_rfl)
instance : Fld Try.prog 134 9 9 := Fld.of (n := 0) (by kernel_rfl)
instance : Fld Try.prog 134 10 10 := Fld.of (n := 0) (by kernel_rfl)
instance : Bld Try.prog 134 [(0, 1), (1, 1), (2, 1), (3, 1), (4, 1), (5, 1), (6, 1), (7, 1), (8, 1), (9, 1), (10, 1)] := Bld.of (fs := Try.prog.fieldsOf 134) (by kernel_rfl) (fun w => by kernel_rfl)
instance : Und Try.prog 135 (.func #[94, 3] #[23] false) := ⟨by kernel_rfl⟩
instance : Siz Try.prog 135 1 := ⟨by kernel_rfl⟩
instance : Sgl Try.prog 135 := ⟨_, Und.out, rfl⟩
instance : Zer Try.prog 135 (.nilFunc) [.nilFunc] := ⟨by kernel_rfl, rfl⟩
instance : Row Try.prog 135 1 8 := Row.of (n := 0) (by kernel_rfl)
instance : Fun Try.prog 2 := ⟨_, Try.func2, by kernel_rfl, rfl⟩
instance : Fun Try.prog 3 := ⟨_, Try.func3, by kernel_rfl, rfl⟩
instance : Fun Try.prog 4 := ⟨_, Try.func4, by kernel_rfl, rfl⟩
instance : Fun Try.prog 5 := ⟨_, Try.func5, by kernel_rfl, rfl⟩
instance : Fun Try.prog 6 := ⟨_, Try.func6, by kernel_rfl, rfl⟩
instance : Fun Try.prog 7 := ⟨_, Try.func7, by kernel_rfl, rfl⟩
instance : Fun Try.prog 8 := ⟨_, Try.func8, by kernel_rfl, rfl⟩
instance : Fun Try.prog 9 := ⟨_, Try.func9, by kernel_rfl, rfl⟩
instance : Fun Try.prog 10 := ⟨_, Try.func10, by kernel_rfl, rfl⟩
instance : Fun Try.prog 11 := ⟨_, Try.func11, by kernel_rfl, rfl⟩
instance : Fun Try.prog 12 := ⟨_, Try.func12, by kernel_rfl, rfl⟩
instance : Fun Try.prog 13 := ⟨_, Try.func13, by kernel_rfl, rfl⟩
instance : Fun Try.prog 14 := ⟨_, Try.func14, by kernel_rfl, rfl⟩
instance : Fun Try.prog 15 := ⟨_, Try.func15, by kernel_rfl, rfl⟩
instance : Fun Try.prog 16 := ⟨_, Try.func16, by kernel_rfl, rfl⟩
instance : Fun Try.prog 17 := ⟨_, Try.func17, by kernel_rfl, rfl⟩
instance : Fun Try.prog 18 := ⟨_, Try.func18, by kernel_rfl, rfl⟩
instance : Fun Try.prog 19 := ⟨_, Try.func19, by kernel_rfl, rfl⟩
instance : Fun Try.prog 20 := ⟨_, Try.func20, by kernel_rfl, rfl⟩
instance : Fun Try.prog 21 := ⟨_, Try.func21, by kernel_rfl, rfl⟩
instance : Fun Try.prog 22 := ⟨_, Try.func22, by kernel_rfl, rfl⟩
instance : Fun Try.prog 23 := ⟨_, Try.func23, by kernel_rfl, rfl⟩
instance : Fun Try.prog 24 := ⟨_, Try.func24, by kernel_rfl, rfl⟩
instance : Fun Try.prog 25 := ⟨_, Try.func25, by kernel_rfl, rfl⟩
instance : Fun Try.prog 26 := ⟨_, Try.func26, by kernel_rfl, rfl⟩
instance : Fun Try.prog 27 := ⟨_, Try.func27, by kernel_rfl, rfl⟩
instance : Fun Try.prog 28 := ⟨_, Try.func28, by kernel_rfl, rfl⟩
instance : Fun Try.prog 29 := ⟨_, Try.func29, by kernel_rfl, rfl⟩
instance : Fun Try.prog 30 := ⟨_, Try.func30, by kernel_rfl, rfl⟩
instance : Fun Try.prog 31 := ⟨_, Try.func31, by kernel_rfl, rfl⟩
instance : Fun Try.prog 32 := ⟨_, Try.func32, by kernel_rfl, rfl⟩
instance : Fun Try.prog 33 := ⟨_, Try.func33, by kernel_rfl, rfl⟩
instance : Fun Try.prog 34 := ⟨_, Try.func34, by kernel_rfl, rfl⟩
instance : Fun Try.prog 35 := ⟨_, Try.func35, by kernel_rfl, rfl⟩
instance : Fun Try.prog 36 := ⟨_, Try.func36, by kernel_rfl, rfl⟩
instance : Fun Try.prog 37 := ⟨_, Try.func37, by kernel_rfl, rfl⟩
instance : Fun Try.prog 38 := ⟨_, Try.func38, by kernel_rfl, rfl⟩
instance : Fun Try.prog 39 := ⟨_, Try.func39, by kernel_rfl, rfl⟩
instance : Fun Try.prog 40 := ⟨_, Try.func40, by kernel_rfl, rfl⟩
instance : Fun Try.prog 41 := ⟨_, Try.func41, by kernel_rfl, rfl⟩
instance : Fun Try.prog 42 := ⟨_, Try.func42, by kernel_rfl, rfl⟩
instance : Fun Try.prog 43 := ⟨_, Try.func43, by kernel_rfl, rfl⟩
instance : Fun Try.prog 44 := ⟨_, Try.func44, by kernel_rfl, rfl⟩
instance : Fun Try.prog 45 := ⟨_, Try.func45, by kernel_rfl, rfl⟩
instance : Fun Try.prog 46 := ⟨_, Try.func46, by kernel_rfl, rfl⟩
instance : Fun Try.prog 47 := ⟨_, Try.func47, by kernel_rfl, rfl⟩
instance : Fun Try.prog 48 := ⟨_, Try.func48, by kernel_rfl, rfl⟩
instance : Fun Try.prog 49 := ⟨_, Try.func49, by kernel_rfl, rfl⟩
instance : Fun Try.prog 50 := ⟨_, Try.func50, by kernel_rfl, rfl⟩
instance : Fun Try.prog 51 := ⟨_, Try.func51, by kernel_rfl, rfl⟩
instance : Fun Try.prog 52 := ⟨_, Try.func52, by kernel_rfl, rfl⟩
instance : Fun Try.prog 53 := ⟨_, Try.func53, by kernel_rfl, rfl⟩
instance : Fun Try.prog 54 := ⟨_, Try.func54, by kernel_rfl, rfl⟩
instance : Fun Try.prog 55 := ⟨_, Try.func55, by kernel_rfl, rfl⟩
instance : Fun Try.prog 56 := ⟨_, Try.func56, by kernel_rfl, rfl⟩
instance : Fun Try.prog 57 := ⟨_, Try.func57, by kernel_rfl, rfl⟩
instance : Fun Try.prog 58 := ⟨_, Try.func58, by kernel_rfl, rfl⟩
instance : Fun Try.prog 59 := ⟨_, Try.func59, by kernel_rfl, rfl⟩
instance : Fun Try.prog 60 := ⟨_, Try.func60, by kernel_rfl, rfl⟩
instance : Fun Try.prog 61 := ⟨_, Try.func61, by kernel_rfl, rfl⟩
instance : Fun Try.prog 62 := ⟨_, Try.func62, by kernel_rfl, rfl⟩
instance : Fun Try.prog 63 := ⟨_, Try.func63, by kernel_rfl, rfl⟩
instance : Fun Try.prog 64 := ⟨_, Try.func64, by kernel_rfl, rfl⟩
instance : Fun Try.prog 65 := ⟨_, Try.func65, by kernel_rfl, rfl⟩
instance : Fun Try.prog 66 := ⟨_, Try.func66, by kernel_rfl, rfl⟩
instance : Fun Try.prog 67 := ⟨_, Try.func67, by kernel_rfl, rfl⟩
instance : Fun Try.prog 68 := ⟨_, Try.func68, by kernel_rfl, rfl⟩
instance : Fun Try.prog 69 := ⟨_, Try.func69, by kernel_rfl, rfl⟩
instance : Fun Try.prog 70 := ⟨_, Try.func70, by kernel_rfl, rfl⟩
instance : Fun Try.prog 71 := ⟨_, Try.func71, by kernel_rfl, rfl⟩
instance : Fun Try.prog 72 := ⟨_, Try.func72, by kernel_rfl, rfl⟩
instance : Fun Try.prog 73 := ⟨_, Try.func73, by kernel_rfl, rfl⟩
instance : Fun Try.prog 74 := ⟨_, Try.func74, by kernel_rfl, rfl⟩
instance : Fun Try.prog 75 := ⟨_, Try.func75, by kernel_rfl, rfl⟩
instance : Fun Try.prog 76 := ⟨_, Try.func76, by kernel_rfl, rfl⟩
instance : Fun Try.prog 77 := ⟨_, Try.func77, by kernel_rfl, rfl⟩
instance : Fun Try.prog 78 := ⟨_, Try.func78, by kernel_rfl, rfl⟩
instance : Fun Try.prog 79 := ⟨_, Try.func79, by kernel_rfl, rfl⟩
instance : Fun Try.prog 80 := ⟨_, Try.func80, by kernel_rfl, rfl⟩
instance : Fun Try.prog 81 := ⟨_, Try.func81, by kernel_rfl, rfl⟩
instance : Fun Try.prog 82 := ⟨_, Try.func82, by kernel_rfl, rfl⟩
instance : Fun Try.prog 83 := ⟨_, Try.func83, by kernel_rfl, rfl⟩
instance : Fun Try.prog 84 := ⟨_, Try.func84, by kernel_rfl, rfl⟩
instance : Fun Try.prog 85 := ⟨_, Try.func85, by kernel_rfl, rfl⟩
instance : Fun Try.prog 86 := ⟨_, Try.func86, by kernel_rfl, rfl⟩
instance : Fun Try.prog 87 := ⟨_, Try.func87, by kernel_rfl, rfl⟩
instance : Fun Try.prog 88 := ⟨_, Try.func88, by kernel_rfl, rfl⟩
instance : Fun Try.prog 89 := ⟨_, Try.func89, by kernel_rfl, rfl⟩
instance : Fun Try.prog 90 := ⟨_, Try.func90, by kernel_rfl, rfl⟩
instance : Fun Try.prog 106 := ⟨_, Try.func106, by kernel_rfl, rfl⟩
instance : Fun Try.prog 107 := ⟨_, Try.func107, by kernel_rfl, rfl⟩
instance : Fun Try.prog 108 := ⟨_, Try.func108, by kernel_rfl, rfl⟩
instance : Fun Try.prog 109 := ⟨_, Try.func109, by kernel_rfl, rfl⟩
end Go.Proofs.Ytakmpnmmcjnecaa
