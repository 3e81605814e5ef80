/- What the program's types and functions are, told to the separation logic's rules. Each by the kernel. -/
import Derived.Test.YtakmpnmmcjnecaaProg
import Derived.Test.YtakmpnmmcjnecaaSepX
import Derived.KernelRfl
set_option maxRecDepth 100000
namespace Go.Proofs.Ytakmpnmmcjnecaa
open Go.Proofs.Ytakmpnmmcjnecaa.SL
instance : Und Try.prog 2 (.int .i64) := ⟨by kernel_rfl⟩
instance : Siz Try.prog 2 1 := ⟨by kernel_rfl⟩
instance : Und Try.prog 3 (.int .i64) := ⟨by kernel_rfl⟩
instance : Siz Try.prog 3 1 := ⟨by kernel_rfl⟩
instance : Sgl Try.prog 3 := ⟨_, Und.out, rfl⟩
instance : Zer Try.prog 3 (.int .i64 (0)) [.int .i64 (0)] := ⟨by kernel_rfl, rfl⟩
instance : Row Try.prog 3 1 8 := Row.of (n := 0) (by kernel_rfl)
instance : Und Try.prog 4 (.bool) := ⟨by kernel_rfl⟩
instance : Siz Try.prog 4 1 := ⟨by kernel_rfl⟩
instance : Zer Try.prog 4 (.bool false) [.bool false] := ⟨by kernel_rfl, rfl⟩
instance : Und Try.prog 5 (.int .u8) := ⟨by kernel_rfl⟩
instance : Und Try.prog 9 (.string) := ⟨by kernel_rfl⟩
instance : Und Try.prog 23 (.struct (Try.prog.fieldsOf 23)) := ⟨by kernel_rfl⟩
instance : Siz Try.prog 23 4 := ⟨by kernel_rfl⟩
instance : Zer Try.prog 23 (.agg #[.int .i64 (0), .int .i64 (0), .int .i64 (0), .int .i64 (0)]) [.int .i64 (0), .int .i64 (0), .int .i64 (0), .int .i64 (0)] := ⟨by kernel_rfl, rfl⟩
instance : Fld Try.prog 23 0 0 := Fld.of (n := 0) (by kernel_rfl)
instance : Fld Try.prog 23 1 1 := Fld.of (n := 0) (by kernel_rfl)
instance : Fld Try.prog 23 2 2 := Fld.of (n := 0) (by kernel_rfl)
instance : Fld Try.prog 23 3 3 := Fld.of (n := 0) (by kernel_rfl)
instance : Bld Try.prog 23 [(0, 1), (1, 1), (2, 1), (3, 1)] := Bld.of (fs := Try.prog.fieldsOf 23) (by kernel_rfl) (fun w => by kernel_rfl)
instance : Und Try.prog 25 (.struct (Try.prog.fieldsOf 25)) := ⟨by kernel_rfl⟩
instance : Siz Try.prog 25 9 := ⟨by kernel_rfl⟩
instance : Agl Try.prog 25 := ⟨_, Und.out, rfl⟩
instance : Zer Try.prog 25 (.agg #[.int .i64 (0), .int .i64 (0), .int .i64 (0), .int .i64 (0), .int .i64 (0), .int .i64 (0), .int .i64 (0), .int .i64 (0), .int .i64 (0)]) [.int .i64 (0), .int .i64 (0), .int .i64 (0), .int .i64 (0), .int .i64 (0), .int .i64 (0), .int .i64 (0), .int .i64 (0), .int .i64 (0)] := ⟨by kernel_rfl, rfl⟩
instance : Row Try.prog 25 9 72 := Row.of (n := 8) (by kernel_rfl)
instance : EqT Try.prog 25 [.int .i64, .int .i64, .int .i64, .int .i64, .int .i64, .int .i64, .int .i64, .int .i64, .int .i64] := EqT.of (fs := Try.prog.fieldsOf 25) (by kernel_rfl) (by kernel_rfl) (by kernel_rfl)
instance : Fld Try.prog 25 0 0 := Fld.of (n := 0) (by kernel_rfl)
instance : Fld Try.prog 25 1 1 := Fld.of (n := 0) (by kernel_rfl)
instance : Fld Try.prog 25 2 2 := Fld.of (n := 0) (by kernel_rfl)
instance : Fld Try.prog 25 5 8 := Fld.of (n := 0) (by kernel_rfl)
instance : Bld Try.prog 25 [(0, 1), (1, 1), (2, 1), (3, 1), (4, 4), (8, 1)] := Bld.of (fs := Try.prog.fieldsOf 25) (by kernel_rfl) (fun w => by kernel_rfl)
instance : Und Try.prog 34 (.int .u64) := ⟨by kernel_rfl⟩
instance : Und Try.prog 38 (.slice 25) := ⟨by kernel_rfl⟩
instance : Siz Try.prog 38 1 := ⟨by kernel_rfl⟩
instance : Zer Try.prog 38 (.slice none 0 0) [.slice none 0 0] := ⟨by kernel_rfl, rfl⟩
instance : Und Try.prog 48 (.func #[76] #[] false) := ⟨by kernel_rfl⟩
instance : Und Try.prog 51 (.slice 3) := ⟨by kernel_rfl⟩
instance : Siz Try.prog 51 1 := ⟨by kernel_rfl⟩
instance : Zer Try.prog 51 (.slice none 0 0) [.slice none 0 0] := ⟨by kernel_rfl, rfl⟩
instance : Zer Try.prog 74 (.agg #[.string ⟨#[]⟩, .int .i64 (0), .bool false]) [.string ⟨#[]⟩, .int .i64 (0), .bool false] := ⟨by kernel_rfl, rfl⟩
instance : Fld Try.prog 74 0 0 := Fld.of (n := 0) (by kernel_rfl)
instance : Fld Try.prog 74 1 1 := Fld.of (n := 0) (by kernel_rfl)
instance : Fld Try.prog 74 2 2 := Fld.of (n := 0) (by kernel_rfl)
instance : Bld Try.prog 74 [(0, 1), (1, 1), (2, 1)] := Bld.of (fs := Try.prog.fieldsOf 74) (by kernel_rfl) (fun w => by kernel_rfl)
instance : Zer Try.prog 79 (.agg #[.string ⟨#[]⟩, .int .i64 (0), .bool false]) [.string ⟨#[]⟩, .int .i64 (0), .bool false] := ⟨by kernel_rfl, rfl⟩
instance : Fld Try.prog 79 0 0 := Fld.of (n := 0) (by kernel_rfl)
instance : Fld Try.prog 79 1 1 := Fld.of (n := 0) (by kernel_rfl)
instance : Fld Try.prog 79 2 2 := Fld.of (n := 0) (by kernel_rfl)
instance : Bld Try.prog 79 [(0, 1), (1, 1), (2, 1)] := Bld.of (fs := Try.prog.fieldsOf 79) (by kernel_rfl) (fun w => by kernel_rfl)
instance : Und Try.prog 92 (.map 3 3) := ⟨by kernel_rfl⟩
instance : Und Try.prog 101 (.int .u64) := ⟨by kernel_rfl⟩
instance : Und Try.prog 108 (.int .i64) := ⟨by kernel_rfl⟩
instance : Zer Try.prog 108 (.int .i64 (0)) [.int .i64 (0)] := ⟨by kernel_rfl, rfl⟩
instance : Und Try.prog 110 (.struct (Try.prog.fieldsOf 110)) := ⟨by kernel_rfl⟩
instance : Zer Try.prog 110 (.agg #[.int .i64 (0), .bool false]) [.int .i64 (0), .bool false] := ⟨by kernel_rfl, rfl⟩
instance : Siz Try.prog 111 2 := ⟨by kernel_rfl⟩
instance : Zer Try.prog 111 (.agg #[.int .i64 (0), .int .i64 (0)]) [.int .i64 (0), .int .i64 (0)] := ⟨by kernel_rfl, rfl⟩
instance : Fld Try.prog 111 0 0 := Fld.of (n := 0) (by kernel_rfl)
instance : Fld Try.prog 111 1 1 := Fld.of (n := 0) (by kernel_rfl)
instance : Zer Try.prog 115 (.agg #[.int .i64 (0), .int .i64 (0)]) [.int .i64 (0), .int .i64 (0)] := ⟨by kernel_rfl, rfl⟩
instance : Bld Try.prog 115 [(0, 1), (1, 1)] := Bld.of (fs := Try.prog.fieldsOf 115) (by kernel_rfl) (fun w => by kernel_rfl)
instance : Fun Try.prog 17 := ⟨_, Try.func17, by kernel_rfl, rfl⟩
instance : Fun Try.prog 20 := ⟨_, Try.func20, by kernel_rfl, rfl⟩
instance : Fun Try.prog 21 := ⟨_, Try.func21, by kernel_rfl, rfl⟩
instance : Fun Try.prog 23 := ⟨_, Try.func23, by kernel_rfl, rfl⟩
instance : Fun Try.prog 24 := ⟨_, Try.func24, by kernel_rfl, rfl⟩
instance : Fun Try.prog 25 := ⟨_, Try.func25, by kernel_rfl, rfl⟩
instance : Fun Try.prog 26 := ⟨_, Try.func26, by kernel_rfl, rfl⟩
instance : Fun Try.prog 27 := ⟨_, Try.func27, by kernel_rfl, rfl⟩
instance : Fun Try.prog 29 := ⟨_, Try.func29, by kernel_rfl, rfl⟩
instance : Fun Try.prog 30 := ⟨_, Try.func30, by kernel_rfl, rfl⟩
instance : Fun Try.prog 31 := ⟨_, Try.func31, by kernel_rfl, rfl⟩
instance : Fun Try.prog 32 := ⟨_, Try.func32, by kernel_rfl, rfl⟩
instance : Fun Try.prog 40 := ⟨_, Try.func40, by kernel_rfl, rfl⟩
instance : Fun Try.prog 41 := ⟨_, Try.func41, by kernel_rfl, rfl⟩
instance : Fun Try.prog 42 := ⟨_, Try.func42, by kernel_rfl, rfl⟩
instance : Fun Try.prog 67 := ⟨_, Try.func67, by kernel_rfl, rfl⟩
instance : Fun Try.prog 68 := ⟨_, Try.func68, by kernel_rfl, rfl⟩
instance : Fun Try.prog 69 := ⟨_, Try.func69, by kernel_rfl, rfl⟩
instance : Fun Try.prog 70 := ⟨_, Try.func70, by kernel_rfl, rfl⟩
instance : Fun Try.prog 71 := ⟨_, Try.func71, by kernel_rfl, rfl⟩
instance : Fun Try.prog 72 := ⟨_, Try.func72, by kernel_rfl, rfl⟩
instance : Fun Try.prog 73 := ⟨_, Try.func73, by kernel_rfl, rfl⟩
instance : Fun Try.prog 74 := ⟨_, Try.func74, by kernel_rfl, rfl⟩
instance : Fun Try.prog 75 := ⟨_, Try.func75, by kernel_rfl, rfl⟩
instance : Fun Try.prog 85 := ⟨_, Try.func85, by kernel_rfl, rfl⟩
instance : Fun Try.prog 86 := ⟨_, Try.func86, by kernel_rfl, rfl⟩
instance : Fun Try.prog 87 := ⟨_, Try.func87, by kernel_rfl, rfl⟩
instance : Fun Try.prog 88 := ⟨_, Try.func88, by kernel_rfl, rfl⟩
instance : Fun Try.prog 106 := ⟨_, Try.func106, by kernel_rfl, rfl⟩
instance : Fun Try.prog 107 := ⟨_, Try.func107, by kernel_rfl, rfl⟩
instance : Fun Try.prog 109 := ⟨_, Try.func109, by kernel_rfl, rfl⟩
end Go.Proofs.Ytakmpnmmcjnecaa
