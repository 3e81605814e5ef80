import Derived.Test.YtbcaelhchmoigaaProg
import Derived.Test.YtbcaelhchmoigaaSepX
import Derived.KernelRfl
set_option maxRecDepth 100000
namespace Go.Proofs.Ytbcaelhchmoigaa
open Go.Proofs.Ytbcaelhchmoigaa.SL
instance : Und Try.prog 2 (.int .i64) := ⟨by kernel_rfl⟩
instance : Siz Try.prog 2 1 := ⟨by kernel_rfl⟩
instance : Sgl Try.prog 2 := ⟨_, Und.out, rfl⟩
instance : Und Try.prog 3 (.int .i64) := ⟨by kernel_rfl⟩
instance : Siz Try.prog 3 1 := ⟨by kernel_rfl⟩
instance : Sgl Try.prog 3 := ⟨_, Und.out, rfl⟩
instance : Zer Try.prog 3 (.int .i64 (0)) [.int .i64 (0)] := ⟨by kernel_rfl, rfl⟩
instance : Row Try.prog 3 1 8 := Row.of (n := 0) (by kernel_rfl)
instance : Und Try.prog 4 (.bool) := ⟨by kernel_rfl⟩
instance : Siz Try.prog 4 1 := ⟨by kernel_rfl⟩
instance : Und Try.prog 5 (.int .u8) := ⟨by kernel_rfl⟩
instance : Und Try.prog 9 (.string) := ⟨by kernel_rfl⟩
instance : Siz Try.prog 9 1 := ⟨by kernel_rfl⟩
instance : Zer Try.prog 9 (.string ⟨#[]⟩) [.string ⟨#[]⟩] := ⟨by kernel_rfl, rfl⟩
instance : Und Try.prog 22 (.slice 37) := ⟨by kernel_rfl⟩
instance : Siz Try.prog 22 1 := ⟨by kernel_rfl⟩
instance : Zer Try.prog 22 (.slice none 0 0) [.slice none 0 0] := ⟨by kernel_rfl, rfl⟩
instance : Und Try.prog 24 (.int .i64) := ⟨by kernel_rfl⟩
instance : Siz Try.prog 24 1 := ⟨by kernel_rfl⟩
instance : Zer Try.prog 24 (.int .i64 (0)) [.int .i64 (0)] := ⟨by kernel_rfl, rfl⟩
instance : Und Try.prog 27 (.slice 3) := ⟨by kernel_rfl⟩
instance : Siz Try.prog 27 1 := ⟨by kernel_rfl⟩
instance : Zer Try.prog 27 (.slice none 0 0) [.slice none 0 0] := ⟨by kernel_rfl, rfl⟩
instance : Und Try.prog 33 (.struct (Try.prog.fieldsOf 33)) := ⟨by kernel_rfl⟩
instance : Siz Try.prog 33 4 := ⟨by kernel_rfl⟩
instance : Zer Try.prog 33 (.agg #[.int .i64 (0), .int .i64 (0), .int .i64 (0), .int .i64 (0)]) [.int .i64 (0), .int .i64 (0), .int .i64 (0), .int .i64 (0)] := ⟨by kernel_rfl, rfl⟩
instance : EqT Try.prog 33 [.int .i64, .int .i64, .int .i64, .int .i64] := EqT.of (fs := Try.prog.fieldsOf 33) (by kernel_rfl) (by kernel_rfl) (by kernel_rfl)
instance : Fld Try.prog 33 0 0 := Fld.of (n := 0) (by kernel_rfl)
instance : Fld Try.prog 33 1 1 := Fld.of (n := 0) (by kernel_rfl)
instance : Fld Try.prog 33 2 2 := Fld.of (n := 0) (by kernel_rfl)
instance : Fld Try.prog 33 3 3 := Fld.of (n := 0) (by kernel_rfl)
instance : Bld Try.prog 33 [(0, 1), (1, 1), (2, 1), (3, 1)] := Bld.of (fs := Try.prog.fieldsOf 33) (by kernel_rfl) (fun w => by kernel_rfl)
instance : Und Try.prog 35 (.struct (Try.prog.fieldsOf 35)) := ⟨by kernel_rfl⟩
instance : Siz Try.prog 35 9 := ⟨by kernel_rfl⟩
instance : Agl Try.prog 35 := ⟨_, Und.out, rfl⟩
instance : Zer Try.prog 35 (.agg #[.int .i64 (0), .int .i64 (0), .int .i64 (0), .int .i64 (0), .int .i64 (0), .int .i64 (0), .int .i64 (0), .int .i64 (0), .int .i64 (0)]) [.int .i64 (0), .int .i64 (0), .int .i64 (0), .int .i64 (0), .int .i64 (0), .int .i64 (0), .int .i64 (0), .int .i64 (0), .int .i64 (0)] := ⟨by kernel_rfl, rfl⟩
instance : Row Try.prog 35 9 72 := Row.of (n := 8) (by kernel_rfl)
instance : EqT Try.prog 35 [.int .i64, .int .i64, .int .i64, .int .i64, .int .i64, .int .i64, .int .i64, .int .i64, .int .i64] := EqT.of (fs := Try.prog.fieldsOf 35) (by kernel_rfl) (by kernel_rfl) (by kernel_rfl)
instance : Fld Try.prog 35 0 0 := Fld.of (n := 0) (by kernel_rfl)
instance : Fld Try.prog 35 1 1 := Fld.of (n := 0) (by kernel_rfl)
instance : Fld Try.prog 35 2 2 := Fld.of (n := 0) (by kernel_rfl)
instance : Fld Try.prog 35 3 3 := Fld.of (n := 0) (by kernel_rfl)
instance : Fld Try.prog 35 4 4 := Fld.of (n := 3) (by kernel_rfl)
instance : Fld Try.prog 35 5 8 := Fld.of (n := 0) (by kernel_rfl)
instance : Bld Try.prog 35 [(0, 1), (1, 1), (2, 1), (3, 1), (4, 4), (8, 1)] := Bld.of (fs := Try.prog.fieldsOf 35) (by kernel_rfl) (fun w => by kernel_rfl)
instance : Und Try.prog 37 (.struct (Try.prog.fieldsOf 37)) := ⟨by kernel_rfl⟩
instance : Siz Try.prog 37 11 := ⟨by kernel_rfl⟩
instance : Agl Try.prog 37 := ⟨_, Und.out, rfl⟩
instance : Zer Try.prog 37 (.agg #[.int .i64 (0), .int .i64 (0), .int .i64 (0), .int .i64 (0), .int .i64 (0), .int .i64 (0), .int .i64 (0), .int .i64 (0), .int .i64 (0), .int .i64 (0), .int .i64 (0)]) [.int .i64 (0), .int .i64 (0), .int .i64 (0), .int .i64 (0), .int .i64 (0), .int .i64 (0), .int .i64 (0), .int .i64 (0), .int .i64 (0), .int .i64 (0), .int .i64 (0)] := ⟨by kernel_rfl, rfl⟩
instance : Row Try.prog 37 11 88 := Row.of (n := 10) (by kernel_rfl)
instance : EqT Try.prog 37 [.int .i64, .int .i64, .int .i64, .int .i64, .int .i64, .int .i64, .int .i64, .int .i64, .int .i64, .int .i64, .int .i64] := EqT.of (fs := Try.prog.fieldsOf 37) (by kernel_rfl) (by kernel_rfl) (by kernel_rfl)
instance : Fld Try.prog 37 0 0 := Fld.of (n := 0) (by kernel_rfl)
instance : Fld Try.prog 37 1 1 := Fld.of (n := 8) (by kernel_rfl)
instance : Fld Try.prog 37 2 10 := Fld.of (n := 0) (by kernel_rfl)
instance : Bld Try.prog 37 [(0, 1), (1, 9), (10, 1)] := Bld.of (fs := Try.prog.fieldsOf 37) (by kernel_rfl) (fun w => by kernel_rfl)
instance : Und Try.prog 51 (.slice 35) := ⟨by kernel_rfl⟩
instance : Siz Try.prog 51 1 := ⟨by kernel_rfl⟩
instance : Zer Try.prog 51 (.slice none 0 0) [.slice none 0 0] := ⟨by kernel_rfl, rfl⟩
instance : Und Try.prog 54 (.map 3 3) := ⟨by kernel_rfl⟩
instance : Siz Try.prog 54 1 := ⟨by kernel_rfl⟩
instance : Zer Try.prog 54 (.map none) [.map none] := ⟨by kernel_rfl, rfl⟩
instance : Und Try.prog 59 (.slice 5) := ⟨by kernel_rfl⟩
instance : Siz Try.prog 59 1 := ⟨by kernel_rfl⟩
instance : Zer Try.prog 59 (.slice none 0 0) [.slice none 0 0] := ⟨by kernel_rfl, rfl⟩
instance : Zer Try.prog 63 (.agg #[.string ⟨#[]⟩, .int .i64 (0), .bool false]) [.string ⟨#[]⟩, .int .i64 (0), .bool false] := ⟨by kernel_rfl, rfl⟩
instance : Fld Try.prog 63 0 0 := Fld.of (n := 0) (by kernel_rfl)
instance : Fld Try.prog 63 1 1 := Fld.of (n := 0) (by kernel_rfl)
instance : Fld Try.prog 63 2 2 := Fld.of (n := 0) (by kernel_rfl)
instance : Bld Try.prog 63 [(0, 1), (1, 1), (2, 1)] := Bld.of (fs := Try.prog.fieldsOf 63) (by kernel_rfl) (fun w => by kernel_rfl)
instance : Und Try.prog 69 (.func #[3, 35] #[3] false) := ⟨by kernel_rfl⟩
instance : Siz Try.prog 69 1 := ⟨by kernel_rfl⟩
instance : Zer Try.prog 69 (.nilFunc) [.nilFunc] := ⟨by kernel_rfl, rfl⟩
instance : Und Try.prog 74 (.func #[3] #[] false) := ⟨by kernel_rfl⟩
instance : Siz Try.prog 74 1 := ⟨by kernel_rfl⟩
instance : Zer Try.prog 74 (.nilFunc) [.nilFunc] := ⟨by kernel_rfl, rfl⟩
instance : Und Try.prog 101 (.int .u64) := ⟨by kernel_rfl⟩
instance : Und Try.prog 102 (.int .u64) := ⟨by kernel_rfl⟩
instance : Zer Try.prog 112 (.agg #[.string ⟨#[]⟩, .int .i64 (0), .bool false]) [.string ⟨#[]⟩, .int .i64 (0), .bool false] := ⟨by kernel_rfl, rfl⟩
instance : Fld Try.prog 112 0 0 := Fld.of (n := 0) (by kernel_rfl)
instance : Fld Try.prog 112 1 1 := Fld.of (n := 0) (by kernel_rfl)
instance : Fld Try.prog 112 2 2 := Fld.of (n := 0) (by kernel_rfl)
instance : Bld Try.prog 112 [(0, 1), (1, 1), (2, 1)] := Bld.of (fs := Try.prog.fieldsOf 112) (by kernel_rfl) (fun w => by kernel_rfl)
instance : Und Try.prog 129 (.int .i64) := ⟨by kernel_rfl⟩
instance : Zer Try.prog 129 (.int .i64 (0)) [.int .i64 (0)] := ⟨by kernel_rfl, rfl⟩
instance : Und Try.prog 131 (.struct (Try.prog.fieldsOf 131)) := ⟨by kernel_rfl⟩
instance : Zer Try.prog 131 (.agg #[.int .i64 (0), .bool false]) [.int .i64 (0), .bool false] := ⟨by kernel_rfl, rfl⟩
instance : Siz Try.prog 132 2 := ⟨by kernel_rfl⟩
instance : Zer Try.prog 132 (.agg #[.int .i64 (0), .int .i64 (0)]) [.int .i64 (0), .int .i64 (0)] := ⟨by kernel_rfl, rfl⟩
instance : Fld Try.prog 132 0 0 := Fld.of (n := 0) (by kernel_rfl)
instance : Fld Try.prog 132 1 1 := Fld.of (n := 0) (by kernel_rfl)
instance : Zer Try.prog 136 (.agg #[.int .i64 (0), .int .i64 (0)]) [.int .i64 (0), .int .i64 (0)] := ⟨by kernel_rfl, rfl⟩
instance : Bld Try.prog 136 [(0, 1), (1, 1)] := Bld.of (fs := Try.prog.fieldsOf 136) (by kernel_rfl) (fun w => by kernel_rfl)
instance : Fun Try.prog 9 := ⟨_, Try.func9, by kernel_rfl, rfl⟩
instance : Fun Try.prog 10 := ⟨_, Try.func10, by kernel_rfl, rfl⟩
instance : Fun Try.prog 11 := ⟨_, Try.func11, by kernel_rfl, rfl⟩
instance : Fun Try.prog 12 := ⟨_, Try.func12, by kernel_rfl, rfl⟩
instance : Fun Try.prog 13 := ⟨_, Try.func13, by kernel_rfl, rfl⟩
instance : Fun Try.prog 14 := ⟨_, Try.func14, by kernel_rfl, rfl⟩
instance : Fun Try.prog 17 := ⟨_, Try.func17, by kernel_rfl, rfl⟩
instance : Fun Try.prog 19 := ⟨_, Try.func19, by kernel_rfl, rfl⟩
instance : Fun Try.prog 20 := ⟨_, Try.func20, by kernel_rfl, rfl⟩
instance : Fun Try.prog 21 := ⟨_, Try.func21, by kernel_rfl, rfl⟩
instance : Fun Try.prog 22 := ⟨_, Try.func22, by kernel_rfl, rfl⟩
instance : Fun Try.prog 23 := ⟨_, Try.func23, by kernel_rfl, rfl⟩
instance : Fun Try.prog 24 := ⟨_, Try.func24, by kernel_rfl, rfl⟩
instance : Fun Try.prog 26 := ⟨_, Try.func26, by kernel_rfl, rfl⟩
instance : Fun Try.prog 27 := ⟨_, Try.func27, by kernel_rfl, rfl⟩
instance : Fun Try.prog 28 := ⟨_, Try.func28, by kernel_rfl, rfl⟩
instance : Fun Try.prog 29 := ⟨_, Try.func29, by kernel_rfl, rfl⟩
instance : Fun Try.prog 30 := ⟨_, Try.func30, by kernel_rfl, rfl⟩
instance : Fun Try.prog 31 := ⟨_, Try.func31, by kernel_rfl, rfl⟩
instance : Fun Try.prog 32 := ⟨_, Try.func32, by kernel_rfl, rfl⟩
instance : Fun Try.prog 33 := ⟨_, Try.func33, by kernel_rfl, rfl⟩
instance : Fun Try.prog 34 := ⟨_, Try.func34, by kernel_rfl, rfl⟩
instance : Fun Try.prog 35 := ⟨_, Try.func35, by kernel_rfl, rfl⟩
instance : Fun Try.prog 36 := ⟨_, Try.func36, by kernel_rfl, rfl⟩
instance : Fun Try.prog 37 := ⟨_, Try.func37, by kernel_rfl, rfl⟩
instance : Fun Try.prog 38 := ⟨_, Try.func38, by kernel_rfl, rfl⟩
instance : Fun Try.prog 39 := ⟨_, Try.func39, by kernel_rfl, rfl⟩
instance : Fun Try.prog 40 := ⟨_, Try.func40, by kernel_rfl, rfl⟩
instance : Fun Try.prog 41 := ⟨_, Try.func41, by kernel_rfl, rfl⟩
instance : Fun Try.prog 42 := ⟨_, Try.func42, by kernel_rfl, rfl⟩
instance : Fun Try.prog 44 := ⟨_, Try.func44, by kernel_rfl, rfl⟩
instance : Fun Try.prog 45 := ⟨_, Try.func45, by kernel_rfl, rfl⟩
instance : Fun Try.prog 46 := ⟨_, Try.func46, by kernel_rfl, rfl⟩
instance : Fun Try.prog 48 := ⟨_, Try.func48, by kernel_rfl, rfl⟩
instance : Fun Try.prog 49 := ⟨_, Try.func49, by kernel_rfl, rfl⟩
instance : Fun Try.prog 50 := ⟨_, Try.func50, by kernel_rfl, rfl⟩
instance : Fun Try.prog 51 := ⟨_, Try.func51, by kernel_rfl, rfl⟩
instance : Fun Try.prog 52 := ⟨_, Try.func52, by kernel_rfl, rfl⟩
instance : Fun Try.prog 53 := ⟨_, Try.func53, by kernel_rfl, rfl⟩
instance : Fun Try.prog 54 := ⟨_, Try.func54, by kernel_rfl, rfl⟩
instance : Fun Try.prog 55 := ⟨_, Try.func55, by kernel_rfl, rfl⟩
instance : Fun Try.prog 74 := ⟨_, Try.func74, by kernel_rfl, rfl⟩
instance : Fun Try.prog 75 := ⟨_, Try.func75, by kernel_rfl, rfl⟩
instance : Fun Try.prog 82 := ⟨_, Try.func82, by kernel_rfl, rfl⟩
instance : Fun Try.prog 92 := ⟨_, Try.func92, by kernel_rfl, rfl⟩
instance : Fun Try.prog 93 := ⟨_, Try.func93, by kernel_rfl, rfl⟩
instance : Fun Try.prog 94 := ⟨_, Try.func94, by kernel_rfl, rfl⟩
instance : Fun Try.prog 95 := ⟨_, Try.func95, by kernel_rfl, rfl⟩
instance : Fun Try.prog 96 := ⟨_, Try.func96, by kernel_rfl, rfl⟩
instance : Fun Try.prog 97 := ⟨_, Try.func97, by kernel_rfl, rfl⟩
instance : Fun Try.prog 100 := ⟨_, Try.func100, by kernel_rfl, rfl⟩
instance : Fun Try.prog 101 := ⟨_, Try.func101, by kernel_rfl, rfl⟩
instance : Fun Try.prog 117 := ⟨_, Try.func117, by kernel_rfl, rfl⟩
instance : Fun Try.prog 118 := ⟨_, Try.func118, by kernel_rfl, rfl⟩
instance : Fun Try.prog 120 := ⟨_, Try.func120, by kernel_rfl, rfl⟩
end Go.Proofs.Ytbcaelhchmoigaa
