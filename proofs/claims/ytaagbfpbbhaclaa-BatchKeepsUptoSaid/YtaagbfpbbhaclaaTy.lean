/- What the program of the seat tells of its types (written by gen_ty.py). -/
import Derived.Test.YtaagbfpbbhaclaaProg
import Derived.Test.YtaagbfpbbhaclaaAbsTy
set_option linter.unusedSimpArgs false
set_option linter.unusedVariables false
namespace Go.Proofs.Ytaagbfpbbhaclaa
open Go.Abs
instance : Mixed Try.prog := .mk (by kernel_rfl)
theorem ty2 : TI Try.prog 2 ((Go.TypeDesc.int Go.IntKind.i64)) 1 8 (.int .i64 0) := .of Try.underlying2 (by kernel_rfl)
instance : Tc Try.prog 2 ((Go.TypeDesc.int Go.IntKind.i64)) 1 8 (.int .i64 0) := .mk ty2
instance : Uc Try.prog 2 ((Go.TypeDesc.int Go.IntKind.i64)) := .mk Try.underlying2
theorem ty3 : TI Try.prog 3 ((Go.TypeDesc.int Go.IntKind.i64)) 1 8 (.int .i64 0) := .of Try.underlying3 (by kernel_rfl)
instance : Tc Try.prog 3 ((Go.TypeDesc.int Go.IntKind.i64)) 1 8 (.int .i64 0) := .mk ty3
instance : Uc Try.prog 3 ((Go.TypeDesc.int Go.IntKind.i64)) := .mk Try.underlying3
theorem ty4 : TI Try.prog 4 (Go.TypeDesc.bool) 1 1 (.bool false) := .of Try.underlying4 (by kernel_rfl)
instance : Tc Try.prog 4 (Go.TypeDesc.bool) 1 1 (.bool false) := .mk ty4
instance : Uc Try.prog 4 (Go.TypeDesc.bool) := .mk Try.underlying4
theorem ty5 : TI Try.prog 5 ((Go.TypeDesc.int Go.IntKind.u8)) 1 1 (.int .u8 0) := .of Try.underlying5 (by kernel_rfl)
instance : Tc Try.prog 5 ((Go.TypeDesc.int Go.IntKind.u8)) 1 1 (.int .u8 0) := .mk ty5
instance : Uc Try.prog 5 ((Go.TypeDesc.int Go.IntKind.u8)) := .mk Try.underlying5
theorem ty6 : TI Try.prog 6 ((Go.TypeDesc.int Go.IntKind.u8)) 1 1 (.int .u8 0) := .of Try.underlying6 (by kernel_rfl)
instance : Tc Try.prog 6 ((Go.TypeDesc.int Go.IntKind.u8)) 1 1 (.int .u8 0) := .mk ty6
instance : Uc Try.prog 6 ((Go.TypeDesc.int Go.IntKind.u8)) := .mk Try.underlying6
theorem ty9 : TI Try.prog 9 (Go.TypeDesc.string) 1 16 (.string ByteArray.empty) := .of Try.underlying9 (by kernel_rfl)
instance : Tc Try.prog 9 (Go.TypeDesc.string) 1 16 (.string ByteArray.empty) := .mk ty9
instance : Uc Try.prog 9 (Go.TypeDesc.string) := .mk Try.underlying9
theorem ty22 : TI Try.prog 22 ((Go.TypeDesc.slice 51)) 1 24 (.slice none 0 0) := .of Try.underlying22 (by kernel_rfl)
instance : Tc Try.prog 22 ((Go.TypeDesc.slice 51)) 1 24 (.slice none 0 0) := .mk ty22
instance : Uc Try.prog 22 ((Go.TypeDesc.slice 51)) := .mk Try.underlying22
theorem ty23 : TI Try.prog 23 ((Go.TypeDesc.slice 40)) 1 24 (.slice none 0 0) := .of Try.underlying23 (by kernel_rfl)
instance : Tc Try.prog 23 ((Go.TypeDesc.slice 40)) 1 24 (.slice none 0 0) := .mk ty23
instance : Uc Try.prog 23 ((Go.TypeDesc.slice 40)) := .mk Try.underlying23
theorem ty24 : TI Try.prog 24 ((Go.TypeDesc.slice 3)) 1 24 (.slice none 0 0) := .of Try.underlying24 (by kernel_rfl)
instance : Tc Try.prog 24 ((Go.TypeDesc.slice 3)) 1 24 (.slice none 0 0) := .mk ty24
instance : Uc Try.prog 24 ((Go.TypeDesc.slice 3)) := .mk Try.underlying24
theorem ty26 : TI Try.prog 26 ((Go.TypeDesc.struct #[{ name := "Types", type := 22, offset := 0, embedded := false, tag := "", pkgPath := "", byteOffset := 0 }, { name := "N", type := 3, offset := 1, embedded := false, tag := "", pkgPath := "", byteOffset := 24 }, { name := "Columns", type := 23, offset := 2, embedded := false, tag := "", pkgPath := "", byteOffset := 32 }, { name := "Sel", type := 24, offset := 3, embedded := false, tag := "", pkgPath := "", byteOffset := 56 }])) 4 80 (.agg #[.slice none 0 0, .int .i64 0, .slice none 0 0, .slice none 0 0]) := .of Try.underlying26 (by kernel_rfl)
instance : Tc Try.prog 26 ((Go.TypeDesc.struct #[{ name := "Types", type := 22, offset := 0, embedded := false, tag := "", pkgPath := "", byteOffset := 0 }, { name := "N", type := 3, offset := 1, embedded := false, tag := "", pkgPath := "", byteOffset := 24 }, { name := "Columns", type := 23, offset := 2, embedded := false, tag := "", pkgPath := "", byteOffset := 32 }, { name := "Sel", type := 24, offset := 3, embedded := false, tag := "", pkgPath := "", byteOffset := 56 }])) 4 80 (.agg #[.slice none 0 0, .int .i64 0, .slice none 0 0, .slice none 0 0]) := .mk ty26
instance : Uc Try.prog 26 ((Go.TypeDesc.struct #[{ name := "Types", type := 22, offset := 0, embedded := false, tag := "", pkgPath := "", byteOffset := 0 }, { name := "N", type := 3, offset := 1, embedded := false, tag := "", pkgPath := "", byteOffset := 24 }, { name := "Columns", type := 23, offset := 2, embedded := false, tag := "", pkgPath := "", byteOffset := 32 }, { name := "Sel", type := 24, offset := 3, embedded := false, tag := "", pkgPath := "", byteOffset := 56 }])) := .mk Try.underlying26
theorem ty27 : TI Try.prog 27 ((Go.TypeDesc.int Go.IntKind.i64)) 1 8 (.int .i64 0) := .of Try.underlying27 (by kernel_rfl)
instance : Tc Try.prog 27 ((Go.TypeDesc.int Go.IntKind.i64)) 1 8 (.int .i64 0) := .mk ty27
instance : Uc Try.prog 27 ((Go.TypeDesc.int Go.IntKind.i64)) := .mk Try.underlying27
theorem ty39 : TI Try.prog 39 ((Go.TypeDesc.slice 4)) 1 24 (.slice none 0 0) := .of Try.underlying39 (by kernel_rfl)
instance : Tc Try.prog 39 ((Go.TypeDesc.slice 4)) 1 24 (.slice none 0 0) := .mk ty39
instance : Uc Try.prog 39 ((Go.TypeDesc.slice 4)) := .mk Try.underlying39
theorem ty40 : TI Try.prog 40 ((Go.TypeDesc.slice 53)) 1 24 (.slice none 0 0) := .of Try.underlying40 (by kernel_rfl)
instance : Tc Try.prog 40 ((Go.TypeDesc.slice 53)) 1 24 (.slice none 0 0) := .mk ty40
instance : Uc Try.prog 40 ((Go.TypeDesc.slice 53)) := .mk Try.underlying40
theorem ty42 : TI Try.prog 42 ((Go.TypeDesc.slice 5)) 1 24 (.slice none 0 0) := .of Try.underlying42 (by kernel_rfl)
instance : Tc Try.prog 42 ((Go.TypeDesc.slice 5)) 1 24 (.slice none 0 0) := .mk ty42
instance : Uc Try.prog 42 ((Go.TypeDesc.slice 5)) := .mk Try.underlying42
theorem ty44 : TI Try.prog 44 ((Go.TypeDesc.struct #[{ name := "N", type := 3, offset := 0, embedded := false, tag := "", pkgPath := "", byteOffset := 0 }, { name := "B", type := 42, offset := 1, embedded := false, tag := "", pkgPath := "", byteOffset := 8 }])) 2 32 (.agg #[.int .i64 0, .slice none 0 0]) := .of Try.underlying44 (by kernel_rfl)
instance : Tc Try.prog 44 ((Go.TypeDesc.struct #[{ name := "N", type := 3, offset := 0, embedded := false, tag := "", pkgPath := "", byteOffset := 0 }, { name := "B", type := 42, offset := 1, embedded := false, tag := "", pkgPath := "", byteOffset := 8 }])) 2 32 (.agg #[.int .i64 0, .slice none 0 0]) := .mk ty44
instance : Uc Try.prog 44 ((Go.TypeDesc.struct #[{ name := "N", type := 3, offset := 0, embedded := false, tag := "", pkgPath := "", byteOffset := 0 }, { name := "B", type := 42, offset := 1, embedded := false, tag := "", pkgPath := "", byteOffset := 8 }])) := .mk Try.underlying44
theorem ty49 : TI Try.prog 49 ((Go.TypeDesc.slice 26)) 1 24 (.slice none 0 0) := .of Try.underlying49 (by kernel_rfl)
instance : Tc Try.prog 49 ((Go.TypeDesc.slice 26)) 1 24 (.slice none 0 0) := .mk ty49
instance : Uc Try.prog 49 ((Go.TypeDesc.slice 26)) := .mk Try.underlying49
theorem ty51 : TI Try.prog 51 ((Go.TypeDesc.struct #[{ name := "Kind", type := 3, offset := 0, embedded := false, tag := "", pkgPath := "", byteOffset := 0 }, { name := "Scale", type := 3, offset := 1, embedded := false, tag := "", pkgPath := "", byteOffset := 8 }])) 2 16 (.agg #[.int .i64 0, .int .i64 0]) := .of Try.underlying51 (by kernel_rfl)
instance : Tc Try.prog 51 ((Go.TypeDesc.struct #[{ name := "Kind", type := 3, offset := 0, embedded := false, tag := "", pkgPath := "", byteOffset := 0 }, { name := "Scale", type := 3, offset := 1, embedded := false, tag := "", pkgPath := "", byteOffset := 8 }])) 2 16 (.agg #[.int .i64 0, .int .i64 0]) := .mk ty51
instance : Uc Try.prog 51 ((Go.TypeDesc.struct #[{ name := "Kind", type := 3, offset := 0, embedded := false, tag := "", pkgPath := "", byteOffset := 0 }, { name := "Scale", type := 3, offset := 1, embedded := false, tag := "", pkgPath := "", byteOffset := 8 }])) := .mk Try.underlying51
theorem ty53 : TI Try.prog 53 ((Go.TypeDesc.struct #[{ name := "Type", type := 51, offset := 0, embedded := false, tag := "", pkgPath := "", byteOffset := 0 }, { name := "Null", type := 4, offset := 2, embedded := false, tag := "", pkgPath := "", byteOffset := 16 }, { name := "N", type := 2, offset := 3, embedded := false, tag := "", pkgPath := "", byteOffset := 24 }, { name := "S", type := 9, offset := 4, embedded := false, tag := "", pkgPath := "", byteOffset := 32 }])) 5 48 (.agg #[.int .i64 0, .int .i64 0, .bool false, .int .i64 0, .string ByteArray.empty]) := .of Try.underlying53 (by kernel_rfl)
instance : Tc Try.prog 53 ((Go.TypeDesc.struct #[{ name := "Type", type := 51, offset := 0, embedded := false, tag := "", pkgPath := "", byteOffset := 0 }, { name := "Null", type := 4, offset := 2, embedded := false, tag := "", pkgPath := "", byteOffset := 16 }, { name := "N", type := 2, offset := 3, embedded := false, tag := "", pkgPath := "", byteOffset := 24 }, { name := "S", type := 9, offset := 4, embedded := false, tag := "", pkgPath := "", byteOffset := 32 }])) 5 48 (.agg #[.int .i64 0, .int .i64 0, .bool false, .int .i64 0, .string ByteArray.empty]) := .mk ty53
instance : Uc Try.prog 53 ((Go.TypeDesc.struct #[{ name := "Type", type := 51, offset := 0, embedded := false, tag := "", pkgPath := "", byteOffset := 0 }, { name := "Null", type := 4, offset := 2, embedded := false, tag := "", pkgPath := "", byteOffset := 16 }, { name := "N", type := 2, offset := 3, embedded := false, tag := "", pkgPath := "", byteOffset := 24 }, { name := "S", type := 9, offset := 4, embedded := false, tag := "", pkgPath := "", byteOffset := 32 }])) := .mk Try.underlying53
theorem ty55 : TI Try.prog 55 ((Go.TypeDesc.func #[33] #[] false)) 1 8 (.nilFunc) := .of Try.underlying55 (by kernel_rfl)
instance : Tc Try.prog 55 ((Go.TypeDesc.func #[33] #[] false)) 1 8 (.nilFunc) := .mk ty55
instance : Uc Try.prog 55 ((Go.TypeDesc.func #[33] #[] false)) := .mk Try.underlying55
theorem ty60 : TI Try.prog 60 ((Go.TypeDesc.int Go.IntKind.u16)) 1 2 (.int .u16 0) := .of Try.underlying60 (by kernel_rfl)
instance : Tc Try.prog 60 ((Go.TypeDesc.int Go.IntKind.u16)) 1 2 (.int .u16 0) := .mk ty60
instance : Uc Try.prog 60 ((Go.TypeDesc.int Go.IntKind.u16)) := .mk Try.underlying60
theorem ty93 : TI Try.prog 93 ((Go.TypeDesc.int Go.IntKind.u64)) 1 8 (.int .u64 0) := .of Try.underlying93 (by kernel_rfl)
instance : Tc Try.prog 93 ((Go.TypeDesc.int Go.IntKind.u64)) 1 8 (.int .u64 0) := .mk ty93
instance : Uc Try.prog 93 ((Go.TypeDesc.int Go.IntKind.u64)) := .mk Try.underlying93
theorem ty100 : TI Try.prog 100 ((Go.TypeDesc.int Go.IntKind.u32)) 1 4 (.int .u32 0) := .of Try.underlying100 (by kernel_rfl)
instance : Tc Try.prog 100 ((Go.TypeDesc.int Go.IntKind.u32)) 1 4 (.int .u32 0) := .mk ty100
instance : Uc Try.prog 100 ((Go.TypeDesc.int Go.IntKind.u32)) := .mk Try.underlying100
theorem ty103 : TI Try.prog 103 ((Go.TypeDesc.int Go.IntKind.u64)) 1 8 (.int .u64 0) := .of Try.underlying103 (by kernel_rfl)
instance : Tc Try.prog 103 ((Go.TypeDesc.int Go.IntKind.u64)) 1 8 (.int .u64 0) := .mk ty103
instance : Uc Try.prog 103 ((Go.TypeDesc.int Go.IntKind.u64)) := .mk Try.underlying103
instance : Fc Try.prog 26 0 0 1 false := .mk' Try.underlying26 rfl rfl ty22 rfl (by decide)
instance : Fc Try.prog 26 1 1 1 false := .mk' Try.underlying26 rfl rfl ty3 rfl (by decide)
instance : Fc Try.prog 26 2 2 1 false := .mk' Try.underlying26 rfl rfl ty23 rfl (by decide)
instance : Fc Try.prog 26 3 3 1 false := .mk' Try.underlying26 rfl rfl ty24 rfl (by decide)
instance : Sc Try.prog 26 [(0, 1), (1, 1), (2, 1), (3, 1)] [.slice none 0 0, .int .i64 0, .slice none 0 0, .slice none 0 0] := .mk' ty26 (by rfl) (.cons rfl ty22 (.cons rfl ty3 (.cons rfl ty23 (.cons rfl ty24 (.nil)))))
instance : Fc Try.prog 44 0 0 1 false := .mk' Try.underlying44 rfl rfl ty3 rfl (by decide)
instance : Fc Try.prog 44 1 1 1 false := .mk' Try.underlying44 rfl rfl ty42 rfl (by decide)
instance : Sc Try.prog 44 [(0, 1), (1, 1)] [.int .i64 0, .slice none 0 0] := .mk' ty44 (by rfl) (.cons rfl ty3 (.cons rfl ty42 (.nil)))
instance : Fc Try.prog 51 0 0 1 false := .mk' Try.underlying51 rfl rfl ty3 rfl (by decide)
instance : Fc Try.prog 51 1 1 1 false := .mk' Try.underlying51 rfl rfl ty3 rfl (by decide)
instance : Sc Try.prog 51 [(0, 1), (1, 1)] [.int .i64 0, .int .i64 0] := .mk' ty51 (by rfl) (.cons rfl ty3 (.cons rfl ty3 (.nil)))
instance : Fc Try.prog 53 0 0 2 true := .mk' Try.underlying53 rfl rfl ty51 rfl (by decide)
instance : Fc Try.prog 53 1 2 1 false := .mk' Try.underlying53 rfl rfl ty4 rfl (by decide)
instance : Fc Try.prog 53 2 3 1 false := .mk' Try.underlying53 rfl rfl ty2 rfl (by decide)
instance : Fc Try.prog 53 3 4 1 false := .mk' Try.underlying53 rfl rfl ty9 rfl (by decide)
instance : Sc Try.prog 53 [(0, 2), (2, 1), (3, 1), (4, 1)] [.int .i64 0, .int .i64 0, .bool false, .int .i64 0, .string ByteArray.empty] := .mk' ty53 (by rfl) (.cons rfl ty51 (.cons rfl ty4 (.cons rfl ty2 (.cons rfl ty9 (.nil)))))
end Go.Proofs.Ytaagbfpbbhaclaa
