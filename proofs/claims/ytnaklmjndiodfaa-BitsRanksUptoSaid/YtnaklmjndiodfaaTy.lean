/- What the program of the seat tells of its types (written by gen_ty.py). -/
import Derived.Test.YtnaklmjndiodfaaProg
import Derived.Test.YtnaklmjndiodfaaAbsTy
namespace Go.Proofs.Ytnaklmjndiodfaa
open Go.Abs
instance : Mixed Try.prog := .mk (by kernel_rfl)
theorem ty2 : TI Try.prog 2 ((Go.TypeDesc.int Go.IntKind.i64)) 1 8 (.int .i64 0) := .of Try.underlying2 (by kernel_rfl)
instance : Tc Try.prog 2 ((Go.TypeDesc.int Go.IntKind.i64)) 1 8 (.int .i64 0) := .mk ty2
instance : Uc Try.prog 2 ((Go.TypeDesc.int Go.IntKind.i64)) := .mk Try.underlying2
theorem ty3 : TI Try.prog 3 ((Go.TypeDesc.int Go.IntKind.i64)) 1 8 (.int .i64 0) := .of Try.underlying3 (by kernel_rfl)
instance : Tc Try.prog 3 ((Go.TypeDesc.int Go.IntKind.i64)) 1 8 (.int .i64 0) := .mk ty3
instance : Uc Try.prog 3 ((Go.TypeDesc.int Go.IntKind.i64)) := .mk Try.underlying3
theorem ty4 : TI Try.prog 4 (Go.TypeDesc.bool) 1 1 (.bool false) := .of Try.underlying4 (by kernel_rfl)
instance : Tc Try.prog 4 (Go.TypeDesc.bool) 1 1 (.bool false) := .mk ty4
instance : Uc Try.prog 4 (Go.TypeDesc.bool) := .mk Try.underlying4
theorem ty5 : TI Try.prog 5 ((Go.TypeDesc.int Go.IntKind.u8)) 1 1 (.int .u8 0) := .of Try.underlying5 (by kernel_rfl)
instance : Tc Try.prog 5 ((Go.TypeDesc.int Go.IntKind.u8)) 1 1 (.int .u8 0) := .mk ty5
instance : Uc Try.prog 5 ((Go.TypeDesc.int Go.IntKind.u8)) := .mk Try.underlying5
theorem ty6 : TI Try.prog 6 ((Go.TypeDesc.int Go.IntKind.u8)) 1 1 (.int .u8 0) := .of Try.underlying6 (by kernel_rfl)
instance : Tc Try.prog 6 ((Go.TypeDesc.int Go.IntKind.u8)) 1 1 (.int .u8 0) := .mk ty6
instance : Uc Try.prog 6 ((Go.TypeDesc.int Go.IntKind.u8)) := .mk Try.underlying6
theorem ty9 : TI Try.prog 9 (Go.TypeDesc.string) 1 16 (.string ByteArray.empty) := .of Try.underlying9 (by kernel_rfl)
instance : Tc Try.prog 9 (Go.TypeDesc.string) 1 16 (.string ByteArray.empty) := .mk ty9
instance : Uc Try.prog 9 (Go.TypeDesc.string) := .mk Try.underlying9
theorem ty22 : TI Try.prog 22 ((Go.TypeDesc.slice 5)) 1 24 (.slice none 0 0) := .of Try.underlying22 (by kernel_rfl)
instance : Tc Try.prog 22 ((Go.TypeDesc.slice 5)) 1 24 (.slice none 0 0) := .mk ty22
instance : Uc Try.prog 22 ((Go.TypeDesc.slice 5)) := .mk Try.underlying22
theorem ty24 : TI Try.prog 24 ((Go.TypeDesc.struct #[{ name := "N", type := 3, offset := 0, embedded := false, tag := "", pkgPath := "", byteOffset := 0 }, { name := "B", type := 22, offset := 1, embedded := false, tag := "", pkgPath := "", byteOffset := 8 }])) 2 32 (.agg #[.int .i64 0, .slice none 0 0]) := .of Try.underlying24 (by kernel_rfl)
instance : Tc Try.prog 24 ((Go.TypeDesc.struct #[{ name := "N", type := 3, offset := 0, embedded := false, tag := "", pkgPath := "", byteOffset := 0 }, { name := "B", type := 22, offset := 1, embedded := false, tag := "", pkgPath := "", byteOffset := 8 }])) 2 32 (.agg #[.int .i64 0, .slice none 0 0]) := .mk ty24
instance : Uc Try.prog 24 ((Go.TypeDesc.struct #[{ name := "N", type := 3, offset := 0, embedded := false, tag := "", pkgPath := "", byteOffset := 0 }, { name := "B", type := 22, offset := 1, embedded := false, tag := "", pkgPath := "", byteOffset := 8 }])) := .mk Try.underlying24
theorem ty26 : TI Try.prog 26 ((Go.TypeDesc.int Go.IntKind.i64)) 1 8 (.int .i64 0) := .of Try.underlying26 (by kernel_rfl)
instance : Tc Try.prog 26 ((Go.TypeDesc.int Go.IntKind.i64)) 1 8 (.int .i64 0) := .mk ty26
instance : Uc Try.prog 26 ((Go.TypeDesc.int Go.IntKind.i64)) := .mk Try.underlying26
theorem ty33 : TI Try.prog 33 ((Go.TypeDesc.slice 4)) 1 24 (.slice none 0 0) := .of Try.underlying33 (by kernel_rfl)
instance : Tc Try.prog 33 ((Go.TypeDesc.slice 4)) 1 24 (.slice none 0 0) := .mk ty33
instance : Uc Try.prog 33 ((Go.TypeDesc.slice 4)) := .mk Try.underlying33
theorem ty34 : TI Try.prog 34 ((Go.TypeDesc.int Go.IntKind.u16)) 1 2 (.int .u16 0) := .of Try.underlying34 (by kernel_rfl)
instance : Tc Try.prog 34 ((Go.TypeDesc.int Go.IntKind.u16)) 1 2 (.int .u16 0) := .mk ty34
instance : Uc Try.prog 34 ((Go.TypeDesc.int Go.IntKind.u16)) := .mk Try.underlying34
theorem ty42 : TI Try.prog 42 ((Go.TypeDesc.slice 3)) 1 24 (.slice none 0 0) := .of Try.underlying42 (by kernel_rfl)
instance : Tc Try.prog 42 ((Go.TypeDesc.slice 3)) 1 24 (.slice none 0 0) := .mk ty42
instance : Uc Try.prog 42 ((Go.TypeDesc.slice 3)) := .mk Try.underlying42
theorem ty47 : TI Try.prog 47 ((Go.TypeDesc.func #[66] #[] false)) 1 8 (.nilFunc) := .of Try.underlying47 (by kernel_rfl)
instance : Tc Try.prog 47 ((Go.TypeDesc.func #[66] #[] false)) 1 8 (.nilFunc) := .mk ty47
instance : Uc Try.prog 47 ((Go.TypeDesc.func #[66] #[] false)) := .mk Try.underlying47
theorem ty58 : TI Try.prog 58 ((Go.TypeDesc.slice 24)) 1 24 (.slice none 0 0) := .of Try.underlying58 (by kernel_rfl)
instance : Tc Try.prog 58 ((Go.TypeDesc.slice 24)) 1 24 (.slice none 0 0) := .mk ty58
instance : Uc Try.prog 58 ((Go.TypeDesc.slice 24)) := .mk Try.underlying58
theorem ty65 : TI Try.prog 65 ((Go.TypeDesc.int Go.IntKind.u64)) 1 8 (.int .u64 0) := .of Try.underlying65 (by kernel_rfl)
instance : Tc Try.prog 65 ((Go.TypeDesc.int Go.IntKind.u64)) 1 8 (.int .u64 0) := .mk ty65
instance : Uc Try.prog 65 ((Go.TypeDesc.int Go.IntKind.u64)) := .mk Try.underlying65
instance : Fc Try.prog 24 0 0 1 false := .mk' Try.underlying24 rfl rfl ty3 rfl (by decide)
instance : Fc Try.prog 24 1 1 1 false := .mk' Try.underlying24 rfl rfl ty22 rfl (by decide)
instance : Sc Try.prog 24 [(0, 1), (1, 1)] [.int .i64 0, .slice none 0 0] := .mk' ty24 (by rfl) (.cons rfl ty3 (.cons rfl ty22 (.nil)))
end Go.Proofs.Ytnaklmjndiodfaa
