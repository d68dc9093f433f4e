/- What the program of the seat tells of its types (written by gen_ty.py). -/
import Derived.Test.YtflhhipemmlgpaaDoorProg
import Derived.Test.YtflhhipemmlgpaaDoorAbsTy
set_option linter.unusedSimpArgs false
set_option linter.unusedVariables false
namespace Go.Proofs.YtflhhipemmlgpaaDoor
open Go.Abs
instance : Mixed Tryd.prog := .mk (by kernel_rfl)
theorem ty2 : TI Tryd.prog 2 ((Go.TypeDesc.int Go.IntKind.i64)) 1 8 (.int .i64 0) := .of Tryd.underlying2 (by kernel_rfl)
instance : Tc Tryd.prog 2 ((Go.TypeDesc.int Go.IntKind.i64)) 1 8 (.int .i64 0) := .mk ty2
instance : Uc Tryd.prog 2 ((Go.TypeDesc.int Go.IntKind.i64)) := .mk Tryd.underlying2
theorem ty3 : TI Tryd.prog 3 ((Go.TypeDesc.int Go.IntKind.i64)) 1 8 (.int .i64 0) := .of Tryd.underlying3 (by kernel_rfl)
instance : Tc Tryd.prog 3 ((Go.TypeDesc.int Go.IntKind.i64)) 1 8 (.int .i64 0) := .mk ty3
instance : Uc Tryd.prog 3 ((Go.TypeDesc.int Go.IntKind.i64)) := .mk Tryd.underlying3
theorem ty4 : TI Tryd.prog 4 (Go.TypeDesc.bool) 1 1 (.bool false) := .of Tryd.underlying4 (by kernel_rfl)
instance : Tc Tryd.prog 4 (Go.TypeDesc.bool) 1 1 (.bool false) := .mk ty4
instance : Uc Tryd.prog 4 (Go.TypeDesc.bool) := .mk Tryd.underlying4
theorem ty5 : TI Tryd.prog 5 ((Go.TypeDesc.int Go.IntKind.u8)) 1 1 (.int .u8 0) := .of Tryd.underlying5 (by kernel_rfl)
instance : Tc Tryd.prog 5 ((Go.TypeDesc.int Go.IntKind.u8)) 1 1 (.int .u8 0) := .mk ty5
instance : Uc Tryd.prog 5 ((Go.TypeDesc.int Go.IntKind.u8)) := .mk Tryd.underlying5
theorem ty6 : TI Tryd.prog 6 ((Go.TypeDesc.int Go.IntKind.u8)) 1 1 (.int .u8 0) := .of Tryd.underlying6 (by kernel_rfl)
instance : Tc Tryd.prog 6 ((Go.TypeDesc.int Go.IntKind.u8)) 1 1 (.int .u8 0) := .mk ty6
instance : Uc Tryd.prog 6 ((Go.TypeDesc.int Go.IntKind.u8)) := .mk Tryd.underlying6
theorem ty8 : TI Tryd.prog 8 ((Go.TypeDesc.struct #[{ name := "x", type := 2, offset := 0, embedded := false, tag := "", pkgPath := "runtime", byteOffset := 0 }, { name := "y", type := 3, offset := 1, embedded := false, tag := "", pkgPath := "runtime", byteOffset := 8 }, { name := "signed", type := 4, offset := 2, embedded := false, tag := "", pkgPath := "runtime", byteOffset := 16 }, { name := "code", type := 6, offset := 3, embedded := false, tag := "", pkgPath := "runtime", byteOffset := 17 }])) 4 24 (.agg #[.int .i64 0, .int .i64 0, .bool false, .int .u8 0]) := .of Tryd.underlying8 (by kernel_rfl)
instance : Tc Tryd.prog 8 ((Go.TypeDesc.struct #[{ name := "x", type := 2, offset := 0, embedded := false, tag := "", pkgPath := "runtime", byteOffset := 0 }, { name := "y", type := 3, offset := 1, embedded := false, tag := "", pkgPath := "runtime", byteOffset := 8 }, { name := "signed", type := 4, offset := 2, embedded := false, tag := "", pkgPath := "runtime", byteOffset := 16 }, { name := "code", type := 6, offset := 3, embedded := false, tag := "", pkgPath := "runtime", byteOffset := 17 }])) 4 24 (.agg #[.int .i64 0, .int .i64 0, .bool false, .int .u8 0]) := .mk ty8
instance : Uc Tryd.prog 8 ((Go.TypeDesc.struct #[{ name := "x", type := 2, offset := 0, embedded := false, tag := "", pkgPath := "runtime", byteOffset := 0 }, { name := "y", type := 3, offset := 1, embedded := false, tag := "", pkgPath := "runtime", byteOffset := 8 }, { name := "signed", type := 4, offset := 2, embedded := false, tag := "", pkgPath := "runtime", byteOffset := 16 }, { name := "code", type := 6, offset := 3, embedded := false, tag := "", pkgPath := "runtime", byteOffset := 17 }])) := .mk Tryd.underlying8
theorem ty9 : TI Tryd.prog 9 (Go.TypeDesc.string) 1 16 (.string ByteArray.empty) := .of Tryd.underlying9 (by kernel_rfl)
instance : Tc Tryd.prog 9 (Go.TypeDesc.string) 1 16 (.string ByteArray.empty) := .mk ty9
instance : Uc Tryd.prog 9 (Go.TypeDesc.string) := .mk Tryd.underlying9
theorem ty21 : TI Tryd.prog 21 ((Go.TypeDesc.int Go.IntKind.i32)) 1 4 (.int .i32 0) := .of Tryd.underlying21 (by kernel_rfl)
instance : Tc Tryd.prog 21 ((Go.TypeDesc.int Go.IntKind.i32)) 1 4 (.int .i32 0) := .mk ty21
instance : Uc Tryd.prog 21 ((Go.TypeDesc.int Go.IntKind.i32)) := .mk Tryd.underlying21
theorem ty22 : TI Tryd.prog 22 ((Go.TypeDesc.slice 2)) 1 24 (.slice none 0 0) := .of Tryd.underlying22 (by kernel_rfl)
instance : Tc Tryd.prog 22 ((Go.TypeDesc.slice 2)) 1 24 (.slice none 0 0) := .mk ty22
instance : Uc Tryd.prog 22 ((Go.TypeDesc.slice 2)) := .mk Tryd.underlying22
theorem ty23 : TI Tryd.prog 23 ((Go.TypeDesc.slice 5)) 1 24 (.slice none 0 0) := .of Tryd.underlying23 (by kernel_rfl)
instance : Tc Tryd.prog 23 ((Go.TypeDesc.slice 5)) 1 24 (.slice none 0 0) := .mk ty23
instance : Uc Tryd.prog 23 ((Go.TypeDesc.slice 5)) := .mk Tryd.underlying23
theorem ty24 : TI Tryd.prog 24 ((Go.TypeDesc.int Go.IntKind.u16)) 1 2 (.int .u16 0) := .of Tryd.underlying24 (by kernel_rfl)
instance : Tc Tryd.prog 24 ((Go.TypeDesc.int Go.IntKind.u16)) 1 2 (.int .u16 0) := .mk ty24
instance : Uc Tryd.prog 24 ((Go.TypeDesc.int Go.IntKind.u16)) := .mk Tryd.underlying24
theorem ty31 : TI Tryd.prog 31 ((Go.TypeDesc.int Go.IntKind.u32)) 1 4 (.int .u32 0) := .of Tryd.underlying31 (by kernel_rfl)
instance : Tc Tryd.prog 31 ((Go.TypeDesc.int Go.IntKind.u32)) 1 4 (.int .u32 0) := .mk ty31
instance : Uc Tryd.prog 31 ((Go.TypeDesc.int Go.IntKind.u32)) := .mk Tryd.underlying31
theorem ty35 : TI Tryd.prog 35 ((Go.TypeDesc.pointer 70)) 1 8 (.pointer none) := .of Tryd.underlying35 (by kernel_rfl)
instance : Tc Tryd.prog 35 ((Go.TypeDesc.pointer 70)) 1 8 (.pointer none) := .mk ty35
instance : Uc Tryd.prog 35 ((Go.TypeDesc.pointer 70)) := .mk Tryd.underlying35
theorem ty37 : TI Tryd.prog 37 ((Go.TypeDesc.int Go.IntKind.i64)) 1 8 (.int .i64 0) := .of Tryd.underlying37 (by kernel_rfl)
instance : Tc Tryd.prog 37 ((Go.TypeDesc.int Go.IntKind.i64)) 1 8 (.int .i64 0) := .mk ty37
instance : Uc Tryd.prog 37 ((Go.TypeDesc.int Go.IntKind.i64)) := .mk Tryd.underlying37
theorem ty41 : TI Tryd.prog 41 ((Go.TypeDesc.slice 43)) 1 24 (.slice none 0 0) := .of Tryd.underlying41 (by kernel_rfl)
instance : Tc Tryd.prog 41 ((Go.TypeDesc.slice 43)) 1 24 (.slice none 0 0) := .mk ty41
instance : Uc Tryd.prog 41 ((Go.TypeDesc.slice 43)) := .mk Tryd.underlying41
theorem ty43 : TI Tryd.prog 43 ((Go.TypeDesc.struct #[{ name := "What", type := 5, offset := 0, embedded := false, tag := "", pkgPath := "", byteOffset := 0 }, { name := "N", type := 2, offset := 1, embedded := false, tag := "", pkgPath := "", byteOffset := 8 }, { name := "S", type := 9, offset := 2, embedded := false, tag := "", pkgPath := "", byteOffset := 16 }])) 3 32 (.agg #[.int .u8 0, .int .i64 0, .string ByteArray.empty]) := .of Tryd.underlying43 (by kernel_rfl)
instance : Tc Tryd.prog 43 ((Go.TypeDesc.struct #[{ name := "What", type := 5, offset := 0, embedded := false, tag := "", pkgPath := "", byteOffset := 0 }, { name := "N", type := 2, offset := 1, embedded := false, tag := "", pkgPath := "", byteOffset := 8 }, { name := "S", type := 9, offset := 2, embedded := false, tag := "", pkgPath := "", byteOffset := 16 }])) 3 32 (.agg #[.int .u8 0, .int .i64 0, .string ByteArray.empty]) := .mk ty43
instance : Uc Tryd.prog 43 ((Go.TypeDesc.struct #[{ name := "What", type := 5, offset := 0, embedded := false, tag := "", pkgPath := "", byteOffset := 0 }, { name := "N", type := 2, offset := 1, embedded := false, tag := "", pkgPath := "", byteOffset := 8 }, { name := "S", type := 9, offset := 2, embedded := false, tag := "", pkgPath := "", byteOffset := 16 }])) := .mk Tryd.underlying43
theorem ty49 : TI Tryd.prog 49 ((Go.TypeDesc.pointer 73)) 1 8 (.pointer none) := .of Tryd.underlying49 (by kernel_rfl)
instance : Tc Tryd.prog 49 ((Go.TypeDesc.pointer 73)) 1 8 (.pointer none) := .mk ty49
instance : Uc Tryd.prog 49 ((Go.TypeDesc.pointer 73)) := .mk Tryd.underlying49
theorem ty61 : TI Tryd.prog 61 ((Go.TypeDesc.pointer 63)) 1 8 (.pointer none) := .of Tryd.underlying61 (by kernel_rfl)
instance : Tc Tryd.prog 61 ((Go.TypeDesc.pointer 63)) 1 8 (.pointer none) := .mk ty61
instance : Uc Tryd.prog 61 ((Go.TypeDesc.pointer 63)) := .mk Tryd.underlying61
theorem ty63 : TI Tryd.prog 63 ((Go.TypeDesc.struct #[{ name := "B", type := 23, offset := 0, embedded := false, tag := "", pkgPath := "", byteOffset := 0 }])) 1 24 (.agg #[.slice none 0 0]) := .of Tryd.underlying63 (by kernel_rfl)
instance : Tc Tryd.prog 63 ((Go.TypeDesc.struct #[{ name := "B", type := 23, offset := 0, embedded := false, tag := "", pkgPath := "", byteOffset := 0 }])) 1 24 (.agg #[.slice none 0 0]) := .mk ty63
instance : Uc Tryd.prog 63 ((Go.TypeDesc.struct #[{ name := "B", type := 23, offset := 0, embedded := false, tag := "", pkgPath := "", byteOffset := 0 }])) := .mk Tryd.underlying63
theorem ty70 : TI Tryd.prog 70 ((Go.TypeDesc.struct #[{ name := "made", type := 4, offset := 0, embedded := false, tag := "", pkgPath := "colonnade/codec", byteOffset := 0 }, { name := "b", type := 23, offset := 1, embedded := false, tag := "", pkgPath := "colonnade/codec", byteOffset := 8 }])) 2 32 (.agg #[.bool false, .slice none 0 0]) := .of Tryd.underlying70 (by kernel_rfl)
instance : Tc Tryd.prog 70 ((Go.TypeDesc.struct #[{ name := "made", type := 4, offset := 0, embedded := false, tag := "", pkgPath := "colonnade/codec", byteOffset := 0 }, { name := "b", type := 23, offset := 1, embedded := false, tag := "", pkgPath := "colonnade/codec", byteOffset := 8 }])) 2 32 (.agg #[.bool false, .slice none 0 0]) := .mk ty70
instance : Uc Tryd.prog 70 ((Go.TypeDesc.struct #[{ name := "made", type := 4, offset := 0, embedded := false, tag := "", pkgPath := "colonnade/codec", byteOffset := 0 }, { name := "b", type := 23, offset := 1, embedded := false, tag := "", pkgPath := "colonnade/codec", byteOffset := 8 }])) := .mk Tryd.underlying70
theorem ty71 : TI Tryd.prog 71 ((Go.TypeDesc.slice 35)) 1 24 (.slice none 0 0) := .of Tryd.underlying71 (by kernel_rfl)
instance : Tc Tryd.prog 71 ((Go.TypeDesc.slice 35)) 1 24 (.slice none 0 0) := .mk ty71
instance : Uc Tryd.prog 71 ((Go.TypeDesc.slice 35)) := .mk Tryd.underlying71
theorem ty73 : TI Tryd.prog 73 ((Go.TypeDesc.struct #[{ name := "made", type := 4, offset := 0, embedded := false, tag := "", pkgPath := "colonnade/codec", byteOffset := 0 }, { name := "rest", type := 23, offset := 1, embedded := false, tag := "", pkgPath := "colonnade/codec", byteOffset := 8 }])) 2 32 (.agg #[.bool false, .slice none 0 0]) := .of Tryd.underlying73 (by kernel_rfl)
instance : Tc Tryd.prog 73 ((Go.TypeDesc.struct #[{ name := "made", type := 4, offset := 0, embedded := false, tag := "", pkgPath := "colonnade/codec", byteOffset := 0 }, { name := "rest", type := 23, offset := 1, embedded := false, tag := "", pkgPath := "colonnade/codec", byteOffset := 8 }])) 2 32 (.agg #[.bool false, .slice none 0 0]) := .mk ty73
instance : Uc Tryd.prog 73 ((Go.TypeDesc.struct #[{ name := "made", type := 4, offset := 0, embedded := false, tag := "", pkgPath := "colonnade/codec", byteOffset := 0 }, { name := "rest", type := 23, offset := 1, embedded := false, tag := "", pkgPath := "colonnade/codec", byteOffset := 8 }])) := .mk Tryd.underlying73
theorem ty74 : TI Tryd.prog 74 ((Go.TypeDesc.slice 49)) 1 24 (.slice none 0 0) := .of Tryd.underlying74 (by kernel_rfl)
instance : Tc Tryd.prog 74 ((Go.TypeDesc.slice 49)) 1 24 (.slice none 0 0) := .mk ty74
instance : Uc Tryd.prog 74 ((Go.TypeDesc.slice 49)) := .mk Tryd.underlying74
theorem ty77 : TI Tryd.prog 77 ((Go.TypeDesc.int Go.IntKind.u64)) 1 8 (.int .u64 0) := .of Tryd.underlying77 (by kernel_rfl)
instance : Tc Tryd.prog 77 ((Go.TypeDesc.int Go.IntKind.u64)) 1 8 (.int .u64 0) := .mk ty77
instance : Uc Tryd.prog 77 ((Go.TypeDesc.int Go.IntKind.u64)) := .mk Tryd.underlying77
theorem ty80 : TI Tryd.prog 80 ((Go.TypeDesc.slice 23)) 1 24 (.slice none 0 0) := .of Tryd.underlying80 (by kernel_rfl)
instance : Tc Tryd.prog 80 ((Go.TypeDesc.slice 23)) 1 24 (.slice none 0 0) := .mk ty80
instance : Uc Tryd.prog 80 ((Go.TypeDesc.slice 23)) := .mk Tryd.underlying80
theorem ty82 : TI Tryd.prog 82 ((Go.TypeDesc.int Go.IntKind.u64)) 1 8 (.int .u64 0) := .of Tryd.underlying82 (by kernel_rfl)
instance : Tc Tryd.prog 82 ((Go.TypeDesc.int Go.IntKind.u64)) 1 8 (.int .u64 0) := .mk ty82
instance : Uc Tryd.prog 82 ((Go.TypeDesc.int Go.IntKind.u64)) := .mk Tryd.underlying82
theorem ty106 : TI Tryd.prog 106 ((Go.TypeDesc.array 256 5)) 256 256 (.agg #[.int .u8 0, .int .u8 0, .int .u8 0, .int .u8 0, .int .u8 0, .int .u8 0, .int .u8 0, .int .u8 0, .int .u8 0, .int .u8 0, .int .u8 0, .int .u8 0, .int .u8 0, .int .u8 0, .int .u8 0, .int .u8 0, .int .u8 0, .int .u8 0, .int .u8 0, .int .u8 0, .int .u8 0, .int .u8 0, .int .u8 0, .int .u8 0, .int .u8 0, .int .u8 0, .int .u8 0, .int .u8 0, .int .u8 0, .int .u8 0, .int .u8 0, .int .u8 0, .int .u8 0, .int .u8 0, .int .u8 0, .int .u8 0, .int .u8 0, .int .u8 0, .int .u8 0, .int .u8 0, .int .u8 0, .int .u8 0, .int .u8 0, .int .u8 0, .int .u8 0, .int .u8 0, .int .u8 0, .int .u8 0, .int .u8 0, .int .u8 0, .int .u8 0, .int .u8 0, .int .u8 0, .int .u8 0, .int .u8 0, .int .u8 0, .int .u8 0, .int .u8 0, .int .u8 0, .int .u8 0, .int .u8 0, .int .u8 0, .int .u8 0, .int .u8 0, .int .u8 0, .int .u8 0, .int .u8 0, .int .u8 0, .int .u8 0, .int .u8 0, .int .u8 0, .int .u8 0, .int .u8 0, .int .u8 0, .int .u8 0, .int .u8 0, .int .u8 0, .int .u8 0, .int .u8 0, .int .u8 0, .int .u8 0, .int .u8 0, .int .u8 0, .int .u8 0, .int .u8 0, .int .u8 0, .int .u8 0, .int .u8 0, .int .u8 0, .int .u8 0, .int .u8 0, .int .u8 0, .int .u8 0, .int .u8 0, .int .u8 0, .int .u8 0, .int .u8 0, .int .u8 0, .int .u8 0, .int .u8 0, .int .u8 0, .int .u8 0, .int .u8 0, .int .u8 0, .int .u8 0, .int .u8 0, .int .u8 0, .int .u8 0, .int .u8 0, .int .u8 0, .int .u8 0, .int .u8 0, .int .u8 0, .int .u8 0, .int .u8 0, .int .u8 0, .int .u8 0, .int .u8 0, .int .u8 0, .int .u8 0, .int .u8 0, .int .u8 0, .int .u8 0, .int .u8 0, .int .u8 0, .int .u8 0, .int .u8 0, .int .u8 0, .int .u8 0, .int .u8 0, .int .u8 0, .int .u8 0, .int .u8 0, .int .u8 0, .int .u8 0, .int .u8 0, .int .u8 0, .int .u8 0, .int .u8 0, .int .u8 0, .int .u8 0, .int .u8 0, .int .u8 0, .int .u8 0, .int .u8 0, .int .u8 0, .int .u8 0, .int .u8 0, .int .u8 0, .int .u8 0, .int .u8 0, .int .u8 0, .int .u8 0, .int .u8 0, .int .u8 0, .int .u8 0, .int .u8 0, .int .u8 0, .int .u8 0, .int .u8 0, .int .u8 0, .int .u8 0, .int .u8 0, .int .u8 0, .int .u8 0, .int .u8 0, .int .u8 0, .int .u8 0, .int .u8 0, .int .u8 0, .int .u8 0, .int .u8 0, .int .u8 0, .int .u8 0, .int .u8 0, .int .u8 0, .int .u8 0, .int .u8 0, .int .u8 0, .int .u8 0, .int .u8 0, .int .u8 0, .int .u8 0, .int .u8 0, .int .u8 0, .int .u8 0, .int .u8 0, .int .u8 0, .int .u8 0, .int .u8 0, .int .u8 0, .int .u8 0, .int .u8 0, .int .u8 0, .int .u8 0, .int .u8 0, .int .u8 0, .int .u8 0, .int .u8 0, .int .u8 0, .int .u8 0, .int .u8 0, .int .u8 0, .int .u8 0, .int .u8 0, .int .u8 0, .int .u8 0, .int .u8 0, .int .u8 0, .int .u8 0, .int .u8 0, .int .u8 0, .int .u8 0, .int .u8 0, .int .u8 0, .int .u8 0, .int .u8 0, .int .u8 0, .int .u8 0, .int .u8 0, .int .u8 0, .int .u8 0, .int .u8 0, .int .u8 0, .int .u8 0, .int .u8 0, .int .u8 0, .int .u8 0, .int .u8 0, .int .u8 0, .int .u8 0, .int .u8 0, .int .u8 0, .int .u8 0, .int .u8 0, .int .u8 0, .int .u8 0, .int .u8 0, .int .u8 0, .int .u8 0, .int .u8 0, .int .u8 0, .int .u8 0, .int .u8 0, .int .u8 0, .int .u8 0, .int .u8 0, .int .u8 0, .int .u8 0, .int .u8 0, .int .u8 0, .int .u8 0, .int .u8 0, .int .u8 0, .int .u8 0, .int .u8 0]) := .of Tryd.underlying106 (by kernel_rfl)
instance : Tc Tryd.prog 106 ((Go.TypeDesc.array 256 5)) 256 256 (.agg #[.int .u8 0, .int .u8 0, .int .u8 0, .int .u8 0, .int .u8 0, .int .u8 0, .int .u8 0, .int .u8 0, .int .u8 0, .int .u8 0, .int .u8 0, .int .u8 0, .int .u8 0, .int .u8 0, .int .u8 0, .int .u8 0, .int .u8 0, .int .u8 0, .int .u8 0, .int .u8 0, .int .u8 0, .int .u8 0, .int .u8 0, .int .u8 0, .int .u8 0, .int .u8 0, .int .u8 0, .int .u8 0, .int .u8 0, .int .u8 0, .int .u8 0, .int .u8 0, .int .u8 0, .int .u8 0, .int .u8 0, .int .u8 0, .int .u8 0, .int .u8 0, .int .u8 0, .int .u8 0, .int .u8 0, .int .u8 0, .int .u8 0, .int .u8 0, .int .u8 0, .int .u8 0, .int .u8 0, .int .u8 0, .int .u8 0, .int .u8 0, .int .u8 0, .int .u8 0, .int .u8 0, .int .u8 0, .int .u8 0, .int .u8 0, .int .u8 0, .int .u8 0, .int .u8 0, .int .u8 0, .int .u8 0, .int .u8 0, .int .u8 0, .int .u8 0, .int .u8 0, .int .u8 0, .int .u8 0, .int .u8 0, .int .u8 0, .int .u8 0, .int .u8 0, .int .u8 0, .int .u8 0, .int .u8 0, .int .u8 0, .int .u8 0, .int .u8 0, .int .u8 0, .int .u8 0, .int .u8 0, .int .u8 0, .int .u8 0, .int .u8 0, .int .u8 0, .int .u8 0, .int .u8 0, .int .u8 0, .int .u8 0, .int .u8 0, .int .u8 0, .int .u8 0, .int .u8 0, .int .u8 0, .int .u8 0, .int .u8 0, .int .u8 0, .int .u8 0, .int .u8 0, .int .u8 0, .int .u8 0, .int .u8 0, .int .u8 0, .int .u8 0, .int .u8 0, .int .u8 0, .int .u8 0, .int .u8 0, .int .u8 0, .int .u8 0, .int .u8 0, .int .u8 0, .int .u8 0, .int .u8 0, .int .u8 0, .int .u8 0, .int .u8 0, .int .u8 0, .int .u8 0, .int .u8 0, .int .u8 0, .int .u8 0, .int .u8 0, .int .u8 0, .int .u8 0, .int .u8 0, .int .u8 0, .int .u8 0, .int .u8 0, .int .u8 0, .int .u8 0, .int .u8 0, .int .u8 0, .int .u8 0, .int .u8 0, .int .u8 0, .int .u8 0, .int .u8 0, .int .u8 0, .int .u8 0, .int .u8 0, .int .u8 0, .int .u8 0, .int .u8 0, .int .u8 0, .int .u8 0, .int .u8 0, .int .u8 0, .int .u8 0, .int .u8 0, .int .u8 0, .int .u8 0, .int .u8 0, .int .u8 0, .int .u8 0, .int .u8 0, .int .u8 0, .int .u8 0, .int .u8 0, .int .u8 0, .int .u8 0, .int .u8 0, .int .u8 0, .int .u8 0, .int .u8 0, .int .u8 0, .int .u8 0, .int .u8 0, .int .u8 0, .int .u8 0, .int .u8 0, .int .u8 0, .int .u8 0, .int .u8 0, .int .u8 0, .int .u8 0, .int .u8 0, .int .u8 0, .int .u8 0, .int .u8 0, .int .u8 0, .int .u8 0, .int .u8 0, .int .u8 0, .int .u8 0, .int .u8 0, .int .u8 0, .int .u8 0, .int .u8 0, .int .u8 0, .int .u8 0, .int .u8 0, .int .u8 0, .int .u8 0, .int .u8 0, .int .u8 0, .int .u8 0, .int .u8 0, .int .u8 0, .int .u8 0, .int .u8 0, .int .u8 0, .int .u8 0, .int .u8 0, .int .u8 0, .int .u8 0, .int .u8 0, .int .u8 0, .int .u8 0, .int .u8 0, .int .u8 0, .int .u8 0, .int .u8 0, .int .u8 0, .int .u8 0, .int .u8 0, .int .u8 0, .int .u8 0, .int .u8 0, .int .u8 0, .int .u8 0, .int .u8 0, .int .u8 0, .int .u8 0, .int .u8 0, .int .u8 0, .int .u8 0, .int .u8 0, .int .u8 0, .int .u8 0, .int .u8 0, .int .u8 0, .int .u8 0, .int .u8 0, .int .u8 0, .int .u8 0, .int .u8 0, .int .u8 0, .int .u8 0, .int .u8 0, .int .u8 0, .int .u8 0, .int .u8 0, .int .u8 0, .int .u8 0, .int .u8 0, .int .u8 0, .int .u8 0, .int .u8 0, .int .u8 0, .int .u8 0, .int .u8 0, .int .u8 0, .int .u8 0, .int .u8 0, .int .u8 0, .int .u8 0]) := .mk ty106
instance : Uc Tryd.prog 106 ((Go.TypeDesc.array 256 5)) := .mk Tryd.underlying106
theorem ty108 : TI Tryd.prog 108 ((Go.TypeDesc.struct #[{ name := "lo", type := 5, offset := 0, embedded := false, tag := "", pkgPath := "unicode/utf8", byteOffset := 0 }, { name := "hi", type := 5, offset := 1, embedded := false, tag := "", pkgPath := "unicode/utf8", byteOffset := 1 }])) 2 2 (.agg #[.int .u8 0, .int .u8 0]) := .of Tryd.underlying108 (by kernel_rfl)
instance : Tc Tryd.prog 108 ((Go.TypeDesc.struct #[{ name := "lo", type := 5, offset := 0, embedded := false, tag := "", pkgPath := "unicode/utf8", byteOffset := 0 }, { name := "hi", type := 5, offset := 1, embedded := false, tag := "", pkgPath := "unicode/utf8", byteOffset := 1 }])) 2 2 (.agg #[.int .u8 0, .int .u8 0]) := .mk ty108
instance : Uc Tryd.prog 108 ((Go.TypeDesc.struct #[{ name := "lo", type := 5, offset := 0, embedded := false, tag := "", pkgPath := "unicode/utf8", byteOffset := 0 }, { name := "hi", type := 5, offset := 1, embedded := false, tag := "", pkgPath := "unicode/utf8", byteOffset := 1 }])) := .mk Tryd.underlying108
theorem ty109 : TI Tryd.prog 109 ((Go.TypeDesc.array 16 108)) 32 32 (.agg #[.int .u8 0, .int .u8 0, .int .u8 0, .int .u8 0, .int .u8 0, .int .u8 0, .int .u8 0, .int .u8 0, .int .u8 0, .int .u8 0, .int .u8 0, .int .u8 0, .int .u8 0, .int .u8 0, .int .u8 0, .int .u8 0, .int .u8 0, .int .u8 0, .int .u8 0, .int .u8 0, .int .u8 0, .int .u8 0, .int .u8 0, .int .u8 0, .int .u8 0, .int .u8 0, .int .u8 0, .int .u8 0, .int .u8 0, .int .u8 0, .int .u8 0, .int .u8 0]) := .of Tryd.underlying109 (by kernel_rfl)
instance : Tc Tryd.prog 109 ((Go.TypeDesc.array 16 108)) 32 32 (.agg #[.int .u8 0, .int .u8 0, .int .u8 0, .int .u8 0, .int .u8 0, .int .u8 0, .int .u8 0, .int .u8 0, .int .u8 0, .int .u8 0, .int .u8 0, .int .u8 0, .int .u8 0, .int .u8 0, .int .u8 0, .int .u8 0, .int .u8 0, .int .u8 0, .int .u8 0, .int .u8 0, .int .u8 0, .int .u8 0, .int .u8 0, .int .u8 0, .int .u8 0, .int .u8 0, .int .u8 0, .int .u8 0, .int .u8 0, .int .u8 0, .int .u8 0, .int .u8 0]) := .mk ty109
instance : Uc Tryd.prog 109 ((Go.TypeDesc.array 16 108)) := .mk Tryd.underlying109
instance : Fc Tryd.prog 8 0 0 1 false := .mk' Tryd.underlying8 rfl rfl ty2 rfl (by decide)
instance : Fc Tryd.prog 8 1 1 1 false := .mk' Tryd.underlying8 rfl rfl ty3 rfl (by decide)
instance : Fc Tryd.prog 8 2 2 1 false := .mk' Tryd.underlying8 rfl rfl ty4 rfl (by decide)
instance : Fc Tryd.prog 8 3 3 1 false := .mk' Tryd.underlying8 rfl rfl ty6 rfl (by decide)
instance : Sc Tryd.prog 8 [(0, 1), (1, 1), (2, 1), (3, 1)] [.int .i64 0, .int .i64 0, .bool false, .int .u8 0] := .mk' ty8 (by rfl) (.cons rfl ty2 (.cons rfl ty3 (.cons rfl ty4 (.cons rfl ty6 (.nil)))))
instance : Fc Tryd.prog 43 0 0 1 false := .mk' Tryd.underlying43 rfl rfl ty5 rfl (by decide)
instance : Fc Tryd.prog 43 1 1 1 false := .mk' Tryd.underlying43 rfl rfl ty2 rfl (by decide)
instance : Fc Tryd.prog 43 2 2 1 false := .mk' Tryd.underlying43 rfl rfl ty9 rfl (by decide)
instance : Sc Tryd.prog 43 [(0, 1), (1, 1), (2, 1)] [.int .u8 0, .int .i64 0, .string ByteArray.empty] := .mk' ty43 (by rfl) (.cons rfl ty5 (.cons rfl ty2 (.cons rfl ty9 (.nil))))
instance : Fc Tryd.prog 63 0 0 1 false := .mk' Tryd.underlying63 rfl rfl ty23 rfl (by decide)
instance : Sc Tryd.prog 63 [(0, 1)] [.slice none 0 0] := .mk' ty63 (by rfl) (.cons rfl ty23 (.nil))
instance : Fc Tryd.prog 70 0 0 1 false := .mk' Tryd.underlying70 rfl rfl ty4 rfl (by decide)
instance : Fc Tryd.prog 70 1 1 1 false := .mk' Tryd.underlying70 rfl rfl ty23 rfl (by decide)
instance : Sc Tryd.prog 70 [(0, 1), (1, 1)] [.bool false, .slice none 0 0] := .mk' ty70 (by rfl) (.cons rfl ty4 (.cons rfl ty23 (.nil)))
instance : Fc Tryd.prog 73 0 0 1 false := .mk' Tryd.underlying73 rfl rfl ty4 rfl (by decide)
instance : Fc Tryd.prog 73 1 1 1 false := .mk' Tryd.underlying73 rfl rfl ty23 rfl (by decide)
instance : Sc Tryd.prog 73 [(0, 1), (1, 1)] [.bool false, .slice none 0 0] := .mk' ty73 (by rfl) (.cons rfl ty4 (.cons rfl ty23 (.nil)))
instance : Fc Tryd.prog 108 0 0 1 false := .mk' Tryd.underlying108 rfl rfl ty5 rfl (by decide)
instance : Fc Tryd.prog 108 1 1 1 false := .mk' Tryd.underlying108 rfl rfl ty5 rfl (by decide)
instance : Sc Tryd.prog 108 [(0, 1), (1, 1)] [.int .u8 0, .int .u8 0] := .mk' ty108 (by rfl) (.cons rfl ty5 (.cons rfl ty5 (.nil)))
end Go.Proofs.YtflhhipemmlgpaaDoor
