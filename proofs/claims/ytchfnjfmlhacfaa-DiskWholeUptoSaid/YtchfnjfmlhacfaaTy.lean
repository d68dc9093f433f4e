/- What the program of the seat tells of its types (written by gen_ty.py). -/
import Derived.Test.YtchfnjfmlhacfaaProg
import Derived.Test.YtchfnjfmlhacfaaAbsTy
namespace Go.Proofs.Ytchfnjfmlhacfaa
open Go.Abs
instance : Mixed Try.prog := .mk (by kernel_rfl)
theorem ty2 : TI Try.prog 2 ((Go.TypeDesc.int Go.IntKind.i64)) 1 8 (.int .i64 0) := .of Try.underlying2 (by kernel_rfl)
instance : Tc Try.prog 2 ((Go.TypeDesc.int Go.IntKind.i64)) 1 8 (.int .i64 0) := .mk ty2
instance : Uc Try.prog 2 ((Go.TypeDesc.int Go.IntKind.i64)) := .mk Try.underlying2
theorem ty3 : TI Try.prog 3 ((Go.TypeDesc.int Go.IntKind.i64)) 1 8 (.int .i64 0) := .of Try.underlying3 (by kernel_rfl)
instance : Tc Try.prog 3 ((Go.TypeDesc.int Go.IntKind.i64)) 1 8 (.int .i64 0) := .mk ty3
instance : Uc Try.prog 3 ((Go.TypeDesc.int Go.IntKind.i64)) := .mk Try.underlying3
theorem ty4 : TI Try.prog 4 (Go.TypeDesc.bool) 1 1 (.bool false) := .of Try.underlying4 (by kernel_rfl)
instance : Tc Try.prog 4 (Go.TypeDesc.bool) 1 1 (.bool false) := .mk ty4
instance : Uc Try.prog 4 (Go.TypeDesc.bool) := .mk Try.underlying4
theorem ty5 : TI Try.prog 5 ((Go.TypeDesc.int Go.IntKind.u8)) 1 1 (.int .u8 0) := .of Try.underlying5 (by kernel_rfl)
instance : Tc Try.prog 5 ((Go.TypeDesc.int Go.IntKind.u8)) 1 1 (.int .u8 0) := .mk ty5
instance : Uc Try.prog 5 ((Go.TypeDesc.int Go.IntKind.u8)) := .mk Try.underlying5
theorem ty6 : TI Try.prog 6 ((Go.TypeDesc.int Go.IntKind.u8)) 1 1 (.int .u8 0) := .of Try.underlying6 (by kernel_rfl)
instance : Tc Try.prog 6 ((Go.TypeDesc.int Go.IntKind.u8)) 1 1 (.int .u8 0) := .mk ty6
instance : Uc Try.prog 6 ((Go.TypeDesc.int Go.IntKind.u8)) := .mk Try.underlying6
theorem ty7 : TI Try.prog 7 ((Go.TypeDesc.struct #[{ name := "x", type := 2, offset := 0, embedded := false, tag := "", pkgPath := "runtime", byteOffset := 0 }, { name := "y", type := 3, offset := 1, embedded := false, tag := "", pkgPath := "runtime", byteOffset := 8 }, { name := "signed", type := 4, offset := 2, embedded := false, tag := "", pkgPath := "runtime", byteOffset := 16 }, { name := "code", type := 6, offset := 3, embedded := false, tag := "", pkgPath := "runtime", byteOffset := 17 }])) 4 24 (.agg #[.int .i64 0, .int .i64 0, .bool false, .int .u8 0]) := .of Try.underlying7 (by kernel_rfl)
instance : Tc Try.prog 7 ((Go.TypeDesc.struct #[{ name := "x", type := 2, offset := 0, embedded := false, tag := "", pkgPath := "runtime", byteOffset := 0 }, { name := "y", type := 3, offset := 1, embedded := false, tag := "", pkgPath := "runtime", byteOffset := 8 }, { name := "signed", type := 4, offset := 2, embedded := false, tag := "", pkgPath := "runtime", byteOffset := 16 }, { name := "code", type := 6, offset := 3, embedded := false, tag := "", pkgPath := "runtime", byteOffset := 17 }])) 4 24 (.agg #[.int .i64 0, .int .i64 0, .bool false, .int .u8 0]) := .mk ty7
instance : Uc Try.prog 7 ((Go.TypeDesc.struct #[{ name := "x", type := 2, offset := 0, embedded := false, tag := "", pkgPath := "runtime", byteOffset := 0 }, { name := "y", type := 3, offset := 1, embedded := false, tag := "", pkgPath := "runtime", byteOffset := 8 }, { name := "signed", type := 4, offset := 2, embedded := false, tag := "", pkgPath := "runtime", byteOffset := 16 }, { name := "code", type := 6, offset := 3, embedded := false, tag := "", pkgPath := "runtime", byteOffset := 17 }])) := .mk Try.underlying7
theorem ty9 : TI Try.prog 9 (Go.TypeDesc.string) 1 16 (.string ByteArray.empty) := .of Try.underlying9 (by kernel_rfl)
instance : Tc Try.prog 9 (Go.TypeDesc.string) 1 16 (.string ByteArray.empty) := .mk ty9
instance : Uc Try.prog 9 (Go.TypeDesc.string) := .mk Try.underlying9
theorem ty22 : TI Try.prog 22 ((Go.TypeDesc.slice 5)) 1 24 (.slice none 0 0) := .of Try.underlying22 (by kernel_rfl)
instance : Tc Try.prog 22 ((Go.TypeDesc.slice 5)) 1 24 (.slice none 0 0) := .mk ty22
instance : Uc Try.prog 22 ((Go.TypeDesc.slice 5)) := .mk Try.underlying22
theorem ty23 : TI Try.prog 23 ((Go.TypeDesc.slice 4)) 1 24 (.slice none 0 0) := .of Try.underlying23 (by kernel_rfl)
instance : Tc Try.prog 23 ((Go.TypeDesc.slice 4)) 1 24 (.slice none 0 0) := .mk ty23
instance : Uc Try.prog 23 ((Go.TypeDesc.slice 4)) := .mk Try.underlying23
theorem ty24 : TI Try.prog 24 ((Go.TypeDesc.pointer 57)) 1 8 (.pointer none) := .of Try.underlying24 (by kernel_rfl)
instance : Tc Try.prog 24 ((Go.TypeDesc.pointer 57)) 1 8 (.pointer none) := .mk ty24
instance : Uc Try.prog 24 ((Go.TypeDesc.pointer 57)) := .mk Try.underlying24
theorem ty28 : TI Try.prog 28 ((Go.TypeDesc.int Go.IntKind.i64)) 1 8 (.int .i64 0) := .of Try.underlying28 (by kernel_rfl)
instance : Tc Try.prog 28 ((Go.TypeDesc.int Go.IntKind.i64)) 1 8 (.int .i64 0) := .mk ty28
instance : Uc Try.prog 28 ((Go.TypeDesc.int Go.IntKind.i64)) := .mk Try.underlying28
theorem ty34 : TI Try.prog 34 ((Go.TypeDesc.slice 36)) 1 24 (.slice none 0 0) := .of Try.underlying34 (by kernel_rfl)
instance : Tc Try.prog 34 ((Go.TypeDesc.slice 36)) 1 24 (.slice none 0 0) := .mk ty34
instance : Uc Try.prog 34 ((Go.TypeDesc.slice 36)) := .mk Try.underlying34
theorem ty36 : TI Try.prog 36 ((Go.TypeDesc.struct #[{ name := "Do", type := 3, offset := 0, embedded := false, tag := "", pkgPath := "", byteOffset := 0 }, { name := "File", type := 3, offset := 1, embedded := false, tag := "", pkgPath := "", byteOffset := 8 }, { name := "At", type := 3, offset := 2, embedded := false, tag := "", pkgPath := "", byteOffset := 16 }, { name := "N", type := 3, offset := 3, embedded := false, tag := "", pkgPath := "", byteOffset := 24 }, { name := "Data", type := 22, offset := 4, embedded := false, tag := "", pkgPath := "", byteOffset := 32 }, { name := "Keep", type := 23, offset := 5, embedded := false, tag := "", pkgPath := "", byteOffset := 56 }])) 6 80 (.agg #[.int .i64 0, .int .i64 0, .int .i64 0, .int .i64 0, .slice none 0 0, .slice none 0 0]) := .of Try.underlying36 (by kernel_rfl)
instance : Tc Try.prog 36 ((Go.TypeDesc.struct #[{ name := "Do", type := 3, offset := 0, embedded := false, tag := "", pkgPath := "", byteOffset := 0 }, { name := "File", type := 3, offset := 1, embedded := false, tag := "", pkgPath := "", byteOffset := 8 }, { name := "At", type := 3, offset := 2, embedded := false, tag := "", pkgPath := "", byteOffset := 16 }, { name := "N", type := 3, offset := 3, embedded := false, tag := "", pkgPath := "", byteOffset := 24 }, { name := "Data", type := 22, offset := 4, embedded := false, tag := "", pkgPath := "", byteOffset := 32 }, { name := "Keep", type := 23, offset := 5, embedded := false, tag := "", pkgPath := "", byteOffset := 56 }])) 6 80 (.agg #[.int .i64 0, .int .i64 0, .int .i64 0, .int .i64 0, .slice none 0 0, .slice none 0 0]) := .mk ty36
instance : Uc Try.prog 36 ((Go.TypeDesc.struct #[{ name := "Do", type := 3, offset := 0, embedded := false, tag := "", pkgPath := "", byteOffset := 0 }, { name := "File", type := 3, offset := 1, embedded := false, tag := "", pkgPath := "", byteOffset := 8 }, { name := "At", type := 3, offset := 2, embedded := false, tag := "", pkgPath := "", byteOffset := 16 }, { name := "N", type := 3, offset := 3, embedded := false, tag := "", pkgPath := "", byteOffset := 24 }, { name := "Data", type := 22, offset := 4, embedded := false, tag := "", pkgPath := "", byteOffset := 32 }, { name := "Keep", type := 23, offset := 5, embedded := false, tag := "", pkgPath := "", byteOffset := 56 }])) := .mk Try.underlying36
theorem ty46 : TI Try.prog 46 ((Go.TypeDesc.pointer 81)) 1 8 (.pointer none) := .of Try.underlying46 (by kernel_rfl)
instance : Tc Try.prog 46 ((Go.TypeDesc.pointer 81)) 1 8 (.pointer none) := .mk ty46
instance : Uc Try.prog 46 ((Go.TypeDesc.pointer 81)) := .mk Try.underlying46
theorem ty54 : TI Try.prog 54 ((Go.TypeDesc.array 2 22)) 2 48 (.agg #[.slice none 0 0, .slice none 0 0]) := .of Try.underlying54 (by kernel_rfl)
instance : Tc Try.prog 54 ((Go.TypeDesc.array 2 22)) 2 48 (.agg #[.slice none 0 0, .slice none 0 0]) := .mk ty54
instance : Uc Try.prog 54 ((Go.TypeDesc.array 2 22)) := .mk Try.underlying54
theorem ty55 : TI Try.prog 55 ((Go.TypeDesc.slice 73)) 1 24 (.slice none 0 0) := .of Try.underlying55 (by kernel_rfl)
instance : Tc Try.prog 55 ((Go.TypeDesc.slice 73)) 1 24 (.slice none 0 0) := .mk ty55
instance : Uc Try.prog 55 ((Go.TypeDesc.slice 73)) := .mk Try.underlying55
theorem ty57 : TI Try.prog 57 ((Go.TypeDesc.struct #[{ name := "made", type := 4, offset := 0, embedded := false, tag := "", pkgPath := "colonnade/disk", byteOffset := 0 }, { name := "now", type := 54, offset := 1, embedded := false, tag := "", pkgPath := "colonnade/disk", byteOffset := 8 }, { name := "sure", type := 54, offset := 3, embedded := false, tag := "", pkgPath := "colonnade/disk", byteOffset := 56 }, { name := "l", type := 55, offset := 5, embedded := false, tag := "", pkgPath := "colonnade/disk", byteOffset := 104 }, { name := "fuse", type := 3, offset := 6, embedded := false, tag := "", pkgPath := "colonnade/disk", byteOffset := 128 }, { name := "keep", type := 23, offset := 7, embedded := false, tag := "", pkgPath := "colonnade/disk", byteOffset := 136 }, { name := "calls", type := 2, offset := 8, embedded := false, tag := "", pkgPath := "colonnade/disk", byteOffset := 160 }, { name := "down", type := 4, offset := 9, embedded := false, tag := "", pkgPath := "colonnade/disk", byteOffset := 168 }])) 10 176 (.agg #[.bool false, .slice none 0 0, .slice none 0 0, .slice none 0 0, .slice none 0 0, .slice none 0 0, .int .i64 0, .slice none 0 0, .int .i64 0, .bool false]) := .of Try.underlying57 (by kernel_rfl)
instance : Tc Try.prog 57 ((Go.TypeDesc.struct #[{ name := "made", type := 4, offset := 0, embedded := false, tag := "", pkgPath := "colonnade/disk", byteOffset := 0 }, { name := "now", type := 54, offset := 1, embedded := false, tag := "", pkgPath := "colonnade/disk", byteOffset := 8 }, { name := "sure", type := 54, offset := 3, embedded := false, tag := "", pkgPath := "colonnade/disk", byteOffset := 56 }, { name := "l", type := 55, offset := 5, embedded := false, tag := "", pkgPath := "colonnade/disk", byteOffset := 104 }, { name := "fuse", type := 3, offset := 6, embedded := false, tag := "", pkgPath := "colonnade/disk", byteOffset := 128 }, { name := "keep", type := 23, offset := 7, embedded := false, tag := "", pkgPath := "colonnade/disk", byteOffset := 136 }, { name := "calls", type := 2, offset := 8, embedded := false, tag := "", pkgPath := "colonnade/disk", byteOffset := 160 }, { name := "down", type := 4, offset := 9, embedded := false, tag := "", pkgPath := "colonnade/disk", byteOffset := 168 }])) 10 176 (.agg #[.bool false, .slice none 0 0, .slice none 0 0, .slice none 0 0, .slice none 0 0, .slice none 0 0, .int .i64 0, .slice none 0 0, .int .i64 0, .bool false]) := .mk ty57
instance : Uc Try.prog 57 ((Go.TypeDesc.struct #[{ name := "made", type := 4, offset := 0, embedded := false, tag := "", pkgPath := "colonnade/disk", byteOffset := 0 }, { name := "now", type := 54, offset := 1, embedded := false, tag := "", pkgPath := "colonnade/disk", byteOffset := 8 }, { name := "sure", type := 54, offset := 3, embedded := false, tag := "", pkgPath := "colonnade/disk", byteOffset := 56 }, { name := "l", type := 55, offset := 5, embedded := false, tag := "", pkgPath := "colonnade/disk", byteOffset := 104 }, { name := "fuse", type := 3, offset := 6, embedded := false, tag := "", pkgPath := "colonnade/disk", byteOffset := 128 }, { name := "keep", type := 23, offset := 7, embedded := false, tag := "", pkgPath := "colonnade/disk", byteOffset := 136 }, { name := "calls", type := 2, offset := 8, embedded := false, tag := "", pkgPath := "colonnade/disk", byteOffset := 160 }, { name := "down", type := 4, offset := 9, embedded := false, tag := "", pkgPath := "colonnade/disk", byteOffset := 168 }])) := .mk Try.underlying57
theorem ty58 : TI Try.prog 58 ((Go.TypeDesc.slice 24)) 1 24 (.slice none 0 0) := .of Try.underlying58 (by kernel_rfl)
instance : Tc Try.prog 58 ((Go.TypeDesc.slice 24)) 1 24 (.slice none 0 0) := .mk ty58
instance : Uc Try.prog 58 ((Go.TypeDesc.slice 24)) := .mk Try.underlying58
theorem ty63 : TI Try.prog 63 ((Go.TypeDesc.int Go.IntKind.u16)) 1 2 (.int .u16 0) := .of Try.underlying63 (by kernel_rfl)
instance : Tc Try.prog 63 ((Go.TypeDesc.int Go.IntKind.u16)) 1 2 (.int .u16 0) := .mk ty63
instance : Uc Try.prog 63 ((Go.TypeDesc.int Go.IntKind.u16)) := .mk Try.underlying63
theorem ty68 : TI Try.prog 68 ((Go.TypeDesc.struct #[{ name := "at", type := 3, offset := 0, embedded := false, tag := "", pkgPath := "colonnade/disk", byteOffset := 0 }, { name := "b", type := 22, offset := 1, embedded := false, tag := "", pkgPath := "colonnade/disk", byteOffset := 8 }])) 2 32 (.agg #[.int .i64 0, .slice none 0 0]) := .of Try.underlying68 (by kernel_rfl)
instance : Tc Try.prog 68 ((Go.TypeDesc.struct #[{ name := "at", type := 3, offset := 0, embedded := false, tag := "", pkgPath := "colonnade/disk", byteOffset := 0 }, { name := "b", type := 22, offset := 1, embedded := false, tag := "", pkgPath := "colonnade/disk", byteOffset := 8 }])) 2 32 (.agg #[.int .i64 0, .slice none 0 0]) := .mk ty68
instance : Uc Try.prog 68 ((Go.TypeDesc.struct #[{ name := "at", type := 3, offset := 0, embedded := false, tag := "", pkgPath := "colonnade/disk", byteOffset := 0 }, { name := "b", type := 22, offset := 1, embedded := false, tag := "", pkgPath := "colonnade/disk", byteOffset := 8 }])) := .mk Try.underlying68
theorem ty71 : TI Try.prog 71 ((Go.TypeDesc.interface #[("colonnade/disk.do", 27)])) 1 16 (.nilIface) := .of Try.underlying71 (by kernel_rfl)
instance : Tc Try.prog 71 ((Go.TypeDesc.interface #[("colonnade/disk.do", 27)])) 1 16 (.nilIface) := .mk ty71
instance : Uc Try.prog 71 ((Go.TypeDesc.interface #[("colonnade/disk.do", 27)])) := .mk Try.underlying71
theorem ty73 : TI Try.prog 73 ((Go.TypeDesc.struct #[{ name := "file", type := 3, offset := 0, embedded := false, tag := "", pkgPath := "colonnade/disk", byteOffset := 0 }, { name := "p", type := 71, offset := 1, embedded := false, tag := "", pkgPath := "colonnade/disk", byteOffset := 8 }])) 2 24 (.agg #[.int .i64 0, .nilIface]) := .of Try.underlying73 (by kernel_rfl)
instance : Tc Try.prog 73 ((Go.TypeDesc.struct #[{ name := "file", type := 3, offset := 0, embedded := false, tag := "", pkgPath := "colonnade/disk", byteOffset := 0 }, { name := "p", type := 71, offset := 1, embedded := false, tag := "", pkgPath := "colonnade/disk", byteOffset := 8 }])) 2 24 (.agg #[.int .i64 0, .nilIface]) := .mk ty73
instance : Uc Try.prog 73 ((Go.TypeDesc.struct #[{ name := "file", type := 3, offset := 0, embedded := false, tag := "", pkgPath := "colonnade/disk", byteOffset := 0 }, { name := "p", type := 71, offset := 1, embedded := false, tag := "", pkgPath := "colonnade/disk", byteOffset := 8 }])) := .mk Try.underlying73
theorem ty76 : TI Try.prog 76 ((Go.TypeDesc.int Go.IntKind.i64)) 1 8 (.int .i64 0) := .of Try.underlying76 (by kernel_rfl)
instance : Tc Try.prog 76 ((Go.TypeDesc.int Go.IntKind.i64)) 1 8 (.int .i64 0) := .mk ty76
instance : Uc Try.prog 76 ((Go.TypeDesc.int Go.IntKind.i64)) := .mk Try.underlying76
theorem ty79 : TI Try.prog 79 ((Go.TypeDesc.slice 91)) 1 24 (.slice none 0 0) := .of Try.underlying79 (by kernel_rfl)
instance : Tc Try.prog 79 ((Go.TypeDesc.slice 91)) 1 24 (.slice none 0 0) := .mk ty79
instance : Uc Try.prog 79 ((Go.TypeDesc.slice 91)) := .mk Try.underlying79
theorem ty81 : TI Try.prog 81 ((Go.TypeDesc.struct #[{ name := "sure", type := 54, offset := 0, embedded := false, tag := "", pkgPath := "colonnade/colonnaderef04", byteOffset := 0 }, { name := "Pieces", type := 79, offset := 2, embedded := false, tag := "", pkgPath := "", byteOffset := 48 }, { name := "fuse", type := 3, offset := 3, embedded := false, tag := "", pkgPath := "colonnade/colonnaderef04", byteOffset := 72 }, { name := "keep", type := 23, offset := 4, embedded := false, tag := "", pkgPath := "colonnade/colonnaderef04", byteOffset := 80 }, { name := "calls", type := 2, offset := 5, embedded := false, tag := "", pkgPath := "colonnade/colonnaderef04", byteOffset := 104 }, { name := "down", type := 4, offset := 6, embedded := false, tag := "", pkgPath := "colonnade/colonnaderef04", byteOffset := 112 }])) 7 120 (.agg #[.slice none 0 0, .slice none 0 0, .slice none 0 0, .int .i64 0, .slice none 0 0, .int .i64 0, .bool false]) := .of Try.underlying81 (by kernel_rfl)
instance : Tc Try.prog 81 ((Go.TypeDesc.struct #[{ name := "sure", type := 54, offset := 0, embedded := false, tag := "", pkgPath := "colonnade/colonnaderef04", byteOffset := 0 }, { name := "Pieces", type := 79, offset := 2, embedded := false, tag := "", pkgPath := "", byteOffset := 48 }, { name := "fuse", type := 3, offset := 3, embedded := false, tag := "", pkgPath := "colonnade/colonnaderef04", byteOffset := 72 }, { name := "keep", type := 23, offset := 4, embedded := false, tag := "", pkgPath := "colonnade/colonnaderef04", byteOffset := 80 }, { name := "calls", type := 2, offset := 5, embedded := false, tag := "", pkgPath := "colonnade/colonnaderef04", byteOffset := 104 }, { name := "down", type := 4, offset := 6, embedded := false, tag := "", pkgPath := "colonnade/colonnaderef04", byteOffset := 112 }])) 7 120 (.agg #[.slice none 0 0, .slice none 0 0, .slice none 0 0, .int .i64 0, .slice none 0 0, .int .i64 0, .bool false]) := .mk ty81
instance : Uc Try.prog 81 ((Go.TypeDesc.struct #[{ name := "sure", type := 54, offset := 0, embedded := false, tag := "", pkgPath := "colonnade/colonnaderef04", byteOffset := 0 }, { name := "Pieces", type := 79, offset := 2, embedded := false, tag := "", pkgPath := "", byteOffset := 48 }, { name := "fuse", type := 3, offset := 3, embedded := false, tag := "", pkgPath := "colonnade/colonnaderef04", byteOffset := 72 }, { name := "keep", type := 23, offset := 4, embedded := false, tag := "", pkgPath := "colonnade/colonnaderef04", byteOffset := 80 }, { name := "calls", type := 2, offset := 5, embedded := false, tag := "", pkgPath := "colonnade/colonnaderef04", byteOffset := 104 }, { name := "down", type := 4, offset := 6, embedded := false, tag := "", pkgPath := "colonnade/colonnaderef04", byteOffset := 112 }])) := .mk Try.underlying81
theorem ty86 : TI Try.prog 86 ((Go.TypeDesc.int Go.IntKind.u64)) 1 8 (.int .u64 0) := .of Try.underlying86 (by kernel_rfl)
instance : Tc Try.prog 86 ((Go.TypeDesc.int Go.IntKind.u64)) 1 8 (.int .u64 0) := .mk ty86
instance : Uc Try.prog 86 ((Go.TypeDesc.int Go.IntKind.u64)) := .mk Try.underlying86
theorem ty91 : TI Try.prog 91 ((Go.TypeDesc.struct #[{ name := "File", type := 3, offset := 0, embedded := false, tag := "", pkgPath := "", byteOffset := 0 }, { name := "Cut", type := 4, offset := 1, embedded := false, tag := "", pkgPath := "", byteOffset := 8 }, { name := "At", type := 3, offset := 2, embedded := false, tag := "", pkgPath := "", byteOffset := 16 }, { name := "B", type := 22, offset := 3, embedded := false, tag := "", pkgPath := "", byteOffset := 24 }])) 4 48 (.agg #[.int .i64 0, .bool false, .int .i64 0, .slice none 0 0]) := .of Try.underlying91 (by kernel_rfl)
instance : Tc Try.prog 91 ((Go.TypeDesc.struct #[{ name := "File", type := 3, offset := 0, embedded := false, tag := "", pkgPath := "", byteOffset := 0 }, { name := "Cut", type := 4, offset := 1, embedded := false, tag := "", pkgPath := "", byteOffset := 8 }, { name := "At", type := 3, offset := 2, embedded := false, tag := "", pkgPath := "", byteOffset := 16 }, { name := "B", type := 22, offset := 3, embedded := false, tag := "", pkgPath := "", byteOffset := 24 }])) 4 48 (.agg #[.int .i64 0, .bool false, .int .i64 0, .slice none 0 0]) := .mk ty91
instance : Uc Try.prog 91 ((Go.TypeDesc.struct #[{ name := "File", type := 3, offset := 0, embedded := false, tag := "", pkgPath := "", byteOffset := 0 }, { name := "Cut", type := 4, offset := 1, embedded := false, tag := "", pkgPath := "", byteOffset := 8 }, { name := "At", type := 3, offset := 2, embedded := false, tag := "", pkgPath := "", byteOffset := 16 }, { name := "B", type := 22, offset := 3, embedded := false, tag := "", pkgPath := "", byteOffset := 24 }])) := .mk Try.underlying91
theorem ty94 : TI Try.prog 94 ((Go.TypeDesc.int Go.IntKind.u32)) 1 4 (.int .u32 0) := .of Try.underlying94 (by kernel_rfl)
instance : Tc Try.prog 94 ((Go.TypeDesc.int Go.IntKind.u32)) 1 4 (.int .u32 0) := .mk ty94
instance : Uc Try.prog 94 ((Go.TypeDesc.int Go.IntKind.u32)) := .mk Try.underlying94
theorem ty97 : TI Try.prog 97 ((Go.TypeDesc.int Go.IntKind.u64)) 1 8 (.int .u64 0) := .of Try.underlying97 (by kernel_rfl)
instance : Tc Try.prog 97 ((Go.TypeDesc.int Go.IntKind.u64)) 1 8 (.int .u64 0) := .mk ty97
instance : Uc Try.prog 97 ((Go.TypeDesc.int Go.IntKind.u64)) := .mk Try.underlying97
instance : Fc Try.prog 7 0 0 1 false := .mk' Try.underlying7 rfl rfl ty2 rfl (by decide)
instance : Fc Try.prog 7 1 1 1 false := .mk' Try.underlying7 rfl rfl ty3 rfl (by decide)
instance : Fc Try.prog 7 2 2 1 false := .mk' Try.underlying7 rfl rfl ty4 rfl (by decide)
instance : Fc Try.prog 7 3 3 1 false := .mk' Try.underlying7 rfl rfl ty6 rfl (by decide)
instance : Sc Try.prog 7 [(0, 1), (1, 1), (2, 1), (3, 1)] [.int .i64 0, .int .i64 0, .bool false, .int .u8 0] := .mk' ty7 (by rfl) (.cons rfl ty2 (.cons rfl ty3 (.cons rfl ty4 (.cons rfl ty6 (.nil)))))
instance : Fc Try.prog 36 0 0 1 false := .mk' Try.underlying36 rfl rfl ty3 rfl (by decide)
instance : Fc Try.prog 36 1 1 1 false := .mk' Try.underlying36 rfl rfl ty3 rfl (by decide)
instance : Fc Try.prog 36 2 2 1 false := .mk' Try.underlying36 rfl rfl ty3 rfl (by decide)
instance : Fc Try.prog 36 3 3 1 false := .mk' Try.underlying36 rfl rfl ty3 rfl (by decide)
instance : Fc Try.prog 36 4 4 1 false := .mk' Try.underlying36 rfl rfl ty22 rfl (by decide)
instance : Fc Try.prog 36 5 5 1 false := .mk' Try.underlying36 rfl rfl ty23 rfl (by decide)
instance : Sc Try.prog 36 [(0, 1), (1, 1), (2, 1), (3, 1), (4, 1), (5, 1)] [.int .i64 0, .int .i64 0, .int .i64 0, .int .i64 0, .slice none 0 0, .slice none 0 0] := .mk' ty36 (by rfl) (.cons rfl ty3 (.cons rfl ty3 (.cons rfl ty3 (.cons rfl ty3 (.cons rfl ty22 (.cons rfl ty23 (.nil)))))))
instance : Fc Try.prog 57 0 0 1 false := .mk' Try.underlying57 rfl rfl ty4 rfl (by decide)
instance : Fc Try.prog 57 1 1 2 true := .mk' Try.underlying57 rfl rfl ty54 rfl (by decide)
instance : Fc Try.prog 57 2 3 2 true := .mk' Try.underlying57 rfl rfl ty54 rfl (by decide)
instance : Fc Try.prog 57 3 5 1 false := .mk' Try.underlying57 rfl rfl ty55 rfl (by decide)
instance : Fc Try.prog 57 4 6 1 false := .mk' Try.underlying57 rfl rfl ty3 rfl (by decide)
instance : Fc Try.prog 57 5 7 1 false := .mk' Try.underlying57 rfl rfl ty23 rfl (by decide)
instance : Fc Try.prog 57 6 8 1 false := .mk' Try.underlying57 rfl rfl ty2 rfl (by decide)
instance : Fc Try.prog 57 7 9 1 false := .mk' Try.underlying57 rfl rfl ty4 rfl (by decide)
instance : Sc Try.prog 57 [(0, 1), (1, 2), (3, 2), (5, 1), (6, 1), (7, 1), (8, 1), (9, 1)] [.bool false, .slice none 0 0, .slice none 0 0, .slice none 0 0, .slice none 0 0, .slice none 0 0, .int .i64 0, .slice none 0 0, .int .i64 0, .bool false] := .mk' ty57 (by rfl) (.cons rfl ty4 (.cons rfl ty54 (.cons rfl ty54 (.cons rfl ty55 (.cons rfl ty3 (.cons rfl ty23 (.cons rfl ty2 (.cons rfl ty4 (.nil)))))))))
instance : Fc Try.prog 68 0 0 1 false := .mk' Try.underlying68 rfl rfl ty3 rfl (by decide)
instance : Fc Try.prog 68 1 1 1 false := .mk' Try.underlying68 rfl rfl ty22 rfl (by decide)
instance : Sc Try.prog 68 [(0, 1), (1, 1)] [.int .i64 0, .slice none 0 0] := .mk' ty68 (by rfl) (.cons rfl ty3 (.cons rfl ty22 (.nil)))
instance : Fc Try.prog 73 0 0 1 false := .mk' Try.underlying73 rfl rfl ty3 rfl (by decide)
instance : Fc Try.prog 73 1 1 1 false := .mk' Try.underlying73 rfl rfl ty71 rfl (by decide)
instance : Sc Try.prog 73 [(0, 1), (1, 1)] [.int .i64 0, .nilIface] := .mk' ty73 (by rfl) (.cons rfl ty3 (.cons rfl ty71 (.nil)))
instance : Fc Try.prog 81 0 0 2 true := .mk' Try.underlying81 rfl rfl ty54 rfl (by decide)
instance : Fc Try.prog 81 1 2 1 false := .mk' Try.underlying81 rfl rfl ty79 rfl (by decide)
instance : Fc Try.prog 81 2 3 1 false := .mk' Try.underlying81 rfl rfl ty3 rfl (by decide)
instance : Fc Try.prog 81 3 4 1 false := .mk' Try.underlying81 rfl rfl ty23 rfl (by decide)
instance : Fc Try.prog 81 4 5 1 false := .mk' Try.underlying81 rfl rfl ty2 rfl (by decide)
instance : Fc Try.prog 81 5 6 1 false := .mk' Try.underlying81 rfl rfl ty4 rfl (by decide)
instance : Sc Try.prog 81 [(0, 2), (2, 1), (3, 1), (4, 1), (5, 1), (6, 1)] [.slice none 0 0, .slice none 0 0, .slice none 0 0, .int .i64 0, .slice none 0 0, .int .i64 0, .bool false] := .mk' ty81 (by rfl) (.cons rfl ty54 (.cons rfl ty79 (.cons rfl ty3 (.cons rfl ty23 (.cons rfl ty2 (.cons rfl ty4 (.nil)))))))
instance : Fc Try.prog 91 0 0 1 false := .mk' Try.underlying91 rfl rfl ty3 rfl (by decide)
instance : Fc Try.prog 91 1 1 1 false := .mk' Try.underlying91 rfl rfl ty4 rfl (by decide)
instance : Fc Try.prog 91 2 2 1 false := .mk' Try.underlying91 rfl rfl ty3 rfl (by decide)
instance : Fc Try.prog 91 3 3 1 false := .mk' Try.underlying91 rfl rfl ty22 rfl (by decide)
instance : Sc Try.prog 91 [(0, 1), (1, 1), (2, 1), (3, 1)] [.int .i64 0, .bool false, .int .i64 0, .slice none 0 0] := .mk' ty91 (by rfl) (.cons rfl ty3 (.cons rfl ty4 (.cons rfl ty3 (.cons rfl ty22 (.nil)))))
end Go.Proofs.Ytchfnjfmlhacfaa
