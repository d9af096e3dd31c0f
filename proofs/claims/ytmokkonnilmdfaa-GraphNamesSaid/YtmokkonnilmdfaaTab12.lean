/-
  The types and the functions of the program, as a table that is quickly searched; it says what the program has.
  No statement of the seat is proved here. Conditions: none.
-/
import Derived.Test.YtmokkonnilmdfaaY17
import Derived.Test.YtmokkonnilmdfaaProg
set_option linter.unusedVariables false
set_option maxRecDepth 100000
namespace Go.Proofs.Ytmokkonnilmdfaa
open Go.Sy
noncomputable def ty0 : TRow := { und := TypeDesc.tuple { toList := [] }, size := 1, bytes := 0, zero := some [SV.val (Value.tuple { toList := [] })], stood := false, eqg := false }
noncomputable def ty1 : TRow := { und := TypeDesc.func { toList := [] } { toList := [] } false, size := 1, bytes := 8, zero := some [SV.val Value.nilFunc], stood := false, eqg := false }
noncomputable def ty2 : TRow := { und := TypeDesc.int IntKind.i64, size := 1, bytes := 8, zero := some [SV.li IntKind.i64 0], stood := false, eqg := false }
noncomputable def ty3 : TRow := { und := TypeDesc.int IntKind.i64, size := 1, bytes := 8, zero := some [SV.li IntKind.i64 0], stood := false, eqg := false }
noncomputable def ty4 : TRow := { und := TypeDesc.bool, size := 1, bytes := 1, zero := some [SV.lb false], stood := false, eqg := false }
noncomputable def ty5 : TRow := { und := TypeDesc.int IntKind.u8, size := 1, bytes := 1, zero := some [SV.li IntKind.u8 0], stood := false, eqg := false }
noncomputable def ty6 : TRow := { und := TypeDesc.int IntKind.u8, size := 1, bytes := 1, zero := some [SV.li IntKind.u8 0], stood := false, eqg := false }
noncomputable def ty7 : TRow := { und := TypeDesc.struct { toList := [{ name := "x", type := 2, offset := 0, embedded := false, tag := "", pkgPath := "runtime", byteOffset := 0 }, { name := "y", type := 3, offset := 1, embedded := false, tag := "", pkgPath := "runtime", byteOffset := 8 }, { name := "signed", type := 4, offset := 2, embedded := false, tag := "", pkgPath := "runtime", byteOffset := 16 }, { name := "code", type := 6, offset := 3, embedded := false, tag := "", pkgPath := "runtime", byteOffset := 17 }] }, size := 4, bytes := 24, zero := some [SV.li IntKind.i64 0, SV.li IntKind.i64 0, SV.lb false, SV.li IntKind.u8 0], stood := false, eqg := false }
noncomputable def ty8 : TRow := { und := TypeDesc.struct { toList := [{ name := "x", type := 2, offset := 0, embedded := false, tag := "", pkgPath := "runtime", byteOffset := 0 }, { name := "y", type := 3, offset := 1, embedded := false, tag := "", pkgPath := "runtime", byteOffset := 8 }, { name := "signed", type := 4, offset := 2, embedded := false, tag := "", pkgPath := "runtime", byteOffset := 16 }, { name := "code", type := 6, offset := 3, embedded := false, tag := "", pkgPath := "runtime", byteOffset := 17 }] }, size := 4, bytes := 24, zero := some [SV.li IntKind.i64 0, SV.li IntKind.i64 0, SV.lb false, SV.li IntKind.u8 0], stood := false, eqg := false }
noncomputable def ty9 : TRow := { und := TypeDesc.string, size := 1, bytes := 16, zero := some [SV.str []], stood := false, eqg := false }
noncomputable def ty10 : TRow := { und := TypeDesc.string, size := 1, bytes := 16, zero := some [SV.str []], stood := false, eqg := false }
noncomputable def ty11 : TRow := { und := TypeDesc.string, size := 1, bytes := 16, zero := some [SV.str []], stood := false, eqg := false }
noncomputable def ty12 : TRow := { und := TypeDesc.int IntKind.u64, size := 1, bytes := 8, zero := some [SV.li IntKind.u64 0], stood := false, eqg := false }
noncomputable def ty13 : TRow := { und := TypeDesc.struct { toList := [{ name := "msg", type := 9, offset := 0, embedded := false, tag := "", pkgPath := "runtime", byteOffset := 0 }, { name := "addr", type := 12, offset := 1, embedded := false, tag := "", pkgPath := "runtime", byteOffset := 16 }] }, size := 2, bytes := 24, zero := some [SV.str [], SV.li IntKind.u64 0], stood := true, eqg := false }
noncomputable def ty14 : TRow := { und := TypeDesc.struct { toList := [{ name := "msg", type := 9, offset := 0, embedded := false, tag := "", pkgPath := "runtime", byteOffset := 0 }, { name := "addr", type := 12, offset := 1, embedded := false, tag := "", pkgPath := "runtime", byteOffset := 16 }] }, size := 2, bytes := 24, zero := some [SV.str [], SV.li IntKind.u64 0], stood := true, eqg := false }
noncomputable def ty15 : TRow := { und := TypeDesc.pointer 107, size := 1, bytes := 8, zero := some [SV.val (Value.pointer none)], stood := false, eqg := false }
noncomputable def ty16 : TRow := { und := TypeDesc.pointer 110, size := 1, bytes := 8, zero := some [SV.val (Value.pointer none)], stood := false, eqg := false }
noncomputable def ty17 : TRow := { und := TypeDesc.pointer 119, size := 1, bytes := 8, zero := some [SV.val (Value.pointer none)], stood := false, eqg := false }
noncomputable def ty18 : TRow := { und := TypeDesc.struct { toList := [{ name := "typ", type := 17, offset := 0, embedded := false, tag := "", pkgPath := "internal/runtime/maps", byteOffset := 0 }] }, size := 1, bytes := 8, zero := some [SV.val (Value.pointer none)], stood := true, eqg := false }
noncomputable def ty19 : TRow := { und := TypeDesc.struct { toList := [{ name := "typ", type := 17, offset := 0, embedded := false, tag := "", pkgPath := "internal/runtime/maps", byteOffset := 0 }] }, size := 1, bytes := 8, zero := some [SV.val (Value.pointer none)], stood := true, eqg := false }
noncomputable def ty21 : TRow := { und := TypeDesc.int IntKind.i32, size := 1, bytes := 4, zero := some [SV.li IntKind.i32 0], stood := false, eqg := false }
noncomputable def ty22 : TRow := { und := TypeDesc.slice 43, size := 1, bytes := 24, zero := some [SV.val (Value.slice none 0 0)], stood := false, eqg := false }
noncomputable def ty23 : TRow := { und := TypeDesc.struct { toList := [{ name := "Switches", type := 3, offset := 0, embedded := false, tag := "", pkgPath := "", byteOffset := 0 }, { name := "Links", type := 22, offset := 1, embedded := false, tag := "", pkgPath := "", byteOffset := 8 }] }, size := 2, bytes := 32, zero := some [SV.li IntKind.i64 0, SV.val (Value.slice none 0 0)], stood := false, eqg := false }
noncomputable def ty24 : TRow := { und := TypeDesc.struct { toList := [{ name := "Switches", type := 3, offset := 0, embedded := false, tag := "", pkgPath := "", byteOffset := 0 }, { name := "Links", type := 22, offset := 1, embedded := false, tag := "", pkgPath := "", byteOffset := 8 }] }, size := 2, bytes := 32, zero := some [SV.li IntKind.i64 0, SV.val (Value.slice none 0 0)], stood := false, eqg := false }
noncomputable def ty25 : TRow := { und := TypeDesc.slice 4, size := 1, bytes := 24, zero := some [SV.val (Value.slice none 0 0)], stood := false, eqg := false }
noncomputable def ty26 : TRow := { und := TypeDesc.func { toList := [27, 27] } { toList := [4] } false, size := 1, bytes := 8, zero := some [SV.val Value.nilFunc], stood := false, eqg := false }
noncomputable def ty27 : TRow := { und := TypeDesc.slice 3, size := 1, bytes := 24, zero := some [SV.val (Value.slice none 0 0)], stood := false, eqg := false }
noncomputable def ty28 : TRow := { und := TypeDesc.func { toList := [24, 25, 3] } { toList := [27] } false, size := 1, bytes := 8, zero := some [SV.val Value.nilFunc], stood := false, eqg := false }
noncomputable def ty29 : TRow := { und := TypeDesc.func { toList := [24, 25] } { toList := [4] } false, size := 1, bytes := 8, zero := some [SV.val Value.nilFunc], stood := false, eqg := false }
noncomputable def ty30 : TRow := { und := TypeDesc.func { toList := [] } { toList := [4] } false, size := 1, bytes := 8, zero := some [SV.val Value.nilFunc], stood := false, eqg := false }
noncomputable def ty31 : TRow := { und := TypeDesc.func { toList := [24, 25, 3] } { toList := [4] } false, size := 1, bytes := 8, zero := some [SV.val Value.nilFunc], stood := false, eqg := false }
noncomputable def ty32 : TRow := { und := TypeDesc.struct { toList := [{ name := "Switch", type := 3, offset := 0, embedded := false, tag := "", pkgPath := "", byteOffset := 0 }, { name := "Port", type := 3, offset := 1, embedded := false, tag := "", pkgPath := "", byteOffset := 8 }] }, size := 2, bytes := 16, zero := some [SV.li IntKind.i64 0, SV.li IntKind.i64 0], stood := false, eqg := false }
noncomputable def ty33 : TRow := { und := TypeDesc.struct { toList := [{ name := "Switch", type := 3, offset := 0, embedded := false, tag := "", pkgPath := "", byteOffset := 0 }, { name := "Port", type := 3, offset := 1, embedded := false, tag := "", pkgPath := "", byteOffset := 8 }] }, size := 2, bytes := 16, zero := some [SV.li IntKind.i64 0, SV.li IntKind.i64 0], stood := false, eqg := false }
noncomputable def ty34 : TRow := { und := TypeDesc.tuple { toList := [33, 3, 4] }, size := 1, bytes := 0, zero := some [SV.val (Value.tuple { toList := [Value.agg { toList := [Value.int IntKind.i64 (Int.ofNat 0), Value.int IntKind.i64 (Int.ofNat 0)] }, Value.int IntKind.i64 (Int.ofNat 0), Value.bool false] })], stood := false, eqg := false }
noncomputable def ty35 : TRow := { und := TypeDesc.func { toList := [24, 33] } { toList := [33, 3, 4] } false, size := 1, bytes := 8, zero := some [SV.val Value.nilFunc], stood := false, eqg := false }
noncomputable def ty36 : TRow := { und := TypeDesc.func { toList := [24, 3] } { toList := [27] } false, size := 1, bytes := 8, zero := some [SV.val Value.nilFunc], stood := false, eqg := false }
noncomputable def ty37 : TRow := { und := TypeDesc.int IntKind.i64, size := 1, bytes := 8, zero := some [SV.li IntKind.i64 0], stood := false, eqg := false }
noncomputable def ty38 : TRow := { und := TypeDesc.func { toList := [24] } { toList := [37] } false, size := 1, bytes := 8, zero := some [SV.val Value.nilFunc], stood := false, eqg := false }
noncomputable def ty39 : TRow := { und := TypeDesc.func { toList := [24, 33] } { toList := [4] } false, size := 1, bytes := 8, zero := some [SV.val Value.nilFunc], stood := false, eqg := false }
noncomputable def ty40 : TRow := { und := TypeDesc.func { toList := [24] } { toList := [24] } false, size := 1, bytes := 8, zero := some [SV.val Value.nilFunc], stood := false, eqg := false }
noncomputable def ty41 : TRow := { und := TypeDesc.func { toList := [27, 3] } { toList := [4] } false, size := 1, bytes := 8, zero := some [SV.val Value.nilFunc], stood := false, eqg := false }
noncomputable def ty42 : TRow := { und := TypeDesc.struct { toList := [{ name := "A", type := 33, offset := 0, embedded := false, tag := "", pkgPath := "", byteOffset := 0 }, { name := "B", type := 33, offset := 2, embedded := false, tag := "", pkgPath := "", byteOffset := 16 }] }, size := 4, bytes := 32, zero := some [SV.li IntKind.i64 0, SV.li IntKind.i64 0, SV.li IntKind.i64 0, SV.li IntKind.i64 0], stood := false, eqg := false }
noncomputable def ty43 : TRow := { und := TypeDesc.struct { toList := [{ name := "A", type := 33, offset := 0, embedded := false, tag := "", pkgPath := "", byteOffset := 0 }, { name := "B", type := 33, offset := 2, embedded := false, tag := "", pkgPath := "", byteOffset := 16 }] }, size := 4, bytes := 32, zero := some [SV.li IntKind.i64 0, SV.li IntKind.i64 0, SV.li IntKind.i64 0, SV.li IntKind.i64 0], stood := false, eqg := false }
noncomputable def ty44 : TRow := { und := TypeDesc.func { toList := [3, 3] } { toList := [3] } false, size := 1, bytes := 8, zero := some [SV.val Value.nilFunc], stood := false, eqg := false }
noncomputable def ty45 : TRow := { und := TypeDesc.func { toList := [3, 3, 3, 3] } { toList := [43] } false, size := 1, bytes := 8, zero := some [SV.val Value.nilFunc], stood := false, eqg := false }
noncomputable def ty46 : TRow := { und := TypeDesc.slice 24, size := 1, bytes := 24, zero := some [SV.val (Value.slice none 0 0)], stood := false, eqg := false }
noncomputable def ty47 : TRow := { und := TypeDesc.map 33 56, size := 1, bytes := 8, zero := some [SV.val (Value.map none)], stood := false, eqg := false }
noncomputable def ty48 : TRow := { und := TypeDesc.tuple { toList := [47, 4] }, size := 1, bytes := 0, zero := some [SV.val (Value.tuple { toList := [Value.map none, Value.bool false] })], stood := false, eqg := false }
noncomputable def ty49 : TRow := { und := TypeDesc.func { toList := [24] } { toList := [47, 4] } false, size := 1, bytes := 8, zero := some [SV.val Value.nilFunc], stood := false, eqg := false }
noncomputable def ty50 : TRow := { und := TypeDesc.func { toList := [65] } { toList := [] } false, size := 1, bytes := 8, zero := some [SV.val Value.nilFunc], stood := false, eqg := false }
noncomputable def ty51 : TRow := { und := TypeDesc.func { toList := [65] } { toList := [] } false, size := 1, bytes := 8, zero := some [SV.val Value.nilFunc], stood := false, eqg := false }
noncomputable def ty52 : TRow := { und := TypeDesc.func { toList := [47, 25, 3] } { toList := [51] } false, size := 1, bytes := 8, zero := some [SV.val Value.nilFunc], stood := false, eqg := false }
noncomputable def ty53 : TRow := { und := TypeDesc.func { toList := [27] } { toList := [] } false, size := 1, bytes := 8, zero := some [SV.val Value.nilFunc], stood := false, eqg := false }
noncomputable def ty54 : TRow := { und := TypeDesc.func { toList := [25, 3] } { toList := [4] } false, size := 1, bytes := 8, zero := some [SV.val Value.nilFunc], stood := false, eqg := false }
noncomputable def ty55 : TRow := { und := TypeDesc.struct { toList := [{ name := "other", type := 33, offset := 0, embedded := false, tag := "", pkgPath := "catenary/graph", byteOffset := 0 }, { name := "link", type := 3, offset := 2, embedded := false, tag := "", pkgPath := "catenary/graph", byteOffset := 16 }] }, size := 3, bytes := 24, zero := some [SV.li IntKind.i64 0, SV.li IntKind.i64 0, SV.li IntKind.i64 0], stood := false, eqg := false }
noncomputable def ty56 : TRow := { und := TypeDesc.struct { toList := [{ name := "other", type := 33, offset := 0, embedded := false, tag := "", pkgPath := "catenary/graph", byteOffset := 0 }, { name := "link", type := 3, offset := 2, embedded := false, tag := "", pkgPath := "catenary/graph", byteOffset := 16 }] }, size := 3, bytes := 24, zero := some [SV.li IntKind.i64 0, SV.li IntKind.i64 0, SV.li IntKind.i64 0], stood := false, eqg := false }
noncomputable def ty57 : TRow := { und := TypeDesc.tuple { toList := [56, 4] }, size := 1, bytes := 0, zero := some [SV.val (Value.tuple { toList := [Value.agg { toList := [Value.int IntKind.i64 (Int.ofNat 0), Value.int IntKind.i64 (Int.ofNat 0), Value.int IntKind.i64 (Int.ofNat 0)] }, Value.bool false] })], stood := false, eqg := false }
noncomputable def ty58 : TRow := { und := TypeDesc.slice 33, size := 1, bytes := 24, zero := some [SV.val (Value.slice none 0 0)], stood := false, eqg := false }
noncomputable def ty59 : TRow := { und := TypeDesc.func { toList := [61, 63] } { toList := [58] } false, size := 1, bytes := 8, zero := some [SV.val Value.nilFunc], stood := false, eqg := false }
noncomputable def ty60 : TRow := { und := TypeDesc.func { toList := [72] } { toList := [] } false, size := 1, bytes := 8, zero := some [SV.val Value.nilFunc], stood := false, eqg := false }
noncomputable def ty61 : TRow := { und := TypeDesc.func { toList := [72] } { toList := [] } false, size := 1, bytes := 8, zero := some [SV.val Value.nilFunc], stood := false, eqg := false }
noncomputable def ty62 : TRow := { und := TypeDesc.func { toList := [47] } { toList := [61] } false, size := 1, bytes := 8, zero := some [SV.val Value.nilFunc], stood := false, eqg := false }
noncomputable def ty63 : TRow := { und := TypeDesc.func { toList := [33, 33] } { toList := [3] } false, size := 1, bytes := 8, zero := some [SV.val Value.nilFunc], stood := false, eqg := false }
noncomputable def ty64 : TRow := { und := TypeDesc.func { toList := [43, 43] } { toList := [4] } false, size := 1, bytes := 8, zero := some [SV.val Value.nilFunc], stood := false, eqg := false }
noncomputable def ty65 : TRow := { und := TypeDesc.func { toList := [3] } { toList := [4] } false, size := 1, bytes := 8, zero := some [SV.val Value.nilFunc], stood := false, eqg := false }
noncomputable def ty66 : TRow := { und := TypeDesc.func { toList := [27, 3] } { toList := [3] } false, size := 1, bytes := 8, zero := some [SV.val Value.nilFunc], stood := false, eqg := false }
noncomputable def ty67 : TRow := { und := TypeDesc.func { toList := [27, 3, 3, 3] } { toList := [] } false, size := 1, bytes := 8, zero := some [SV.val Value.nilFunc], stood := false, eqg := false }
noncomputable def ty68 : TRow := { und := TypeDesc.func { toList := [69] } { toList := [3] } false, size := 1, bytes := 8, zero := some [SV.val Value.nilFunc], stood := false, eqg := false }
noncomputable def ty69 : TRow := { und := TypeDesc.int IntKind.u64, size := 1, bytes := 8, zero := some [SV.li IntKind.u64 0], stood := false, eqg := false }
noncomputable def ty70 : TRow := { und := TypeDesc.func { toList := [61] } { toList := [58] } false, size := 1, bytes := 8, zero := some [SV.val Value.nilFunc], stood := false, eqg := false }
noncomputable def ty71 : TRow := { und := TypeDesc.func { toList := [58, 63] } { toList := [] } false, size := 1, bytes := 8, zero := some [SV.val Value.nilFunc], stood := false, eqg := false }
noncomputable def ty72 : TRow := { und := TypeDesc.func { toList := [33] } { toList := [4] } false, size := 1, bytes := 8, zero := some [SV.val Value.nilFunc], stood := false, eqg := false }
noncomputable def ty73 : TRow := { und := TypeDesc.func { toList := [27, 3, 3] } { toList := [] } false, size := 1, bytes := 8, zero := some [SV.val Value.nilFunc], stood := false, eqg := false }
noncomputable def ty74 : TRow := { und := TypeDesc.int IntKind.i64, size := 1, bytes := 8, zero := some [SV.li IntKind.i64 0], stood := false, eqg := false }
noncomputable def ty75 : TRow := { und := TypeDesc.tuple { toList := [3, 74] }, size := 1, bytes := 0, zero := some [SV.val (Value.tuple { toList := [Value.int IntKind.i64 (Int.ofNat 0), Value.int IntKind.i64 (Int.ofNat 0)] })], stood := false, eqg := false }
noncomputable def ty76 : TRow := { und := TypeDesc.func { toList := [27, 3, 3] } { toList := [3, 74] } false, size := 1, bytes := 8, zero := some [SV.val Value.nilFunc], stood := false, eqg := false }
noncomputable def ty77 : TRow := { und := TypeDesc.func { toList := [27, 3, 3] } { toList := [4] } false, size := 1, bytes := 8, zero := some [SV.val Value.nilFunc], stood := false, eqg := false }
noncomputable def ty78 : TRow := { und := TypeDesc.func { toList := [3, 3] } { toList := [4] } false, size := 1, bytes := 8, zero := some [SV.val Value.nilFunc], stood := false, eqg := false }
noncomputable def ty79 : TRow := { und := TypeDesc.func { toList := [27, 3, 3, 3] } { toList := [3] } false, size := 1, bytes := 8, zero := some [SV.val Value.nilFunc], stood := false, eqg := false }
noncomputable def ty80 : TRow := { und := TypeDesc.tuple { toList := [3, 4] }, size := 1, bytes := 0, zero := some [SV.val (Value.tuple { toList := [Value.int IntKind.i64 (Int.ofNat 0), Value.bool false] })], stood := false, eqg := false }
noncomputable def ty81 : TRow := { und := TypeDesc.func { toList := [27, 3, 3, 3] } { toList := [3, 4] } false, size := 1, bytes := 8, zero := some [SV.val Value.nilFunc], stood := false, eqg := false }
noncomputable def ty82 : TRow := { und := TypeDesc.func { toList := [83] } { toList := [3] } false, size := 1, bytes := 8, zero := some [SV.val Value.nilFunc], stood := false, eqg := false }
noncomputable def ty83 : TRow := { und := TypeDesc.int IntKind.u32, size := 1, bytes := 4, zero := some [SV.li IntKind.u32 0], stood := false, eqg := false }
noncomputable def ty84 : TRow := { und := TypeDesc.func { toList := [85] } { toList := [3] } false, size := 1, bytes := 8, zero := some [SV.val Value.nilFunc], stood := false, eqg := false }
noncomputable def ty85 : TRow := { und := TypeDesc.int IntKind.u64, size := 1, bytes := 8, zero := some [SV.li IntKind.u64 0], stood := false, eqg := false }
noncomputable def ty86 : TRow := { und := TypeDesc.func { toList := [58, 61] } { toList := [58] } false, size := 1, bytes := 8, zero := some [SV.val Value.nilFunc], stood := false, eqg := false }
noncomputable def ty87 : TRow := { und := TypeDesc.func { toList := [58, 3, 3, 3, 63] } { toList := [] } false, size := 1, bytes := 8, zero := some [SV.val Value.nilFunc], stood := false, eqg := false }
noncomputable def ty88 : TRow := { und := TypeDesc.int IntKind.u64, size := 1, bytes := 8, zero := some [SV.li IntKind.u64 0], stood := false, eqg := false }
noncomputable def ty89 : TRow := { und := TypeDesc.func { toList := [3] } { toList := [69] } false, size := 1, bytes := 8, zero := some [SV.val Value.nilFunc], stood := false, eqg := false }
noncomputable def ty90 : TRow := { und := TypeDesc.func { toList := [] } { toList := [85] } false, size := 1, bytes := 8, zero := some [SV.val Value.nilFunc], stood := false, eqg := false }
noncomputable def ty91 : TRow := { und := TypeDesc.func { toList := [27, 3, 92] } { toList := [3] } false, size := 1, bytes := 8, zero := some [SV.val Value.nilFunc], stood := false, eqg := false }
noncomputable def ty92 : TRow := { und := TypeDesc.pointer 3, size := 1, bytes := 8, zero := some [SV.val (Value.pointer none)], stood := false, eqg := false }
noncomputable def ty93 : TRow := { und := TypeDesc.func { toList := [27, 3, 3, 3, 92] } { toList := [3] } false, size := 1, bytes := 8, zero := some [SV.val Value.nilFunc], stood := false, eqg := false }
noncomputable def ty94 : TRow := { und := TypeDesc.func { toList := [58, 3, 3, 63] } { toList := [] } false, size := 1, bytes := 8, zero := some [SV.val Value.nilFunc], stood := false, eqg := false }
noncomputable def ty95 : TRow := { und := TypeDesc.func { toList := [58, 3, 3, 63] } { toList := [3, 74] } false, size := 1, bytes := 8, zero := some [SV.val Value.nilFunc], stood := false, eqg := false }
noncomputable def ty96 : TRow := { und := TypeDesc.func { toList := [58, 3, 3, 63] } { toList := [4] } false, size := 1, bytes := 8, zero := some [SV.val Value.nilFunc], stood := false, eqg := false }
noncomputable def ty97 : TRow := { und := TypeDesc.func { toList := [58, 3, 3, 3, 63] } { toList := [3] } false, size := 1, bytes := 8, zero := some [SV.val Value.nilFunc], stood := false, eqg := false }
noncomputable def ty98 : TRow := { und := TypeDesc.func { toList := [58, 3, 3, 3, 63] } { toList := [3, 4] } false, size := 1, bytes := 8, zero := some [SV.val Value.nilFunc], stood := false, eqg := false }
noncomputable def ty99 : TRow := { und := TypeDesc.pointer 88, size := 1, bytes := 8, zero := some [SV.val (Value.pointer none)], stood := false, eqg := false }
noncomputable def ty100 : TRow := { und := TypeDesc.tuple { toList := [3, 3] }, size := 1, bytes := 0, zero := some [SV.val (Value.tuple { toList := [Value.int IntKind.i64 (Int.ofNat 0), Value.int IntKind.i64 (Int.ofNat 0)] })], stood := false, eqg := false }
noncomputable def ty101 : TRow := { und := TypeDesc.func { toList := [27, 3, 3, 92] } { toList := [3, 3] } false, size := 1, bytes := 8, zero := some [SV.val Value.nilFunc], stood := false, eqg := false }
noncomputable def ty102 : TRow := { und := TypeDesc.func { toList := [58, 3, 92, 63] } { toList := [3] } false, size := 1, bytes := 8, zero := some [SV.val Value.nilFunc], stood := false, eqg := false }
noncomputable def ty103 : TRow := { und := TypeDesc.func { toList := [58, 3, 3, 3, 92, 63] } { toList := [3] } false, size := 1, bytes := 8, zero := some [SV.val Value.nilFunc], stood := false, eqg := false }
noncomputable def ty104 : TRow := { und := TypeDesc.func { toList := [58, 3, 3, 92, 63] } { toList := [3, 3] } false, size := 1, bytes := 8, zero := some [SV.val Value.nilFunc], stood := false, eqg := false }
noncomputable def ty105 : TRow := { und := TypeDesc.func { toList := [] } { toList := [9] } false, size := 1, bytes := 8, zero := some [SV.val Value.nilFunc], stood := false, eqg := false }
noncomputable def ty108 : TRow := { und := TypeDesc.array 0 16, size := 0, bytes := 0, zero := some [], stood := false, eqg := false }
noncomputable def ty109 : TRow := { und := TypeDesc.struct { toList := [{ name := "_", type := 108, offset := 0, embedded := false, tag := "", pkgPath := "runtime", byteOffset := 0 }] }, size := 0, bytes := 0, zero := some [], stood := true, eqg := false }
noncomputable def ty110 : TRow := { und := TypeDesc.struct { toList := [{ name := "_", type := 108, offset := 0, embedded := false, tag := "", pkgPath := "runtime", byteOffset := 0 }] }, size := 0, bytes := 0, zero := some [], stood := true, eqg := false }
noncomputable def ty111 : TRow := { und := TypeDesc.func { toList := [] } { toList := [3] } false, size := 1, bytes := 8, zero := some [SV.val Value.nilFunc], stood := false, eqg := false }
noncomputable def ty112 : TRow := { und := TypeDesc.int IntKind.u8, size := 1, bytes := 1, zero := some [SV.li IntKind.u8 0], stood := false, eqg := false }
noncomputable def ty113 : TRow := { und := TypeDesc.int IntKind.u8, size := 1, bytes := 1, zero := some [SV.li IntKind.u8 0], stood := false, eqg := false }
noncomputable def ty114 : TRow := { und := TypeDesc.func { toList := [120, 120] } { toList := [4] } false, size := 1, bytes := 8, zero := some [SV.val Value.nilFunc], stood := false, eqg := false }
noncomputable def ty115 : TRow := { und := TypeDesc.pointer 5, size := 1, bytes := 8, zero := some [SV.val (Value.pointer none)], stood := false, eqg := false }
noncomputable def ty116 : TRow := { und := TypeDesc.int IntKind.i32, size := 1, bytes := 4, zero := some [SV.li IntKind.i32 0], stood := false, eqg := false }
noncomputable def ty117 : TRow := { und := TypeDesc.int IntKind.i32, size := 1, bytes := 4, zero := some [SV.li IntKind.i32 0], stood := false, eqg := false }
noncomputable def ty118 : TRow := { und := TypeDesc.struct { toList := [{ name := "Size_", type := 12, offset := 0, embedded := false, tag := "", pkgPath := "", byteOffset := 0 }, { name := "PtrBytes", type := 12, offset := 1, embedded := false, tag := "", pkgPath := "", byteOffset := 8 }, { name := "Hash", type := 83, offset := 2, embedded := false, tag := "", pkgPath := "", byteOffset := 16 }, { name := "TFlag", type := 112, offset := 3, embedded := false, tag := "", pkgPath := "", byteOffset := 20 }, { name := "Align_", type := 5, offset := 4, embedded := false, tag := "", pkgPath := "", byteOffset := 21 }, { name := "FieldAlign_", type := 5, offset := 5, embedded := false, tag := "", pkgPath := "", byteOffset := 22 }, { name := "Kind_", type := 113, offset := 6, embedded := false, tag := "", pkgPath := "", byteOffset := 23 }, { name := "Equal", type := 114, offset := 7, embedded := false, tag := "", pkgPath := "", byteOffset := 24 }, { name := "GCData", type := 115, offset := 8, embedded := false, tag := "", pkgPath := "", byteOffset := 32 }, { name := "Str", type := 116, offset := 9, embedded := false, tag := "", pkgPath := "", byteOffset := 40 }, { name := "PtrToThis", type := 117, offset := 10, embedded := false, tag := "", pkgPath := "", byteOffset := 44 }] }, size := 11, bytes := 48, zero := some [SV.li IntKind.u64 0, SV.li IntKind.u64 0, SV.li IntKind.u32 0, SV.li IntKind.u8 0, SV.li IntKind.u8 0, SV.li IntKind.u8 0, SV.li IntKind.u8 0, SV.val Value.nilFunc, SV.val (Value.pointer none), SV.li IntKind.i32 0, SV.li IntKind.i32 0], stood := true, eqg := false }
noncomputable def ty119 : TRow := { und := TypeDesc.struct { toList := [{ name := "Size_", type := 12, offset := 0, embedded := false, tag := "", pkgPath := "", byteOffset := 0 }, { name := "PtrBytes", type := 12, offset := 1, embedded := false, tag := "", pkgPath := "", byteOffset := 8 }, { name := "Hash", type := 83, offset := 2, embedded := false, tag := "", pkgPath := "", byteOffset := 16 }, { name := "TFlag", type := 112, offset := 3, embedded := false, tag := "", pkgPath := "", byteOffset := 20 }, { name := "Align_", type := 5, offset := 4, embedded := false, tag := "", pkgPath := "", byteOffset := 21 }, { name := "FieldAlign_", type := 5, offset := 5, embedded := false, tag := "", pkgPath := "", byteOffset := 22 }, { name := "Kind_", type := 113, offset := 6, embedded := false, tag := "", pkgPath := "", byteOffset := 23 }, { name := "Equal", type := 114, offset := 7, embedded := false, tag := "", pkgPath := "", byteOffset := 24 }, { name := "GCData", type := 115, offset := 8, embedded := false, tag := "", pkgPath := "", byteOffset := 32 }, { name := "Str", type := 116, offset := 9, embedded := false, tag := "", pkgPath := "", byteOffset := 40 }, { name := "PtrToThis", type := 117, offset := 10, embedded := false, tag := "", pkgPath := "", byteOffset := 44 }] }, size := 11, bytes := 48, zero := some [SV.li IntKind.u64 0, SV.li IntKind.u64 0, SV.li IntKind.u32 0, SV.li IntKind.u8 0, SV.li IntKind.u8 0, SV.li IntKind.u8 0, SV.li IntKind.u8 0, SV.val Value.nilFunc, SV.val (Value.pointer none), SV.li IntKind.i32 0, SV.li IntKind.i32 0], stood := true, eqg := false }
noncomputable def ty120 : TRow := { und := TypeDesc.unsafePointer, size := 1, bytes := 8, zero := some [SV.val (Value.pointer none)], stood := false, eqg := false }
noncomputable def tyTrie : TT TRow := (.node (some ty0) (.node (some ty1) (.node (some ty3) (.node (some ty7) (.node (some ty15) (.node (some ty31) (.node (some ty63) .nil .nil) (.node (some ty95) .nil .nil)) (.node (some ty47) (.node (some ty79) .nil .nil) (.node (some ty111) .nil .nil))) (.node (some ty23) (.node (some ty39) (.node (some ty71) .nil .nil) (.node (some ty103) .nil .nil)) (.node (some ty55) (.node (some ty87) .nil .nil) (.node (some ty119) .nil .nil)))) (.node (some ty11) (.node (some ty19) (.node (some ty35) (.node (some ty67) .nil .nil) (.node (some ty99) .nil .nil)) (.node (some ty51) (.node (some ty83) .nil .nil) (.node (some ty115) .nil .nil))) (.node (some ty27) (.node (some ty43) (.node (some ty75) .nil .nil) .nil) (.node (some ty59) (.node (some ty91) .nil .nil) .nil)))) (.node (some ty5) (.node (some ty9) (.node (some ty17) (.node (some ty33) (.node (some ty65) .nil .nil) (.node (some ty97) .nil .nil)) (.node (some ty49) (.node (some ty81) .nil .nil) (.node (some ty113) .nil .nil))) (.node (some ty25) (.node (some ty41) (.node (some ty73) .nil .nil) (.node (some ty105) .nil .nil)) (.node (some ty57) (.node (some ty89) .nil .nil) .nil))) (.node (some ty13) (.node (some ty21) (.node (some ty37) (.node (some ty69) .nil .nil) (.node (some ty101) .nil .nil)) (.node (some ty53) (.node (some ty85) .nil .nil) (.node (some ty117) .nil .nil))) (.node (some ty29) (.node (some ty45) (.node (some ty77) .nil .nil) (.node (some ty109) .nil .nil)) (.node (some ty61) (.node (some ty93) .nil .nil) .nil))))) (.node (some ty2) (.node (some ty4) (.node (some ty8) (.node (some ty16) (.node (some ty32) (.node (some ty64) .nil .nil) (.node (some ty96) .nil .nil)) (.node (some ty48) (.node (some ty80) .nil .nil) (.node (some ty112) .nil .nil))) (.node (some ty24) (.node (some ty40) (.node (some ty72) .nil .nil) (.node (some ty104) .nil .nil)) (.node (some ty56) (.node (some ty88) .nil .nil) (.node (some ty120) .nil .nil)))) (.node (some ty12) (.node none (.node (some ty36) (.node (some ty68) .nil .nil) (.node (some ty100) .nil .nil)) (.node (some ty52) (.node (some ty84) .nil .nil) (.node (some ty116) .nil .nil))) (.node (some ty28) (.node (some ty44) (.node (some ty76) .nil .nil) (.node (some ty108) .nil .nil)) (.node (some ty60) (.node (some ty92) .nil .nil) .nil)))) (.node (some ty6) (.node (some ty10) (.node (some ty18) (.node (some ty34) (.node (some ty66) .nil .nil) (.node (some ty98) .nil .nil)) (.node (some ty50) (.node (some ty82) .nil .nil) (.node (some ty114) .nil .nil))) (.node (some ty26) (.node (some ty42) (.node (some ty74) .nil .nil) .nil) (.node (some ty58) (.node (some ty90) .nil .nil) .nil))) (.node (some ty14) (.node (some ty22) (.node (some ty38) (.node (some ty70) .nil .nil) (.node (some ty102) .nil .nil)) (.node (some ty54) (.node (some ty86) .nil .nil) (.node (some ty118) .nil .nil))) (.node (some ty30) (.node (some ty46) (.node (some ty78) .nil .nil) (.node (some ty110) .nil .nil)) (.node (some ty62) (.node (some ty94) .nil .nil) .nil))))))
noncomputable def fnTrie : TT Func := (.node (some Try.f0) (.node (some Try.f1) (.node (some Try.f3) (.node (some Try.f7) (.node (some Try.f15) (.node (some Try.f31) (.node (some Try.f63) .nil .nil) .nil) (.node (some Try.f47) (.node (some Try.f79) .nil .nil) .nil)) (.node (some Try.f23) (.node (some Try.f39) (.node (some Try.f71) .nil .nil) .nil) (.node (some Try.f55) (.node (some Try.f87) .nil .nil) .nil))) (.node (some Try.f11) (.node (some Try.f19) (.node (some Try.f35) (.node (some Try.f67) .nil .nil) .nil) (.node (some Try.f51) (.node (some Try.f83) .nil .nil) .nil)) (.node (some Try.f27) (.node (some Try.f43) (.node (some Try.f75) .nil .nil) .nil) (.node (some Try.f59) .nil .nil)))) (.node (some Try.f5) (.node (some Try.f9) (.node (some Try.f17) (.node (some Try.f33) (.node (some Try.f65) .nil .nil) .nil) (.node (some Try.f49) (.node (some Try.f81) .nil .nil) .nil)) (.node (some Try.f25) (.node (some Try.f41) (.node (some Try.f73) .nil .nil) .nil) (.node (some Try.f57) .nil .nil))) (.node (some Try.f13) (.node (some Try.f21) (.node (some Try.f37) (.node (some Try.f69) .nil .nil) .nil) (.node (some Try.f53) (.node (some Try.f85) .nil .nil) .nil)) (.node (some Try.f29) (.node (some Try.f45) (.node (some Try.f77) .nil .nil) .nil) (.node (some Try.f61) .nil .nil))))) (.node (some Try.f2) (.node (some Try.f4) (.node (some Try.f8) (.node (some Try.f16) (.node (some Try.f32) (.node (some Try.f64) .nil .nil) .nil) (.node (some Try.f48) (.node (some Try.f80) .nil .nil) .nil)) (.node (some Try.f24) (.node (some Try.f40) (.node (some Try.f72) .nil .nil) .nil) (.node (some Try.f56) (.node (some Try.f88) .nil .nil) .nil))) (.node (some Try.f12) (.node (some Try.f20) (.node (some Try.f36) (.node (some Try.f68) .nil .nil) .nil) (.node (some Try.f52) (.node (some Try.f84) .nil .nil) .nil)) (.node (some Try.f28) (.node (some Try.f44) (.node (some Try.f76) .nil .nil) .nil) (.node (some Try.f60) .nil .nil)))) (.node (some Try.f6) (.node (some Try.f10) (.node (some Try.f18) (.node (some Try.f34) (.node (some Try.f66) .nil .nil) .nil) (.node (some Try.f50) (.node (some Try.f82) .nil .nil) .nil)) (.node (some Try.f26) (.node (some Try.f42) (.node (some Try.f74) .nil .nil) .nil) (.node (some Try.f58) .nil .nil))) (.node (some Try.f14) (.node (some Try.f22) (.node (some Try.f38) (.node (some Try.f70) .nil .nil) .nil) (.node (some Try.f54) (.node (some Try.f86) .nil .nil) .nil)) (.node (some Try.f30) (.node (some Try.f46) (.node (some Try.f78) .nil .nil) .nil) (.node (some Try.f62) .nil .nil))))))
def mp47 : MRow := ⟨33, 56, .agg [.int .i64, .int .i64], .agg [.int .i64, .int .i64, .int .i64], .a [.i 0, .i 0, .i 0]⟩
def mapT : TypeId → Option MRow
  | 47 => some mp47
  | _ => none
noncomputable def tab : Tab := { n := 121, ty := tyTrie, m := 89, fn := fnTrie, mp := mapT }
theorem mr47 (a b : D) : eqSV tab 60 mp47.kt (enc mp47.k a) (enc mp47.k b) = some ((((a.at 0).int == (b.at 0).int) && (((a.at 1).int == (b.at 1).int) && true))) := by kernel_rfl
theorem mq47 : ∀ a b, eqSV tab 60 mp47.kt (enc mp47.k a) (enc mp47.k b) = some (keyB mp47.k a b) := fun a b => by
  rw [mr47]
  exact congrArg some (by first | rfl | simp [keyB, keyBL, mp47, Bool.and_assoc])
theorem mz47 : ((Try.prog.info? mp47.et).bind (·.zero)).map (zden mp47.v mp47.z) = some true := by kernel_rfl
theorem mp_zero {P : Program} {et : TypeId} {v : Sh} {z : D} (h : ((P.info? et).bind (·.zero)).map (zden v z) = some true) : ∃ i zv, P.info? et = some i ∧ i.zero = some zv ∧ zden v z zv = true := by
  cases hi : P.info? et with
  | none => rw [hi] at h; cases h
  | some i =>
    rw [hi] at h
    cases hz : i.zero with
    | none => simp [hz] at h
    | some zv => simp [hz] at h; exact ⟨i, zv, rfl, hz, h⟩
def chk (P : Program) (t : TypeId) (r : TRow) : Prop := P.underlying t = some r.und ∧ (P.info? t).map (fun i => (i.size, i.bytes, i.zero.map (fun z => z.cells.toList.map ofCell))) = some (r.size, r.bytes, r.zero) ∧ P.stoodInHeld t = r.stood ∧ P.eqGuardType P.depth t = r.eqg
theorem ok0 : chk Try.prog 0 ty0 := ⟨by kernel_rfl, by kernel_rfl, by kernel_rfl, by kernel_rfl⟩
theorem ok1 : chk Try.prog 1 ty1 := ⟨by kernel_rfl, by kernel_rfl, by kernel_rfl, by kernel_rfl⟩
theorem ok2 : chk Try.prog 2 ty2 := ⟨by kernel_rfl, by kernel_rfl, by kernel_rfl, by kernel_rfl⟩
theorem ok3 : chk Try.prog 3 ty3 := ⟨by kernel_rfl, by kernel_rfl, by kernel_rfl, by kernel_rfl⟩
theorem ok4 : chk Try.prog 4 ty4 := ⟨by kernel_rfl, by kernel_rfl, by kernel_rfl, by kernel_rfl⟩
theorem ok5 : chk Try.prog 5 ty5 := ⟨by kernel_rfl, by kernel_rfl, by kernel_rfl, by kernel_rfl⟩
theorem ok6 : chk Try.prog 6 ty6 := ⟨by kernel_rfl, by kernel_rfl, by kernel_rfl, by kernel_rfl⟩
theorem ok7 : chk Try.prog 7 ty7 := ⟨by kernel_rfl, by kernel_rfl, by kernel_rfl, by kernel_rfl⟩
theorem ok8 : chk Try.prog 8 ty8 := ⟨by kernel_rfl, by kernel_rfl, by kernel_rfl, by kernel_rfl⟩
theorem ok9 : chk Try.prog 9 ty9 := ⟨by kernel_rfl, by kernel_rfl, by kernel_rfl, by kernel_rfl⟩
theorem ok10 : chk Try.prog 10 ty10 := ⟨by kernel_rfl, by kernel_rfl, by kernel_rfl, by kernel_rfl⟩
theorem ok11 : chk Try.prog 11 ty11 := ⟨by kernel_rfl, by kernel_rfl, by kernel_rfl, by kernel_rfl⟩
theorem ok12 : chk Try.prog 12 ty12 := ⟨by kernel_rfl, by kernel_rfl, by kernel_rfl, by kernel_rfl⟩
theorem ok13 : chk Try.prog 13 ty13 := ⟨by kernel_rfl, by kernel_rfl, by kernel_rfl, by kernel_rfl⟩
theorem ok14 : chk Try.prog 14 ty14 := ⟨by kernel_rfl, by kernel_rfl, by kernel_rfl, by kernel_rfl⟩
theorem ok15 : chk Try.prog 15 ty15 := ⟨by kernel_rfl, by kernel_rfl, by kernel_rfl, by kernel_rfl⟩
theorem ok16 : chk Try.prog 16 ty16 := ⟨by kernel_rfl, by kernel_rfl, by kernel_rfl, by kernel_rfl⟩
theorem ok17 : chk Try.prog 17 ty17 := ⟨by kernel_rfl, by kernel_rfl, by kernel_rfl, by kernel_rfl⟩
theorem ok18 : chk Try.prog 18 ty18 := ⟨by kernel_rfl, by kernel_rfl, by kernel_rfl, by kernel_rfl⟩
theorem ok19 : chk Try.prog 19 ty19 := ⟨by kernel_rfl, by kernel_rfl, by kernel_rfl, by kernel_rfl⟩
theorem ok21 : chk Try.prog 21 ty21 := ⟨by kernel_rfl, by kernel_rfl, by kernel_rfl, by kernel_rfl⟩
theorem ok22 : chk Try.prog 22 ty22 := ⟨by kernel_rfl, by kernel_rfl, by kernel_rfl, by kernel_rfl⟩
theorem ok23 : chk Try.prog 23 ty23 := ⟨by kernel_rfl, by kernel_rfl, by kernel_rfl, by kernel_rfl⟩
theorem ok24 : chk Try.prog 24 ty24 := ⟨by kernel_rfl, by kernel_rfl, by kernel_rfl, by kernel_rfl⟩
theorem ok25 : chk Try.prog 25 ty25 := ⟨by kernel_rfl, by kernel_rfl, by kernel_rfl, by kernel_rfl⟩
theorem ok26 : chk Try.prog 26 ty26 := ⟨by kernel_rfl, by kernel_rfl, by kernel_rfl, by kernel_rfl⟩
theorem ok27 : chk Try.prog 27 ty27 := ⟨by kernel_rfl, by kernel_rfl, by kernel_rfl, by kernel_rfl⟩
theorem ok28 : chk Try.prog 28 ty28 := ⟨by kernel_rfl, by kernel_rfl, by kernel_rfl, by kernel_rfl⟩
theorem ok29 : chk Try.prog 29 ty29 := ⟨by kernel_rfl, by kernel_rfl, by kernel_rfl, by kernel_rfl⟩
theorem ok30 : chk Try.prog 30 ty30 := ⟨by kernel_rfl, by kernel_rfl, by kernel_rfl, by kernel_rfl⟩
theorem ok31 : chk Try.prog 31 ty31 := ⟨by kernel_rfl, by kernel_rfl, by kernel_rfl, by kernel_rfl⟩
theorem ok32 : chk Try.prog 32 ty32 := ⟨by kernel_rfl, by kernel_rfl, by kernel_rfl, by kernel_rfl⟩
theorem ok33 : chk Try.prog 33 ty33 := ⟨by kernel_rfl, by kernel_rfl, by kernel_rfl, by kernel_rfl⟩
theorem ok34 : chk Try.prog 34 ty34 := ⟨by kernel_rfl, by kernel_rfl, by kernel_rfl, by kernel_rfl⟩
theorem ok35 : chk Try.prog 35 ty35 := ⟨by kernel_rfl, by kernel_rfl, by kernel_rfl, by kernel_rfl⟩
theorem ok36 : chk Try.prog 36 ty36 := ⟨by kernel_rfl, by kernel_rfl, by kernel_rfl, by kernel_rfl⟩
theorem ok37 : chk Try.prog 37 ty37 := ⟨by kernel_rfl, by kernel_rfl, by kernel_rfl, by kernel_rfl⟩
theorem ok38 : chk Try.prog 38 ty38 := ⟨by kernel_rfl, by kernel_rfl, by kernel_rfl, by kernel_rfl⟩
theorem ok39 : chk Try.prog 39 ty39 := ⟨by kernel_rfl, by kernel_rfl, by kernel_rfl, by kernel_rfl⟩
theorem ok40 : chk Try.prog 40 ty40 := ⟨by kernel_rfl, by kernel_rfl, by kernel_rfl, by kernel_rfl⟩
theorem ok41 : chk Try.prog 41 ty41 := ⟨by kernel_rfl, by kernel_rfl, by kernel_rfl, by kernel_rfl⟩
theorem ok42 : chk Try.prog 42 ty42 := ⟨by kernel_rfl, by kernel_rfl, by kernel_rfl, by kernel_rfl⟩
theorem ok43 : chk Try.prog 43 ty43 := ⟨by kernel_rfl, by kernel_rfl, by kernel_rfl, by kernel_rfl⟩
theorem ok44 : chk Try.prog 44 ty44 := ⟨by kernel_rfl, by kernel_rfl, by kernel_rfl, by kernel_rfl⟩
theorem ok45 : chk Try.prog 45 ty45 := ⟨by kernel_rfl, by kernel_rfl, by kernel_rfl, by kernel_rfl⟩
theorem ok46 : chk Try.prog 46 ty46 := ⟨by kernel_rfl, by kernel_rfl, by kernel_rfl, by kernel_rfl⟩
theorem ok47 : chk Try.prog 47 ty47 := ⟨by kernel_rfl, by kernel_rfl, by kernel_rfl, by kernel_rfl⟩
theorem ok48 : chk Try.prog 48 ty48 := ⟨by kernel_rfl, by kernel_rfl, by kernel_rfl, by kernel_rfl⟩
theorem ok49 : chk Try.prog 49 ty49 := ⟨by kernel_rfl, by kernel_rfl, by kernel_rfl, by kernel_rfl⟩
theorem ok50 : chk Try.prog 50 ty50 := ⟨by kernel_rfl, by kernel_rfl, by kernel_rfl, by kernel_rfl⟩
theorem ok51 : chk Try.prog 51 ty51 := ⟨by kernel_rfl, by kernel_rfl, by kernel_rfl, by kernel_rfl⟩
theorem ok52 : chk Try.prog 52 ty52 := ⟨by kernel_rfl, by kernel_rfl, by kernel_rfl, by kernel_rfl⟩
theorem ok53 : chk Try.prog 53 ty53 := ⟨by kernel_rfl, by kernel_rfl, by kernel_rfl, by kernel_rfl⟩
theorem ok54 : chk Try.prog 54 ty54 := ⟨by kernel_rfl, by kernel_rfl, by kernel_rfl, by kernel_rfl⟩
theorem ok55 : chk Try.prog 55 ty55 := ⟨by kernel_rfl, by kernel_rfl, by kernel_rfl, by kernel_rfl⟩
theorem ok56 : chk Try.prog 56 ty56 := ⟨by kernel_rfl, by kernel_rfl, by kernel_rfl, by kernel_rfl⟩
theorem ok57 : chk Try.prog 57 ty57 := ⟨by kernel_rfl, by kernel_rfl, by kernel_rfl, by kernel_rfl⟩
theorem ok58 : chk Try.prog 58 ty58 := ⟨by kernel_rfl, by kernel_rfl, by kernel_rfl, by kernel_rfl⟩
theorem ok59 : chk Try.prog 59 ty59 := ⟨by kernel_rfl, by kernel_rfl, by kernel_rfl, by kernel_rfl⟩
theorem ok60 : chk Try.prog 60 ty60 := ⟨by kernel_rfl, by kernel_rfl, by kernel_rfl, by kernel_rfl⟩
theorem ok61 : chk Try.prog 61 ty61 := ⟨by kernel_rfl, by kernel_rfl, by kernel_rfl, by kernel_rfl⟩
theorem ok62 : chk Try.prog 62 ty62 := ⟨by kernel_rfl, by kernel_rfl, by kernel_rfl, by kernel_rfl⟩
theorem ok63 : chk Try.prog 63 ty63 := ⟨by kernel_rfl, by kernel_rfl, by kernel_rfl, by kernel_rfl⟩
theorem ok64 : chk Try.prog 64 ty64 := ⟨by kernel_rfl, by kernel_rfl, by kernel_rfl, by kernel_rfl⟩
theorem ok65 : chk Try.prog 65 ty65 := ⟨by kernel_rfl, by kernel_rfl, by kernel_rfl, by kernel_rfl⟩
theorem ok66 : chk Try.prog 66 ty66 := ⟨by kernel_rfl, by kernel_rfl, by kernel_rfl, by kernel_rfl⟩
theorem ok67 : chk Try.prog 67 ty67 := ⟨by kernel_rfl, by kernel_rfl, by kernel_rfl, by kernel_rfl⟩
theorem ok68 : chk Try.prog 68 ty68 := ⟨by kernel_rfl, by kernel_rfl, by kernel_rfl, by kernel_rfl⟩
theorem ok69 : chk Try.prog 69 ty69 := ⟨by kernel_rfl, by kernel_rfl, by kernel_rfl, by kernel_rfl⟩
theorem ok70 : chk Try.prog 70 ty70 := ⟨by kernel_rfl, by kernel_rfl, by kernel_rfl, by kernel_rfl⟩
theorem ok71 : chk Try.prog 71 ty71 := ⟨by kernel_rfl, by kernel_rfl, by kernel_rfl, by kernel_rfl⟩
theorem ok72 : chk Try.prog 72 ty72 := ⟨by kernel_rfl, by kernel_rfl, by kernel_rfl, by kernel_rfl⟩
theorem ok73 : chk Try.prog 73 ty73 := ⟨by kernel_rfl, by kernel_rfl, by kernel_rfl, by kernel_rfl⟩
theorem ok74 : chk Try.prog 74 ty74 := ⟨by kernel_rfl, by kernel_rfl, by kernel_rfl, by kernel_rfl⟩
theorem ok75 : chk Try.prog 75 ty75 := ⟨by kernel_rfl, by kernel_rfl, by kernel_rfl, by kernel_rfl⟩
theorem ok76 : chk Try.prog 76 ty76 := ⟨by kernel_rfl, by kernel_rfl, by kernel_rfl, by kernel_rfl⟩
theorem ok77 : chk Try.prog 77 ty77 := ⟨by kernel_rfl, by kernel_rfl, by kernel_rfl, by kernel_rfl⟩
theorem ok78 : chk Try.prog 78 ty78 := ⟨by kernel_rfl, by kernel_rfl, by kernel_rfl, by kernel_rfl⟩
theorem ok79 : chk Try.prog 79 ty79 := ⟨by kernel_rfl, by kernel_rfl, by kernel_rfl, by kernel_rfl⟩
theorem ok80 : chk Try.prog 80 ty80 := ⟨by kernel_rfl, by kernel_rfl, by kernel_rfl, by kernel_rfl⟩
theorem ok81 : chk Try.prog 81 ty81 := ⟨by kernel_rfl, by kernel_rfl, by kernel_rfl, by kernel_rfl⟩
theorem ok82 : chk Try.prog 82 ty82 := ⟨by kernel_rfl, by kernel_rfl, by kernel_rfl, by kernel_rfl⟩
theorem ok83 : chk Try.prog 83 ty83 := ⟨by kernel_rfl, by kernel_rfl, by kernel_rfl, by kernel_rfl⟩
theorem ok84 : chk Try.prog 84 ty84 := ⟨by kernel_rfl, by kernel_rfl, by kernel_rfl, by kernel_rfl⟩
theorem ok85 : chk Try.prog 85 ty85 := ⟨by kernel_rfl, by kernel_rfl, by kernel_rfl, by kernel_rfl⟩
theorem ok86 : chk Try.prog 86 ty86 := ⟨by kernel_rfl, by kernel_rfl, by kernel_rfl, by kernel_rfl⟩
theorem ok87 : chk Try.prog 87 ty87 := ⟨by kernel_rfl, by kernel_rfl, by kernel_rfl, by kernel_rfl⟩
theorem ok88 : chk Try.prog 88 ty88 := ⟨by kernel_rfl, by kernel_rfl, by kernel_rfl, by kernel_rfl⟩
theorem ok89 : chk Try.prog 89 ty89 := ⟨by kernel_rfl, by kernel_rfl, by kernel_rfl, by kernel_rfl⟩
theorem ok90 : chk Try.prog 90 ty90 := ⟨by kernel_rfl, by kernel_rfl, by kernel_rfl, by kernel_rfl⟩
theorem ok91 : chk Try.prog 91 ty91 := ⟨by kernel_rfl, by kernel_rfl, by kernel_rfl, by kernel_rfl⟩
theorem ok92 : chk Try.prog 92 ty92 := ⟨by kernel_rfl, by kernel_rfl, by kernel_rfl, by kernel_rfl⟩
theorem ok93 : chk Try.prog 93 ty93 := ⟨by kernel_rfl, by kernel_rfl, by kernel_rfl, by kernel_rfl⟩
theorem ok94 : chk Try.prog 94 ty94 := ⟨by kernel_rfl, by kernel_rfl, by kernel_rfl, by kernel_rfl⟩
theorem ok95 : chk Try.prog 95 ty95 := ⟨by kernel_rfl, by kernel_rfl, by kernel_rfl, by kernel_rfl⟩
theorem ok96 : chk Try.prog 96 ty96 := ⟨by kernel_rfl, by kernel_rfl, by kernel_rfl, by kernel_rfl⟩
theorem ok97 : chk Try.prog 97 ty97 := ⟨by kernel_rfl, by kernel_rfl, by kernel_rfl, by kernel_rfl⟩
theorem ok98 : chk Try.prog 98 ty98 := ⟨by kernel_rfl, by kernel_rfl, by kernel_rfl, by kernel_rfl⟩
theorem ok99 : chk Try.prog 99 ty99 := ⟨by kernel_rfl, by kernel_rfl, by kernel_rfl, by kernel_rfl⟩
theorem ok100 : chk Try.prog 100 ty100 := ⟨by kernel_rfl, by kernel_rfl, by kernel_rfl, by kernel_rfl⟩
theorem ok101 : chk Try.prog 101 ty101 := ⟨by kernel_rfl, by kernel_rfl, by kernel_rfl, by kernel_rfl⟩
theorem ok102 : chk Try.prog 102 ty102 := ⟨by kernel_rfl, by kernel_rfl, by kernel_rfl, by kernel_rfl⟩
theorem ok103 : chk Try.prog 103 ty103 := ⟨by kernel_rfl, by kernel_rfl, by kernel_rfl, by kernel_rfl⟩
theorem ok104 : chk Try.prog 104 ty104 := ⟨by kernel_rfl, by kernel_rfl, by kernel_rfl, by kernel_rfl⟩
theorem ok105 : chk Try.prog 105 ty105 := ⟨by kernel_rfl, by kernel_rfl, by kernel_rfl, by kernel_rfl⟩
theorem ok108 : chk Try.prog 108 ty108 := ⟨by kernel_rfl, by kernel_rfl, by kernel_rfl, by kernel_rfl⟩
theorem ok109 : chk Try.prog 109 ty109 := ⟨by kernel_rfl, by kernel_rfl, by kernel_rfl, by kernel_rfl⟩
theorem ok110 : chk Try.prog 110 ty110 := ⟨by kernel_rfl, by kernel_rfl, by kernel_rfl, by kernel_rfl⟩
theorem ok111 : chk Try.prog 111 ty111 := ⟨by kernel_rfl, by kernel_rfl, by kernel_rfl, by kernel_rfl⟩
theorem ok112 : chk Try.prog 112 ty112 := ⟨by kernel_rfl, by kernel_rfl, by kernel_rfl, by kernel_rfl⟩
theorem ok113 : chk Try.prog 113 ty113 := ⟨by kernel_rfl, by kernel_rfl, by kernel_rfl, by kernel_rfl⟩
theorem ok114 : chk Try.prog 114 ty114 := ⟨by kernel_rfl, by kernel_rfl, by kernel_rfl, by kernel_rfl⟩
theorem ok115 : chk Try.prog 115 ty115 := ⟨by kernel_rfl, by kernel_rfl, by kernel_rfl, by kernel_rfl⟩
theorem ok116 : chk Try.prog 116 ty116 := ⟨by kernel_rfl, by kernel_rfl, by kernel_rfl, by kernel_rfl⟩
theorem ok117 : chk Try.prog 117 ty117 := ⟨by kernel_rfl, by kernel_rfl, by kernel_rfl, by kernel_rfl⟩
theorem ok118 : chk Try.prog 118 ty118 := ⟨by kernel_rfl, by kernel_rfl, by kernel_rfl, by kernel_rfl⟩
theorem ok119 : chk Try.prog 119 ty119 := ⟨by kernel_rfl, by kernel_rfl, by kernel_rfl, by kernel_rfl⟩
theorem ok120 : chk Try.prog 120 ty120 := ⟨by kernel_rfl, by kernel_rfl, by kernel_rfl, by kernel_rfl⟩
theorem tab_rows : ∀ t r, tab.row t = some r → chk Try.prog t r
  | 0, r, h => (Option.some.inj (show some ty0 = some r from h)) ▸ ok0
  | 1, r, h => (Option.some.inj (show some ty1 = some r from h)) ▸ ok1
  | 2, r, h => (Option.some.inj (show some ty2 = some r from h)) ▸ ok2
  | 3, r, h => (Option.some.inj (show some ty3 = some r from h)) ▸ ok3
  | 4, r, h => (Option.some.inj (show some ty4 = some r from h)) ▸ ok4
  | 5, r, h => (Option.some.inj (show some ty5 = some r from h)) ▸ ok5
  | 6, r, h => (Option.some.inj (show some ty6 = some r from h)) ▸ ok6
  | 7, r, h => (Option.some.inj (show some ty7 = some r from h)) ▸ ok7
  | 8, r, h => (Option.some.inj (show some ty8 = some r from h)) ▸ ok8
  | 9, r, h => (Option.some.inj (show some ty9 = some r from h)) ▸ ok9
  | 10, r, h => (Option.some.inj (show some ty10 = some r from h)) ▸ ok10
  | 11, r, h => (Option.some.inj (show some ty11 = some r from h)) ▸ ok11
  | 12, r, h => (Option.some.inj (show some ty12 = some r from h)) ▸ ok12
  | 13, r, h => (Option.some.inj (show some ty13 = some r from h)) ▸ ok13
  | 14, r, h => (Option.some.inj (show some ty14 = some r from h)) ▸ ok14
  | 15, r, h => (Option.some.inj (show some ty15 = some r from h)) ▸ ok15
  | 16, r, h => (Option.some.inj (show some ty16 = some r from h)) ▸ ok16
  | 17, r, h => (Option.some.inj (show some ty17 = some r from h)) ▸ ok17
  | 18, r, h => (Option.some.inj (show some ty18 = some r from h)) ▸ ok18
  | 19, r, h => (Option.some.inj (show some ty19 = some r from h)) ▸ ok19
  | 20, r, h => by cases (show none = some r from h)
  | 21, r, h => (Option.some.inj (show some ty21 = some r from h)) ▸ ok21
  | 22, r, h => (Option.some.inj (show some ty22 = some r from h)) ▸ ok22
  | 23, r, h => (Option.some.inj (show some ty23 = some r from h)) ▸ ok23
  | 24, r, h => (Option.some.inj (show some ty24 = some r from h)) ▸ ok24
  | 25, r, h => (Option.some.inj (show some ty25 = some r from h)) ▸ ok25
  | 26, r, h => (Option.some.inj (show some ty26 = some r from h)) ▸ ok26
  | 27, r, h => (Option.some.inj (show some ty27 = some r from h)) ▸ ok27
  | 28, r, h => (Option.some.inj (show some ty28 = some r from h)) ▸ ok28
  | 29, r, h => (Option.some.inj (show some ty29 = some r from h)) ▸ ok29
  | 30, r, h => (Option.some.inj (show some ty30 = some r from h)) ▸ ok30
  | 31, r, h => (Option.some.inj (show some ty31 = some r from h)) ▸ ok31
  | 32, r, h => (Option.some.inj (show some ty32 = some r from h)) ▸ ok32
  | 33, r, h => (Option.some.inj (show some ty33 = some r from h)) ▸ ok33
  | 34, r, h => (Option.some.inj (show some ty34 = some r from h)) ▸ ok34
  | 35, r, h => (Option.some.inj (show some ty35 = some r from h)) ▸ ok35
  | 36, r, h => (Option.some.inj (show some ty36 = some r from h)) ▸ ok36
  | 37, r, h => (Option.some.inj (show some ty37 = some r from h)) ▸ ok37
  | 38, r, h => (Option.some.inj (show some ty38 = some r from h)) ▸ ok38
  | 39, r, h => (Option.some.inj (show some ty39 = some r from h)) ▸ ok39
  | 40, r, h => (Option.some.inj (show some ty40 = some r from h)) ▸ ok40
  | 41, r, h => (Option.some.inj (show some ty41 = some r from h)) ▸ ok41
  | 42, r, h => (Option.some.inj (show some ty42 = some r from h)) ▸ ok42
  | 43, r, h => (Option.some.inj (show some ty43 = some r from h)) ▸ ok43
  | 44, r, h => (Option.some.inj (show some ty44 = some r from h)) ▸ ok44
  | 45, r, h => (Option.some.inj (show some ty45 = some r from h)) ▸ ok45
  | 46, r, h => (Option.some.inj (show some ty46 = some r from h)) ▸ ok46
  | 47, r, h => (Option.some.inj (show some ty47 = some r from h)) ▸ ok47
  | 48, r, h => (Option.some.inj (show some ty48 = some r from h)) ▸ ok48
  | 49, r, h => (Option.some.inj (show some ty49 = some r from h)) ▸ ok49
  | 50, r, h => (Option.some.inj (show some ty50 = some r from h)) ▸ ok50
  | 51, r, h => (Option.some.inj (show some ty51 = some r from h)) ▸ ok51
  | 52, r, h => (Option.some.inj (show some ty52 = some r from h)) ▸ ok52
  | 53, r, h => (Option.some.inj (show some ty53 = some r from h)) ▸ ok53
  | 54, r, h => (Option.some.inj (show some ty54 = some r from h)) ▸ ok54
  | 55, r, h => (Option.some.inj (show some ty55 = some r from h)) ▸ ok55
  | 56, r, h => (Option.some.inj (show some ty56 = some r from h)) ▸ ok56
  | 57, r, h => (Option.some.inj (show some ty57 = some r from h)) ▸ ok57
  | 58, r, h => (Option.some.inj (show some ty58 = some r from h)) ▸ ok58
  | 59, r, h => (Option.some.inj (show some ty59 = some r from h)) ▸ ok59
  | 60, r, h => (Option.some.inj (show some ty60 = some r from h)) ▸ ok60
  | 61, r, h => (Option.some.inj (show some ty61 = some r from h)) ▸ ok61
  | 62, r, h => (Option.some.inj (show some ty62 = some r from h)) ▸ ok62
  | 63, r, h => (Option.some.inj (show some ty63 = some r from h)) ▸ ok63
  | 64, r, h => (Option.some.inj (show some ty64 = some r from h)) ▸ ok64
  | 65, r, h => (Option.some.inj (show some ty65 = some r from h)) ▸ ok65
  | 66, r, h => (Option.some.inj (show some ty66 = some r from h)) ▸ ok66
  | 67, r, h => (Option.some.inj (show some ty67 = some r from h)) ▸ ok67
  | 68, r, h => (Option.some.inj (show some ty68 = some r from h)) ▸ ok68
  | 69, r, h => (Option.some.inj (show some ty69 = some r from h)) ▸ ok69
  | 70, r, h => (Option.some.inj (show some ty70 = some r from h)) ▸ ok70
  | 71, r, h => (Option.some.inj (show some ty71 = some r from h)) ▸ ok71
  | 72, r, h => (Option.some.inj (show some ty72 = some r from h)) ▸ ok72
  | 73, r, h => (Option.some.inj (show some ty73 = some r from h)) ▸ ok73
  | 74, r, h => (Option.some.inj (show some ty74 = some r from h)) ▸ ok74
  | 75, r, h => (Option.some.inj (show some ty75 = some r from h)) ▸ ok75
  | 76, r, h => (Option.some.inj (show some ty76 = some r from h)) ▸ ok76
  | 77, r, h => (Option.some.inj (show some ty77 = some r from h)) ▸ ok77
  | 78, r, h => (Option.some.inj (show some ty78 = some r from h)) ▸ ok78
  | 79, r, h => (Option.some.inj (show some ty79 = some r from h)) ▸ ok79
  | 80, r, h => (Option.some.inj (show some ty80 = some r from h)) ▸ ok80
  | 81, r, h => (Option.some.inj (show some ty81 = some r from h)) ▸ ok81
  | 82, r, h => (Option.some.inj (show some ty82 = some r from h)) ▸ ok82
  | 83, r, h => (Option.some.inj (show some ty83 = some r from h)) ▸ ok83
  | 84, r, h => (Option.some.inj (show some ty84 = some r from h)) ▸ ok84
  | 85, r, h => (Option.some.inj (show some ty85 = some r from h)) ▸ ok85
  | 86, r, h => (Option.some.inj (show some ty86 = some r from h)) ▸ ok86
  | 87, r, h => (Option.some.inj (show some ty87 = some r from h)) ▸ ok87
  | 88, r, h => (Option.some.inj (show some ty88 = some r from h)) ▸ ok88
  | 89, r, h => (Option.some.inj (show some ty89 = some r from h)) ▸ ok89
  | 90, r, h => (Option.some.inj (show some ty90 = some r from h)) ▸ ok90
  | 91, r, h => (Option.some.inj (show some ty91 = some r from h)) ▸ ok91
  | 92, r, h => (Option.some.inj (show some ty92 = some r from h)) ▸ ok92
  | 93, r, h => (Option.some.inj (show some ty93 = some r from h)) ▸ ok93
  | 94, r, h => (Option.some.inj (show some ty94 = some r from h)) ▸ ok94
  | 95, r, h => (Option.some.inj (show some ty95 = some r from h)) ▸ ok95
  | 96, r, h => (Option.some.inj (show some ty96 = some r from h)) ▸ ok96
  | 97, r, h => (Option.some.inj (show some ty97 = some r from h)) ▸ ok97
  | 98, r, h => (Option.some.inj (show some ty98 = some r from h)) ▸ ok98
  | 99, r, h => (Option.some.inj (show some ty99 = some r from h)) ▸ ok99
  | 100, r, h => (Option.some.inj (show some ty100 = some r from h)) ▸ ok100
  | 101, r, h => (Option.some.inj (show some ty101 = some r from h)) ▸ ok101
  | 102, r, h => (Option.some.inj (show some ty102 = some r from h)) ▸ ok102
  | 103, r, h => (Option.some.inj (show some ty103 = some r from h)) ▸ ok103
  | 104, r, h => (Option.some.inj (show some ty104 = some r from h)) ▸ ok104
  | 105, r, h => (Option.some.inj (show some ty105 = some r from h)) ▸ ok105
  | 106, r, h => by cases (show none = some r from h)
  | 107, r, h => by cases (show none = some r from h)
  | 108, r, h => (Option.some.inj (show some ty108 = some r from h)) ▸ ok108
  | 109, r, h => (Option.some.inj (show some ty109 = some r from h)) ▸ ok109
  | 110, r, h => (Option.some.inj (show some ty110 = some r from h)) ▸ ok110
  | 111, r, h => (Option.some.inj (show some ty111 = some r from h)) ▸ ok111
  | 112, r, h => (Option.some.inj (show some ty112 = some r from h)) ▸ ok112
  | 113, r, h => (Option.some.inj (show some ty113 = some r from h)) ▸ ok113
  | 114, r, h => (Option.some.inj (show some ty114 = some r from h)) ▸ ok114
  | 115, r, h => (Option.some.inj (show some ty115 = some r from h)) ▸ ok115
  | 116, r, h => (Option.some.inj (show some ty116 = some r from h)) ▸ ok116
  | 117, r, h => (Option.some.inj (show some ty117 = some r from h)) ▸ ok117
  | 118, r, h => (Option.some.inj (show some ty118 = some r from h)) ▸ ok118
  | 119, r, h => (Option.some.inj (show some ty119 = some r from h)) ▸ ok119
  | 120, r, h => (Option.some.inj (show some ty120 = some r from h)) ▸ ok120
  | t + 121, r, h => by have e : Nat.blt (t + 121) 121 = false := nltf.2 (by omega); unfold Tab.row at h; rw [show tab.n = 121 from rfl, e] at h; cases h
theorem tab_fns : ∀ f fn, tab.func f = some fn → Try.prog.funcs[f]? = some fn
  | 0, fn, h => (Option.some.inj (show some Try.f0 = some fn from h)) ▸ Try.func0
  | 1, fn, h => (Option.some.inj (show some Try.f1 = some fn from h)) ▸ Try.func1
  | 2, fn, h => (Option.some.inj (show some Try.f2 = some fn from h)) ▸ Try.func2
  | 3, fn, h => (Option.some.inj (show some Try.f3 = some fn from h)) ▸ Try.func3
  | 4, fn, h => (Option.some.inj (show some Try.f4 = some fn from h)) ▸ Try.func4
  | 5, fn, h => (Option.some.inj (show some Try.f5 = some fn from h)) ▸ Try.func5
  | 6, fn, h => (Option.some.inj (show some Try.f6 = some fn from h)) ▸ Try.func6
  | 7, fn, h => (Option.some.inj (show some Try.f7 = some fn from h)) ▸ Try.func7
  | 8, fn, h => (Option.some.inj (show some Try.f8 = some fn from h)) ▸ Try.func8
  | 9, fn, h => (Option.some.inj (show some Try.f9 = some fn from h)) ▸ Try.func9
  | 10, fn, h => (Option.some.inj (show some Try.f10 = some fn from h)) ▸ Try.func10
  | 11, fn, h => (Option.some.inj (show some Try.f11 = some fn from h)) ▸ Try.func11
  | 12, fn, h => (Option.some.inj (show some Try.f12 = some fn from h)) ▸ Try.func12
  | 13, fn, h => (Option.some.inj (show some Try.f13 = some fn from h)) ▸ Try.func13
  | 14, fn, h => (Option.some.inj (show some Try.f14 = some fn from h)) ▸ Try.func14
  | 15, fn, h => (Option.some.inj (show some Try.f15 = some fn from h)) ▸ Try.func15
  | 16, fn, h => (Option.some.inj (show some Try.f16 = some fn from h)) ▸ Try.func16
  | 17, fn, h => (Option.some.inj (show some Try.f17 = some fn from h)) ▸ Try.func17
  | 18, fn, h => (Option.some.inj (show some Try.f18 = some fn from h)) ▸ Try.func18
  | 19, fn, h => (Option.some.inj (show some Try.f19 = some fn from h)) ▸ Try.func19
  | 20, fn, h => (Option.some.inj (show some Try.f20 = some fn from h)) ▸ Try.func20
  | 21, fn, h => (Option.some.inj (show some Try.f21 = some fn from h)) ▸ Try.func21
  | 22, fn, h => (Option.some.inj (show some Try.f22 = some fn from h)) ▸ Try.func22
  | 23, fn, h => (Option.some.inj (show some Try.f23 = some fn from h)) ▸ Try.func23
  | 24, fn, h => (Option.some.inj (show some Try.f24 = some fn from h)) ▸ Try.func24
  | 25, fn, h => (Option.some.inj (show some Try.f25 = some fn from h)) ▸ Try.func25
  | 26, fn, h => (Option.some.inj (show some Try.f26 = some fn from h)) ▸ Try.func26
  | 27, fn, h => (Option.some.inj (show some Try.f27 = some fn from h)) ▸ Try.func27
  | 28, fn, h => (Option.some.inj (show some Try.f28 = some fn from h)) ▸ Try.func28
  | 29, fn, h => (Option.some.inj (show some Try.f29 = some fn from h)) ▸ Try.func29
  | 30, fn, h => (Option.some.inj (show some Try.f30 = some fn from h)) ▸ Try.func30
  | 31, fn, h => (Option.some.inj (show some Try.f31 = some fn from h)) ▸ Try.func31
  | 32, fn, h => (Option.some.inj (show some Try.f32 = some fn from h)) ▸ Try.func32
  | 33, fn, h => (Option.some.inj (show some Try.f33 = some fn from h)) ▸ Try.func33
  | 34, fn, h => (Option.some.inj (show some Try.f34 = some fn from h)) ▸ Try.func34
  | 35, fn, h => (Option.some.inj (show some Try.f35 = some fn from h)) ▸ Try.func35
  | 36, fn, h => (Option.some.inj (show some Try.f36 = some fn from h)) ▸ Try.func36
  | 37, fn, h => (Option.some.inj (show some Try.f37 = some fn from h)) ▸ Try.func37
  | 38, fn, h => (Option.some.inj (show some Try.f38 = some fn from h)) ▸ Try.func38
  | 39, fn, h => (Option.some.inj (show some Try.f39 = some fn from h)) ▸ Try.func39
  | 40, fn, h => (Option.some.inj (show some Try.f40 = some fn from h)) ▸ Try.func40
  | 41, fn, h => (Option.some.inj (show some Try.f41 = some fn from h)) ▸ Try.func41
  | 42, fn, h => (Option.some.inj (show some Try.f42 = some fn from h)) ▸ Try.func42
  | 43, fn, h => (Option.some.inj (show some Try.f43 = some fn from h)) ▸ Try.func43
  | 44, fn, h => (Option.some.inj (show some Try.f44 = some fn from h)) ▸ Try.func44
  | 45, fn, h => (Option.some.inj (show some Try.f45 = some fn from h)) ▸ Try.func45
  | 46, fn, h => (Option.some.inj (show some Try.f46 = some fn from h)) ▸ Try.func46
  | 47, fn, h => (Option.some.inj (show some Try.f47 = some fn from h)) ▸ Try.func47
  | 48, fn, h => (Option.some.inj (show some Try.f48 = some fn from h)) ▸ Try.func48
  | 49, fn, h => (Option.some.inj (show some Try.f49 = some fn from h)) ▸ Try.func49
  | 50, fn, h => (Option.some.inj (show some Try.f50 = some fn from h)) ▸ Try.func50
  | 51, fn, h => (Option.some.inj (show some Try.f51 = some fn from h)) ▸ Try.func51
  | 52, fn, h => (Option.some.inj (show some Try.f52 = some fn from h)) ▸ Try.func52
  | 53, fn, h => (Option.some.inj (show some Try.f53 = some fn from h)) ▸ Try.func53
  | 54, fn, h => (Option.some.inj (show some Try.f54 = some fn from h)) ▸ Try.func54
  | 55, fn, h => (Option.some.inj (show some Try.f55 = some fn from h)) ▸ Try.func55
  | 56, fn, h => (Option.some.inj (show some Try.f56 = some fn from h)) ▸ Try.func56
  | 57, fn, h => (Option.some.inj (show some Try.f57 = some fn from h)) ▸ Try.func57
  | 58, fn, h => (Option.some.inj (show some Try.f58 = some fn from h)) ▸ Try.func58
  | 59, fn, h => (Option.some.inj (show some Try.f59 = some fn from h)) ▸ Try.func59
  | 60, fn, h => (Option.some.inj (show some Try.f60 = some fn from h)) ▸ Try.func60
  | 61, fn, h => (Option.some.inj (show some Try.f61 = some fn from h)) ▸ Try.func61
  | 62, fn, h => (Option.some.inj (show some Try.f62 = some fn from h)) ▸ Try.func62
  | 63, fn, h => (Option.some.inj (show some Try.f63 = some fn from h)) ▸ Try.func63
  | 64, fn, h => (Option.some.inj (show some Try.f64 = some fn from h)) ▸ Try.func64
  | 65, fn, h => (Option.some.inj (show some Try.f65 = some fn from h)) ▸ Try.func65
  | 66, fn, h => (Option.some.inj (show some Try.f66 = some fn from h)) ▸ Try.func66
  | 67, fn, h => (Option.some.inj (show some Try.f67 = some fn from h)) ▸ Try.func67
  | 68, fn, h => (Option.some.inj (show some Try.f68 = some fn from h)) ▸ Try.func68
  | 69, fn, h => (Option.some.inj (show some Try.f69 = some fn from h)) ▸ Try.func69
  | 70, fn, h => (Option.some.inj (show some Try.f70 = some fn from h)) ▸ Try.func70
  | 71, fn, h => (Option.some.inj (show some Try.f71 = some fn from h)) ▸ Try.func71
  | 72, fn, h => (Option.some.inj (show some Try.f72 = some fn from h)) ▸ Try.func72
  | 73, fn, h => (Option.some.inj (show some Try.f73 = some fn from h)) ▸ Try.func73
  | 74, fn, h => (Option.some.inj (show some Try.f74 = some fn from h)) ▸ Try.func74
  | 75, fn, h => (Option.some.inj (show some Try.f75 = some fn from h)) ▸ Try.func75
  | 76, fn, h => (Option.some.inj (show some Try.f76 = some fn from h)) ▸ Try.func76
  | 77, fn, h => (Option.some.inj (show some Try.f77 = some fn from h)) ▸ Try.func77
  | 78, fn, h => (Option.some.inj (show some Try.f78 = some fn from h)) ▸ Try.func78
  | 79, fn, h => (Option.some.inj (show some Try.f79 = some fn from h)) ▸ Try.func79
  | 80, fn, h => (Option.some.inj (show some Try.f80 = some fn from h)) ▸ Try.func80
  | 81, fn, h => (Option.some.inj (show some Try.f81 = some fn from h)) ▸ Try.func81
  | 82, fn, h => (Option.some.inj (show some Try.f82 = some fn from h)) ▸ Try.func82
  | 83, fn, h => (Option.some.inj (show some Try.f83 = some fn from h)) ▸ Try.func83
  | 84, fn, h => (Option.some.inj (show some Try.f84 = some fn from h)) ▸ Try.func84
  | 85, fn, h => (Option.some.inj (show some Try.f85 = some fn from h)) ▸ Try.func85
  | 86, fn, h => (Option.some.inj (show some Try.f86 = some fn from h)) ▸ Try.func86
  | 87, fn, h => (Option.some.inj (show some Try.f87 = some fn from h)) ▸ Try.func87
  | 88, fn, h => (Option.some.inj (show some Try.f88 = some fn from h)) ▸ Try.func88
  | f + 89, fn, h => by have e : Nat.blt (f + 89) 89 = false := nltf.2 (by omega); unfold Tab.func at h; rw [show tab.m = 89 from rfl, e] at h; cases h
instance goodTab : GoodTab Try.prog tab where
  row := fun t r h => by
    obtain ⟨h1, h2, h3, h4⟩ := tab_rows t r h
    refine ⟨h1, ?_, fun e => by rw [h3, e], fun e => by rw [h4, e]⟩
    cases hi : Try.prog.info? t with
    | none => rw [hi] at h2; cases h2
    | some i =>
      rw [hi] at h2
      simp only [Option.map_some, Option.some.injEq, Prod.mk.injEq] at h2
      obtain ⟨e1, e2, e3⟩ := h2
      refine ⟨i, rfl, e1, e2, fun zl hz => ?_⟩
      rw [hz] at e3
      cases hzz : i.zero with
      | none => rw [hzz] at e3; cases e3
      | some z => rw [hzz] at e3; exact ⟨z, rfl, by simpa using e3⟩
  func := tab_fns
  mp := fun t r h => by
    have h : mapT t = some r := h
    unfold mapT at h
    split at h
    · simp only [Option.some.injEq] at h; subst h; exact ⟨by kernel_rfl, by kernel_rfl, mq47, fun a => by kernel_rfl, mp_zero mz47⟩
    · cases h
theorem follows : Try.prog.follows .mixedOrders = true := by kernel_rfl
end Go.Proofs.Ytmokkonnilmdfaa
