/-
  The table of the seat's types, printed by a program of this session's own (gen_tt.py), and that it is what the program's types come to.
-/
import Derived.Test.YtidbhhfilhognaaPvType
import Derived.Test.YtidbhhfilhognaaProg
import Derived.KernelRfl
namespace Go.Pv
open Go.Proofs
set_option maxRecDepth 100000

def tt1 : TT := ⟨.other, 1, 8, some [.nilf], none, true⟩
def tt2 : TT := ⟨.int .i64, 1, 8, some [.int .i64 0], some (.int .i64), true⟩
def tt3 : TT := ⟨.int .i64, 1, 8, some [.int .i64 0], some (.int .i64), true⟩
def tt4 : TT := ⟨.bool, 1, 1, some [.bool false], some .bool, true⟩
def tt5 : TT := ⟨.int .u8, 1, 1, some [.int .u8 0], some (.int .u8), true⟩
def tt9 : TT := ⟨.str, 1, 16, some [.str ⟨#[]⟩], some .str, true⟩
def tt12 : TT := ⟨.int .u64, 1, 8, some [.int .u64 0], some (.int .u64), true⟩
def tt21 : TT := ⟨.int .i32, 1, 4, some [.int .i32 0], some (.int .i32), true⟩
def tt22 : TT := ⟨.int .u8, 1, 1, some [.int .u8 0], some (.int .u8), true⟩
def tt23 : TT := ⟨.int .u16, 1, 2, some [.int .u16 0], some (.int .u16), true⟩
def tt24 : TT := ⟨.int .u16, 1, 2, some [.int .u16 0], some (.int .u16), true⟩
def tt25 : TT := ⟨.array 2 24, 2, 4, some [.int .u16 0, .int .u16 0], some (.pair (.int .u16) (.int .u16)), true⟩
def tt26 : TT := ⟨.array 2 24, 2, 4, some [.int .u16 0, .int .u16 0], some (.pair (.int .u16) (.int .u16)), true⟩
def tt27 : TT := ⟨.array 3 26, 6, 12, some [.int .u16 0, .int .u16 0, .int .u16 0, .int .u16 0, .int .u16 0, .int .u16 0], some (.pair (.pair (.int .u16) (.int .u16)) (.pair (.pair (.int .u16) (.int .u16)) (.pair (.int .u16) (.int .u16)))), true⟩
def tt28 : TT := ⟨.array 3 26, 6, 12, some [.int .u16 0, .int .u16 0, .int .u16 0, .int .u16 0, .int .u16 0, .int .u16 0], some (.pair (.pair (.int .u16) (.int .u16)) (.pair (.pair (.int .u16) (.int .u16)) (.pair (.int .u16) (.int .u16)))), true⟩
def tt29 : TT := ⟨.struct [⟨0, 22, false⟩, ⟨1, 3, false⟩, ⟨2, 3, false⟩, ⟨3, 28, false⟩], 9, 40, some [.int .u8 0, .int .i64 0, .int .i64 0, .int .u16 0, .int .u16 0, .int .u16 0, .int .u16 0, .int .u16 0, .int .u16 0], some (.pair (.int .u8) (.pair (.int .i64) (.pair (.int .i64) (.pair (.pair (.int .u16) (.int .u16)) (.pair (.pair (.int .u16) (.int .u16)) (.pair (.int .u16) (.int .u16))))))), true⟩
def tt30 : TT := ⟨.struct [⟨0, 22, false⟩, ⟨1, 3, false⟩, ⟨2, 3, false⟩, ⟨3, 28, false⟩], 9, 40, some [.int .u8 0, .int .i64 0, .int .i64 0, .int .u16 0, .int .u16 0, .int .u16 0, .int .u16 0, .int .u16 0, .int .u16 0], some (.pair (.int .u8) (.pair (.int .i64) (.pair (.int .i64) (.pair (.pair (.int .u16) (.int .u16)) (.pair (.pair (.int .u16) (.int .u16)) (.pair (.int .u16) (.int .u16))))))), true⟩
def tt31 : TT := ⟨.other, 1, 8, some [.nilf], none, true⟩
def tt32 : TT := ⟨.slice 24, 1, 24, some [.nils], some (.slice (.int .u16)), true⟩
def tt33 : TT := ⟨.int .i64, 1, 8, some [.int .i64 0], some (.int .i64), true⟩
def tt35 : TT := ⟨.other, 1, 8, some [.nilf], none, true⟩
def tt36 : TT := ⟨.other, 1, 8, some [.nilf], none, true⟩
def tt37 : TT := ⟨.other, 1, 8, some [.nilf], none, true⟩
def tt39 : TT := ⟨.other, 1, 8, some [.nilf], none, true⟩
def tt40 : TT := ⟨.other, 1, 8, some [.nilf], none, true⟩
def tt41 : TT := ⟨.other, 1, 8, some [.nilf], none, true⟩
def tt42 : TT := ⟨.other, 1, 8, some [.nilf], none, true⟩
def tt43 : TT := ⟨.slice 9, 1, 24, some [.nils], some (.slice .str), true⟩
def tt44 : TT := ⟨.other, 1, 8, some [.nilf], none, true⟩
def tt45 : TT := ⟨.other, 1, 8, some [.nilf], none, true⟩
def tt46 : TT := ⟨.other, 1, 8, some [.nilf], none, true⟩
def tt47 : TT := ⟨.int .u8, 1, 1, some [.int .u8 0], some (.int .u8), true⟩
def tt48 : TT := ⟨.other, 1, 8, some [.nilf], none, true⟩
def tt49 : TT := ⟨.int .u8, 1, 1, some [.int .u8 0], some (.int .u8), true⟩
def tt50 : TT := ⟨.struct [⟨0, 49, false⟩, ⟨1, 49, false⟩, ⟨2, 49, false⟩, ⟨3, 49, false⟩, ⟨4, 4, false⟩], 5, 5, some [.int .u8 0, .int .u8 0, .int .u8 0, .int .u8 0, .bool false], some (.pair (.int .u8) (.pair (.int .u8) (.pair (.int .u8) (.pair (.int .u8) .bool)))), true⟩
def tt51 : TT := ⟨.struct [⟨0, 49, false⟩, ⟨1, 49, false⟩, ⟨2, 49, false⟩, ⟨3, 49, false⟩, ⟨4, 4, false⟩], 5, 5, some [.int .u8 0, .int .u8 0, .int .u8 0, .int .u8 0, .bool false], some (.pair (.int .u8) (.pair (.int .u8) (.pair (.int .u8) (.pair (.int .u8) .bool)))), true⟩
def tt52 : TT := ⟨.other, 1, 8, some [.nilf], none, true⟩
def tt54 : TT := ⟨.other, 1, 8, some [.nilf], none, true⟩
def tt55 : TT := ⟨.other, 1, 8, some [.nilf], none, true⟩
def tt56 : TT := ⟨.slice 30, 1, 24, some [.nils], some (.slice (.pair (.int .u8) (.pair (.int .i64) (.pair (.int .i64) (.pair (.pair (.int .u16) (.int .u16)) (.pair (.pair (.int .u16) (.int .u16)) (.pair (.int .u16) (.int .u16)))))))), true⟩
def tt58 : TT := ⟨.other, 1, 8, some [.nilf], none, true⟩
def tt59 : TT := ⟨.other, 1, 8, some [.nilf], none, true⟩
def tt61 : TT := ⟨.other, 1, 8, some [.nilf], none, true⟩
def tt62 : TT := ⟨.other, 1, 8, some [.nilf], none, true⟩
def tt63 : TT := ⟨.other, 1, 8, some [.nilf], none, true⟩
def tt64 : TT := ⟨.other, 1, 8, some [.nilf], none, true⟩
def tt66 : TT := ⟨.other, 1, 8, some [.nilf], none, true⟩
def tt67 : TT := ⟨.other, 1, 8, some [.nilf], none, true⟩
def tt68 : TT := ⟨.other, 1, 8, some [.nilf], none, true⟩
def tt69 : TT := ⟨.slice 3, 1, 24, some [.nils], some (.slice (.int .i64)), true⟩
def tt70 : TT := ⟨.other, 1, 8, some [.nilf], none, true⟩
def tt71 : TT := ⟨.other, 1, 8, some [.nilf], none, true⟩
def tt72 : TT := ⟨.other, 1, 8, some [.nilf], none, true⟩
def tt73 : TT := ⟨.other, 1, 8, some [.nilf], none, true⟩
def tt75 : TT := ⟨.other, 1, 8, some [.nilf], none, true⟩
def tt76 : TT := ⟨.struct [⟨0, 9, false⟩, ⟨1, 47, false⟩, ⟨2, 49, false⟩, ⟨3, 49, false⟩, ⟨4, 49, false⟩, ⟨5, 49, false⟩], 6, 24, some [.str ⟨#[]⟩, .int .u8 0, .int .u8 0, .int .u8 0, .int .u8 0, .int .u8 0], some (.pair .str (.pair (.int .u8) (.pair (.int .u8) (.pair (.int .u8) (.pair (.int .u8) (.int .u8)))))), true⟩
def tt77 : TT := ⟨.struct [⟨0, 9, false⟩, ⟨1, 47, false⟩, ⟨2, 49, false⟩, ⟨3, 49, false⟩, ⟨4, 49, false⟩, ⟨5, 49, false⟩], 6, 24, some [.str ⟨#[]⟩, .int .u8 0, .int .u8 0, .int .u8 0, .int .u8 0, .int .u8 0], some (.pair .str (.pair (.int .u8) (.pair (.int .u8) (.pair (.int .u8) (.pair (.int .u8) (.int .u8)))))), true⟩
def tt78 : TT := ⟨.array 39 77, 234, 936, some [.str ⟨#[]⟩, .int .u8 0, .int .u8 0, .int .u8 0, .int .u8 0, .int .u8 0, .str ⟨#[]⟩, .int .u8 0, .int .u8 0, .int .u8 0, .int .u8 0, .int .u8 0, .str ⟨#[]⟩, .int .u8 0, .int .u8 0, .int .u8 0, .int .u8 0, .int .u8 0, .str ⟨#[]⟩, .int .u8 0, .int .u8 0, .int .u8 0, .int .u8 0, .int .u8 0, .str ⟨#[]⟩, .int .u8 0, .int .u8 0, .int .u8 0, .int .u8 0, .int .u8 0, .str ⟨#[]⟩, .int .u8 0, .int .u8 0, .int .u8 0, .int .u8 0, .int .u8 0, .str ⟨#[]⟩, .int .u8 0, .int .u8 0, .int .u8 0, .int .u8 0, .int .u8 0, .str ⟨#[]⟩, .int .u8 0, .int .u8 0, .int .u8 0, .int .u8 0, .int .u8 0, .str ⟨#[]⟩, .int .u8 0, .int .u8 0, .int .u8 0, .int .u8 0, .int .u8 0, .str ⟨#[]⟩, .int .u8 0, .int .u8 0, .int .u8 0, .int .u8 0, .int .u8 0, .str ⟨#[]⟩, .int .u8 0, .int .u8 0, .int .u8 0, .int .u8 0, .int .u8 0, .str ⟨#[]⟩, .int .u8 0, .int .u8 0, .int .u8 0, .int .u8 0, .int .u8 0, .str ⟨#[]⟩, .int .u8 0, .int .u8 0, .int .u8 0, .int .u8 0, .int .u8 0, .str ⟨#[]⟩, .int .u8 0, .int .u8 0, .int .u8 0, .int .u8 0, .int .u8 0, .str ⟨#[]⟩, .int .u8 0, .int .u8 0, .int .u8 0, .int .u8 0, .int .u8 0, .str ⟨#[]⟩, .int .u8 0, .int .u8 0, .int .u8 0, .int .u8 0, .int .u8 0, .str ⟨#[]⟩, .int .u8 0, .int .u8 0, .int .u8 0, .int .u8 0, .int .u8 0, .str ⟨#[]⟩, .int .u8 0, .int .u8 0, .int .u8 0, .int .u8 0, .int .u8 0, .str ⟨#[]⟩, .int .u8 0, .int .u8 0, .int .u8 0, .int .u8 0, .int .u8 0, .str ⟨#[]⟩, .int .u8 0, .int .u8 0, .int .u8 0, .int .u8 0, .int .u8 0, .str ⟨#[]⟩, .int .u8 0, .int .u8 0, .int .u8 0, .int .u8 0, .int .u8 0, .str ⟨#[]⟩, .int .u8 0, .int .u8 0, .int .u8 0, .int .u8 0, .int .u8 0, .str ⟨#[]⟩, .int .u8 0, .int .u8 0, .int .u8 0, .int .u8 0, .int .u8 0, .str ⟨#[]⟩, .int .u8 0, .int .u8 0, .int .u8 0, .int .u8 0, .int .u8 0, .str ⟨#[]⟩, .int .u8 0, .int .u8 0, .int .u8 0, .int .u8 0, .int .u8 0, .str ⟨#[]⟩, .int .u8 0, .int .u8 0, .int .u8 0, .int .u8 0, .int .u8 0, .str ⟨#[]⟩, .int .u8 0, .int .u8 0, .int .u8 0, .int .u8 0, .int .u8 0, .str ⟨#[]⟩, .int .u8 0, .int .u8 0, .int .u8 0, .int .u8 0, .int .u8 0, .str ⟨#[]⟩, .int .u8 0, .int .u8 0, .int .u8 0, .int .u8 0, .int .u8 0, .str ⟨#[]⟩, .int .u8 0, .int .u8 0, .int .u8 0, .int .u8 0, .int .u8 0, .str ⟨#[]⟩, .int .u8 0, .int .u8 0, .int .u8 0, .int .u8 0, .int .u8 0, .str ⟨#[]⟩, .int .u8 0, .int .u8 0, .int .u8 0, .int .u8 0, .int .u8 0, .str ⟨#[]⟩, .int .u8 0, .int .u8 0, .int .u8 0, .int .u8 0, .int .u8 0, .str ⟨#[]⟩, .int .u8 0, .int .u8 0, .int .u8 0, .int .u8 0, .int .u8 0, .str ⟨#[]⟩, .int .u8 0, .int .u8 0, .int .u8 0, .int .u8 0, .int .u8 0, .str ⟨#[]⟩, .int .u8 0, .int .u8 0, .int .u8 0, .int .u8 0, .int .u8 0, .str ⟨#[]⟩, .int .u8 0, .int .u8 0, .int .u8 0, .int .u8 0, .int .u8 0, .str ⟨#[]⟩, .int .u8 0, .int .u8 0, .int .u8 0, .int .u8 0, .int .u8 0, .str ⟨#[]⟩, .int .u8 0, .int .u8 0, .int .u8 0, .int .u8 0, .int .u8 0], some (.pair (.pair .str (.pair (.int .u8) (.pair (.int .u8) (.pair (.int .u8) (.pair (.int .u8) (.int .u8)))))) (.pair (.pair .str (.pair (.int .u8) (.pair (.int .u8) (.pair (.int .u8) (.pair (.int .u8) (.int .u8)))))) (.pair (.pair .str (.pair (.int .u8) (.pair (.int .u8) (.pair (.int .u8) (.pair (.int .u8) (.int .u8)))))) (.pair (.pair .str (.pair (.int .u8) (.pair (.int .u8) (.pair (.int .u8) (.pair (.int .u8) (.int .u8)))))) (.pair (.pair .str (.pair (.int .u8) (.pair (.int .u8) (.pair (.int .u8) (.pair (.int .u8) (.int .u8)))))) (.pair (.pair .str (.pair (.int .u8) (.pair (.int .u8) (.pair (.int .u8) (.pair (.int .u8) (.int .u8)))))) (.pair (.pair .str (.pair (.int .u8) (.pair (.int .u8) (.pair (.int .u8) (.pair (.int .u8) (.int .u8)))))) (.pair (.pair .str (.pair (.int .u8) (.pair (.int .u8) (.pair (.int .u8) (.pair (.int .u8) (.int .u8)))))) (.pair (.pair .str (.pair (.int .u8) (.pair (.int .u8) (.pair (.int .u8) (.pair (.int .u8) (.int .u8)))))) (.pair (.pair .str (.pair (.int .u8) (.pair (.int .u8) (.pair (.int .u8) (.pair (.int .u8) (.int .u8)))))) (.pair (.pair .str (.pair (.int .u8) (.pair (.int .u8) (.pair (.int .u8) (.pair (.int .u8) (.int .u8)))))) (.pair (.pair .str (.pair (.int .u8) (.pair (.int .u8) (.pair (.int .u8) (.pair (.int .u8) (.int .u8)))))) (.pair (.pair .str (.pair (.int .u8) (.pair (.int .u8) (.pair (.int .u8) (.pair (.int .u8) (.int .u8)))))) (.pair (.pair .str (.pair (.int .u8) (.pair (.int .u8) (.pair (.int .u8) (.pair (.int .u8) (.int .u8)))))) (.pair (.pair .str (.pair (.int .u8) (.pair (.int .u8) (.pair (.int .u8) (.pair (.int .u8) (.int .u8)))))) (.pair (.pair .str (.pair (.int .u8) (.pair (.int .u8) (.pair (.int .u8) (.pair (.int .u8) (.int .u8)))))) (.pair (.pair .str (.pair (.int .u8) (.pair (.int .u8) (.pair (.int .u8) (.pair (.int .u8) (.int .u8)))))) (.pair (.pair .str (.pair (.int .u8) (.pair (.int .u8) (.pair (.int .u8) (.pair (.int .u8) (.int .u8)))))) (.pair (.pair .str (.pair (.int .u8) (.pair (.int .u8) (.pair (.int .u8) (.pair (.int .u8) (.int .u8)))))) (.pair (.pair .str (.pair (.int .u8) (.pair (.int .u8) (.pair (.int .u8) (.pair (.int .u8) (.int .u8)))))) (.pair (.pair .str (.pair (.int .u8) (.pair (.int .u8) (.pair (.int .u8) (.pair (.int .u8) (.int .u8)))))) (.pair (.pair .str (.pair (.int .u8) (.pair (.int .u8) (.pair (.int .u8) (.pair (.int .u8) (.int .u8)))))) (.pair (.pair .str (.pair (.int .u8) (.pair (.int .u8) (.pair (.int .u8) (.pair (.int .u8) (.int .u8)))))) (.pair (.pair .str (.pair (.int .u8) (.pair (.int .u8) (.pair (.int .u8) (.pair (.int .u8) (.int .u8)))))) (.pair (.pair .str (.pair (.int .u8) (.pair (.int .u8) (.pair (.int .u8) (.pair (.int .u8) (.int .u8)))))) (.pair (.pair .str (.pair (.int .u8) (.pair (.int .u8) (.pair (.int .u8) (.pair (.int .u8) (.int .u8)))))) (.pair (.pair .str (.pair (.int .u8) (.pair (.int .u8) (.pair (.int .u8) (.pair (.int .u8) (.int .u8)))))) (.pair (.pair .str (.pair (.int .u8) (.pair (.int .u8) (.pair (.int .u8) (.pair (.int .u8) (.int .u8)))))) (.pair (.pair .str (.pair (.int .u8) (.pair (.int .u8) (.pair (.int .u8) (.pair (.int .u8) (.int .u8)))))) (.pair (.pair .str (.pair (.int .u8) (.pair (.int .u8) (.pair (.int .u8) (.pair (.int .u8) (.int .u8)))))) (.pair (.pair .str (.pair (.int .u8) (.pair (.int .u8) (.pair (.int .u8) (.pair (.int .u8) (.int .u8)))))) (.pair (.pair .str (.pair (.int .u8) (.pair (.int .u8) (.pair (.int .u8) (.pair (.int .u8) (.int .u8)))))) (.pair (.pair .str (.pair (.int .u8) (.pair (.int .u8) (.pair (.int .u8) (.pair (.int .u8) (.int .u8)))))) (.pair (.pair .str (.pair (.int .u8) (.pair (.int .u8) (.pair (.int .u8) (.pair (.int .u8) (.int .u8)))))) (.pair (.pair .str (.pair (.int .u8) (.pair (.int .u8) (.pair (.int .u8) (.pair (.int .u8) (.int .u8)))))) (.pair (.pair .str (.pair (.int .u8) (.pair (.int .u8) (.pair (.int .u8) (.pair (.int .u8) (.int .u8)))))) (.pair (.pair .str (.pair (.int .u8) (.pair (.int .u8) (.pair (.int .u8) (.pair (.int .u8) (.int .u8)))))) (.pair (.pair .str (.pair (.int .u8) (.pair (.int .u8) (.pair (.int .u8) (.pair (.int .u8) (.int .u8)))))) (.pair .str (.pair (.int .u8) (.pair (.int .u8) (.pair (.int .u8) (.pair (.int .u8) (.int .u8)))))))))))))))))))))))))))))))))))))))))))), true⟩
def tt79 : TT := ⟨.other, 1, 8, some [.nilf], none, true⟩
def tt80 : TT := ⟨.other, 1, 8, some [.nilf], none, true⟩
def tt81 : TT := ⟨.other, 1, 8, some [.nilf], none, true⟩
def tt82 : TT := ⟨.other, 1, 8, some [.nilf], none, true⟩
def tt88 : TT := ⟨.int .u32, 1, 4, some [.int .u32 0], some (.int .u32), true⟩
def tt91 : TT := ⟨.other, 1, 8, some [.nilf], none, true⟩
def tt92 : TT := ⟨.other, 1, 8, some [.nilp], none, true⟩
theorem tt1_ok : tt1 = TT.of Try.prog 1 := by kernel_rfl
theorem tt2_ok : tt2 = TT.of Try.prog 2 := by kernel_rfl
theorem tt3_ok : tt3 = TT.of Try.prog 3 := by kernel_rfl
theorem tt4_ok : tt4 = TT.of Try.prog 4 := by kernel_rfl
theorem tt5_ok : tt5 = TT.of Try.prog 5 := by kernel_rfl
theorem tt9_ok : tt9 = TT.of Try.prog 9 := by kernel_rfl
theorem tt12_ok : tt12 = TT.of Try.prog 12 := by kernel_rfl
theorem tt21_ok : tt21 = TT.of Try.prog 21 := by kernel_rfl
theorem tt22_ok : tt22 = TT.of Try.prog 22 := by kernel_rfl
theorem tt23_ok : tt23 = TT.of Try.prog 23 := by kernel_rfl
theorem tt24_ok : tt24 = TT.of Try.prog 24 := by kernel_rfl
theorem tt25_ok : tt25 = TT.of Try.prog 25 := by kernel_rfl
theorem tt26_ok : tt26 = TT.of Try.prog 26 := by kernel_rfl
theorem tt27_ok : tt27 = TT.of Try.prog 27 := by kernel_rfl
theorem tt28_ok : tt28 = TT.of Try.prog 28 := by kernel_rfl
theorem tt29_ok : tt29 = TT.of Try.prog 29 := by kernel_rfl
theorem tt30_ok : tt30 = TT.of Try.prog 30 := by kernel_rfl
theorem tt31_ok : tt31 = TT.of Try.prog 31 := by kernel_rfl
theorem tt32_ok : tt32 = TT.of Try.prog 32 := by kernel_rfl
theorem tt33_ok : tt33 = TT.of Try.prog 33 := by kernel_rfl
theorem tt35_ok : tt35 = TT.of Try.prog 35 := by kernel_rfl
theorem tt36_ok : tt36 = TT.of Try.prog 36 := by kernel_rfl
theorem tt37_ok : tt37 = TT.of Try.prog 37 := by kernel_rfl
theorem tt39_ok : tt39 = TT.of Try.prog 39 := by kernel_rfl
theorem tt40_ok : tt40 = TT.of Try.prog 40 := by kernel_rfl
theorem tt41_ok : tt41 = TT.of Try.prog 41 := by kernel_rfl
theorem tt42_ok : tt42 = TT.of Try.prog 42 := by kernel_rfl
theorem tt43_ok : tt43 = TT.of Try.prog 43 := by kernel_rfl
theorem tt44_ok : tt44 = TT.of Try.prog 44 := by kernel_rfl
theorem tt45_ok : tt45 = TT.of Try.prog 45 := by kernel_rfl
theorem tt46_ok : tt46 = TT.of Try.prog 46 := by kernel_rfl
theorem tt47_ok : tt47 = TT.of Try.prog 47 := by kernel_rfl
theorem tt48_ok : tt48 = TT.of Try.prog 48 := by kernel_rfl
theorem tt49_ok : tt49 = TT.of Try.prog 49 := by kernel_rfl
theorem tt50_ok : tt50 = TT.of Try.prog 50 := by kernel_rfl
theorem tt51_ok : tt51 = TT.of Try.prog 51 := by kernel_rfl
theorem tt52_ok : tt52 = TT.of Try.prog 52 := by kernel_rfl
theorem tt54_ok : tt54 = TT.of Try.prog 54 := by kernel_rfl
theorem tt55_ok : tt55 = TT.of Try.prog 55 := by kernel_rfl
theorem tt56_ok : tt56 = TT.of Try.prog 56 := by kernel_rfl
theorem tt58_ok : tt58 = TT.of Try.prog 58 := by kernel_rfl
theorem tt59_ok : tt59 = TT.of Try.prog 59 := by kernel_rfl
theorem tt61_ok : tt61 = TT.of Try.prog 61 := by kernel_rfl
theorem tt62_ok : tt62 = TT.of Try.prog 62 := by kernel_rfl
theorem tt63_ok : tt63 = TT.of Try.prog 63 := by kernel_rfl
theorem tt64_ok : tt64 = TT.of Try.prog 64 := by kernel_rfl
theorem tt66_ok : tt66 = TT.of Try.prog 66 := by kernel_rfl
theorem tt67_ok : tt67 = TT.of Try.prog 67 := by kernel_rfl
theorem tt68_ok : tt68 = TT.of Try.prog 68 := by kernel_rfl
theorem tt69_ok : tt69 = TT.of Try.prog 69 := by kernel_rfl
theorem tt70_ok : tt70 = TT.of Try.prog 70 := by kernel_rfl
theorem tt71_ok : tt71 = TT.of Try.prog 71 := by kernel_rfl
theorem tt72_ok : tt72 = TT.of Try.prog 72 := by kernel_rfl
theorem tt73_ok : tt73 = TT.of Try.prog 73 := by kernel_rfl
theorem tt75_ok : tt75 = TT.of Try.prog 75 := by kernel_rfl
theorem tt76_ok : tt76 = TT.of Try.prog 76 := by kernel_rfl
theorem tt77_ok : tt77 = TT.of Try.prog 77 := by kernel_rfl
theorem tt78_ok : tt78 = TT.of Try.prog 78 := by kernel_rfl
theorem tt79_ok : tt79 = TT.of Try.prog 79 := by kernel_rfl
theorem tt80_ok : tt80 = TT.of Try.prog 80 := by kernel_rfl
theorem tt81_ok : tt81 = TT.of Try.prog 81 := by kernel_rfl
theorem tt82_ok : tt82 = TT.of Try.prog 82 := by kernel_rfl
theorem tt88_ok : tt88 = TT.of Try.prog 88 := by kernel_rfl
theorem tt91_ok : tt91 = TT.of Try.prog 91 := by kernel_rfl
theorem tt92_ok : tt92 = TT.of Try.prog 92 := by kernel_rfl
def tt (t : Nat) : TT :=
  match t with
  | 1 => tt1
  | 2 => tt2
  | 3 => tt3
  | 4 => tt4
  | 5 => tt5
  | 9 => tt9
  | 12 => tt12
  | 21 => tt21
  | 22 => tt22
  | 23 => tt23
  | 24 => tt24
  | 25 => tt25
  | 26 => tt26
  | 27 => tt27
  | 28 => tt28
  | 29 => tt29
  | 30 => tt30
  | 31 => tt31
  | 32 => tt32
  | 33 => tt33
  | 35 => tt35
  | 36 => tt36
  | 37 => tt37
  | 39 => tt39
  | 40 => tt40
  | 41 => tt41
  | 42 => tt42
  | 43 => tt43
  | 44 => tt44
  | 45 => tt45
  | 46 => tt46
  | 47 => tt47
  | 48 => tt48
  | 49 => tt49
  | 50 => tt50
  | 51 => tt51
  | 52 => tt52
  | 54 => tt54
  | 55 => tt55
  | 56 => tt56
  | 58 => tt58
  | 59 => tt59
  | 61 => tt61
  | 62 => tt62
  | 63 => tt63
  | 64 => tt64
  | 66 => tt66
  | 67 => tt67
  | 68 => tt68
  | 69 => tt69
  | 70 => tt70
  | 71 => tt71
  | 72 => tt72
  | 73 => tt73
  | 75 => tt75
  | 76 => tt76
  | 77 => tt77
  | 78 => tt78
  | 79 => tt79
  | 80 => tt80
  | 81 => tt81
  | 82 => tt82
  | 88 => tt88
  | 91 => tt91
  | 92 => tt92
  | _ => TT.bad
theorem tt_ok (t : Nat) : (tt t).kind = .bad ∨ tt t = TT.of Try.prog t := by
  unfold tt
  split
  · exact .inr tt1_ok
  · exact .inr tt2_ok
  · exact .inr tt3_ok
  · exact .inr tt4_ok
  · exact .inr tt5_ok
  · exact .inr tt9_ok
  · exact .inr tt12_ok
  · exact .inr tt21_ok
  · exact .inr tt22_ok
  · exact .inr tt23_ok
  · exact .inr tt24_ok
  · exact .inr tt25_ok
  · exact .inr tt26_ok
  · exact .inr tt27_ok
  · exact .inr tt28_ok
  · exact .inr tt29_ok
  · exact .inr tt30_ok
  · exact .inr tt31_ok
  · exact .inr tt32_ok
  · exact .inr tt33_ok
  · exact .inr tt35_ok
  · exact .inr tt36_ok
  · exact .inr tt37_ok
  · exact .inr tt39_ok
  · exact .inr tt40_ok
  · exact .inr tt41_ok
  · exact .inr tt42_ok
  · exact .inr tt43_ok
  · exact .inr tt44_ok
  · exact .inr tt45_ok
  · exact .inr tt46_ok
  · exact .inr tt47_ok
  · exact .inr tt48_ok
  · exact .inr tt49_ok
  · exact .inr tt50_ok
  · exact .inr tt51_ok
  · exact .inr tt52_ok
  · exact .inr tt54_ok
  · exact .inr tt55_ok
  · exact .inr tt56_ok
  · exact .inr tt58_ok
  · exact .inr tt59_ok
  · exact .inr tt61_ok
  · exact .inr tt62_ok
  · exact .inr tt63_ok
  · exact .inr tt64_ok
  · exact .inr tt66_ok
  · exact .inr tt67_ok
  · exact .inr tt68_ok
  · exact .inr tt69_ok
  · exact .inr tt70_ok
  · exact .inr tt71_ok
  · exact .inr tt72_ok
  · exact .inr tt73_ok
  · exact .inr tt75_ok
  · exact .inr tt76_ok
  · exact .inr tt77_ok
  · exact .inr tt78_ok
  · exact .inr tt79_ok
  · exact .inr tt80_ok
  · exact .inr tt81_ok
  · exact .inr tt82_ok
  · exact .inr tt88_ok
  · exact .inr tt91_ok
  · exact .inr tt92_ok
  · exact .inl rfl
end Go.Pv
