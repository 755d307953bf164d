/-
  The table of the seat's types, printed by a program of this session's own (gen_tt.py), and that it is what the program's types come to.
-/
import Derived.Test.YtdfbjdchnkhiiaaDoorPvType
import Derived.Test.YtdfbjdchnkhiiaaDoorProg
import Derived.KernelRfl
namespace Go.Pv
open Go.Proofs
set_option maxRecDepth 100000

def tt1 : TT := ⟨.other, 1, 8, some [.nilf], none, true⟩
def tt2 : TT := ⟨.int .i64, 1, 8, some [.int .i64 0], some (.int .i64), true⟩
def tt3 : TT := ⟨.int .i64, 1, 8, some [.int .i64 0], some (.int .i64), true⟩
def tt4 : TT := ⟨.bool, 1, 1, some [.bool false], some .bool, true⟩
def tt5 : TT := ⟨.int .u8, 1, 1, some [.int .u8 0], some (.int .u8), true⟩
def tt9 : TT := ⟨.str, 1, 16, some [.str ⟨#[]⟩], some .str, true⟩
def tt12 : TT := ⟨.int .u64, 1, 8, some [.int .u64 0], some (.int .u64), true⟩
def tt21 : TT := ⟨.int .i32, 1, 4, some [.int .i32 0], some (.int .i32), true⟩
def tt22 : TT := ⟨.slice 27, 1, 24, some [.nils], some (.slice (.int .u16)), true⟩
def tt23 : TT := ⟨.other, 1, 8, some [.nilf], none, true⟩
def tt24 : TT := ⟨.other, 1, 8, some [.nilf], none, true⟩
def tt25 : TT := ⟨.int .u8, 1, 1, some [.int .u8 0], some (.int .u8), true⟩
def tt26 : TT := ⟨.int .u16, 1, 2, some [.int .u16 0], some (.int .u16), true⟩
def tt27 : TT := ⟨.int .u16, 1, 2, some [.int .u16 0], some (.int .u16), true⟩
def tt28 : TT := ⟨.array 2 27, 2, 4, some [.int .u16 0, .int .u16 0], some (.pair (.int .u16) (.int .u16)), true⟩
def tt29 : TT := ⟨.array 2 27, 2, 4, some [.int .u16 0, .int .u16 0], some (.pair (.int .u16) (.int .u16)), true⟩
def tt30 : TT := ⟨.array 3 29, 6, 12, some [.int .u16 0, .int .u16 0, .int .u16 0, .int .u16 0, .int .u16 0, .int .u16 0], some (.pair (.pair (.int .u16) (.int .u16)) (.pair (.pair (.int .u16) (.int .u16)) (.pair (.int .u16) (.int .u16)))), true⟩
def tt31 : TT := ⟨.array 3 29, 6, 12, some [.int .u16 0, .int .u16 0, .int .u16 0, .int .u16 0, .int .u16 0, .int .u16 0], some (.pair (.pair (.int .u16) (.int .u16)) (.pair (.pair (.int .u16) (.int .u16)) (.pair (.int .u16) (.int .u16)))), true⟩
def tt32 : TT := ⟨.slice 29, 1, 24, some [.nils], some (.slice (.pair (.int .u16) (.int .u16))), true⟩
def tt33 : TT := ⟨.slice 25, 1, 24, some [.nils], some (.slice (.int .u8)), true⟩
def tt34 : TT := ⟨.slice 75, 1, 24, some [.nils], some (.slice (.pair (.int .u8) (.pair (.int .i64) (.pair (.int .u16) (.int .u16))))), true⟩
def tt35 : TT := ⟨.struct [⟨0, 3, false⟩, ⟨1, 25, false⟩, ⟨2, 31, false⟩, ⟨8, 32, false⟩, ⟨9, 33, false⟩, ⟨10, 4, false⟩, ⟨11, 34, false⟩], 12, 104, some [.int .i64 0, .int .u8 0, .int .u16 0, .int .u16 0, .int .u16 0, .int .u16 0, .int .u16 0, .int .u16 0, .nils, .nils, .bool false, .nils], some (.pair (.int .i64) (.pair (.int .u8) (.pair (.pair (.pair (.int .u16) (.int .u16)) (.pair (.pair (.int .u16) (.int .u16)) (.pair (.int .u16) (.int .u16)))) (.pair (.slice (.pair (.int .u16) (.int .u16))) (.pair (.slice (.int .u8)) (.pair .bool (.slice (.pair (.int .u8) (.pair (.int .i64) (.pair (.int .u16) (.int .u16))))))))))), true⟩
def tt36 : TT := ⟨.struct [⟨0, 3, false⟩, ⟨1, 25, false⟩, ⟨2, 31, false⟩, ⟨8, 32, false⟩, ⟨9, 33, false⟩, ⟨10, 4, false⟩, ⟨11, 34, false⟩], 12, 104, some [.int .i64 0, .int .u8 0, .int .u16 0, .int .u16 0, .int .u16 0, .int .u16 0, .int .u16 0, .int .u16 0, .nils, .nils, .bool false, .nils], some (.pair (.int .i64) (.pair (.int .u8) (.pair (.pair (.pair (.int .u16) (.int .u16)) (.pair (.pair (.int .u16) (.int .u16)) (.pair (.int .u16) (.int .u16)))) (.pair (.slice (.pair (.int .u16) (.int .u16))) (.pair (.slice (.int .u8)) (.pair .bool (.slice (.pair (.int .u8) (.pair (.int .i64) (.pair (.int .u16) (.int .u16))))))))))), true⟩
def tt37 : TT := ⟨.int .u8, 1, 1, some [.int .u8 0], some (.int .u8), true⟩
def tt38 : TT := ⟨.int .i64, 1, 8, some [.int .i64 0], some (.int .i64), true⟩
def tt40 : TT := ⟨.other, 1, 8, some [.nilf], none, true⟩
def tt41 : TT := ⟨.slice 45, 1, 24, some [.nils], some (.slice (.pair (.int .i64) (.int .u16))), true⟩
def tt43 : TT := ⟨.other, 1, 8, some [.nilf], none, true⟩
def tt44 : TT := ⟨.struct [⟨0, 3, false⟩, ⟨1, 27, false⟩], 2, 16, some [.int .i64 0, .int .u16 0], some (.pair (.int .i64) (.int .u16)), true⟩
def tt45 : TT := ⟨.struct [⟨0, 3, false⟩, ⟨1, 27, false⟩], 2, 16, some [.int .i64 0, .int .u16 0], some (.pair (.int .i64) (.int .u16)), true⟩
def tt46 : TT := ⟨.other, 1, 8, some [.nilf], none, true⟩
def tt47 : TT := ⟨.other, 1, 8, some [.nilf], none, true⟩
def tt48 : TT := ⟨.int .u8, 1, 1, some [.int .u8 0], some (.int .u8), true⟩
def tt49 : TT := ⟨.struct [⟨0, 48, false⟩, ⟨1, 3, false⟩, ⟨2, 3, false⟩, ⟨3, 31, false⟩], 9, 40, some [.int .u8 0, .int .i64 0, .int .i64 0, .int .u16 0, .int .u16 0, .int .u16 0, .int .u16 0, .int .u16 0, .int .u16 0], some (.pair (.int .u8) (.pair (.int .i64) (.pair (.int .i64) (.pair (.pair (.int .u16) (.int .u16)) (.pair (.pair (.int .u16) (.int .u16)) (.pair (.int .u16) (.int .u16))))))), true⟩
def tt50 : TT := ⟨.struct [⟨0, 48, false⟩, ⟨1, 3, false⟩, ⟨2, 3, false⟩, ⟨3, 31, false⟩], 9, 40, some [.int .u8 0, .int .i64 0, .int .i64 0, .int .u16 0, .int .u16 0, .int .u16 0, .int .u16 0, .int .u16 0, .int .u16 0], some (.pair (.int .u8) (.pair (.int .i64) (.pair (.int .i64) (.pair (.pair (.int .u16) (.int .u16)) (.pair (.pair (.int .u16) (.int .u16)) (.pair (.int .u16) (.int .u16))))))), true⟩
def tt52 : TT := ⟨.other, 1, 8, some [.nilf], none, true⟩
def tt53 : TT := ⟨.other, 1, 8, some [.nilf], none, true⟩
def tt54 : TT := ⟨.struct [⟨0, 25, false⟩, ⟨1, 25, false⟩, ⟨2, 25, false⟩, ⟨3, 25, false⟩, ⟨4, 4, false⟩], 5, 5, some [.int .u8 0, .int .u8 0, .int .u8 0, .int .u8 0, .bool false], some (.pair (.int .u8) (.pair (.int .u8) (.pair (.int .u8) (.pair (.int .u8) .bool)))), true⟩
def tt55 : TT := ⟨.struct [⟨0, 25, false⟩, ⟨1, 25, false⟩, ⟨2, 25, false⟩, ⟨3, 25, false⟩, ⟨4, 4, false⟩], 5, 5, some [.int .u8 0, .int .u8 0, .int .u8 0, .int .u8 0, .bool false], some (.pair (.int .u8) (.pair (.int .u8) (.pair (.int .u8) (.pair (.int .u8) .bool)))), true⟩
def tt56 : TT := ⟨.other, 1, 8, some [.nilf], none, true⟩
def tt57 : TT := ⟨.other, 1, 8, some [.nilf], none, true⟩
def tt58 : TT := ⟨.other, 1, 8, some [.nilf], none, true⟩
def tt59 : TT := ⟨.other, 1, 8, some [.nilf], none, true⟩
def tt61 : TT := ⟨.other, 1, 8, some [.nilf], none, true⟩
def tt62 : TT := ⟨.other, 1, 8, some [.nilf], none, true⟩
def tt63 : TT := ⟨.other, 1, 8, some [.nilf], none, true⟩
def tt65 : TT := ⟨.other, 1, 8, some [.nilf], none, true⟩
def tt66 : TT := ⟨.other, 1, 8, some [.nilf], none, true⟩
def tt67 : TT := ⟨.other, 1, 8, some [.nilf], none, true⟩
def tt68 : TT := ⟨.other, 1, 8, some [.nilf], none, true⟩
def tt69 : TT := ⟨.other, 1, 8, some [.nilf], none, true⟩
def tt70 : TT := ⟨.other, 1, 8, some [.nilf], none, true⟩
def tt72 : TT := ⟨.other, 1, 8, some [.nilf], none, true⟩
def tt73 : TT := ⟨.other, 1, 8, some [.nilf], none, true⟩
def tt74 : TT := ⟨.struct [⟨0, 48, false⟩, ⟨1, 3, false⟩, ⟨2, 29, false⟩], 4, 24, some [.int .u8 0, .int .i64 0, .int .u16 0, .int .u16 0], some (.pair (.int .u8) (.pair (.int .i64) (.pair (.int .u16) (.int .u16)))), true⟩
def tt75 : TT := ⟨.struct [⟨0, 48, false⟩, ⟨1, 3, false⟩, ⟨2, 29, false⟩], 4, 24, some [.int .u8 0, .int .i64 0, .int .u16 0, .int .u16 0], some (.pair (.int .u8) (.pair (.int .i64) (.pair (.int .u16) (.int .u16)))), true⟩
def tt76 : TT := ⟨.other, 1, 8, some [.nilf], none, true⟩
def tt78 : TT := ⟨.other, 1, 8, some [.nilf], none, true⟩
def tt79 : TT := ⟨.other, 1, 8, some [.nilf], none, true⟩
def tt80 : TT := ⟨.other, 1, 8, some [.nilf], none, true⟩
def tt81 : TT := ⟨.other, 1, 8, some [.nilf], none, true⟩
def tt82 : TT := ⟨.int .u8, 1, 1, some [.int .u8 0], some (.int .u8), true⟩
def tt83 : TT := ⟨.other, 1, 8, some [.nilf], none, true⟩
def tt84 : TT := ⟨.slice 3, 1, 24, some [.nils], some (.slice (.int .i64)), true⟩
def tt85 : TT := ⟨.other, 1, 8, some [.nilf], none, true⟩
def tt87 : TT := ⟨.other, 1, 8, some [.nilf], none, true⟩
def tt88 : TT := ⟨.other, 1, 8, some [.nilf], none, true⟩
def tt89 : TT := ⟨.struct [⟨0, 9, false⟩, ⟨1, 82, false⟩, ⟨2, 25, false⟩, ⟨3, 25, false⟩, ⟨4, 25, false⟩, ⟨5, 25, false⟩], 6, 24, some [.str ⟨#[]⟩, .int .u8 0, .int .u8 0, .int .u8 0, .int .u8 0, .int .u8 0], some (.pair .str (.pair (.int .u8) (.pair (.int .u8) (.pair (.int .u8) (.pair (.int .u8) (.int .u8)))))), true⟩
def tt90 : TT := ⟨.struct [⟨0, 9, false⟩, ⟨1, 82, false⟩, ⟨2, 25, false⟩, ⟨3, 25, false⟩, ⟨4, 25, false⟩, ⟨5, 25, false⟩], 6, 24, some [.str ⟨#[]⟩, .int .u8 0, .int .u8 0, .int .u8 0, .int .u8 0, .int .u8 0], some (.pair .str (.pair (.int .u8) (.pair (.int .u8) (.pair (.int .u8) (.pair (.int .u8) (.int .u8)))))), true⟩
def tt91 : TT := ⟨.other, 1, 8, some [.nilf], none, true⟩
def tt92 : TT := ⟨.other, 1, 8, some [.nilf], none, true⟩
def tt93 : TT := ⟨.other, 1, 8, some [.nilf], none, true⟩
def tt94 : TT := ⟨.other, 1, 8, some [.nilf], none, true⟩
def tt95 : TT := ⟨.other, 1, 8, some [.nilf], none, true⟩
def tt96 : TT := ⟨.other, 1, 8, some [.nilf], none, true⟩
def tt97 : TT := ⟨.array 3 2, 3, 24, some [.int .i64 0, .int .i64 0, .int .i64 0], some (.pair (.int .i64) (.pair (.int .i64) (.int .i64))), true⟩
def tt98 : TT := ⟨.other, 1, 8, some [.nilf], none, true⟩
def tt99 : TT := ⟨.other, 1, 8, some [.nilf], none, true⟩
def tt100 : TT := ⟨.other, 1, 8, some [.nilf], none, true⟩
def tt102 : TT := ⟨.other, 1, 8, some [.nilf], none, true⟩
def tt103 : TT := ⟨.other, 1, 8, some [.nilf], none, true⟩
def tt104 : TT := ⟨.other, 1, 8, some [.nilf], none, true⟩
def tt105 : TT := ⟨.other, 1, 8, some [.nilf], none, true⟩
def tt106 : TT := ⟨.other, 1, 8, some [.nilf], none, true⟩
def tt107 : TT := ⟨.other, 1, 8, some [.nilf], none, true⟩
def tt108 : TT := ⟨.other, 1, 8, some [.nilf], none, true⟩
def tt109 : TT := ⟨.other, 1, 8, some [.nilf], none, true⟩
def tt110 : TT := ⟨.array 3 31, 18, 36, some [.int .u16 0, .int .u16 0, .int .u16 0, .int .u16 0, .int .u16 0, .int .u16 0, .int .u16 0, .int .u16 0, .int .u16 0, .int .u16 0, .int .u16 0, .int .u16 0, .int .u16 0, .int .u16 0, .int .u16 0, .int .u16 0, .int .u16 0, .int .u16 0], some (.pair (.pair (.pair (.int .u16) (.int .u16)) (.pair (.pair (.int .u16) (.int .u16)) (.pair (.int .u16) (.int .u16)))) (.pair (.pair (.pair (.int .u16) (.int .u16)) (.pair (.pair (.int .u16) (.int .u16)) (.pair (.int .u16) (.int .u16)))) (.pair (.pair (.int .u16) (.int .u16)) (.pair (.pair (.int .u16) (.int .u16)) (.pair (.int .u16) (.int .u16)))))), true⟩
def tt111 : TT := ⟨.array 3 31, 18, 36, some [.int .u16 0, .int .u16 0, .int .u16 0, .int .u16 0, .int .u16 0, .int .u16 0, .int .u16 0, .int .u16 0, .int .u16 0, .int .u16 0, .int .u16 0, .int .u16 0, .int .u16 0, .int .u16 0, .int .u16 0, .int .u16 0, .int .u16 0, .int .u16 0], some (.pair (.pair (.pair (.int .u16) (.int .u16)) (.pair (.pair (.int .u16) (.int .u16)) (.pair (.int .u16) (.int .u16)))) (.pair (.pair (.pair (.int .u16) (.int .u16)) (.pair (.pair (.int .u16) (.int .u16)) (.pair (.int .u16) (.int .u16)))) (.pair (.pair (.int .u16) (.int .u16)) (.pair (.pair (.int .u16) (.int .u16)) (.pair (.int .u16) (.int .u16)))))), true⟩
def tt112 : TT := ⟨.other, 1, 8, some [.nilf], none, true⟩
def tt113 : TT := ⟨.other, 1, 8, some [.nilf], none, true⟩
def tt114 : TT := ⟨.other, 1, 8, some [.nilf], none, true⟩
def tt115 : TT := ⟨.other, 1, 8, some [.nilf], none, true⟩
def tt116 : TT := ⟨.array 39 90, 234, 936, some [.str ⟨#[]⟩, .int .u8 0, .int .u8 0, .int .u8 0, .int .u8 0, .int .u8 0, .str ⟨#[]⟩, .int .u8 0, .int .u8 0, .int .u8 0, .int .u8 0, .int .u8 0, .str ⟨#[]⟩, .int .u8 0, .int .u8 0, .int .u8 0, .int .u8 0, .int .u8 0, .str ⟨#[]⟩, .int .u8 0, .int .u8 0, .int .u8 0, .int .u8 0, .int .u8 0, .str ⟨#[]⟩, .int .u8 0, .int .u8 0, .int .u8 0, .int .u8 0, .int .u8 0, .str ⟨#[]⟩, .int .u8 0, .int .u8 0, .int .u8 0, .int .u8 0, .int .u8 0, .str ⟨#[]⟩, .int .u8 0, .int .u8 0, .int .u8 0, .int .u8 0, .int .u8 0, .str ⟨#[]⟩, .int .u8 0, .int .u8 0, .int .u8 0, .int .u8 0, .int .u8 0, .str ⟨#[]⟩, .int .u8 0, .int .u8 0, .int .u8 0, .int .u8 0, .int .u8 0, .str ⟨#[]⟩, .int .u8 0, .int .u8 0, .int .u8 0, .int .u8 0, .int .u8 0, .str ⟨#[]⟩, .int .u8 0, .int .u8 0, .int .u8 0, .int .u8 0, .int .u8 0, .str ⟨#[]⟩, .int .u8 0, .int .u8 0, .int .u8 0, .int .u8 0, .int .u8 0, .str ⟨#[]⟩, .int .u8 0, .int .u8 0, .int .u8 0, .int .u8 0, .int .u8 0, .str ⟨#[]⟩, .int .u8 0, .int .u8 0, .int .u8 0, .int .u8 0, .int .u8 0, .str ⟨#[]⟩, .int .u8 0, .int .u8 0, .int .u8 0, .int .u8 0, .int .u8 0, .str ⟨#[]⟩, .int .u8 0, .int .u8 0, .int .u8 0, .int .u8 0, .int .u8 0, .str ⟨#[]⟩, .int .u8 0, .int .u8 0, .int .u8 0, .int .u8 0, .int .u8 0, .str ⟨#[]⟩, .int .u8 0, .int .u8 0, .int .u8 0, .int .u8 0, .int .u8 0, .str ⟨#[]⟩, .int .u8 0, .int .u8 0, .int .u8 0, .int .u8 0, .int .u8 0, .str ⟨#[]⟩, .int .u8 0, .int .u8 0, .int .u8 0, .int .u8 0, .int .u8 0, .str ⟨#[]⟩, .int .u8 0, .int .u8 0, .int .u8 0, .int .u8 0, .int .u8 0, .str ⟨#[]⟩, .int .u8 0, .int .u8 0, .int .u8 0, .int .u8 0, .int .u8 0, .str ⟨#[]⟩, .int .u8 0, .int .u8 0, .int .u8 0, .int .u8 0, .int .u8 0, .str ⟨#[]⟩, .int .u8 0, .int .u8 0, .int .u8 0, .int .u8 0, .int .u8 0, .str ⟨#[]⟩, .int .u8 0, .int .u8 0, .int .u8 0, .int .u8 0, .int .u8 0, .str ⟨#[]⟩, .int .u8 0, .int .u8 0, .int .u8 0, .int .u8 0, .int .u8 0, .str ⟨#[]⟩, .int .u8 0, .int .u8 0, .int .u8 0, .int .u8 0, .int .u8 0, .str ⟨#[]⟩, .int .u8 0, .int .u8 0, .int .u8 0, .int .u8 0, .int .u8 0, .str ⟨#[]⟩, .int .u8 0, .int .u8 0, .int .u8 0, .int .u8 0, .int .u8 0, .str ⟨#[]⟩, .int .u8 0, .int .u8 0, .int .u8 0, .int .u8 0, .int .u8 0, .str ⟨#[]⟩, .int .u8 0, .int .u8 0, .int .u8 0, .int .u8 0, .int .u8 0, .str ⟨#[]⟩, .int .u8 0, .int .u8 0, .int .u8 0, .int .u8 0, .int .u8 0, .str ⟨#[]⟩, .int .u8 0, .int .u8 0, .int .u8 0, .int .u8 0, .int .u8 0, .str ⟨#[]⟩, .int .u8 0, .int .u8 0, .int .u8 0, .int .u8 0, .int .u8 0, .str ⟨#[]⟩, .int .u8 0, .int .u8 0, .int .u8 0, .int .u8 0, .int .u8 0, .str ⟨#[]⟩, .int .u8 0, .int .u8 0, .int .u8 0, .int .u8 0, .int .u8 0, .str ⟨#[]⟩, .int .u8 0, .int .u8 0, .int .u8 0, .int .u8 0, .int .u8 0, .str ⟨#[]⟩, .int .u8 0, .int .u8 0, .int .u8 0, .int .u8 0, .int .u8 0, .str ⟨#[]⟩, .int .u8 0, .int .u8 0, .int .u8 0, .int .u8 0, .int .u8 0], some (.pair (.pair .str (.pair (.int .u8) (.pair (.int .u8) (.pair (.int .u8) (.pair (.int .u8) (.int .u8)))))) (.pair (.pair .str (.pair (.int .u8) (.pair (.int .u8) (.pair (.int .u8) (.pair (.int .u8) (.int .u8)))))) (.pair (.pair .str (.pair (.int .u8) (.pair (.int .u8) (.pair (.int .u8) (.pair (.int .u8) (.int .u8)))))) (.pair (.pair .str (.pair (.int .u8) (.pair (.int .u8) (.pair (.int .u8) (.pair (.int .u8) (.int .u8)))))) (.pair (.pair .str (.pair (.int .u8) (.pair (.int .u8) (.pair (.int .u8) (.pair (.int .u8) (.int .u8)))))) (.pair (.pair .str (.pair (.int .u8) (.pair (.int .u8) (.pair (.int .u8) (.pair (.int .u8) (.int .u8)))))) (.pair (.pair .str (.pair (.int .u8) (.pair (.int .u8) (.pair (.int .u8) (.pair (.int .u8) (.int .u8)))))) (.pair (.pair .str (.pair (.int .u8) (.pair (.int .u8) (.pair (.int .u8) (.pair (.int .u8) (.int .u8)))))) (.pair (.pair .str (.pair (.int .u8) (.pair (.int .u8) (.pair (.int .u8) (.pair (.int .u8) (.int .u8)))))) (.pair (.pair .str (.pair (.int .u8) (.pair (.int .u8) (.pair (.int .u8) (.pair (.int .u8) (.int .u8)))))) (.pair (.pair .str (.pair (.int .u8) (.pair (.int .u8) (.pair (.int .u8) (.pair (.int .u8) (.int .u8)))))) (.pair (.pair .str (.pair (.int .u8) (.pair (.int .u8) (.pair (.int .u8) (.pair (.int .u8) (.int .u8)))))) (.pair (.pair .str (.pair (.int .u8) (.pair (.int .u8) (.pair (.int .u8) (.pair (.int .u8) (.int .u8)))))) (.pair (.pair .str (.pair (.int .u8) (.pair (.int .u8) (.pair (.int .u8) (.pair (.int .u8) (.int .u8)))))) (.pair (.pair .str (.pair (.int .u8) (.pair (.int .u8) (.pair (.int .u8) (.pair (.int .u8) (.int .u8)))))) (.pair (.pair .str (.pair (.int .u8) (.pair (.int .u8) (.pair (.int .u8) (.pair (.int .u8) (.int .u8)))))) (.pair (.pair .str (.pair (.int .u8) (.pair (.int .u8) (.pair (.int .u8) (.pair (.int .u8) (.int .u8)))))) (.pair (.pair .str (.pair (.int .u8) (.pair (.int .u8) (.pair (.int .u8) (.pair (.int .u8) (.int .u8)))))) (.pair (.pair .str (.pair (.int .u8) (.pair (.int .u8) (.pair (.int .u8) (.pair (.int .u8) (.int .u8)))))) (.pair (.pair .str (.pair (.int .u8) (.pair (.int .u8) (.pair (.int .u8) (.pair (.int .u8) (.int .u8)))))) (.pair (.pair .str (.pair (.int .u8) (.pair (.int .u8) (.pair (.int .u8) (.pair (.int .u8) (.int .u8)))))) (.pair (.pair .str (.pair (.int .u8) (.pair (.int .u8) (.pair (.int .u8) (.pair (.int .u8) (.int .u8)))))) (.pair (.pair .str (.pair (.int .u8) (.pair (.int .u8) (.pair (.int .u8) (.pair (.int .u8) (.int .u8)))))) (.pair (.pair .str (.pair (.int .u8) (.pair (.int .u8) (.pair (.int .u8) (.pair (.int .u8) (.int .u8)))))) (.pair (.pair .str (.pair (.int .u8) (.pair (.int .u8) (.pair (.int .u8) (.pair (.int .u8) (.int .u8)))))) (.pair (.pair .str (.pair (.int .u8) (.pair (.int .u8) (.pair (.int .u8) (.pair (.int .u8) (.int .u8)))))) (.pair (.pair .str (.pair (.int .u8) (.pair (.int .u8) (.pair (.int .u8) (.pair (.int .u8) (.int .u8)))))) (.pair (.pair .str (.pair (.int .u8) (.pair (.int .u8) (.pair (.int .u8) (.pair (.int .u8) (.int .u8)))))) (.pair (.pair .str (.pair (.int .u8) (.pair (.int .u8) (.pair (.int .u8) (.pair (.int .u8) (.int .u8)))))) (.pair (.pair .str (.pair (.int .u8) (.pair (.int .u8) (.pair (.int .u8) (.pair (.int .u8) (.int .u8)))))) (.pair (.pair .str (.pair (.int .u8) (.pair (.int .u8) (.pair (.int .u8) (.pair (.int .u8) (.int .u8)))))) (.pair (.pair .str (.pair (.int .u8) (.pair (.int .u8) (.pair (.int .u8) (.pair (.int .u8) (.int .u8)))))) (.pair (.pair .str (.pair (.int .u8) (.pair (.int .u8) (.pair (.int .u8) (.pair (.int .u8) (.int .u8)))))) (.pair (.pair .str (.pair (.int .u8) (.pair (.int .u8) (.pair (.int .u8) (.pair (.int .u8) (.int .u8)))))) (.pair (.pair .str (.pair (.int .u8) (.pair (.int .u8) (.pair (.int .u8) (.pair (.int .u8) (.int .u8)))))) (.pair (.pair .str (.pair (.int .u8) (.pair (.int .u8) (.pair (.int .u8) (.pair (.int .u8) (.int .u8)))))) (.pair (.pair .str (.pair (.int .u8) (.pair (.int .u8) (.pair (.int .u8) (.pair (.int .u8) (.int .u8)))))) (.pair (.pair .str (.pair (.int .u8) (.pair (.int .u8) (.pair (.int .u8) (.pair (.int .u8) (.int .u8)))))) (.pair .str (.pair (.int .u8) (.pair (.int .u8) (.pair (.int .u8) (.pair (.int .u8) (.int .u8)))))))))))))))))))))))))))))))))))))))))))), true⟩
def tt117 : TT := ⟨.other, 1, 8, some [.nilf], none, true⟩
def tt119 : TT := ⟨.other, 1, 8, some [.nilf], none, true⟩
def tt120 : TT := ⟨.other, 1, 8, some [.nilf], none, true⟩
def tt121 : TT := ⟨.other, 1, 8, some [.nilf], none, true⟩
def tt122 : TT := ⟨.other, 1, 8, some [.nilf], none, true⟩
def tt123 : TT := ⟨.other, 1, 8, some [.nilf], none, true⟩
def tt125 : TT := ⟨.other, 1, 8, some [.nilf], none, true⟩
def tt126 : TT := ⟨.other, 1, 8, some [.nilf], none, true⟩
def tt127 : TT := ⟨.other, 1, 8, some [.nilf], none, true⟩
def tt128 : TT := ⟨.other, 1, 8, some [.nilf], none, true⟩
def tt129 : TT := ⟨.other, 1, 8, some [.nilf], none, true⟩
def tt130 : TT := ⟨.int .u64, 1, 8, some [.int .u64 0], some (.int .u64), true⟩
def tt131 : TT := ⟨.int .u64, 1, 8, some [.int .u64 0], some (.int .u64), true⟩
def tt132 : TT := ⟨.other, 1, 8, some [.nilf], none, true⟩
def tt133 : TT := ⟨.other, 1, 8, some [.nilf], none, true⟩
def tt134 : TT := ⟨.array 7 2, 7, 56, some [.int .i64 0, .int .i64 0, .int .i64 0, .int .i64 0, .int .i64 0, .int .i64 0, .int .i64 0], some (.pair (.int .i64) (.pair (.int .i64) (.pair (.int .i64) (.pair (.int .i64) (.pair (.int .i64) (.pair (.int .i64) (.int .i64))))))), true⟩
def tt135 : TT := ⟨.other, 1, 8, some [.nilf], none, true⟩
def tt141 : TT := ⟨.int .u32, 1, 4, some [.int .u32 0], some (.int .u32), true⟩
def tt144 : TT := ⟨.other, 1, 8, some [.nilf], none, true⟩
def tt145 : TT := ⟨.other, 1, 8, some [.nilp], none, true⟩
theorem tt1_ok : tt1 = TT.of Tryd.prog 1 := by kernel_rfl
theorem tt2_ok : tt2 = TT.of Tryd.prog 2 := by kernel_rfl
theorem tt3_ok : tt3 = TT.of Tryd.prog 3 := by kernel_rfl
theorem tt4_ok : tt4 = TT.of Tryd.prog 4 := by kernel_rfl
theorem tt5_ok : tt5 = TT.of Tryd.prog 5 := by kernel_rfl
theorem tt9_ok : tt9 = TT.of Tryd.prog 9 := by kernel_rfl
theorem tt12_ok : tt12 = TT.of Tryd.prog 12 := by kernel_rfl
theorem tt21_ok : tt21 = TT.of Tryd.prog 21 := by kernel_rfl
theorem tt22_ok : tt22 = TT.of Tryd.prog 22 := by kernel_rfl
theorem tt23_ok : tt23 = TT.of Tryd.prog 23 := by kernel_rfl
theorem tt24_ok : tt24 = TT.of Tryd.prog 24 := by kernel_rfl
theorem tt25_ok : tt25 = TT.of Tryd.prog 25 := by kernel_rfl
theorem tt26_ok : tt26 = TT.of Tryd.prog 26 := by kernel_rfl
theorem tt27_ok : tt27 = TT.of Tryd.prog 27 := by kernel_rfl
theorem tt28_ok : tt28 = TT.of Tryd.prog 28 := by kernel_rfl
theorem tt29_ok : tt29 = TT.of Tryd.prog 29 := by kernel_rfl
theorem tt30_ok : tt30 = TT.of Tryd.prog 30 := by kernel_rfl
theorem tt31_ok : tt31 = TT.of Tryd.prog 31 := by kernel_rfl
theorem tt32_ok : tt32 = TT.of Tryd.prog 32 := by kernel_rfl
theorem tt33_ok : tt33 = TT.of Tryd.prog 33 := by kernel_rfl
theorem tt34_ok : tt34 = TT.of Tryd.prog 34 := by kernel_rfl
theorem tt35_ok : tt35 = TT.of Tryd.prog 35 := by kernel_rfl
theorem tt36_ok : tt36 = TT.of Tryd.prog 36 := by kernel_rfl
theorem tt37_ok : tt37 = TT.of Tryd.prog 37 := by kernel_rfl
theorem tt38_ok : tt38 = TT.of Tryd.prog 38 := by kernel_rfl
theorem tt40_ok : tt40 = TT.of Tryd.prog 40 := by kernel_rfl
theorem tt41_ok : tt41 = TT.of Tryd.prog 41 := by kernel_rfl
theorem tt43_ok : tt43 = TT.of Tryd.prog 43 := by kernel_rfl
theorem tt44_ok : tt44 = TT.of Tryd.prog 44 := by kernel_rfl
theorem tt45_ok : tt45 = TT.of Tryd.prog 45 := by kernel_rfl
theorem tt46_ok : tt46 = TT.of Tryd.prog 46 := by kernel_rfl
theorem tt47_ok : tt47 = TT.of Tryd.prog 47 := by kernel_rfl
theorem tt48_ok : tt48 = TT.of Tryd.prog 48 := by kernel_rfl
theorem tt49_ok : tt49 = TT.of Tryd.prog 49 := by kernel_rfl
theorem tt50_ok : tt50 = TT.of Tryd.prog 50 := by kernel_rfl
theorem tt52_ok : tt52 = TT.of Tryd.prog 52 := by kernel_rfl
theorem tt53_ok : tt53 = TT.of Tryd.prog 53 := by kernel_rfl
theorem tt54_ok : tt54 = TT.of Tryd.prog 54 := by kernel_rfl
theorem tt55_ok : tt55 = TT.of Tryd.prog 55 := by kernel_rfl
theorem tt56_ok : tt56 = TT.of Tryd.prog 56 := by kernel_rfl
theorem tt57_ok : tt57 = TT.of Tryd.prog 57 := by kernel_rfl
theorem tt58_ok : tt58 = TT.of Tryd.prog 58 := by kernel_rfl
theorem tt59_ok : tt59 = TT.of Tryd.prog 59 := by kernel_rfl
theorem tt61_ok : tt61 = TT.of Tryd.prog 61 := by kernel_rfl
theorem tt62_ok : tt62 = TT.of Tryd.prog 62 := by kernel_rfl
theorem tt63_ok : tt63 = TT.of Tryd.prog 63 := by kernel_rfl
theorem tt65_ok : tt65 = TT.of Tryd.prog 65 := by kernel_rfl
theorem tt66_ok : tt66 = TT.of Tryd.prog 66 := by kernel_rfl
theorem tt67_ok : tt67 = TT.of Tryd.prog 67 := by kernel_rfl
theorem tt68_ok : tt68 = TT.of Tryd.prog 68 := by kernel_rfl
theorem tt69_ok : tt69 = TT.of Tryd.prog 69 := by kernel_rfl
theorem tt70_ok : tt70 = TT.of Tryd.prog 70 := by kernel_rfl
theorem tt72_ok : tt72 = TT.of Tryd.prog 72 := by kernel_rfl
theorem tt73_ok : tt73 = TT.of Tryd.prog 73 := by kernel_rfl
theorem tt74_ok : tt74 = TT.of Tryd.prog 74 := by kernel_rfl
theorem tt75_ok : tt75 = TT.of Tryd.prog 75 := by kernel_rfl
theorem tt76_ok : tt76 = TT.of Tryd.prog 76 := by kernel_rfl
theorem tt78_ok : tt78 = TT.of Tryd.prog 78 := by kernel_rfl
theorem tt79_ok : tt79 = TT.of Tryd.prog 79 := by kernel_rfl
theorem tt80_ok : tt80 = TT.of Tryd.prog 80 := by kernel_rfl
theorem tt81_ok : tt81 = TT.of Tryd.prog 81 := by kernel_rfl
theorem tt82_ok : tt82 = TT.of Tryd.prog 82 := by kernel_rfl
theorem tt83_ok : tt83 = TT.of Tryd.prog 83 := by kernel_rfl
theorem tt84_ok : tt84 = TT.of Tryd.prog 84 := by kernel_rfl
theorem tt85_ok : tt85 = TT.of Tryd.prog 85 := by kernel_rfl
theorem tt87_ok : tt87 = TT.of Tryd.prog 87 := by kernel_rfl
theorem tt88_ok : tt88 = TT.of Tryd.prog 88 := by kernel_rfl
theorem tt89_ok : tt89 = TT.of Tryd.prog 89 := by kernel_rfl
theorem tt90_ok : tt90 = TT.of Tryd.prog 90 := by kernel_rfl
theorem tt91_ok : tt91 = TT.of Tryd.prog 91 := by kernel_rfl
theorem tt92_ok : tt92 = TT.of Tryd.prog 92 := by kernel_rfl
theorem tt93_ok : tt93 = TT.of Tryd.prog 93 := by kernel_rfl
theorem tt94_ok : tt94 = TT.of Tryd.prog 94 := by kernel_rfl
theorem tt95_ok : tt95 = TT.of Tryd.prog 95 := by kernel_rfl
theorem tt96_ok : tt96 = TT.of Tryd.prog 96 := by kernel_rfl
theorem tt97_ok : tt97 = TT.of Tryd.prog 97 := by kernel_rfl
theorem tt98_ok : tt98 = TT.of Tryd.prog 98 := by kernel_rfl
theorem tt99_ok : tt99 = TT.of Tryd.prog 99 := by kernel_rfl
theorem tt100_ok : tt100 = TT.of Tryd.prog 100 := by kernel_rfl
theorem tt102_ok : tt102 = TT.of Tryd.prog 102 := by kernel_rfl
theorem tt103_ok : tt103 = TT.of Tryd.prog 103 := by kernel_rfl
theorem tt104_ok : tt104 = TT.of Tryd.prog 104 := by kernel_rfl
theorem tt105_ok : tt105 = TT.of Tryd.prog 105 := by kernel_rfl
theorem tt106_ok : tt106 = TT.of Tryd.prog 106 := by kernel_rfl
theorem tt107_ok : tt107 = TT.of Tryd.prog 107 := by kernel_rfl
theorem tt108_ok : tt108 = TT.of Tryd.prog 108 := by kernel_rfl
theorem tt109_ok : tt109 = TT.of Tryd.prog 109 := by kernel_rfl
theorem tt110_ok : tt110 = TT.of Tryd.prog 110 := by kernel_rfl
theorem tt111_ok : tt111 = TT.of Tryd.prog 111 := by kernel_rfl
theorem tt112_ok : tt112 = TT.of Tryd.prog 112 := by kernel_rfl
theorem tt113_ok : tt113 = TT.of Tryd.prog 113 := by kernel_rfl
theorem tt114_ok : tt114 = TT.of Tryd.prog 114 := by kernel_rfl
theorem tt115_ok : tt115 = TT.of Tryd.prog 115 := by kernel_rfl
theorem tt116_ok : tt116 = TT.of Tryd.prog 116 := by kernel_rfl
theorem tt117_ok : tt117 = TT.of Tryd.prog 117 := by kernel_rfl
theorem tt119_ok : tt119 = TT.of Tryd.prog 119 := by kernel_rfl
theorem tt120_ok : tt120 = TT.of Tryd.prog 120 := by kernel_rfl
theorem tt121_ok : tt121 = TT.of Tryd.prog 121 := by kernel_rfl
theorem tt122_ok : tt122 = TT.of Tryd.prog 122 := by kernel_rfl
theorem tt123_ok : tt123 = TT.of Tryd.prog 123 := by kernel_rfl
theorem tt125_ok : tt125 = TT.of Tryd.prog 125 := by kernel_rfl
theorem tt126_ok : tt126 = TT.of Tryd.prog 126 := by kernel_rfl
theorem tt127_ok : tt127 = TT.of Tryd.prog 127 := by kernel_rfl
theorem tt128_ok : tt128 = TT.of Tryd.prog 128 := by kernel_rfl
theorem tt129_ok : tt129 = TT.of Tryd.prog 129 := by kernel_rfl
theorem tt130_ok : tt130 = TT.of Tryd.prog 130 := by kernel_rfl
theorem tt131_ok : tt131 = TT.of Tryd.prog 131 := by kernel_rfl
theorem tt132_ok : tt132 = TT.of Tryd.prog 132 := by kernel_rfl
theorem tt133_ok : tt133 = TT.of Tryd.prog 133 := by kernel_rfl
theorem tt134_ok : tt134 = TT.of Tryd.prog 134 := by kernel_rfl
theorem tt135_ok : tt135 = TT.of Tryd.prog 135 := by kernel_rfl
theorem tt141_ok : tt141 = TT.of Tryd.prog 141 := by kernel_rfl
theorem tt144_ok : tt144 = TT.of Tryd.prog 144 := by kernel_rfl
theorem tt145_ok : tt145 = TT.of Tryd.prog 145 := by kernel_rfl
def tt (t : Nat) : TT :=
  match t with
  | 1 => tt1
  | 2 => tt2
  | 3 => tt3
  | 4 => tt4
  | 5 => tt5
  | 9 => tt9
  | 12 => tt12
  | 21 => tt21
  | 22 => tt22
  | 23 => tt23
  | 24 => tt24
  | 25 => tt25
  | 26 => tt26
  | 27 => tt27
  | 28 => tt28
  | 29 => tt29
  | 30 => tt30
  | 31 => tt31
  | 32 => tt32
  | 33 => tt33
  | 34 => tt34
  | 35 => tt35
  | 36 => tt36
  | 37 => tt37
  | 38 => tt38
  | 40 => tt40
  | 41 => tt41
  | 43 => tt43
  | 44 => tt44
  | 45 => tt45
  | 46 => tt46
  | 47 => tt47
  | 48 => tt48
  | 49 => tt49
  | 50 => tt50
  | 52 => tt52
  | 53 => tt53
  | 54 => tt54
  | 55 => tt55
  | 56 => tt56
  | 57 => tt57
  | 58 => tt58
  | 59 => tt59
  | 61 => tt61
  | 62 => tt62
  | 63 => tt63
  | 65 => tt65
  | 66 => tt66
  | 67 => tt67
  | 68 => tt68
  | 69 => tt69
  | 70 => tt70
  | 72 => tt72
  | 73 => tt73
  | 74 => tt74
  | 75 => tt75
  | 76 => tt76
  | 78 => tt78
  | 79 => tt79
  | 80 => tt80
  | 81 => tt81
  | 82 => tt82
  | 83 => tt83
  | 84 => tt84
  | 85 => tt85
  | 87 => tt87
  | 88 => tt88
  | 89 => tt89
  | 90 => tt90
  | 91 => tt91
  | 92 => tt92
  | 93 => tt93
  | 94 => tt94
  | 95 => tt95
  | 96 => tt96
  | 97 => tt97
  | 98 => tt98
  | 99 => tt99
  | 100 => tt100
  | 102 => tt102
  | 103 => tt103
  | 104 => tt104
  | 105 => tt105
  | 106 => tt106
  | 107 => tt107
  | 108 => tt108
  | 109 => tt109
  | 110 => tt110
  | 111 => tt111
  | 112 => tt112
  | 113 => tt113
  | 114 => tt114
  | 115 => tt115
  | 116 => tt116
  | 117 => tt117
  | 119 => tt119
  | 120 => tt120
  | 121 => tt121
  | 122 => tt122
  | 123 => tt123
  | 125 => tt125
  | 126 => tt126
  | 127 => tt127
  | 128 => tt128
  | 129 => tt129
  | 130 => tt130
  | 131 => tt131
  | 132 => tt132
  | 133 => tt133
  | 134 => tt134
  | 135 => tt135
  | 141 => tt141
  | 144 => tt144
  | 145 => tt145
  | _ => TT.bad
theorem tt_ok (t : Nat) : (tt t).kind = .bad ∨ tt t = TT.of Tryd.prog t := by
  unfold tt
  split
  · exact .inr tt1_ok
  · exact .inr tt2_ok
  · exact .inr tt3_ok
  · exact .inr tt4_ok
  · exact .inr tt5_ok
  · exact .inr tt9_ok
  · exact .inr tt12_ok
  · exact .inr tt21_ok
  · exact .inr tt22_ok
  · exact .inr tt23_ok
  · exact .inr tt24_ok
  · exact .inr tt25_ok
  · exact .inr tt26_ok
  · exact .inr tt27_ok
  · exact .inr tt28_ok
  · exact .inr tt29_ok
  · exact .inr tt30_ok
  · exact .inr tt31_ok
  · exact .inr tt32_ok
  · exact .inr tt33_ok
  · exact .inr tt34_ok
  · exact .inr tt35_ok
  · exact .inr tt36_ok
  · exact .inr tt37_ok
  · exact .inr tt38_ok
  · exact .inr tt40_ok
  · exact .inr tt41_ok
  · exact .inr tt43_ok
  · exact .inr tt44_ok
  · exact .inr tt45_ok
  · exact .inr tt46_ok
  · exact .inr tt47_ok
  · exact .inr tt48_ok
  · exact .inr tt49_ok
  · exact .inr tt50_ok
  · exact .inr tt52_ok
  · exact .inr tt53_ok
  · exact .inr tt54_ok
  · exact .inr tt55_ok
  · exact .inr tt56_ok
  · exact .inr tt57_ok
  · exact .inr tt58_ok
  · exact .inr tt59_ok
  · exact .inr tt61_ok
  · exact .inr tt62_ok
  · exact .inr tt63_ok
  · exact .inr tt65_ok
  · exact .inr tt66_ok
  · exact .inr tt67_ok
  · exact .inr tt68_ok
  · exact .inr tt69_ok
  · exact .inr tt70_ok
  · exact .inr tt72_ok
  · exact .inr tt73_ok
  · exact .inr tt74_ok
  · exact .inr tt75_ok
  · exact .inr tt76_ok
  · exact .inr tt78_ok
  · exact .inr tt79_ok
  · exact .inr tt80_ok
  · exact .inr tt81_ok
  · exact .inr tt82_ok
  · exact .inr tt83_ok
  · exact .inr tt84_ok
  · exact .inr tt85_ok
  · exact .inr tt87_ok
  · exact .inr tt88_ok
  · exact .inr tt89_ok
  · exact .inr tt90_ok
  · exact .inr tt91_ok
  · exact .inr tt92_ok
  · exact .inr tt93_ok
  · exact .inr tt94_ok
  · exact .inr tt95_ok
  · exact .inr tt96_ok
  · exact .inr tt97_ok
  · exact .inr tt98_ok
  · exact .inr tt99_ok
  · exact .inr tt100_ok
  · exact .inr tt102_ok
  · exact .inr tt103_ok
  · exact .inr tt104_ok
  · exact .inr tt105_ok
  · exact .inr tt106_ok
  · exact .inr tt107_ok
  · exact .inr tt108_ok
  · exact .inr tt109_ok
  · exact .inr tt110_ok
  · exact .inr tt111_ok
  · exact .inr tt112_ok
  · exact .inr tt113_ok
  · exact .inr tt114_ok
  · exact .inr tt115_ok
  · exact .inr tt116_ok
  · exact .inr tt117_ok
  · exact .inr tt119_ok
  · exact .inr tt120_ok
  · exact .inr tt121_ok
  · exact .inr tt122_ok
  · exact .inr tt123_ok
  · exact .inr tt125_ok
  · exact .inr tt126_ok
  · exact .inr tt127_ok
  · exact .inr tt128_ok
  · exact .inr tt129_ok
  · exact .inr tt130_ok
  · exact .inr tt131_ok
  · exact .inr tt132_ok
  · exact .inr tt133_ok
  · exact .inr tt134_ok
  · exact .inr tt135_ok
  · exact .inr tt141_ok
  · exact .inr tt144_ok
  · exact .inr tt145_ok
  · exact .inl rfl
end Go.Pv
