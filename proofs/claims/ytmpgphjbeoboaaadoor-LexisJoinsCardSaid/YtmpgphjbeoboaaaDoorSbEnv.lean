/- The seat's types and functions as the evaluator reads them, checked against the load. By program. -/
import Derived.Test.YtmpgphjbeoboaaaDoorSbSeat
import Derived.Test.YtmpgphjbeoboaaaDoorProg
set_option linter.unusedVariables false
set_option linter.unusedSimpArgs false
namespace Go.Proofs.YtmpgphjbeoboaaaDoor
open Go.Sb
set_option maxRecDepth 100000
def ty1 : TyD := ⟨.func, 1, 8, [.nilf]⟩
def ty2 : TyD := ⟨(.int .i64), 1, 8, [.int .i64 0]⟩
def ty3 : TyD := ⟨(.int .i64), 1, 8, [.int .i64 0]⟩
def ty4 : TyD := ⟨.bool, 1, 1, [.bool false]⟩
def ty5 : TyD := ⟨(.int .u8), 1, 1, [.int .u8 0]⟩
def ty6 : TyD := ⟨(.int .u8), 1, 1, [.int .u8 0]⟩
def ty7 : TyD := ⟨(.struct [(2, 0), (3, 1), (4, 2), (6, 3)]), 4, 24, [.int .i64 0, .int .i64 0, .bool false, .int .u8 0]⟩
def ty8 : TyD := ⟨(.struct [(2, 0), (3, 1), (4, 2), (6, 3)]), 4, 24, [.int .i64 0, .int .i64 0, .bool false, .int .u8 0]⟩
def ty9 : TyD := ⟨.str, 1, 16, [.str []]⟩
def ty10 : TyD := ⟨.str, 1, 16, [.str []]⟩
def ty11 : TyD := ⟨.str, 1, 16, [.str []]⟩
def ty12 : TyD := ⟨(.int .u64), 1, 8, [.int .u64 0]⟩
def ty13 : TyD := ⟨(.struct [(9, 0), (12, 1)]), 2, 24, [.str [], .int .u64 0]⟩
def ty14 : TyD := ⟨(.struct [(9, 0), (12, 1)]), 2, 24, [.str [], .int .u64 0]⟩
def ty15 : TyD := ⟨(.ptr 160), 1, 8, [.nilp]⟩
def ty16 : TyD := ⟨(.ptr 163), 1, 8, [.nilp]⟩
def ty17 : TyD := ⟨(.ptr 171), 1, 8, [.nilp]⟩
def ty18 : TyD := ⟨(.struct [(17, 0)]), 1, 8, [.nilp]⟩
def ty19 : TyD := ⟨(.struct [(17, 0)]), 1, 8, [.nilp]⟩
def ty20 : TyD := ⟨.iface, 1, 16, [.nili]⟩
def ty21 : TyD := ⟨(.int .i32), 1, 4, [.int .i32 0]⟩
def ty22 : TyD := ⟨.func, 1, 8, [.nilf]⟩
def ty23 : TyD := ⟨(.slice 35), 1, 24, [.nils]⟩
def ty24 : TyD := ⟨(.int .i64), 1, 8, [.int .i64 0]⟩
def ty26 : TyD := ⟨.func, 1, 8, [.nilf]⟩
def ty28 : TyD := ⟨.func, 1, 8, [.nilf]⟩
def ty29 : TyD := ⟨.func, 1, 8, [.nilf]⟩
def ty30 : TyD := ⟨.func, 1, 8, [.nilf]⟩
def ty31 : TyD := ⟨.func, 1, 8, [.nilf]⟩
def ty33 : TyD := ⟨.func, 1, 8, [.nilf]⟩
def ty34 : TyD := ⟨(.struct [(3, 0), (9, 1), (3, 2)]), 3, 32, [.int .i64 0, .str [], .int .i64 0]⟩
def ty35 : TyD := ⟨(.struct [(3, 0), (9, 1), (3, 2)]), 3, 32, [.int .i64 0, .str [], .int .i64 0]⟩
def ty36 : TyD := ⟨.func, 1, 8, [.nilf]⟩
def ty37 : TyD := ⟨.func, 1, 8, [.nilf]⟩
def ty38 : TyD := ⟨(.slice 9), 1, 24, [.nils]⟩
def ty39 : TyD := ⟨.func, 1, 8, [.nilf]⟩
def ty40 : TyD := ⟨.func, 1, 8, [.nilf]⟩
def ty41 : TyD := ⟨.func, 1, 8, [.nilf]⟩
def ty43 : TyD := ⟨.func, 1, 8, [.nilf]⟩
def ty44 : TyD := ⟨.func, 1, 8, [.nilf]⟩
def ty46 : TyD := ⟨.func, 1, 8, [.nilf]⟩
def ty48 : TyD := ⟨.func, 1, 8, [.nilf]⟩
def ty49 : TyD := ⟨.func, 1, 8, [.nilf]⟩
def ty50 : TyD := ⟨.func, 1, 8, [.nilf]⟩
def ty51 : TyD := ⟨(.ptr 53), 1, 8, [.nilp]⟩
def ty52 : TyD := ⟨(.struct [(9, 0), (3, 1)]), 2, 24, [.str [], .int .i64 0]⟩
def ty53 : TyD := ⟨(.struct [(9, 0), (3, 1)]), 2, 24, [.str [], .int .i64 0]⟩
def ty54 : TyD := ⟨.func, 1, 8, [.nilf]⟩
def ty55 : TyD := ⟨.func, 1, 8, [.nilf]⟩
def ty56 : TyD := ⟨.func, 1, 8, [.nilf]⟩
def ty57 : TyD := ⟨.func, 1, 8, [.nilf]⟩
def ty59 : TyD := ⟨.func, 1, 8, [.nilf]⟩
def ty60 : TyD := ⟨.func, 1, 8, [.nilf]⟩
def ty61 : TyD := ⟨(.slice 5), 1, 24, [.nils]⟩
def ty62 : TyD := ⟨.func, 1, 8, [.nilf]⟩
def ty63 : TyD := ⟨.func, 1, 8, [.nilf]⟩
def ty64 : TyD := ⟨.func, 1, 8, [.nilf]⟩
def ty65 : TyD := ⟨.func, 1, 8, [.nilf]⟩
def ty66 : TyD := ⟨.func, 1, 8, [.nilf]⟩
def ty67 : TyD := ⟨(.int .u64), 1, 8, [.int .u64 0]⟩
def ty68 : TyD := ⟨.func, 1, 8, [.nilf]⟩
def ty69 : TyD := ⟨.func, 1, 8, [.nilf]⟩
def ty71 : TyD := ⟨.func, 1, 8, [.nilf]⟩
def ty73 : TyD := ⟨.func, 1, 8, [.nilf]⟩
def ty74 : TyD := ⟨.func, 1, 8, [.nilf]⟩
def ty75 : TyD := ⟨(.array 21 9), 21, 336, [.str [], .str [], .str [], .str [], .str [], .str [], .str [], .str [], .str [], .str [], .str [], .str [], .str [], .str [], .str [], .str [], .str [], .str [], .str [], .str [], .str []]⟩
def ty76 : TyD := ⟨.func, 1, 8, [.nilf]⟩
def ty77 : TyD := ⟨.func, 1, 8, [.nilf]⟩
def ty79 : TyD := ⟨(.map 9 4), 1, 8, [.nilm]⟩
def ty80 : TyD := ⟨.func, 1, 8, [.nilf]⟩
def ty81 : TyD := ⟨(.ptr 83), 1, 8, [.nilp]⟩
def ty82 : TyD := ⟨(.struct [(81, 0), (61, 1)]), 2, 32, [.nilp, .nils]⟩
def ty83 : TyD := ⟨(.struct [(81, 0), (61, 1)]), 2, 32, [.nilp, .nils]⟩
def ty84 : TyD := ⟨.func, 1, 8, [.nilf]⟩
def ty85 : TyD := ⟨.iface, 1, 16, [.nili]⟩
def ty86 : TyD := ⟨.iface, 1, 16, [.nili]⟩
def ty88 : TyD := ⟨.func, 1, 8, [.nilf]⟩
def ty89 : TyD := ⟨.func, 1, 8, [.nilf]⟩
def ty90 : TyD := ⟨.func, 1, 8, [.nilf]⟩
def ty91 : TyD := ⟨.func, 1, 8, [.nilf]⟩
def ty92 : TyD := ⟨.func, 1, 8, [.nilf]⟩
def ty94 : TyD := ⟨.func, 1, 8, [.nilf]⟩
def ty95 : TyD := ⟨(.array 256 5), 256, 256, [.int .u8 0, .int .u8 0, .int .u8 0, .int .u8 0, .int .u8 0, .int .u8 0, .int .u8 0, .int .u8 0, .int .u8 0, .int .u8 0, .int .u8 0, .int .u8 0, .int .u8 0, .int .u8 0, .int .u8 0, .int .u8 0, .int .u8 0, .int .u8 0, .int .u8 0, .int .u8 0, .int .u8 0, .int .u8 0, .int .u8 0, .int .u8 0, .int .u8 0, .int .u8 0, .int .u8 0, .int .u8 0, .int .u8 0, .int .u8 0, .int .u8 0, .int .u8 0, .int .u8 0, .int .u8 0, .int .u8 0, .int .u8 0, .int .u8 0, .int .u8 0, .int .u8 0, .int .u8 0, .int .u8 0, .int .u8 0, .int .u8 0, .int .u8 0, .int .u8 0, .int .u8 0, .int .u8 0, .int .u8 0, .int .u8 0, .int .u8 0, .int .u8 0, .int .u8 0, .int .u8 0, .int .u8 0, .int .u8 0, .int .u8 0, .int .u8 0, .int .u8 0, .int .u8 0, .int .u8 0, .int .u8 0, .int .u8 0, .int .u8 0, .int .u8 0, .int .u8 0, .int .u8 0, .int .u8 0, .int .u8 0, .int .u8 0, .int .u8 0, .int .u8 0, .int .u8 0, .int .u8 0, .int .u8 0, .int .u8 0, .int .u8 0, .int .u8 0, .int .u8 0, .int .u8 0, .int .u8 0, .int .u8 0, .int .u8 0, .int .u8 0, .int .u8 0, .int .u8 0, .int .u8 0, .int .u8 0, .int .u8 0, .int .u8 0, .int .u8 0, .int .u8 0, .int .u8 0, .int .u8 0, .int .u8 0, .int .u8 0, .int .u8 0, .int .u8 0, .int .u8 0, .int .u8 0, .int .u8 0, .int .u8 0, .int .u8 0, .int .u8 0, .int .u8 0, .int .u8 0, .int .u8 0, .int .u8 0, .int .u8 0, .int .u8 0, .int .u8 0, .int .u8 0, .int .u8 0, .int .u8 0, .int .u8 0, .int .u8 0, .int .u8 0, .int .u8 0, .int .u8 0, .int .u8 0, .int .u8 0, .int .u8 0, .int .u8 0, .int .u8 0, .int .u8 0, .int .u8 0, .int .u8 0, .int .u8 0, .int .u8 0, .int .u8 0, .int .u8 0, .int .u8 0, .int .u8 0, .int .u8 0, .int .u8 0, .int .u8 0, .int .u8 0, .int .u8 0, .int .u8 0, .int .u8 0, .int .u8 0, .int .u8 0, .int .u8 0, .int .u8 0, .int .u8 0, .int .u8 0, .int .u8 0, .int .u8 0, .int .u8 0, .int .u8 0, .int .u8 0, .int .u8 0, .int .u8 0, .int .u8 0, .int .u8 0, .int .u8 0, .int .u8 0, .int .u8 0, .int .u8 0, .int .u8 0, .int .u8 0, .int .u8 0, .int .u8 0, .int .u8 0, .int .u8 0, .int .u8 0, .int .u8 0, .int .u8 0, .int .u8 0, .int .u8 0, .int .u8 0, .int .u8 0, .int .u8 0, .int .u8 0, .int .u8 0, .int .u8 0, .int .u8 0, .int .u8 0, .int .u8 0, .int .u8 0, .int .u8 0, .int .u8 0, .int .u8 0, .int .u8 0, .int .u8 0, .int .u8 0, .int .u8 0, .int .u8 0, .int .u8 0, .int .u8 0, .int .u8 0, .int .u8 0, .int .u8 0, .int .u8 0, .int .u8 0, .int .u8 0, .int .u8 0, .int .u8 0, .int .u8 0, .int .u8 0, .int .u8 0, .int .u8 0, .int .u8 0, .int .u8 0, .int .u8 0, .int .u8 0, .int .u8 0, .int .u8 0, .int .u8 0, .int .u8 0, .int .u8 0, .int .u8 0, .int .u8 0, .int .u8 0, .int .u8 0, .int .u8 0, .int .u8 0, .int .u8 0, .int .u8 0, .int .u8 0, .int .u8 0, .int .u8 0, .int .u8 0, .int .u8 0, .int .u8 0, .int .u8 0, .int .u8 0, .int .u8 0, .int .u8 0, .int .u8 0, .int .u8 0, .int .u8 0, .int .u8 0, .int .u8 0, .int .u8 0, .int .u8 0, .int .u8 0, .int .u8 0, .int .u8 0, .int .u8 0, .int .u8 0, .int .u8 0, .int .u8 0, .int .u8 0, .int .u8 0, .int .u8 0, .int .u8 0, .int .u8 0, .int .u8 0, .int .u8 0, .int .u8 0, .int .u8 0, .int .u8 0, .int .u8 0, .int .u8 0, .int .u8 0, .int .u8 0]⟩
def ty96 : TyD := ⟨.func, 1, 8, [.nilf]⟩
def ty97 : TyD := ⟨.func, 1, 8, [.nilf]⟩
def ty98 : TyD := ⟨.func, 1, 8, [.nilf]⟩
def ty99 : TyD := ⟨(.ptr 5), 1, 8, [.nilp]⟩
def ty100 : TyD := ⟨(.int .u32), 1, 4, [.int .u32 0]⟩
def ty102 : TyD := ⟨.func, 1, 8, [.nilf]⟩
def ty103 : TyD := ⟨(.slice 105), 1, 24, [.nils]⟩
def ty104 : TyD := ⟨(.struct [(3, 0), (3, 1)]), 2, 16, [.int .i64 0, .int .i64 0]⟩
def ty105 : TyD := ⟨(.struct [(3, 0), (3, 1)]), 2, 16, [.int .i64 0, .int .i64 0]⟩
def ty106 : TyD := ⟨.func, 1, 8, [.nilf]⟩
def ty107 : TyD := ⟨(.ptr 119), 1, 8, [.nilp]⟩
def ty108 : TyD := ⟨.func, 1, 8, [.nilf]⟩
def ty109 : TyD := ⟨.uptr, 1, 8, [.nilp]⟩
def ty110 : TyD := ⟨.func, 1, 8, [.nilf]⟩
def ty111 : TyD := ⟨.func, 1, 8, [.nilf]⟩
def ty112 : TyD := ⟨.func, 1, 8, [.nilf]⟩
def ty113 : TyD := ⟨(.struct [(5, 0), (5, 1)]), 2, 2, [.int .u8 0, .int .u8 0]⟩
def ty114 : TyD := ⟨(.struct [(5, 0), (5, 1)]), 2, 2, [.int .u8 0, .int .u8 0]⟩
def ty115 : TyD := ⟨(.array 16 114), 32, 32, [.int .u8 0, .int .u8 0, .int .u8 0, .int .u8 0, .int .u8 0, .int .u8 0, .int .u8 0, .int .u8 0, .int .u8 0, .int .u8 0, .int .u8 0, .int .u8 0, .int .u8 0, .int .u8 0, .int .u8 0, .int .u8 0, .int .u8 0, .int .u8 0, .int .u8 0, .int .u8 0, .int .u8 0, .int .u8 0, .int .u8 0, .int .u8 0, .int .u8 0, .int .u8 0, .int .u8 0, .int .u8 0, .int .u8 0, .int .u8 0, .int .u8 0, .int .u8 0]⟩
def ty116 : TyD := ⟨(.slice 122), 1, 24, [.nils]⟩
def ty117 : TyD := ⟨(.slice 125), 1, 24, [.nils]⟩
def ty118 : TyD := ⟨(.struct [(116, 0), (117, 1), (3, 2)]), 3, 56, [.nils, .nils, .int .i64 0]⟩
def ty119 : TyD := ⟨(.struct [(116, 0), (117, 1), (3, 2)]), 3, 56, [.nils, .nils, .int .i64 0]⟩
def ty120 : TyD := ⟨(.int .u16), 1, 2, [.int .u16 0]⟩
def ty121 : TyD := ⟨(.struct [(120, 0), (120, 1), (120, 2)]), 3, 6, [.int .u16 0, .int .u16 0, .int .u16 0]⟩
def ty122 : TyD := ⟨(.struct [(120, 0), (120, 1), (120, 2)]), 3, 6, [.int .u16 0, .int .u16 0, .int .u16 0]⟩
def ty123 : TyD := ⟨.func, 1, 8, [.nilf]⟩
def ty124 : TyD := ⟨(.struct [(100, 0), (100, 1), (100, 2)]), 3, 12, [.int .u32 0, .int .u32 0, .int .u32 0]⟩
def ty125 : TyD := ⟨(.struct [(100, 0), (100, 1), (100, 2)]), 3, 12, [.int .u32 0, .int .u32 0, .int .u32 0]⟩
def ty126 : TyD := ⟨.func, 1, 8, [.nilf]⟩
def ty127 : TyD := ⟨(.int .i64), 1, 8, [.int .i64 0]⟩
def ty129 : TyD := ⟨.func, 1, 8, [.nilf]⟩
def ty130 : TyD := ⟨(.ptr 140), 1, 8, [.nilp]⟩
def ty131 : TyD := ⟨.func, 1, 8, [.nilf]⟩
def ty132 : TyD := ⟨.func, 1, 8, [.nilf]⟩
def ty133 : TyD := ⟨.func, 1, 8, [.nilf]⟩
def ty134 : TyD := ⟨(.ptr 122), 1, 8, [.nilp]⟩
def ty135 : TyD := ⟨(.ptr 125), 1, 8, [.nilp]⟩
def ty136 : TyD := ⟨(.int .u64), 1, 8, [.int .u64 0]⟩
def ty138 : TyD := ⟨.func, 1, 8, [.nilf]⟩
def ty139 : TyD := ⟨(.struct [(9, 0), (9, 1), (86, 2)]), 3, 48, [.str [], .str [], .nili]⟩
def ty140 : TyD := ⟨(.struct [(9, 0), (9, 1), (86, 2)]), 3, 48, [.str [], .str [], .nili]⟩
def ty141 : TyD := ⟨.func, 1, 8, [.nilf]⟩
def ty142 : TyD := ⟨(.array 24 5), 24, 24, [.int .u8 0, .int .u8 0, .int .u8 0, .int .u8 0, .int .u8 0, .int .u8 0, .int .u8 0, .int .u8 0, .int .u8 0, .int .u8 0, .int .u8 0, .int .u8 0, .int .u8 0, .int .u8 0, .int .u8 0, .int .u8 0, .int .u8 0, .int .u8 0, .int .u8 0, .int .u8 0, .int .u8 0, .int .u8 0, .int .u8 0, .int .u8 0]⟩
def ty143 : TyD := ⟨.func, 1, 8, [.nilf]⟩
def ty144 : TyD := ⟨.func, 1, 8, [.nilf]⟩
def ty146 : TyD := ⟨.func, 1, 8, [.nilf]⟩
def ty147 : TyD := ⟨.func, 1, 8, [.nilf]⟩
def ty148 : TyD := ⟨(.ptr 150), 1, 8, [.nilp]⟩
def ty149 : TyD := ⟨(.struct [(9, 0)]), 1, 16, [.str []]⟩
def ty150 : TyD := ⟨(.struct [(9, 0)]), 1, 16, [.str []]⟩
def ty151 : TyD := ⟨.func, 1, 8, [.nilf]⟩
def ty152 : TyD := ⟨(.array 20 136), 20, 160, [.int .u64 0, .int .u64 0, .int .u64 0, .int .u64 0, .int .u64 0, .int .u64 0, .int .u64 0, .int .u64 0, .int .u64 0, .int .u64 0, .int .u64 0, .int .u64 0, .int .u64 0, .int .u64 0, .int .u64 0, .int .u64 0, .int .u64 0, .int .u64 0, .int .u64 0, .int .u64 0]⟩
def ty153 : TyD := ⟨(.array 65 5), 65, 65, [.int .u8 0, .int .u8 0, .int .u8 0, .int .u8 0, .int .u8 0, .int .u8 0, .int .u8 0, .int .u8 0, .int .u8 0, .int .u8 0, .int .u8 0, .int .u8 0, .int .u8 0, .int .u8 0, .int .u8 0, .int .u8 0, .int .u8 0, .int .u8 0, .int .u8 0, .int .u8 0, .int .u8 0, .int .u8 0, .int .u8 0, .int .u8 0, .int .u8 0, .int .u8 0, .int .u8 0, .int .u8 0, .int .u8 0, .int .u8 0, .int .u8 0, .int .u8 0, .int .u8 0, .int .u8 0, .int .u8 0, .int .u8 0, .int .u8 0, .int .u8 0, .int .u8 0, .int .u8 0, .int .u8 0, .int .u8 0, .int .u8 0, .int .u8 0, .int .u8 0, .int .u8 0, .int .u8 0, .int .u8 0, .int .u8 0, .int .u8 0, .int .u8 0, .int .u8 0, .int .u8 0, .int .u8 0, .int .u8 0, .int .u8 0, .int .u8 0, .int .u8 0, .int .u8 0, .int .u8 0, .int .u8 0, .int .u8 0, .int .u8 0, .int .u8 0, .int .u8 0]⟩
def ty154 : TyD := ⟨.func, 1, 8, [.nilf]⟩
def ty155 : TyD := ⟨.func, 1, 8, [.nilf]⟩
def ty156 : TyD := ⟨.func, 1, 8, [.nilf]⟩
def ty157 : TyD := ⟨(.array 32 5), 32, 32, [.int .u8 0, .int .u8 0, .int .u8 0, .int .u8 0, .int .u8 0, .int .u8 0, .int .u8 0, .int .u8 0, .int .u8 0, .int .u8 0, .int .u8 0, .int .u8 0, .int .u8 0, .int .u8 0, .int .u8 0, .int .u8 0, .int .u8 0, .int .u8 0, .int .u8 0, .int .u8 0, .int .u8 0, .int .u8 0, .int .u8 0, .int .u8 0, .int .u8 0, .int .u8 0, .int .u8 0, .int .u8 0, .int .u8 0, .int .u8 0, .int .u8 0, .int .u8 0]⟩
def ty158 : TyD := ⟨(.array 64 5), 64, 64, [.int .u8 0, .int .u8 0, .int .u8 0, .int .u8 0, .int .u8 0, .int .u8 0, .int .u8 0, .int .u8 0, .int .u8 0, .int .u8 0, .int .u8 0, .int .u8 0, .int .u8 0, .int .u8 0, .int .u8 0, .int .u8 0, .int .u8 0, .int .u8 0, .int .u8 0, .int .u8 0, .int .u8 0, .int .u8 0, .int .u8 0, .int .u8 0, .int .u8 0, .int .u8 0, .int .u8 0, .int .u8 0, .int .u8 0, .int .u8 0, .int .u8 0, .int .u8 0, .int .u8 0, .int .u8 0, .int .u8 0, .int .u8 0, .int .u8 0, .int .u8 0, .int .u8 0, .int .u8 0, .int .u8 0, .int .u8 0, .int .u8 0, .int .u8 0, .int .u8 0, .int .u8 0, .int .u8 0, .int .u8 0, .int .u8 0, .int .u8 0, .int .u8 0, .int .u8 0, .int .u8 0, .int .u8 0, .int .u8 0, .int .u8 0, .int .u8 0, .int .u8 0, .int .u8 0, .int .u8 0, .int .u8 0, .int .u8 0, .int .u8 0, .int .u8 0]⟩
def ty159 : TyD := ⟨(.struct [(17, 0), (17, 1), (17, 2), (9, 3)]), 4, 40, [.nilp, .nilp, .nilp, .str []]⟩
def ty160 : TyD := ⟨(.struct [(17, 0), (17, 1), (17, 2), (9, 3)]), 4, 40, [.nilp, .nilp, .nilp, .str []]⟩
def ty161 : TyD := ⟨(.array 0 16), 0, 0, []⟩
def ty162 : TyD := ⟨(.struct [(161, 0)]), 0, 0, []⟩
def ty163 : TyD := ⟨(.struct [(161, 0)]), 0, 0, []⟩
def ty164 : TyD := ⟨.func, 1, 8, [.nilf]⟩
def ty165 : TyD := ⟨(.int .u8), 1, 1, [.int .u8 0]⟩
def ty166 : TyD := ⟨(.int .u8), 1, 1, [.int .u8 0]⟩
def ty167 : TyD := ⟨.func, 1, 8, [.nilf]⟩
def ty168 : TyD := ⟨(.int .i32), 1, 4, [.int .i32 0]⟩
def ty169 : TyD := ⟨(.int .i32), 1, 4, [.int .i32 0]⟩
def ty170 : TyD := ⟨(.struct [(12, 0), (12, 1), (100, 2), (165, 3), (5, 4), (5, 5), (166, 6), (167, 7), (99, 8), (168, 9), (169, 10)]), 11, 48, [.int .u64 0, .int .u64 0, .int .u32 0, .int .u8 0, .int .u8 0, .int .u8 0, .int .u8 0, .nilf, .nilp, .int .i32 0, .int .i32 0]⟩
def ty171 : TyD := ⟨(.struct [(12, 0), (12, 1), (100, 2), (165, 3), (5, 4), (5, 5), (166, 6), (167, 7), (99, 8), (168, 9), (169, 10)]), 11, 48, [.int .u64 0, .int .u64 0, .int .u32 0, .int .u8 0, .int .u8 0, .int .u8 0, .int .u8 0, .nilf, .nilp, .int .i32 0, .int .i32 0]⟩
def tyT (t : TypeId) : Option TyD := bif Nat.ble 172 t then none else bif Nat.ble 89 t then (bif Nat.ble 131 t then (bif Nat.ble 152 t then (bif Nat.ble 162 t then (bif Nat.ble 167 t then (bif Nat.ble 169 t then (bif Nat.ble 170 t then (bif Nat.ble 171 t then (bif Nat.beq t 171 then some ty171 else none) else (bif Nat.beq t 170 then some ty170 else none)) else (bif Nat.beq t 169 then some ty169 else none)) else (bif Nat.ble 168 t then (bif Nat.beq t 168 then some ty168 else none) else (bif Nat.beq t 167 then some ty167 else none))) else (bif Nat.ble 164 t then (bif Nat.ble 165 t then (bif Nat.ble 166 t then (bif Nat.beq t 166 then some ty166 else none) else (bif Nat.beq t 165 then some ty165 else none)) else (bif Nat.beq t 164 then some ty164 else none)) else (bif Nat.ble 163 t then (bif Nat.beq t 163 then some ty163 else none) else (bif Nat.beq t 162 then some ty162 else none)))) else (bif Nat.ble 157 t then (bif Nat.ble 159 t then (bif Nat.ble 160 t then (bif Nat.ble 161 t then (bif Nat.beq t 161 then some ty161 else none) else (bif Nat.beq t 160 then some ty160 else none)) else (bif Nat.beq t 159 then some ty159 else none)) else (bif Nat.ble 158 t then (bif Nat.beq t 158 then some ty158 else none) else (bif Nat.beq t 157 then some ty157 else none))) else (bif Nat.ble 154 t then (bif Nat.ble 155 t then (bif Nat.ble 156 t then (bif Nat.beq t 156 then some ty156 else none) else (bif Nat.beq t 155 then some ty155 else none)) else (bif Nat.beq t 154 then some ty154 else none)) else (bif Nat.ble 153 t then (bif Nat.beq t 153 then some ty153 else none) else (bif Nat.beq t 152 then some ty152 else none))))) else (bif Nat.ble 141 t then (bif Nat.ble 147 t then (bif Nat.ble 149 t then (bif Nat.ble 150 t then (bif Nat.ble 151 t then (bif Nat.beq t 151 then some ty151 else none) else (bif Nat.beq t 150 then some ty150 else none)) else (bif Nat.beq t 149 then some ty149 else none)) else (bif Nat.ble 148 t then (bif Nat.beq t 148 then some ty148 else none) else (bif Nat.beq t 147 then some ty147 else none))) else (bif Nat.ble 143 t then (bif Nat.ble 144 t then (bif Nat.ble 146 t then (bif Nat.beq t 146 then some ty146 else none) else (bif Nat.beq t 144 then some ty144 else none)) else (bif Nat.beq t 143 then some ty143 else none)) else (bif Nat.ble 142 t then (bif Nat.beq t 142 then some ty142 else none) else (bif Nat.beq t 141 then some ty141 else none)))) else (bif Nat.ble 135 t then (bif Nat.ble 138 t then (bif Nat.ble 139 t then (bif Nat.ble 140 t then (bif Nat.beq t 140 then some ty140 else none) else (bif Nat.beq t 139 then some ty139 else none)) else (bif Nat.beq t 138 then some ty138 else none)) else (bif Nat.ble 136 t then (bif Nat.beq t 136 then some ty136 else none) else (bif Nat.beq t 135 then some ty135 else none))) else (bif Nat.ble 133 t then (bif Nat.ble 134 t then (bif Nat.beq t 134 then some ty134 else none) else (bif Nat.beq t 133 then some ty133 else none)) else (bif Nat.ble 132 t then (bif Nat.beq t 132 then some ty132 else none) else (bif Nat.beq t 131 then some ty131 else none)))))) else (bif Nat.ble 110 t then (bif Nat.ble 120 t then (bif Nat.ble 125 t then (bif Nat.ble 127 t then (bif Nat.ble 129 t then (bif Nat.ble 130 t then (bif Nat.beq t 130 then some ty130 else none) else (bif Nat.beq t 129 then some ty129 else none)) else (bif Nat.beq t 127 then some ty127 else none)) else (bif Nat.ble 126 t then (bif Nat.beq t 126 then some ty126 else none) else (bif Nat.beq t 125 then some ty125 else none))) else (bif Nat.ble 122 t then (bif Nat.ble 123 t then (bif Nat.ble 124 t then (bif Nat.beq t 124 then some ty124 else none) else (bif Nat.beq t 123 then some ty123 else none)) else (bif Nat.beq t 122 then some ty122 else none)) else (bif Nat.ble 121 t then (bif Nat.beq t 121 then some ty121 else none) else (bif Nat.beq t 120 then some ty120 else none)))) else (bif Nat.ble 115 t then (bif Nat.ble 117 t then (bif Nat.ble 118 t then (bif Nat.ble 119 t then (bif Nat.beq t 119 then some ty119 else none) else (bif Nat.beq t 118 then some ty118 else none)) else (bif Nat.beq t 117 then some ty117 else none)) else (bif Nat.ble 116 t then (bif Nat.beq t 116 then some ty116 else none) else (bif Nat.beq t 115 then some ty115 else none))) else (bif Nat.ble 112 t then (bif Nat.ble 113 t then (bif Nat.ble 114 t then (bif Nat.beq t 114 then some ty114 else none) else (bif Nat.beq t 113 then some ty113 else none)) else (bif Nat.beq t 112 then some ty112 else none)) else (bif Nat.ble 111 t then (bif Nat.beq t 111 then some ty111 else none) else (bif Nat.beq t 110 then some ty110 else none))))) else (bif Nat.ble 99 t then (bif Nat.ble 105 t then (bif Nat.ble 107 t then (bif Nat.ble 108 t then (bif Nat.ble 109 t then (bif Nat.beq t 109 then some ty109 else none) else (bif Nat.beq t 108 then some ty108 else none)) else (bif Nat.beq t 107 then some ty107 else none)) else (bif Nat.ble 106 t then (bif Nat.beq t 106 then some ty106 else none) else (bif Nat.beq t 105 then some ty105 else none))) else (bif Nat.ble 102 t then (bif Nat.ble 103 t then (bif Nat.ble 104 t then (bif Nat.beq t 104 then some ty104 else none) else (bif Nat.beq t 103 then some ty103 else none)) else (bif Nat.beq t 102 then some ty102 else none)) else (bif Nat.ble 100 t then (bif Nat.beq t 100 then some ty100 else none) else (bif Nat.beq t 99 then some ty99 else none)))) else (bif Nat.ble 94 t then (bif Nat.ble 96 t then (bif Nat.ble 97 t then (bif Nat.ble 98 t then (bif Nat.beq t 98 then some ty98 else none) else (bif Nat.beq t 97 then some ty97 else none)) else (bif Nat.beq t 96 then some ty96 else none)) else (bif Nat.ble 95 t then (bif Nat.beq t 95 then some ty95 else none) else (bif Nat.beq t 94 then some ty94 else none))) else (bif Nat.ble 91 t then (bif Nat.ble 92 t then (bif Nat.beq t 92 then some ty92 else none) else (bif Nat.beq t 91 then some ty91 else none)) else (bif Nat.ble 90 t then (bif Nat.beq t 90 then some ty90 else none) else (bif Nat.beq t 89 then some ty89 else none))))))) else (bif Nat.ble 43 t then (bif Nat.ble 65 t then (bif Nat.ble 77 t then (bif Nat.ble 83 t then (bif Nat.ble 85 t then (bif Nat.ble 86 t then (bif Nat.ble 88 t then (bif Nat.beq t 88 then some ty88 else none) else (bif Nat.beq t 86 then some ty86 else none)) else (bif Nat.beq t 85 then some ty85 else none)) else (bif Nat.ble 84 t then (bif Nat.beq t 84 then some ty84 else none) else (bif Nat.beq t 83 then some ty83 else none))) else (bif Nat.ble 80 t then (bif Nat.ble 81 t then (bif Nat.ble 82 t then (bif Nat.beq t 82 then some ty82 else none) else (bif Nat.beq t 81 then some ty81 else none)) else (bif Nat.beq t 80 then some ty80 else none)) else (bif Nat.ble 79 t then (bif Nat.beq t 79 then some ty79 else none) else (bif Nat.beq t 77 then some ty77 else none)))) else (bif Nat.ble 71 t then (bif Nat.ble 74 t then (bif Nat.ble 75 t then (bif Nat.ble 76 t then (bif Nat.beq t 76 then some ty76 else none) else (bif Nat.beq t 75 then some ty75 else none)) else (bif Nat.beq t 74 then some ty74 else none)) else (bif Nat.ble 73 t then (bif Nat.beq t 73 then some ty73 else none) else (bif Nat.beq t 71 then some ty71 else none))) else (bif Nat.ble 67 t then (bif Nat.ble 68 t then (bif Nat.ble 69 t then (bif Nat.beq t 69 then some ty69 else none) else (bif Nat.beq t 68 then some ty68 else none)) else (bif Nat.beq t 67 then some ty67 else none)) else (bif Nat.ble 66 t then (bif Nat.beq t 66 then some ty66 else none) else (bif Nat.beq t 65 then some ty65 else none))))) else (bif Nat.ble 54 t then (bif Nat.ble 60 t then (bif Nat.ble 62 t then (bif Nat.ble 63 t then (bif Nat.ble 64 t then (bif Nat.beq t 64 then some ty64 else none) else (bif Nat.beq t 63 then some ty63 else none)) else (bif Nat.beq t 62 then some ty62 else none)) else (bif Nat.ble 61 t then (bif Nat.beq t 61 then some ty61 else none) else (bif Nat.beq t 60 then some ty60 else none))) else (bif Nat.ble 56 t then (bif Nat.ble 57 t then (bif Nat.ble 59 t then (bif Nat.beq t 59 then some ty59 else none) else (bif Nat.beq t 57 then some ty57 else none)) else (bif Nat.beq t 56 then some ty56 else none)) else (bif Nat.ble 55 t then (bif Nat.beq t 55 then some ty55 else none) else (bif Nat.beq t 54 then some ty54 else none)))) else (bif Nat.ble 49 t then (bif Nat.ble 51 t then (bif Nat.ble 52 t then (bif Nat.ble 53 t then (bif Nat.beq t 53 then some ty53 else none) else (bif Nat.beq t 52 then some ty52 else none)) else (bif Nat.beq t 51 then some ty51 else none)) else (bif Nat.ble 50 t then (bif Nat.beq t 50 then some ty50 else none) else (bif Nat.beq t 49 then some ty49 else none))) else (bif Nat.ble 46 t then (bif Nat.ble 48 t then (bif Nat.beq t 48 then some ty48 else none) else (bif Nat.beq t 46 then some ty46 else none)) else (bif Nat.ble 44 t then (bif Nat.beq t 44 then some ty44 else none) else (bif Nat.beq t 43 then some ty43 else none)))))) else (bif Nat.ble 20 t then (bif Nat.ble 31 t then (bif Nat.ble 37 t then (bif Nat.ble 39 t then (bif Nat.ble 40 t then (bif Nat.ble 41 t then (bif Nat.beq t 41 then some ty41 else none) else (bif Nat.beq t 40 then some ty40 else none)) else (bif Nat.beq t 39 then some ty39 else none)) else (bif Nat.ble 38 t then (bif Nat.beq t 38 then some ty38 else none) else (bif Nat.beq t 37 then some ty37 else none))) else (bif Nat.ble 34 t then (bif Nat.ble 35 t then (bif Nat.ble 36 t then (bif Nat.beq t 36 then some ty36 else none) else (bif Nat.beq t 35 then some ty35 else none)) else (bif Nat.beq t 34 then some ty34 else none)) else (bif Nat.ble 33 t then (bif Nat.beq t 33 then some ty33 else none) else (bif Nat.beq t 31 then some ty31 else none)))) else (bif Nat.ble 24 t then (bif Nat.ble 28 t then (bif Nat.ble 29 t then (bif Nat.ble 30 t then (bif Nat.beq t 30 then some ty30 else none) else (bif Nat.beq t 29 then some ty29 else none)) else (bif Nat.beq t 28 then some ty28 else none)) else (bif Nat.ble 26 t then (bif Nat.beq t 26 then some ty26 else none) else (bif Nat.beq t 24 then some ty24 else none))) else (bif Nat.ble 22 t then (bif Nat.ble 23 t then (bif Nat.beq t 23 then some ty23 else none) else (bif Nat.beq t 22 then some ty22 else none)) else (bif Nat.ble 21 t then (bif Nat.beq t 21 then some ty21 else none) else (bif Nat.beq t 20 then some ty20 else none))))) else (bif Nat.ble 10 t then (bif Nat.ble 15 t then (bif Nat.ble 17 t then (bif Nat.ble 18 t then (bif Nat.ble 19 t then (bif Nat.beq t 19 then some ty19 else none) else (bif Nat.beq t 18 then some ty18 else none)) else (bif Nat.beq t 17 then some ty17 else none)) else (bif Nat.ble 16 t then (bif Nat.beq t 16 then some ty16 else none) else (bif Nat.beq t 15 then some ty15 else none))) else (bif Nat.ble 12 t then (bif Nat.ble 13 t then (bif Nat.ble 14 t then (bif Nat.beq t 14 then some ty14 else none) else (bif Nat.beq t 13 then some ty13 else none)) else (bif Nat.beq t 12 then some ty12 else none)) else (bif Nat.ble 11 t then (bif Nat.beq t 11 then some ty11 else none) else (bif Nat.beq t 10 then some ty10 else none)))) else (bif Nat.ble 5 t then (bif Nat.ble 7 t then (bif Nat.ble 8 t then (bif Nat.ble 9 t then (bif Nat.beq t 9 then some ty9 else none) else (bif Nat.beq t 8 then some ty8 else none)) else (bif Nat.beq t 7 then some ty7 else none)) else (bif Nat.ble 6 t then (bif Nat.beq t 6 then some ty6 else none) else (bif Nat.beq t 5 then some ty5 else none))) else (bif Nat.ble 3 t then (bif Nat.ble 4 t then (bif Nat.beq t 4 then some ty4 else none) else (bif Nat.beq t 3 then some ty3 else none)) else (bif Nat.ble 2 t then (bif Nat.beq t 2 then some ty2 else none) else (bif Nat.beq t 1 then some ty1 else none)))))))
def tyL : List TypeId := List.range 172
theorem tyL_ok : (tyL.all fun t => match tyT t with | some d => tyOkB Tryd.prog t d | none => true) = true := by kernel_rfl
theorem tyT_in (t : TypeId) (d : TyD) (h : tyT t = some d) : t ∈ tyL := by
  unfold tyT at h
  rw [cond_eq_ite] at h
  split at h
  · cases h
  · rename_i e
    exact List.mem_range.2 (Nat.lt_of_not_le fun q => e (Nat.ble_eq_true_of_le q))
theorem tyT_ok (t : TypeId) (d : TyD) (h : tyT t = some d) : TyOk Tryd.prog t d := by
  have := List.all_eq_true.1 tyL_ok t (tyT_in t d h)
  rw [h] at this
  exact tyOk_of this
def mdT (t : FuncId) : Sb.Mode := bif Nat.ble 66 t then (bif Nat.ble 75 t then (bif Nat.ble 82 t then (bif Nat.ble 137 t then (bif Nat.beq t 137 then .shared else .own) else (bif Nat.beq t 82 then .shared else .own)) else (bif Nat.ble 81 t then (bif Nat.beq t 81 then .shared else .own) else (bif Nat.beq t 75 then .shared else .own))) else (bif Nat.ble 68 t then (bif Nat.ble 74 t then (bif Nat.beq t 74 then .shared else .own) else (bif Nat.beq t 68 then .shared else .own)) else (bif Nat.ble 67 t then (bif Nat.beq t 67 then .shared else .own) else (bif Nat.beq t 66 then .shared else .own)))) else (bif Nat.ble 55 t then (bif Nat.ble 58 t then (bif Nat.ble 64 t then (bif Nat.beq t 64 then .shared else .own) else (bif Nat.beq t 58 then .shared else .own)) else (bif Nat.ble 57 t then (bif Nat.beq t 57 then .shared else .own) else (bif Nat.beq t 55 then .shared else .own))) else (bif Nat.ble 52 t then (bif Nat.ble 53 t then (bif Nat.beq t 53 then .shared else .own) else (bif Nat.beq t 52 then .shared else .own)) else (bif Nat.ble 51 t then (bif Nat.beq t 51 then .shared else .own) else (bif Nat.beq t 35 then .shared else .own))))
/-- seedbed/seedbedlaw01.LexisTokens -/
noncomputable def fn3 : FnD := fnDof Tryd.f3 mdT
/-- seedbed/seedbedlaw01.LexisQuotes -/
noncomputable def fn4 : FnD := fnDof Tryd.f4 mdT
/-- seedbed/seedbedlaw01.LexisStands -/
noncomputable def fn5 : FnD := fnDof Tryd.f5 mdT
/-- seedbed/seedbedlaw01.LexisComment -/
noncomputable def fn6 : FnD := fnDof Tryd.f6 mdT
/-- seedbed/seedbedlaw01.LexisParts -/
noncomputable def fn7 : FnD := fnDof Tryd.f7 mdT
/-- seedbed/seedbedlaw01.LexisNames -/
noncomputable def fn8 : FnD := fnDof Tryd.f8 mdT
/-- seedbed/seedbedlaw01.LexisJoins -/
noncomputable def fn9 : FnD := fnDof Tryd.f9 mdT
/-- seedbed/seedbedlaw01.LexisBack -/
noncomputable def fn10 : FnD := fnDof Tryd.f10 mdT
/-- seedbed/seedbedlaw01.LexisOwn -/
noncomputable def fn11 : FnD := fnDof Tryd.f11 mdT
/-- seedbed/seedbedlaw01.LexisPlaces -/
noncomputable def fn12 : FnD := fnDof Tryd.f12 mdT
/-- seedbed/seedbedlaw01.LexisCounted -/
noncomputable def fn13 : FnD := fnDof Tryd.f13 mdT
/-- seedbed/seedbedlaw01.brief -/
noncomputable def fn14 : FnD := fnDof Tryd.f14 mdT
/-- seedbed/lexis.Tokens -/
noncomputable def fn15 : FnD := fnDof Tryd.f15 mdT
/-- seedbed/seedbedref01.Tokens -/
noncomputable def fn16 : FnD := fnDof Tryd.f16 mdT
/-- seedbed/seedbedlaw01.same -/
noncomputable def fn17 : FnD := fnDof Tryd.f17 mdT
/-- seedbed/seedbedlaw01.awake -/
noncomputable def fn18 : FnD := fnDof Tryd.f18 mdT
/-- seedbed/lexis.Quote -/
noncomputable def fn19 : FnD := fnDof Tryd.f19 mdT
/-- seedbed/seedbedref01.IsText -/
noncomputable def fn20 : FnD := fnDof Tryd.f20 mdT
/-- seedbed/seedbedref01.Quote -/
noncomputable def fn21 : FnD := fnDof Tryd.f21 mdT
/-- seedbed/seedbedref01.IsToken -/
noncomputable def fn22 : FnD := fnDof Tryd.f22 mdT
/-- seedbed/lexis.Words -/
noncomputable def fn23 : FnD := fnDof Tryd.f23 mdT
/-- seedbed/seedbedref01.Words -/
noncomputable def fn24 : FnD := fnDof Tryd.f24 mdT
/-- seedbed/lexis.IsWord -/
noncomputable def fn25 : FnD := fnDof Tryd.f25 mdT
/-- seedbed/lexis.IsName -/
noncomputable def fn26 : FnD := fnDof Tryd.f26 mdT
/-- seedbed/seedbedref01.IsName -/
noncomputable def fn27 : FnD := fnDof Tryd.f27 mdT
/-- seedbed/seedbedref01.IsWord -/
noncomputable def fn28 : FnD := fnDof Tryd.f28 mdT
/-- seedbed/seedbedlaw01.list -/
noncomputable def fn29 : FnD := fnDof Tryd.f29 mdT
/-- seedbed/lexis.Join -/
noncomputable def fn30 : FnD := fnDof Tryd.f30 mdT
/-- seedbed/seedbedref01.Join -/
noncomputable def fn31 : FnD := fnDof Tryd.f31 mdT
/-- seedbed/lexis.Place -/
noncomputable def fn32 : FnD := fnDof Tryd.f32 mdT
/-- seedbed/seedbedref01.Place -/
noncomputable def fn33 : FnD := fnDof Tryd.f33 mdT
/-- seedbed/seedbedlaw01.mod -/
noncomputable def fn34 : FnD := fnDof Tryd.f34 mdT
/-- (*seedbed/lexis.scanner).tokens -/
noncomputable def fn35 : FnD := fnDof Tryd.f35 mdT
/-- seedbed/seedbedref01.blank -/
noncomputable def fn36 : FnD := fnDof Tryd.f36 mdT
/-- seedbed/seedbedref01.token -/
noncomputable def fn37 : FnD := fnDof Tryd.f37 mdT
/-- seedbed/lexis.isText -/
noncomputable def fn38 : FnD := fnDof Tryd.f38 mdT
/-- strings.ReplaceAll -/
noncomputable def fn39 : FnD := fnDof Tryd.f39 mdT
/-- seedbed/seedbedref01.IsNumeral -/
noncomputable def fn40 : FnD := fnDof Tryd.f40 mdT
/-- seedbed/seedbedref01.IsSign -/
noncomputable def fn41 : FnD := fnDof Tryd.f41 mdT
/-- seedbed/lexis.words -/
noncomputable def fn42 : FnD := fnDof Tryd.f42 mdT
/-- slices.Contains[[]string,string] -/
noncomputable def fn43 : FnD := fnDof Tryd.f43 mdT
/-- seedbed/lexis.isRun -/
noncomputable def fn44 : FnD := fnDof Tryd.f44 mdT
/-- seedbed/seedbedref01.letter -/
noncomputable def fn45 : FnD := fnDof Tryd.f45 mdT
/-- seedbed/seedbedref01.digit -/
noncomputable def fn46 : FnD := fnDof Tryd.f46 mdT
/-- seedbed/lexis.text -/
noncomputable def fn47 : FnD := fnDof Tryd.f47 mdT
/-- strings.Join -/
noncomputable def fn48 : FnD := fnDof Tryd.f48 mdT
/-- strings.Count -/
noncomputable def fn49 : FnD := fnDof Tryd.f49 mdT
/-- strings.LastIndex -/
noncomputable def fn50 : FnD := fnDof Tryd.f50 mdT
/-- (*seedbed/lexis.scanner).tokens$1 -/
noncomputable def fn51 : FnD := fnDof Tryd.f51 mdT
/-- (*seedbed/lexis.scanner).skip -/
noncomputable def fn52 : FnD := fnDof Tryd.f52 mdT
/-- (*seedbed/lexis.scanner).sign -/
noncomputable def fn53 : FnD := fnDof Tryd.f53 mdT
/-- seedbed/lexis.isLetter -/
noncomputable def fn54 : FnD := fnDof Tryd.f54 mdT
/-- (*seedbed/lexis.scanner).name -/
noncomputable def fn55 : FnD := fnDof Tryd.f55 mdT
/-- seedbed/lexis.isDigit -/
noncomputable def fn56 : FnD := fnDof Tryd.f56 mdT
/-- (*seedbed/lexis.scanner).numeral -/
noncomputable def fn57 : FnD := fnDof Tryd.f57 mdT
/-- (*seedbed/lexis.scanner).quote -/
noncomputable def fn58 : FnD := fnDof Tryd.f58 mdT
/-- seedbed/seedbedref01.run -/
noncomputable def fn59 : FnD := fnDof Tryd.f59 mdT
/-- seedbed/seedbedref01.quote -/
noncomputable def fn60 : FnD := fnDof Tryd.f60 mdT
/-- strings.Replace -/
noncomputable def fn61 : FnD := fnDof Tryd.f61 mdT
/-- strings.Fields -/
noncomputable def fn62 : FnD := fnDof Tryd.f62 mdT
/-- slices.Index[[]string,string] -/
noncomputable def fn63 : FnD := fnDof Tryd.f63 mdT
/-- seedbed/lexis.signs -/
noncomputable def fn64 : FnD := fnDof Tryd.f64 mdT
/-- seedbed/lexis.isNumeral -/
noncomputable def fn65 : FnD := fnDof Tryd.f65 mdT
/-- (*strings.Builder).Grow -/
noncomputable def fn66 : FnD := fnDof Tryd.f66 mdT
/-- (*strings.Builder).WriteString -/
noncomputable def fn67 : FnD := fnDof Tryd.f67 mdT
/-- (*strings.Builder).String -/
noncomputable def fn68 : FnD := fnDof Tryd.f68 mdT
/-- unicode/utf8.RuneCountInString -/
noncomputable def fn69 : FnD := fnDof Tryd.f69 mdT
/-- strings.Index -/
noncomputable def fn71 : FnD := fnDof Tryd.f71 mdT
/-- internal/bytealg.LastIndexByteString -/
noncomputable def fn72 : FnD := fnDof Tryd.f72 mdT
/-- internal/bytealg.LastIndexRabinKarp[string] -/
noncomputable def fn73 : FnD := fnDof Tryd.f73 mdT
/-- (*seedbed/lexis.scanner).run -/
noncomputable def fn74 : FnD := fnDof Tryd.f74 mdT
/-- (*seedbed/lexis.scanner).name$1 -/
noncomputable def fn75 : FnD := fnDof Tryd.f75 mdT
/-- unicode/utf8.DecodeRuneInString -/
noncomputable def fn76 : FnD := fnDof Tryd.f76 mdT
/-- strings.FieldsFunc -/
noncomputable def fn77 : FnD := fnDof Tryd.f77 mdT
/-- unicode.IsSpace -/
noncomputable def fn78 : FnD := fnDof Tryd.f78 mdT
/-- strconv.Atoi -/
noncomputable def fn79 : FnD := fnDof Tryd.f79 mdT
/-- strconv.Itoa -/
noncomputable def fn80 : FnD := fnDof Tryd.f80 mdT
/-- (*strings.Builder).copyCheck -/
noncomputable def fn81 : FnD := fnDof Tryd.f81 mdT
/-- (*strings.Builder).grow -/
noncomputable def fn82 : FnD := fnDof Tryd.f82 mdT
/-- internal/stringslite.Index -/
noncomputable def fn83 : FnD := fnDof Tryd.f83 mdT
/-- internal/bytealg.hashStrRev[string] -/
noncomputable def fn84 : FnD := fnDof Tryd.f84 mdT
/-- unicode/utf8.decodeRuneInStringSlow -/
noncomputable def fn85 : FnD := fnDof Tryd.f85 mdT
/-- unicode.isExcludingLatin -/
noncomputable def fn86 : FnD := fnDof Tryd.f86 mdT
/-- internal/strconv.Atoi -/
noncomputable def fn87 : FnD := fnDof Tryd.f87 mdT
/-- strconv.toError -/
noncomputable def fn88 : FnD := fnDof Tryd.f88 mdT
/-- internal/strconv.Itoa -/
noncomputable def fn89 : FnD := fnDof Tryd.f89 mdT
/-- internal/stringslite.IndexByte -/
noncomputable def fn92 : FnD := fnDof Tryd.f92 mdT
/-- internal/bytealg.Cutover -/
noncomputable def fn94 : FnD := fnDof Tryd.f94 mdT
/-- internal/bytealg.IndexRabinKarp[string] -/
noncomputable def fn95 : FnD := fnDof Tryd.f95 mdT
/-- unicode.is16 -/
noncomputable def fn96 : FnD := fnDof Tryd.f96 mdT
/-- unicode.is32 -/
noncomputable def fn97 : FnD := fnDof Tryd.f97 mdT
/-- internal/strconv.ParseInt -/
noncomputable def fn98 : FnD := fnDof Tryd.f98 mdT
/-- strconv.syntaxError -/
noncomputable def fn99 : FnD := fnDof Tryd.f99 mdT
/-- strconv.rangeError -/
noncomputable def fn100 : FnD := fnDof Tryd.f100 mdT
/-- strconv.baseError -/
noncomputable def fn101 : FnD := fnDof Tryd.f101 mdT
/-- strconv.bitSizeError -/
noncomputable def fn102 : FnD := fnDof Tryd.f102 mdT
/-- internal/strconv.FormatInt -/
noncomputable def fn103 : FnD := fnDof Tryd.f103 mdT
/-- internal/bytealg.hashStr[string] -/
noncomputable def fn105 : FnD := fnDof Tryd.f105 mdT
/-- internal/strconv.ParseUint -/
noncomputable def fn106 : FnD := fnDof Tryd.f106 mdT
/-- internal/stringslite.Clone -/
noncomputable def fn107 : FnD := fnDof Tryd.f107 mdT
/-- errors.New -/
noncomputable def fn108 : FnD := fnDof Tryd.f108 mdT
/-- internal/strconv.small -/
noncomputable def fn109 : FnD := fnDof Tryd.f109 mdT
/-- internal/strconv.numDigits -/
noncomputable def fn110 : FnD := fnDof Tryd.f110 mdT
/-- internal/strconv.formatBase10 -/
noncomputable def fn111 : FnD := fnDof Tryd.f111 mdT
/-- internal/strconv.formatBits -/
noncomputable def fn112 : FnD := fnDof Tryd.f112 mdT
/-- internal/strconv.lower -/
noncomputable def fn113 : FnD := fnDof Tryd.f113 mdT
/-- internal/strconv.underscoreOK -/
noncomputable def fn114 : FnD := fnDof Tryd.f114 mdT
/-- internal/strconv.log10Pow2 -/
noncomputable def fn115 : FnD := fnDof Tryd.f115 mdT
/-- math/bits.Len64 -/
noncomputable def fn116 : FnD := fnDof Tryd.f116 mdT
/-- internal/strconv.bool2[int] -/
noncomputable def fn117 : FnD := fnDof Tryd.f117 mdT
/-- internal/strconv.isPowerOfTwo -/
noncomputable def fn118 : FnD := fnDof Tryd.f118 mdT
/-- math/bits.TrailingZeros -/
noncomputable def fn119 : FnD := fnDof Tryd.f119 mdT
/-- math/bits.TrailingZeros32 -/
noncomputable def fn120 : FnD := fnDof Tryd.f120 mdT
/-- math/bits.TrailingZeros64 -/
noncomputable def fn121 : FnD := fnDof Tryd.f121 mdT
/-- gosem.cut.vars -/
noncomputable def fn156 : FnD := fnDof Tryd.f156 mdT
noncomputable def fnT0 (t : FuncId) : Option FnD := bif Nat.ble 19 t then (bif Nat.ble 27 t then (bif Nat.ble 31 t then (bif Nat.ble 33 t then (bif Nat.ble 34 t then (bif Nat.beq t 34 then some fn34 else none) else (bif Nat.beq t 33 then some fn33 else none)) else (bif Nat.ble 32 t then (bif Nat.beq t 32 then some fn32 else none) else (bif Nat.beq t 31 then some fn31 else none))) else (bif Nat.ble 29 t then (bif Nat.ble 30 t then (bif Nat.beq t 30 then some fn30 else none) else (bif Nat.beq t 29 then some fn29 else none)) else (bif Nat.ble 28 t then (bif Nat.beq t 28 then some fn28 else none) else (bif Nat.beq t 27 then some fn27 else none)))) else (bif Nat.ble 23 t then (bif Nat.ble 25 t then (bif Nat.ble 26 t then (bif Nat.beq t 26 then some fn26 else none) else (bif Nat.beq t 25 then some fn25 else none)) else (bif Nat.ble 24 t then (bif Nat.beq t 24 then some fn24 else none) else (bif Nat.beq t 23 then some fn23 else none))) else (bif Nat.ble 21 t then (bif Nat.ble 22 t then (bif Nat.beq t 22 then some fn22 else none) else (bif Nat.beq t 21 then some fn21 else none)) else (bif Nat.ble 20 t then (bif Nat.beq t 20 then some fn20 else none) else (bif Nat.beq t 19 then some fn19 else none))))) else (bif Nat.ble 11 t then (bif Nat.ble 15 t then (bif Nat.ble 17 t then (bif Nat.ble 18 t then (bif Nat.beq t 18 then some fn18 else none) else (bif Nat.beq t 17 then some fn17 else none)) else (bif Nat.ble 16 t then (bif Nat.beq t 16 then some fn16 else none) else (bif Nat.beq t 15 then some fn15 else none))) else (bif Nat.ble 13 t then (bif Nat.ble 14 t then (bif Nat.beq t 14 then some fn14 else none) else (bif Nat.beq t 13 then some fn13 else none)) else (bif Nat.ble 12 t then (bif Nat.beq t 12 then some fn12 else none) else (bif Nat.beq t 11 then some fn11 else none)))) else (bif Nat.ble 7 t then (bif Nat.ble 9 t then (bif Nat.ble 10 t then (bif Nat.beq t 10 then some fn10 else none) else (bif Nat.beq t 9 then some fn9 else none)) else (bif Nat.ble 8 t then (bif Nat.beq t 8 then some fn8 else none) else (bif Nat.beq t 7 then some fn7 else none))) else (bif Nat.ble 5 t then (bif Nat.ble 6 t then (bif Nat.beq t 6 then some fn6 else none) else (bif Nat.beq t 5 then some fn5 else none)) else (bif Nat.ble 4 t then (bif Nat.beq t 4 then some fn4 else none) else (bif Nat.beq t 3 then some fn3 else none)))))
theorem fnT0_ok (f : FuncId) (d : FnD) (h : fnT0 f = some d) : FnOk Tryd.prog f d := by
  unfold fnT0 at h
  simp only [cond_eq_ite] at h
  repeat' split at h
  all_goals first | exact (none_no h).elim | skip
  · rename_i e; have e := Nat.eq_of_beq_eq_true e; subst e; cases h; exact fnOk_of Tryd.func34 (by kernel_rfl) (by kernel_rfl)
  · rename_i e; have e := Nat.eq_of_beq_eq_true e; subst e; cases h; exact fnOk_of Tryd.func33 (by kernel_rfl) (by kernel_rfl)
  · rename_i e; have e := Nat.eq_of_beq_eq_true e; subst e; cases h; exact fnOk_of Tryd.func32 (by kernel_rfl) (by kernel_rfl)
  · rename_i e; have e := Nat.eq_of_beq_eq_true e; subst e; cases h; exact fnOk_of Tryd.func31 (by kernel_rfl) (by kernel_rfl)
  · rename_i e; have e := Nat.eq_of_beq_eq_true e; subst e; cases h; exact fnOk_of Tryd.func30 (by kernel_rfl) (by kernel_rfl)
  · rename_i e; have e := Nat.eq_of_beq_eq_true e; subst e; cases h; exact fnOk_of Tryd.func29 (by kernel_rfl) (by kernel_rfl)
  · rename_i e; have e := Nat.eq_of_beq_eq_true e; subst e; cases h; exact fnOk_of Tryd.func28 (by kernel_rfl) (by kernel_rfl)
  · rename_i e; have e := Nat.eq_of_beq_eq_true e; subst e; cases h; exact fnOk_of Tryd.func27 (by kernel_rfl) (by kernel_rfl)
  · rename_i e; have e := Nat.eq_of_beq_eq_true e; subst e; cases h; exact fnOk_of Tryd.func26 (by kernel_rfl) (by kernel_rfl)
  · rename_i e; have e := Nat.eq_of_beq_eq_true e; subst e; cases h; exact fnOk_of Tryd.func25 (by kernel_rfl) (by kernel_rfl)
  · rename_i e; have e := Nat.eq_of_beq_eq_true e; subst e; cases h; exact fnOk_of Tryd.func24 (by kernel_rfl) (by kernel_rfl)
  · rename_i e; have e := Nat.eq_of_beq_eq_true e; subst e; cases h; exact fnOk_of Tryd.func23 (by kernel_rfl) (by kernel_rfl)
  · rename_i e; have e := Nat.eq_of_beq_eq_true e; subst e; cases h; exact fnOk_of Tryd.func22 (by kernel_rfl) (by kernel_rfl)
  · rename_i e; have e := Nat.eq_of_beq_eq_true e; subst e; cases h; exact fnOk_of Tryd.func21 (by kernel_rfl) (by kernel_rfl)
  · rename_i e; have e := Nat.eq_of_beq_eq_true e; subst e; cases h; exact fnOk_of Tryd.func20 (by kernel_rfl) (by kernel_rfl)
  · rename_i e; have e := Nat.eq_of_beq_eq_true e; subst e; cases h; exact fnOk_of Tryd.func19 (by kernel_rfl) (by kernel_rfl)
  · rename_i e; have e := Nat.eq_of_beq_eq_true e; subst e; cases h; exact fnOk_of Tryd.func18 (by kernel_rfl) (by kernel_rfl)
  · rename_i e; have e := Nat.eq_of_beq_eq_true e; subst e; cases h; exact fnOk_of Tryd.func17 (by kernel_rfl) (by kernel_rfl)
  · rename_i e; have e := Nat.eq_of_beq_eq_true e; subst e; cases h; exact fnOk_of Tryd.func16 (by kernel_rfl) (by kernel_rfl)
  · rename_i e; have e := Nat.eq_of_beq_eq_true e; subst e; cases h; exact fnOk_of Tryd.func15 (by kernel_rfl) (by kernel_rfl)
  · rename_i e; have e := Nat.eq_of_beq_eq_true e; subst e; cases h; exact fnOk_of Tryd.func14 (by kernel_rfl) (by kernel_rfl)
  · rename_i e; have e := Nat.eq_of_beq_eq_true e; subst e; cases h; exact fnOk_of Tryd.func13 (by kernel_rfl) (by kernel_rfl)
  · rename_i e; have e := Nat.eq_of_beq_eq_true e; subst e; cases h; exact fnOk_of Tryd.func12 (by kernel_rfl) (by kernel_rfl)
  · rename_i e; have e := Nat.eq_of_beq_eq_true e; subst e; cases h; exact fnOk_of Tryd.func11 (by kernel_rfl) (by kernel_rfl)
  · rename_i e; have e := Nat.eq_of_beq_eq_true e; subst e; cases h; exact fnOk_of Tryd.func10 (by kernel_rfl) (by kernel_rfl)
  · rename_i e; have e := Nat.eq_of_beq_eq_true e; subst e; cases h; exact fnOk_of Tryd.func9 (by kernel_rfl) (by kernel_rfl)
  · rename_i e; have e := Nat.eq_of_beq_eq_true e; subst e; cases h; exact fnOk_of Tryd.func8 (by kernel_rfl) (by kernel_rfl)
  · rename_i e; have e := Nat.eq_of_beq_eq_true e; subst e; cases h; exact fnOk_of Tryd.func7 (by kernel_rfl) (by kernel_rfl)
  · rename_i e; have e := Nat.eq_of_beq_eq_true e; subst e; cases h; exact fnOk_of Tryd.func6 (by kernel_rfl) (by kernel_rfl)
  · rename_i e; have e := Nat.eq_of_beq_eq_true e; subst e; cases h; exact fnOk_of Tryd.func5 (by kernel_rfl) (by kernel_rfl)
  · rename_i e; have e := Nat.eq_of_beq_eq_true e; subst e; cases h; exact fnOk_of Tryd.func4 (by kernel_rfl) (by kernel_rfl)
  · rename_i e; have e := Nat.eq_of_beq_eq_true e; subst e; cases h; exact fnOk_of Tryd.func3 (by kernel_rfl) (by kernel_rfl)
noncomputable def fnT1 (t : FuncId) : Option FnD := bif Nat.ble 51 t then (bif Nat.ble 59 t then (bif Nat.ble 63 t then (bif Nat.ble 65 t then (bif Nat.ble 66 t then (bif Nat.beq t 66 then some fn66 else none) else (bif Nat.beq t 65 then some fn65 else none)) else (bif Nat.ble 64 t then (bif Nat.beq t 64 then some fn64 else none) else (bif Nat.beq t 63 then some fn63 else none))) else (bif Nat.ble 61 t then (bif Nat.ble 62 t then (bif Nat.beq t 62 then some fn62 else none) else (bif Nat.beq t 61 then some fn61 else none)) else (bif Nat.ble 60 t then (bif Nat.beq t 60 then some fn60 else none) else (bif Nat.beq t 59 then some fn59 else none)))) else (bif Nat.ble 55 t then (bif Nat.ble 57 t then (bif Nat.ble 58 t then (bif Nat.beq t 58 then some fn58 else none) else (bif Nat.beq t 57 then some fn57 else none)) else (bif Nat.ble 56 t then (bif Nat.beq t 56 then some fn56 else none) else (bif Nat.beq t 55 then some fn55 else none))) else (bif Nat.ble 53 t then (bif Nat.ble 54 t then (bif Nat.beq t 54 then some fn54 else none) else (bif Nat.beq t 53 then some fn53 else none)) else (bif Nat.ble 52 t then (bif Nat.beq t 52 then some fn52 else none) else (bif Nat.beq t 51 then some fn51 else none))))) else (bif Nat.ble 43 t then (bif Nat.ble 47 t then (bif Nat.ble 49 t then (bif Nat.ble 50 t then (bif Nat.beq t 50 then some fn50 else none) else (bif Nat.beq t 49 then some fn49 else none)) else (bif Nat.ble 48 t then (bif Nat.beq t 48 then some fn48 else none) else (bif Nat.beq t 47 then some fn47 else none))) else (bif Nat.ble 45 t then (bif Nat.ble 46 t then (bif Nat.beq t 46 then some fn46 else none) else (bif Nat.beq t 45 then some fn45 else none)) else (bif Nat.ble 44 t then (bif Nat.beq t 44 then some fn44 else none) else (bif Nat.beq t 43 then some fn43 else none)))) else (bif Nat.ble 39 t then (bif Nat.ble 41 t then (bif Nat.ble 42 t then (bif Nat.beq t 42 then some fn42 else none) else (bif Nat.beq t 41 then some fn41 else none)) else (bif Nat.ble 40 t then (bif Nat.beq t 40 then some fn40 else none) else (bif Nat.beq t 39 then some fn39 else none))) else (bif Nat.ble 37 t then (bif Nat.ble 38 t then (bif Nat.beq t 38 then some fn38 else none) else (bif Nat.beq t 37 then some fn37 else none)) else (bif Nat.ble 36 t then (bif Nat.beq t 36 then some fn36 else none) else (bif Nat.beq t 35 then some fn35 else none)))))
theorem fnT1_ok (f : FuncId) (d : FnD) (h : fnT1 f = some d) : FnOk Tryd.prog f d := by
  unfold fnT1 at h
  simp only [cond_eq_ite] at h
  repeat' split at h
  all_goals first | exact (none_no h).elim | skip
  · rename_i e; have e := Nat.eq_of_beq_eq_true e; subst e; cases h; exact fnOk_of Tryd.func66 (by kernel_rfl) (by kernel_rfl)
  · rename_i e; have e := Nat.eq_of_beq_eq_true e; subst e; cases h; exact fnOk_of Tryd.func65 (by kernel_rfl) (by kernel_rfl)
  · rename_i e; have e := Nat.eq_of_beq_eq_true e; subst e; cases h; exact fnOk_of Tryd.func64 (by kernel_rfl) (by kernel_rfl)
  · rename_i e; have e := Nat.eq_of_beq_eq_true e; subst e; cases h; exact fnOk_of Tryd.func63 (by kernel_rfl) (by kernel_rfl)
  · rename_i e; have e := Nat.eq_of_beq_eq_true e; subst e; cases h; exact fnOk_of Tryd.func62 (by kernel_rfl) (by kernel_rfl)
  · rename_i e; have e := Nat.eq_of_beq_eq_true e; subst e; cases h; exact fnOk_of Tryd.func61 (by kernel_rfl) (by kernel_rfl)
  · rename_i e; have e := Nat.eq_of_beq_eq_true e; subst e; cases h; exact fnOk_of Tryd.func60 (by kernel_rfl) (by kernel_rfl)
  · rename_i e; have e := Nat.eq_of_beq_eq_true e; subst e; cases h; exact fnOk_of Tryd.func59 (by kernel_rfl) (by kernel_rfl)
  · rename_i e; have e := Nat.eq_of_beq_eq_true e; subst e; cases h; exact fnOk_of Tryd.func58 (by kernel_rfl) (by kernel_rfl)
  · rename_i e; have e := Nat.eq_of_beq_eq_true e; subst e; cases h; exact fnOk_of Tryd.func57 (by kernel_rfl) (by kernel_rfl)
  · rename_i e; have e := Nat.eq_of_beq_eq_true e; subst e; cases h; exact fnOk_of Tryd.func56 (by kernel_rfl) (by kernel_rfl)
  · rename_i e; have e := Nat.eq_of_beq_eq_true e; subst e; cases h; exact fnOk_of Tryd.func55 (by kernel_rfl) (by kernel_rfl)
  · rename_i e; have e := Nat.eq_of_beq_eq_true e; subst e; cases h; exact fnOk_of Tryd.func54 (by kernel_rfl) (by kernel_rfl)
  · rename_i e; have e := Nat.eq_of_beq_eq_true e; subst e; cases h; exact fnOk_of Tryd.func53 (by kernel_rfl) (by kernel_rfl)
  · rename_i e; have e := Nat.eq_of_beq_eq_true e; subst e; cases h; exact fnOk_of Tryd.func52 (by kernel_rfl) (by kernel_rfl)
  · rename_i e; have e := Nat.eq_of_beq_eq_true e; subst e; cases h; exact fnOk_of Tryd.func51 (by kernel_rfl) (by kernel_rfl)
  · rename_i e; have e := Nat.eq_of_beq_eq_true e; subst e; cases h; exact fnOk_of Tryd.func50 (by kernel_rfl) (by kernel_rfl)
  · rename_i e; have e := Nat.eq_of_beq_eq_true e; subst e; cases h; exact fnOk_of Tryd.func49 (by kernel_rfl) (by kernel_rfl)
  · rename_i e; have e := Nat.eq_of_beq_eq_true e; subst e; cases h; exact fnOk_of Tryd.func48 (by kernel_rfl) (by kernel_rfl)
  · rename_i e; have e := Nat.eq_of_beq_eq_true e; subst e; cases h; exact fnOk_of Tryd.func47 (by kernel_rfl) (by kernel_rfl)
  · rename_i e; have e := Nat.eq_of_beq_eq_true e; subst e; cases h; exact fnOk_of Tryd.func46 (by kernel_rfl) (by kernel_rfl)
  · rename_i e; have e := Nat.eq_of_beq_eq_true e; subst e; cases h; exact fnOk_of Tryd.func45 (by kernel_rfl) (by kernel_rfl)
  · rename_i e; have e := Nat.eq_of_beq_eq_true e; subst e; cases h; exact fnOk_of Tryd.func44 (by kernel_rfl) (by kernel_rfl)
  · rename_i e; have e := Nat.eq_of_beq_eq_true e; subst e; cases h; exact fnOk_of Tryd.func43 (by kernel_rfl) (by kernel_rfl)
  · rename_i e; have e := Nat.eq_of_beq_eq_true e; subst e; cases h; exact fnOk_of Tryd.func42 (by kernel_rfl) (by kernel_rfl)
  · rename_i e; have e := Nat.eq_of_beq_eq_true e; subst e; cases h; exact fnOk_of Tryd.func41 (by kernel_rfl) (by kernel_rfl)
  · rename_i e; have e := Nat.eq_of_beq_eq_true e; subst e; cases h; exact fnOk_of Tryd.func40 (by kernel_rfl) (by kernel_rfl)
  · rename_i e; have e := Nat.eq_of_beq_eq_true e; subst e; cases h; exact fnOk_of Tryd.func39 (by kernel_rfl) (by kernel_rfl)
  · rename_i e; have e := Nat.eq_of_beq_eq_true e; subst e; cases h; exact fnOk_of Tryd.func38 (by kernel_rfl) (by kernel_rfl)
  · rename_i e; have e := Nat.eq_of_beq_eq_true e; subst e; cases h; exact fnOk_of Tryd.func37 (by kernel_rfl) (by kernel_rfl)
  · rename_i e; have e := Nat.eq_of_beq_eq_true e; subst e; cases h; exact fnOk_of Tryd.func36 (by kernel_rfl) (by kernel_rfl)
  · rename_i e; have e := Nat.eq_of_beq_eq_true e; subst e; cases h; exact fnOk_of Tryd.func35 (by kernel_rfl) (by kernel_rfl)
noncomputable def fnT2 (t : FuncId) : Option FnD := bif Nat.ble 84 t then (bif Nat.ble 95 t then (bif Nat.ble 99 t then (bif Nat.ble 101 t then (bif Nat.ble 102 t then (bif Nat.beq t 102 then some fn102 else none) else (bif Nat.beq t 101 then some fn101 else none)) else (bif Nat.ble 100 t then (bif Nat.beq t 100 then some fn100 else none) else (bif Nat.beq t 99 then some fn99 else none))) else (bif Nat.ble 97 t then (bif Nat.ble 98 t then (bif Nat.beq t 98 then some fn98 else none) else (bif Nat.beq t 97 then some fn97 else none)) else (bif Nat.ble 96 t then (bif Nat.beq t 96 then some fn96 else none) else (bif Nat.beq t 95 then some fn95 else none)))) else (bif Nat.ble 88 t then (bif Nat.ble 92 t then (bif Nat.ble 94 t then (bif Nat.beq t 94 then some fn94 else none) else (bif Nat.beq t 92 then some fn92 else none)) else (bif Nat.ble 89 t then (bif Nat.beq t 89 then some fn89 else none) else (bif Nat.beq t 88 then some fn88 else none))) else (bif Nat.ble 86 t then (bif Nat.ble 87 t then (bif Nat.beq t 87 then some fn87 else none) else (bif Nat.beq t 86 then some fn86 else none)) else (bif Nat.ble 85 t then (bif Nat.beq t 85 then some fn85 else none) else (bif Nat.beq t 84 then some fn84 else none))))) else (bif Nat.ble 76 t then (bif Nat.ble 80 t then (bif Nat.ble 82 t then (bif Nat.ble 83 t then (bif Nat.beq t 83 then some fn83 else none) else (bif Nat.beq t 82 then some fn82 else none)) else (bif Nat.ble 81 t then (bif Nat.beq t 81 then some fn81 else none) else (bif Nat.beq t 80 then some fn80 else none))) else (bif Nat.ble 78 t then (bif Nat.ble 79 t then (bif Nat.beq t 79 then some fn79 else none) else (bif Nat.beq t 78 then some fn78 else none)) else (bif Nat.ble 77 t then (bif Nat.beq t 77 then some fn77 else none) else (bif Nat.beq t 76 then some fn76 else none)))) else (bif Nat.ble 72 t then (bif Nat.ble 74 t then (bif Nat.ble 75 t then (bif Nat.beq t 75 then some fn75 else none) else (bif Nat.beq t 74 then some fn74 else none)) else (bif Nat.ble 73 t then (bif Nat.beq t 73 then some fn73 else none) else (bif Nat.beq t 72 then some fn72 else none))) else (bif Nat.ble 69 t then (bif Nat.ble 71 t then (bif Nat.beq t 71 then some fn71 else none) else (bif Nat.beq t 69 then some fn69 else none)) else (bif Nat.ble 68 t then (bif Nat.beq t 68 then some fn68 else none) else (bif Nat.beq t 67 then some fn67 else none)))))
theorem fnT2_ok (f : FuncId) (d : FnD) (h : fnT2 f = some d) : FnOk Tryd.prog f d := by
  unfold fnT2 at h
  simp only [cond_eq_ite] at h
  repeat' split at h
  all_goals first | exact (none_no h).elim | skip
  · rename_i e; have e := Nat.eq_of_beq_eq_true e; subst e; cases h; exact fnOk_of Tryd.func102 (by kernel_rfl) (by kernel_rfl)
  · rename_i e; have e := Nat.eq_of_beq_eq_true e; subst e; cases h; exact fnOk_of Tryd.func101 (by kernel_rfl) (by kernel_rfl)
  · rename_i e; have e := Nat.eq_of_beq_eq_true e; subst e; cases h; exact fnOk_of Tryd.func100 (by kernel_rfl) (by kernel_rfl)
  · rename_i e; have e := Nat.eq_of_beq_eq_true e; subst e; cases h; exact fnOk_of Tryd.func99 (by kernel_rfl) (by kernel_rfl)
  · rename_i e; have e := Nat.eq_of_beq_eq_true e; subst e; cases h; exact fnOk_of Tryd.func98 (by kernel_rfl) (by kernel_rfl)
  · rename_i e; have e := Nat.eq_of_beq_eq_true e; subst e; cases h; exact fnOk_of Tryd.func97 (by kernel_rfl) (by kernel_rfl)
  · rename_i e; have e := Nat.eq_of_beq_eq_true e; subst e; cases h; exact fnOk_of Tryd.func96 (by kernel_rfl) (by kernel_rfl)
  · rename_i e; have e := Nat.eq_of_beq_eq_true e; subst e; cases h; exact fnOk_of Tryd.func95 (by kernel_rfl) (by kernel_rfl)
  · rename_i e; have e := Nat.eq_of_beq_eq_true e; subst e; cases h; exact fnOk_of Tryd.func94 (by kernel_rfl) (by kernel_rfl)
  · rename_i e; have e := Nat.eq_of_beq_eq_true e; subst e; cases h; exact fnOk_of Tryd.func92 (by kernel_rfl) (by kernel_rfl)
  · rename_i e; have e := Nat.eq_of_beq_eq_true e; subst e; cases h; exact fnOk_of Tryd.func89 (by kernel_rfl) (by kernel_rfl)
  · rename_i e; have e := Nat.eq_of_beq_eq_true e; subst e; cases h; exact fnOk_of Tryd.func88 (by kernel_rfl) (by kernel_rfl)
  · rename_i e; have e := Nat.eq_of_beq_eq_true e; subst e; cases h; exact fnOk_of Tryd.func87 (by kernel_rfl) (by kernel_rfl)
  · rename_i e; have e := Nat.eq_of_beq_eq_true e; subst e; cases h; exact fnOk_of Tryd.func86 (by kernel_rfl) (by kernel_rfl)
  · rename_i e; have e := Nat.eq_of_beq_eq_true e; subst e; cases h; exact fnOk_of Tryd.func85 (by kernel_rfl) (by kernel_rfl)
  · rename_i e; have e := Nat.eq_of_beq_eq_true e; subst e; cases h; exact fnOk_of Tryd.func84 (by kernel_rfl) (by kernel_rfl)
  · rename_i e; have e := Nat.eq_of_beq_eq_true e; subst e; cases h; exact fnOk_of Tryd.func83 (by kernel_rfl) (by kernel_rfl)
  · rename_i e; have e := Nat.eq_of_beq_eq_true e; subst e; cases h; exact fnOk_of Tryd.func82 (by kernel_rfl) (by kernel_rfl)
  · rename_i e; have e := Nat.eq_of_beq_eq_true e; subst e; cases h; exact fnOk_of Tryd.func81 (by kernel_rfl) (by kernel_rfl)
  · rename_i e; have e := Nat.eq_of_beq_eq_true e; subst e; cases h; exact fnOk_of Tryd.func80 (by kernel_rfl) (by kernel_rfl)
  · rename_i e; have e := Nat.eq_of_beq_eq_true e; subst e; cases h; exact fnOk_of Tryd.func79 (by kernel_rfl) (by kernel_rfl)
  · rename_i e; have e := Nat.eq_of_beq_eq_true e; subst e; cases h; exact fnOk_of Tryd.func78 (by kernel_rfl) (by kernel_rfl)
  · rename_i e; have e := Nat.eq_of_beq_eq_true e; subst e; cases h; exact fnOk_of Tryd.func77 (by kernel_rfl) (by kernel_rfl)
  · rename_i e; have e := Nat.eq_of_beq_eq_true e; subst e; cases h; exact fnOk_of Tryd.func76 (by kernel_rfl) (by kernel_rfl)
  · rename_i e; have e := Nat.eq_of_beq_eq_true e; subst e; cases h; exact fnOk_of Tryd.func75 (by kernel_rfl) (by kernel_rfl)
  · rename_i e; have e := Nat.eq_of_beq_eq_true e; subst e; cases h; exact fnOk_of Tryd.func74 (by kernel_rfl) (by kernel_rfl)
  · rename_i e; have e := Nat.eq_of_beq_eq_true e; subst e; cases h; exact fnOk_of Tryd.func73 (by kernel_rfl) (by kernel_rfl)
  · rename_i e; have e := Nat.eq_of_beq_eq_true e; subst e; cases h; exact fnOk_of Tryd.func72 (by kernel_rfl) (by kernel_rfl)
  · rename_i e; have e := Nat.eq_of_beq_eq_true e; subst e; cases h; exact fnOk_of Tryd.func71 (by kernel_rfl) (by kernel_rfl)
  · rename_i e; have e := Nat.eq_of_beq_eq_true e; subst e; cases h; exact fnOk_of Tryd.func69 (by kernel_rfl) (by kernel_rfl)
  · rename_i e; have e := Nat.eq_of_beq_eq_true e; subst e; cases h; exact fnOk_of Tryd.func68 (by kernel_rfl) (by kernel_rfl)
  · rename_i e; have e := Nat.eq_of_beq_eq_true e; subst e; cases h; exact fnOk_of Tryd.func67 (by kernel_rfl) (by kernel_rfl)
noncomputable def fnT3 (t : FuncId) : Option FnD := bif Nat.ble 113 t then (bif Nat.ble 118 t then (bif Nat.ble 120 t then (bif Nat.ble 121 t then (bif Nat.ble 156 t then (bif Nat.beq t 156 then some fn156 else none) else (bif Nat.beq t 121 then some fn121 else none)) else (bif Nat.beq t 120 then some fn120 else none)) else (bif Nat.ble 119 t then (bif Nat.beq t 119 then some fn119 else none) else (bif Nat.beq t 118 then some fn118 else none))) else (bif Nat.ble 115 t then (bif Nat.ble 116 t then (bif Nat.ble 117 t then (bif Nat.beq t 117 then some fn117 else none) else (bif Nat.beq t 116 then some fn116 else none)) else (bif Nat.beq t 115 then some fn115 else none)) else (bif Nat.ble 114 t then (bif Nat.beq t 114 then some fn114 else none) else (bif Nat.beq t 113 then some fn113 else none)))) else (bif Nat.ble 108 t then (bif Nat.ble 110 t then (bif Nat.ble 111 t then (bif Nat.ble 112 t then (bif Nat.beq t 112 then some fn112 else none) else (bif Nat.beq t 111 then some fn111 else none)) else (bif Nat.beq t 110 then some fn110 else none)) else (bif Nat.ble 109 t then (bif Nat.beq t 109 then some fn109 else none) else (bif Nat.beq t 108 then some fn108 else none))) else (bif Nat.ble 106 t then (bif Nat.ble 107 t then (bif Nat.beq t 107 then some fn107 else none) else (bif Nat.beq t 106 then some fn106 else none)) else (bif Nat.ble 105 t then (bif Nat.beq t 105 then some fn105 else none) else (bif Nat.beq t 103 then some fn103 else none))))
theorem fnT3_ok (f : FuncId) (d : FnD) (h : fnT3 f = some d) : FnOk Tryd.prog f d := by
  unfold fnT3 at h
  simp only [cond_eq_ite] at h
  repeat' split at h
  all_goals first | exact (none_no h).elim | skip
  · rename_i e; have e := Nat.eq_of_beq_eq_true e; subst e; cases h; exact fnOk_of Tryd.func156 (by kernel_rfl) (by kernel_rfl)
  · rename_i e; have e := Nat.eq_of_beq_eq_true e; subst e; cases h; exact fnOk_of Tryd.func121 (by kernel_rfl) (by kernel_rfl)
  · rename_i e; have e := Nat.eq_of_beq_eq_true e; subst e; cases h; exact fnOk_of Tryd.func120 (by kernel_rfl) (by kernel_rfl)
  · rename_i e; have e := Nat.eq_of_beq_eq_true e; subst e; cases h; exact fnOk_of Tryd.func119 (by kernel_rfl) (by kernel_rfl)
  · rename_i e; have e := Nat.eq_of_beq_eq_true e; subst e; cases h; exact fnOk_of Tryd.func118 (by kernel_rfl) (by kernel_rfl)
  · rename_i e; have e := Nat.eq_of_beq_eq_true e; subst e; cases h; exact fnOk_of Tryd.func117 (by kernel_rfl) (by kernel_rfl)
  · rename_i e; have e := Nat.eq_of_beq_eq_true e; subst e; cases h; exact fnOk_of Tryd.func116 (by kernel_rfl) (by kernel_rfl)
  · rename_i e; have e := Nat.eq_of_beq_eq_true e; subst e; cases h; exact fnOk_of Tryd.func115 (by kernel_rfl) (by kernel_rfl)
  · rename_i e; have e := Nat.eq_of_beq_eq_true e; subst e; cases h; exact fnOk_of Tryd.func114 (by kernel_rfl) (by kernel_rfl)
  · rename_i e; have e := Nat.eq_of_beq_eq_true e; subst e; cases h; exact fnOk_of Tryd.func113 (by kernel_rfl) (by kernel_rfl)
  · rename_i e; have e := Nat.eq_of_beq_eq_true e; subst e; cases h; exact fnOk_of Tryd.func112 (by kernel_rfl) (by kernel_rfl)
  · rename_i e; have e := Nat.eq_of_beq_eq_true e; subst e; cases h; exact fnOk_of Tryd.func111 (by kernel_rfl) (by kernel_rfl)
  · rename_i e; have e := Nat.eq_of_beq_eq_true e; subst e; cases h; exact fnOk_of Tryd.func110 (by kernel_rfl) (by kernel_rfl)
  · rename_i e; have e := Nat.eq_of_beq_eq_true e; subst e; cases h; exact fnOk_of Tryd.func109 (by kernel_rfl) (by kernel_rfl)
  · rename_i e; have e := Nat.eq_of_beq_eq_true e; subst e; cases h; exact fnOk_of Tryd.func108 (by kernel_rfl) (by kernel_rfl)
  · rename_i e; have e := Nat.eq_of_beq_eq_true e; subst e; cases h; exact fnOk_of Tryd.func107 (by kernel_rfl) (by kernel_rfl)
  · rename_i e; have e := Nat.eq_of_beq_eq_true e; subst e; cases h; exact fnOk_of Tryd.func106 (by kernel_rfl) (by kernel_rfl)
  · rename_i e; have e := Nat.eq_of_beq_eq_true e; subst e; cases h; exact fnOk_of Tryd.func105 (by kernel_rfl) (by kernel_rfl)
  · rename_i e; have e := Nat.eq_of_beq_eq_true e; subst e; cases h; exact fnOk_of Tryd.func103 (by kernel_rfl) (by kernel_rfl)
noncomputable def fnT (t : FuncId) : Option FnD := bif Nat.ble 67 t then (bif Nat.ble 103 t then (fnT3 t) else (fnT2 t)) else (bif Nat.ble 35 t then (fnT1 t) else (fnT0 t))
theorem fnT_ok (f : FuncId) (d : FnD) (h : fnT f = some d) : FnOk Tryd.prog f d := by
  unfold fnT at h
  simp only [cond_eq_ite] at h
  repeat' split at h
  all_goals first | exact fnT0_ok f d h | exact fnT1_ok f d h | exact fnT2_ok f d h | exact fnT3_ok f d h
end Go.Proofs.YtmpgphjbeoboaaaDoor
