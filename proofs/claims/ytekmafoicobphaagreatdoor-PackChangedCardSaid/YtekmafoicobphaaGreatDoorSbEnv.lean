/- The seat's types and functions ars the evaluator reads them, checked against the load. By program. -/
import Derived.Test.YtekmafoicobphaaGreatDoorSbIdx
import Derived.Test.YtekmafoicobphaaGreatDoorProg
set_option linter.unusedVariables false
set_option linter.unusedSimpArgs false
namespace Go.Proofs.YtekmafoicobphaaGreatDoor
open Go.Sb
set_option maxRecDepth 100000
def ty1 : TyD := ⟨.func, 1, 8, [.nilf]⟩
def ty2 : TyD := ⟨(.int .i64), 1, 8, [.int .i64 0]⟩
def ty3 : TyD := ⟨(.int .i64), 1, 8, [.int .i64 0]⟩
def ty4 : TyD := ⟨.bool, 1, 1, [.bool false]⟩
def ty5 : TyD := ⟨(.int .u8), 1, 1, [.int .u8 0]⟩
def ty6 : TyD := ⟨(.int .u8), 1, 1, [.int .u8 0]⟩
def ty7 : TyD := ⟨(.struct [(2, 0), (3, 1), (4, 2), (6, 3)]), 4, 24, [.int .i64 0, .int .i64 0, .bool false, .int .u8 0]⟩
def ty8 : TyD := ⟨(.struct [(2, 0), (3, 1), (4, 2), (6, 3)]), 4, 24, [.int .i64 0, .int .i64 0, .bool false, .int .u8 0]⟩
def ty9 : TyD := ⟨.str, 1, 16, [.str []]⟩
def ty10 : TyD := ⟨.str, 1, 16, [.str []]⟩
def ty11 : TyD := ⟨.str, 1, 16, [.str []]⟩
def ty12 : TyD := ⟨(.int .u64), 1, 8, [.int .u64 0]⟩
def ty13 : TyD := ⟨(.struct [(9, 0), (12, 1)]), 2, 24, [.str [], .int .u64 0]⟩
def ty14 : TyD := ⟨(.struct [(9, 0), (12, 1)]), 2, 24, [.str [], .int .u64 0]⟩
def ty15 : TyD := ⟨(.ptr 207), 1, 8, [.nilp]⟩
def ty16 : TyD := ⟨(.ptr 210), 1, 8, [.nilp]⟩
def ty17 : TyD := ⟨(.ptr 217), 1, 8, [.nilp]⟩
def ty18 : TyD := ⟨(.struct [(17, 0)]), 1, 8, [.nilp]⟩
def ty19 : TyD := ⟨(.struct [(17, 0)]), 1, 8, [.nilp]⟩
def ty20 : TyD := ⟨.iface, 1, 16, [.nili]⟩
def ty21 : TyD := ⟨(.int .i32), 1, 4, [.int .i32 0]⟩
def ty22 : TyD := ⟨.func, 1, 8, [.nilf]⟩
def ty23 : TyD := ⟨(.slice 61), 1, 24, [.nils]⟩
def ty24 : TyD := ⟨(.struct [(23, 0)]), 1, 24, [.nils]⟩
def ty25 : TyD := ⟨(.struct [(23, 0)]), 1, 24, [.nils]⟩
def ty26 : TyD := ⟨(.int .i64), 1, 8, [.int .i64 0]⟩
def ty28 : TyD := ⟨.func, 1, 8, [.nilf]⟩
def ty30 : TyD := ⟨.func, 1, 8, [.nilf]⟩
def ty31 : TyD := ⟨.func, 1, 8, [.nilf]⟩
def ty33 : TyD := ⟨.func, 1, 8, [.nilf]⟩
def ty34 : TyD := ⟨.func, 1, 8, [.nilf]⟩
def ty35 : TyD := ⟨.func, 1, 8, [.nilf]⟩
def ty36 : TyD := ⟨.func, 1, 8, [.nilf]⟩
def ty38 : TyD := ⟨.func, 1, 8, [.nilf]⟩
def ty39 : TyD := ⟨.func, 1, 8, [.nilf]⟩
def ty41 : TyD := ⟨.func, 1, 8, [.nilf]⟩
def ty43 : TyD := ⟨.func, 1, 8, [.nilf]⟩
def ty44 : TyD := ⟨.func, 1, 8, [.nilf]⟩
def ty45 : TyD := ⟨.func, 1, 8, [.nilf]⟩
def ty46 : TyD := ⟨.func, 1, 8, [.nilf]⟩
def ty47 : TyD := ⟨.func, 1, 8, [.nilf]⟩
def ty48 : TyD := ⟨.func, 1, 8, [.nilf]⟩
def ty49 : TyD := ⟨(.slice 5), 1, 24, [.nils]⟩
def ty50 : TyD := ⟨(.array 3 9), 3, 48, [.str [], .str [], .str []]⟩
def ty51 : TyD := ⟨.func, 1, 8, [.nilf]⟩
def ty52 : TyD := ⟨.func, 1, 8, [.nilf]⟩
def ty53 : TyD := ⟨.func, 1, 8, [.nilf]⟩
def ty54 : TyD := ⟨(.ptr 56), 1, 8, [.nilp]⟩
def ty55 : TyD := ⟨(.struct [(9, 0), (3, 1), (4, 2)]), 3, 32, [.str [], .int .i64 0, .bool false]⟩
def ty56 : TyD := ⟨(.struct [(9, 0), (3, 1), (4, 2)]), 3, 32, [.str [], .int .i64 0, .bool false]⟩
def ty57 : TyD := ⟨.func, 1, 8, [.nilf]⟩
def ty58 : TyD := ⟨(.slice 68), 1, 24, [.nils]⟩
def ty59 : TyD := ⟨(.slice 70), 1, 24, [.nils]⟩
def ty60 : TyD := ⟨(.struct [(9, 0), (3, 1), (3, 2), (58, 3), (59, 4)]), 5, 80, [.str [], .int .i64 0, .int .i64 0, .nils, .nils]⟩
def ty61 : TyD := ⟨(.struct [(9, 0), (3, 1), (3, 2), (58, 3), (59, 4)]), 5, 80, [.str [], .int .i64 0, .int .i64 0, .nils, .nils]⟩
def ty62 : TyD := ⟨.func, 1, 8, [.nilf]⟩
def ty63 : TyD := ⟨.func, 1, 8, [.nilf]⟩
def ty64 : TyD := ⟨(.struct [(3, 0), (3, 1), (9, 2)]), 3, 32, [.int .i64 0, .int .i64 0, .str []]⟩
def ty65 : TyD := ⟨(.struct [(3, 0), (3, 1), (9, 2)]), 3, 32, [.int .i64 0, .int .i64 0, .str []]⟩
def ty66 : TyD := ⟨(.slice 3), 1, 24, [.nils]⟩
def ty67 : TyD := ⟨(.struct [(3, 0), (3, 1), (3, 2), (3, 3), (65, 4), (66, 7)]), 8, 88, [.int .i64 0, .int .i64 0, .int .i64 0, .int .i64 0, .int .i64 0, .int .i64 0, .str [], .nils]⟩
def ty68 : TyD := ⟨(.struct [(3, 0), (3, 1), (3, 2), (3, 3), (65, 4), (66, 7)]), 8, 88, [.int .i64 0, .int .i64 0, .int .i64 0, .int .i64 0, .int .i64 0, .int .i64 0, .str [], .nils]⟩
def ty69 : TyD := ⟨(.struct [(3, 0), (3, 1), (3, 2), (3, 3)]), 4, 32, [.int .i64 0, .int .i64 0, .int .i64 0, .int .i64 0]⟩
def ty70 : TyD := ⟨(.struct [(3, 0), (3, 1), (3, 2), (3, 3)]), 4, 32, [.int .i64 0, .int .i64 0, .int .i64 0, .int .i64 0]⟩
def ty71 : TyD := ⟨(.int .u64), 1, 8, [.int .u64 0]⟩
def ty72 : TyD := ⟨.func, 1, 8, [.nilf]⟩
def ty73 : TyD := ⟨.func, 1, 8, [.nilf]⟩
def ty74 : TyD := ⟨(.ptr 76), 1, 8, [.nilp]⟩
def ty75 : TyD := ⟨(.struct [(9, 0), (3, 1)]), 2, 24, [.str [], .int .i64 0]⟩
def ty76 : TyD := ⟨(.struct [(9, 0), (3, 1)]), 2, 24, [.str [], .int .i64 0]⟩
def ty77 : TyD := ⟨.func, 1, 8, [.nilf]⟩
def ty78 : TyD := ⟨.func, 1, 8, [.nilf]⟩
def ty79 : TyD := ⟨.func, 1, 8, [.nilf]⟩
def ty80 : TyD := ⟨(.struct [(25, 0), (61, 1)]), 6, 104, [.nils, .str [], .int .i64 0, .int .i64 0, .nils, .nils]⟩
def ty81 : TyD := ⟨(.struct [(25, 0), (61, 1)]), 6, 104, [.nils, .str [], .int .i64 0, .int .i64 0, .nils, .nils]⟩
def ty82 : TyD := ⟨.func, 1, 8, [.nilf]⟩
def ty83 : TyD := ⟨.func, 1, 8, [.nilf]⟩
def ty84 : TyD := ⟨.func, 1, 8, [.nilf]⟩
def ty85 : TyD := ⟨.func, 1, 8, [.nilf]⟩
def ty86 : TyD := ⟨.func, 1, 8, [.nilf]⟩
def ty87 : TyD := ⟨.func, 1, 8, [.nilf]⟩
def ty88 : TyD := ⟨.func, 1, 8, [.nilf]⟩
def ty89 : TyD := ⟨.func, 1, 8, [.nilf]⟩
def ty90 : TyD := ⟨.func, 1, 8, [.nilf]⟩
def ty91 : TyD := ⟨(.struct []), 0, 0, []⟩
def ty92 : TyD := ⟨(.struct []), 0, 0, []⟩
def ty93 : TyD := ⟨.func, 1, 8, [.nilf]⟩
def ty94 : TyD := ⟨.func, 1, 8, [.nilf]⟩
def ty95 : TyD := ⟨.func, 1, 8, [.nilf]⟩
def ty96 : TyD := ⟨(.struct [(25, 0), (61, 1)]), 6, 104, [.nils, .str [], .int .i64 0, .int .i64 0, .nils, .nils]⟩
def ty97 : TyD := ⟨(.struct [(25, 0), (61, 1)]), 6, 104, [.nils, .str [], .int .i64 0, .int .i64 0, .nils, .nils]⟩
def ty98 : TyD := ⟨.func, 1, 8, [.nilf]⟩
def ty99 : TyD := ⟨.func, 1, 8, [.nilf]⟩
def ty100 : TyD := ⟨.func, 1, 8, [.nilf]⟩
def ty101 : TyD := ⟨.func, 1, 8, [.nilf]⟩
def ty102 : TyD := ⟨.func, 1, 8, [.nilf]⟩
def ty103 : TyD := ⟨.func, 1, 8, [.nilf]⟩
def ty104 : TyD := ⟨(.ptr 106), 1, 8, [.nilp]⟩
def ty105 : TyD := ⟨(.struct [(104, 0), (49, 1)]), 2, 32, [.nilp, .nils]⟩
def ty106 : TyD := ⟨(.struct [(104, 0), (49, 1)]), 2, 32, [.nilp, .nils]⟩
def ty107 : TyD := ⟨.iface, 1, 16, [.nili]⟩
def ty108 : TyD := ⟨.iface, 1, 16, [.nili]⟩
def ty110 : TyD := ⟨.func, 1, 8, [.nilf]⟩
def ty111 : TyD := ⟨.func, 1, 8, [.nilf]⟩
def ty112 : TyD := ⟨.func, 1, 8, [.nilf]⟩
def ty113 : TyD := ⟨.func, 1, 8, [.nilf]⟩
def ty114 : TyD := ⟨.func, 1, 8, [.nilf]⟩
def ty115 : TyD := ⟨.func, 1, 8, [.nilf]⟩
def ty116 : TyD := ⟨.func, 1, 8, [.nilf]⟩
def ty117 : TyD := ⟨.func, 1, 8, [.nilf]⟩
def ty118 : TyD := ⟨.func, 1, 8, [.nilf]⟩
def ty119 : TyD := ⟨.func, 1, 8, [.nilf]⟩
def ty120 : TyD := ⟨.func, 1, 8, [.nilf]⟩
def ty121 : TyD := ⟨.func, 1, 8, [.nilf]⟩
def ty122 : TyD := ⟨.func, 1, 8, [.nilf]⟩
def ty123 : TyD := ⟨.func, 1, 8, [.nilf]⟩
def ty124 : TyD := ⟨.func, 1, 8, [.nilf]⟩
def ty125 : TyD := ⟨(.slice 9), 1, 24, [.nils]⟩
def ty126 : TyD := ⟨.func, 1, 8, [.nilf]⟩
def ty127 : TyD := ⟨.func, 1, 8, [.nilf]⟩
def ty128 : TyD := ⟨.func, 1, 8, [.nilf]⟩
def ty129 : TyD := ⟨.func, 1, 8, [.nilf]⟩
def ty130 : TyD := ⟨(.map 3 9), 1, 8, [.nilm]⟩
def ty131 : TyD := ⟨.func, 1, 8, [.nilf]⟩
def ty132 : TyD := ⟨(.struct [(9, 0), (3, 1), (3, 2), (3, 3), (3, 4), (3, 5), (4, 6), (4, 7), (4, 8), (4, 9)]), 10, 64, [.str [], .int .i64 0, .int .i64 0, .int .i64 0, .int .i64 0, .int .i64 0, .bool false, .bool false, .bool false, .bool false]⟩
def ty133 : TyD := ⟨(.struct [(9, 0), (3, 1), (3, 2), (3, 3), (3, 4), (3, 5), (4, 6), (4, 7), (4, 8), (4, 9)]), 10, 64, [.str [], .int .i64 0, .int .i64 0, .int .i64 0, .int .i64 0, .int .i64 0, .bool false, .bool false, .bool false, .bool false]⟩
def ty134 : TyD := ⟨(.map 3 133), 1, 8, [.nilm]⟩
def ty135 : TyD := ⟨.func, 1, 8, [.nilf]⟩
def ty136 : TyD := ⟨.func, 1, 8, [.nilf]⟩
def ty137 : TyD := ⟨(.ptr 5), 1, 8, [.nilp]⟩
def ty138 : TyD := ⟨(.ptr 3), 1, 8, [.nilp]⟩
def ty139 : TyD := ⟨(.slice 138), 1, 24, [.nils]⟩
def ty140 : TyD := ⟨.func, 1, 8, [.nilf]⟩
def ty142 : TyD := ⟨.func, 1, 8, [.nilf]⟩
def ty143 : TyD := ⟨.func, 1, 8, [.nilf]⟩
def ty144 : TyD := ⟨.func, 1, 8, [.nilf]⟩
def ty145 : TyD := ⟨.uptr, 1, 8, [.nilp]⟩
def ty146 : TyD := ⟨.func, 1, 8, [.nilf]⟩
def ty147 : TyD := ⟨.func, 1, 8, [.nilf]⟩
def ty148 : TyD := ⟨.func, 1, 8, [.nilf]⟩
def ty149 : TyD := ⟨.func, 1, 8, [.nilf]⟩
def ty150 : TyD := ⟨.func, 1, 8, [.nilf]⟩
def ty151 : TyD := ⟨(.struct [(3, 0), (3, 1), (3, 2)]), 3, 24, [.int .i64 0, .int .i64 0, .int .i64 0]⟩
def ty152 : TyD := ⟨(.struct [(3, 0), (3, 1), (3, 2)]), 3, 24, [.int .i64 0, .int .i64 0, .int .i64 0]⟩
def ty154 : TyD := ⟨(.map 3 152), 1, 8, [.nilm]⟩
def ty155 : TyD := ⟨.func, 1, 8, [.nilf]⟩
def ty156 : TyD := ⟨.func, 1, 8, [.nilf]⟩
def ty157 : TyD := ⟨.func, 1, 8, [.nilf]⟩
def ty158 : TyD := ⟨.func, 1, 8, [.nilf]⟩
def ty159 : TyD := ⟨.func, 1, 8, [.nilf]⟩
def ty160 : TyD := ⟨(.array 24 5), 24, 24, [.int .u8 0, .int .u8 0, .int .u8 0, .int .u8 0, .int .u8 0, .int .u8 0, .int .u8 0, .int .u8 0, .int .u8 0, .int .u8 0, .int .u8 0, .int .u8 0, .int .u8 0, .int .u8 0, .int .u8 0, .int .u8 0, .int .u8 0, .int .u8 0, .int .u8 0, .int .u8 0, .int .u8 0, .int .u8 0, .int .u8 0, .int .u8 0]⟩
def ty161 : TyD := ⟨(.int .u64), 1, 8, [.int .u64 0]⟩
def ty162 : TyD := ⟨.func, 1, 8, [.nilf]⟩
def ty163 : TyD := ⟨.func, 1, 8, [.nilf]⟩
def ty165 : TyD := ⟨.func, 1, 8, [.nilf]⟩
def ty166 : TyD := ⟨.func, 1, 8, [.nilf]⟩
def ty168 : TyD := ⟨.func, 1, 8, [.nilf]⟩
def ty169 : TyD := ⟨.func, 1, 8, [.nilf]⟩
def ty170 : TyD := ⟨(.array 256 5), 256, 256, [.int .u8 0, .int .u8 0, .int .u8 0, .int .u8 0, .int .u8 0, .int .u8 0, .int .u8 0, .int .u8 0, .int .u8 0, .int .u8 0, .int .u8 0, .int .u8 0, .int .u8 0, .int .u8 0, .int .u8 0, .int .u8 0, .int .u8 0, .int .u8 0, .int .u8 0, .int .u8 0, .int .u8 0, .int .u8 0, .int .u8 0, .int .u8 0, .int .u8 0, .int .u8 0, .int .u8 0, .int .u8 0, .int .u8 0, .int .u8 0, .int .u8 0, .int .u8 0, .int .u8 0, .int .u8 0, .int .u8 0, .int .u8 0, .int .u8 0, .int .u8 0, .int .u8 0, .int .u8 0, .int .u8 0, .int .u8 0, .int .u8 0, .int .u8 0, .int .u8 0, .int .u8 0, .int .u8 0, .int .u8 0, .int .u8 0, .int .u8 0, .int .u8 0, .int .u8 0, .int .u8 0, .int .u8 0, .int .u8 0, .int .u8 0, .int .u8 0, .int .u8 0, .int .u8 0, .int .u8 0, .int .u8 0, .int .u8 0, .int .u8 0, .int .u8 0, .int .u8 0, .int .u8 0, .int .u8 0, .int .u8 0, .int .u8 0, .int .u8 0, .int .u8 0, .int .u8 0, .int .u8 0, .int .u8 0, .int .u8 0, .int .u8 0, .int .u8 0, .int .u8 0, .int .u8 0, .int .u8 0, .int .u8 0, .int .u8 0, .int .u8 0, .int .u8 0, .int .u8 0, .int .u8 0, .int .u8 0, .int .u8 0, .int .u8 0, .int .u8 0, .int .u8 0, .int .u8 0, .int .u8 0, .int .u8 0, .int .u8 0, .int .u8 0, .int .u8 0, .int .u8 0, .int .u8 0, .int .u8 0, .int .u8 0, .int .u8 0, .int .u8 0, .int .u8 0, .int .u8 0, .int .u8 0, .int .u8 0, .int .u8 0, .int .u8 0, .int .u8 0, .int .u8 0, .int .u8 0, .int .u8 0, .int .u8 0, .int .u8 0, .int .u8 0, .int .u8 0, .int .u8 0, .int .u8 0, .int .u8 0, .int .u8 0, .int .u8 0, .int .u8 0, .int .u8 0, .int .u8 0, .int .u8 0, .int .u8 0, .int .u8 0, .int .u8 0, .int .u8 0, .int .u8 0, .int .u8 0, .int .u8 0, .int .u8 0, .int .u8 0, .int .u8 0, .int .u8 0, .int .u8 0, .int .u8 0, .int .u8 0, .int .u8 0, .int .u8 0, .int .u8 0, .int .u8 0, .int .u8 0, .int .u8 0, .int .u8 0, .int .u8 0, .int .u8 0, .int .u8 0, .int .u8 0, .int .u8 0, .int .u8 0, .int .u8 0, .int .u8 0, .int .u8 0, .int .u8 0, .int .u8 0, .int .u8 0, .int .u8 0, .int .u8 0, .int .u8 0, .int .u8 0, .int .u8 0, .int .u8 0, .int .u8 0, .int .u8 0, .int .u8 0, .int .u8 0, .int .u8 0, .int .u8 0, .int .u8 0, .int .u8 0, .int .u8 0, .int .u8 0, .int .u8 0, .int .u8 0, .int .u8 0, .int .u8 0, .int .u8 0, .int .u8 0, .int .u8 0, .int .u8 0, .int .u8 0, .int .u8 0, .int .u8 0, .int .u8 0, .int .u8 0, .int .u8 0, .int .u8 0, .int .u8 0, .int .u8 0, .int .u8 0, .int .u8 0, .int .u8 0, .int .u8 0, .int .u8 0, .int .u8 0, .int .u8 0, .int .u8 0, .int .u8 0, .int .u8 0, .int .u8 0, .int .u8 0, .int .u8 0, .int .u8 0, .int .u8 0, .int .u8 0, .int .u8 0, .int .u8 0, .int .u8 0, .int .u8 0, .int .u8 0, .int .u8 0, .int .u8 0, .int .u8 0, .int .u8 0, .int .u8 0, .int .u8 0, .int .u8 0, .int .u8 0, .int .u8 0, .int .u8 0, .int .u8 0, .int .u8 0, .int .u8 0, .int .u8 0, .int .u8 0, .int .u8 0, .int .u8 0, .int .u8 0, .int .u8 0, .int .u8 0, .int .u8 0, .int .u8 0, .int .u8 0, .int .u8 0, .int .u8 0, .int .u8 0, .int .u8 0, .int .u8 0, .int .u8 0, .int .u8 0, .int .u8 0, .int .u8 0, .int .u8 0, .int .u8 0, .int .u8 0, .int .u8 0, .int .u8 0, .int .u8 0, .int .u8 0, .int .u8 0, .int .u8 0, .int .u8 0, .int .u8 0]⟩
def ty171 : TyD := ⟨.func, 1, 8, [.nilf]⟩
def ty172 : TyD := ⟨.func, 1, 8, [.nilf]⟩
def ty173 : TyD := ⟨.func, 1, 8, [.nilf]⟩
def ty174 : TyD := ⟨.func, 1, 8, [.nilf]⟩
def ty175 : TyD := ⟨(.array 20 161), 20, 160, [.int .u64 0, .int .u64 0, .int .u64 0, .int .u64 0, .int .u64 0, .int .u64 0, .int .u64 0, .int .u64 0, .int .u64 0, .int .u64 0, .int .u64 0, .int .u64 0, .int .u64 0, .int .u64 0, .int .u64 0, .int .u64 0, .int .u64 0, .int .u64 0, .int .u64 0, .int .u64 0]⟩
def ty176 : TyD := ⟨(.int .u32), 1, 4, [.int .u32 0]⟩
def ty177 : TyD := ⟨(.array 65 5), 65, 65, [.int .u8 0, .int .u8 0, .int .u8 0, .int .u8 0, .int .u8 0, .int .u8 0, .int .u8 0, .int .u8 0, .int .u8 0, .int .u8 0, .int .u8 0, .int .u8 0, .int .u8 0, .int .u8 0, .int .u8 0, .int .u8 0, .int .u8 0, .int .u8 0, .int .u8 0, .int .u8 0, .int .u8 0, .int .u8 0, .int .u8 0, .int .u8 0, .int .u8 0, .int .u8 0, .int .u8 0, .int .u8 0, .int .u8 0, .int .u8 0, .int .u8 0, .int .u8 0, .int .u8 0, .int .u8 0, .int .u8 0, .int .u8 0, .int .u8 0, .int .u8 0, .int .u8 0, .int .u8 0, .int .u8 0, .int .u8 0, .int .u8 0, .int .u8 0, .int .u8 0, .int .u8 0, .int .u8 0, .int .u8 0, .int .u8 0, .int .u8 0, .int .u8 0, .int .u8 0, .int .u8 0, .int .u8 0, .int .u8 0, .int .u8 0, .int .u8 0, .int .u8 0, .int .u8 0, .int .u8 0, .int .u8 0, .int .u8 0, .int .u8 0, .int .u8 0, .int .u8 0]⟩
def ty178 : TyD := ⟨.func, 1, 8, [.nilf]⟩
def ty179 : TyD := ⟨.func, 1, 8, [.nilf]⟩
def ty180 : TyD := ⟨(.slice 182), 1, 24, [.nils]⟩
def ty181 : TyD := ⟨(.struct [(3, 0), (3, 1)]), 2, 16, [.int .i64 0, .int .i64 0]⟩
def ty182 : TyD := ⟨(.struct [(3, 0), (3, 1)]), 2, 16, [.int .i64 0, .int .i64 0]⟩
def ty183 : TyD := ⟨.func, 1, 8, [.nilf]⟩
def ty184 : TyD := ⟨(.ptr 192), 1, 8, [.nilp]⟩
def ty185 : TyD := ⟨.func, 1, 8, [.nilf]⟩
def ty186 : TyD := ⟨(.struct [(5, 0), (5, 1)]), 2, 2, [.int .u8 0, .int .u8 0]⟩
def ty187 : TyD := ⟨(.struct [(5, 0), (5, 1)]), 2, 2, [.int .u8 0, .int .u8 0]⟩
def ty188 : TyD := ⟨(.array 16 187), 32, 32, [.int .u8 0, .int .u8 0, .int .u8 0, .int .u8 0, .int .u8 0, .int .u8 0, .int .u8 0, .int .u8 0, .int .u8 0, .int .u8 0, .int .u8 0, .int .u8 0, .int .u8 0, .int .u8 0, .int .u8 0, .int .u8 0, .int .u8 0, .int .u8 0, .int .u8 0, .int .u8 0, .int .u8 0, .int .u8 0, .int .u8 0, .int .u8 0, .int .u8 0, .int .u8 0, .int .u8 0, .int .u8 0, .int .u8 0, .int .u8 0, .int .u8 0, .int .u8 0]⟩
def ty189 : TyD := ⟨(.slice 195), 1, 24, [.nils]⟩
def ty190 : TyD := ⟨(.slice 198), 1, 24, [.nils]⟩
def ty191 : TyD := ⟨(.struct [(189, 0), (190, 1), (3, 2)]), 3, 56, [.nils, .nils, .int .i64 0]⟩
def ty192 : TyD := ⟨(.struct [(189, 0), (190, 1), (3, 2)]), 3, 56, [.nils, .nils, .int .i64 0]⟩
def ty193 : TyD := ⟨(.int .u16), 1, 2, [.int .u16 0]⟩
def ty194 : TyD := ⟨(.struct [(193, 0), (193, 1), (193, 2)]), 3, 6, [.int .u16 0, .int .u16 0, .int .u16 0]⟩
def ty195 : TyD := ⟨(.struct [(193, 0), (193, 1), (193, 2)]), 3, 6, [.int .u16 0, .int .u16 0, .int .u16 0]⟩
def ty196 : TyD := ⟨.func, 1, 8, [.nilf]⟩
def ty197 : TyD := ⟨(.struct [(176, 0), (176, 1), (176, 2)]), 3, 12, [.int .u32 0, .int .u32 0, .int .u32 0]⟩
def ty198 : TyD := ⟨(.struct [(176, 0), (176, 1), (176, 2)]), 3, 12, [.int .u32 0, .int .u32 0, .int .u32 0]⟩
def ty199 : TyD := ⟨.func, 1, 8, [.nilf]⟩
def ty200 : TyD := ⟨(.array 32 5), 32, 32, [.int .u8 0, .int .u8 0, .int .u8 0, .int .u8 0, .int .u8 0, .int .u8 0, .int .u8 0, .int .u8 0, .int .u8 0, .int .u8 0, .int .u8 0, .int .u8 0, .int .u8 0, .int .u8 0, .int .u8 0, .int .u8 0, .int .u8 0, .int .u8 0, .int .u8 0, .int .u8 0, .int .u8 0, .int .u8 0, .int .u8 0, .int .u8 0, .int .u8 0, .int .u8 0, .int .u8 0, .int .u8 0, .int .u8 0, .int .u8 0, .int .u8 0, .int .u8 0]⟩
def ty201 : TyD := ⟨(.array 64 5), 64, 64, [.int .u8 0, .int .u8 0, .int .u8 0, .int .u8 0, .int .u8 0, .int .u8 0, .int .u8 0, .int .u8 0, .int .u8 0, .int .u8 0, .int .u8 0, .int .u8 0, .int .u8 0, .int .u8 0, .int .u8 0, .int .u8 0, .int .u8 0, .int .u8 0, .int .u8 0, .int .u8 0, .int .u8 0, .int .u8 0, .int .u8 0, .int .u8 0, .int .u8 0, .int .u8 0, .int .u8 0, .int .u8 0, .int .u8 0, .int .u8 0, .int .u8 0, .int .u8 0, .int .u8 0, .int .u8 0, .int .u8 0, .int .u8 0, .int .u8 0, .int .u8 0, .int .u8 0, .int .u8 0, .int .u8 0, .int .u8 0, .int .u8 0, .int .u8 0, .int .u8 0, .int .u8 0, .int .u8 0, .int .u8 0, .int .u8 0, .int .u8 0, .int .u8 0, .int .u8 0, .int .u8 0, .int .u8 0, .int .u8 0, .int .u8 0, .int .u8 0, .int .u8 0, .int .u8 0, .int .u8 0, .int .u8 0, .int .u8 0, .int .u8 0, .int .u8 0]⟩
def ty203 : TyD := ⟨.func, 1, 8, [.nilf]⟩
def ty204 : TyD := ⟨(.ptr 195), 1, 8, [.nilp]⟩
def ty205 : TyD := ⟨(.ptr 198), 1, 8, [.nilp]⟩
def ty206 : TyD := ⟨(.struct [(17, 0), (17, 1), (17, 2), (9, 3)]), 4, 40, [.nilp, .nilp, .nilp, .str []]⟩
def ty207 : TyD := ⟨(.struct [(17, 0), (17, 1), (17, 2), (9, 3)]), 4, 40, [.nilp, .nilp, .nilp, .str []]⟩
def ty208 : TyD := ⟨(.array 0 16), 0, 0, []⟩
def ty209 : TyD := ⟨(.struct [(208, 0)]), 0, 0, []⟩
def ty210 : TyD := ⟨(.struct [(208, 0)]), 0, 0, []⟩
def ty211 : TyD := ⟨(.int .u8), 1, 1, [.int .u8 0]⟩
def ty212 : TyD := ⟨(.int .u8), 1, 1, [.int .u8 0]⟩
def ty213 : TyD := ⟨.func, 1, 8, [.nilf]⟩
def ty214 : TyD := ⟨(.int .i32), 1, 4, [.int .i32 0]⟩
def ty215 : TyD := ⟨(.int .i32), 1, 4, [.int .i32 0]⟩
def ty216 : TyD := ⟨(.struct [(12, 0), (12, 1), (176, 2), (211, 3), (5, 4), (5, 5), (212, 6), (213, 7), (137, 8), (214, 9), (215, 10)]), 11, 48, [.int .u64 0, .int .u64 0, .int .u32 0, .int .u8 0, .int .u8 0, .int .u8 0, .int .u8 0, .nilf, .nilp, .int .i32 0, .int .i32 0]⟩
def ty217 : TyD := ⟨(.struct [(12, 0), (12, 1), (176, 2), (211, 3), (5, 4), (5, 5), (212, 6), (213, 7), (137, 8), (214, 9), (215, 10)]), 11, 48, [.int .u64 0, .int .u64 0, .int .u32 0, .int .u8 0, .int .u8 0, .int .u8 0, .int .u8 0, .nilf, .nilp, .int .i32 0, .int .i32 0]⟩
def tyT (t : TypeId) : Option TyD := bif Nat.ble 218 t then none else bif Nat.ble 110 t then (bif Nat.ble 163 t then (bif Nat.ble 191 t then (bif Nat.ble 205 t then (bif Nat.ble 211 t then (bif Nat.ble 214 t then (bif Nat.ble 216 t then (bif Nat.ble 217 t then (bif Nat.beq t 217 then some ty217 else none) else (bif Nat.beq t 216 then some ty216 else none)) else (bif Nat.ble 215 t then (bif Nat.beq t 215 then some ty215 else none) else (bif Nat.beq t 214 then some ty214 else none))) else (bif Nat.ble 212 t then (bif Nat.ble 213 t then (bif Nat.beq t 213 then some ty213 else none) else (bif Nat.beq t 212 then some ty212 else none)) else (bif Nat.beq t 211 then some ty211 else none))) else (bif Nat.ble 208 t then (bif Nat.ble 209 t then (bif Nat.ble 210 t then (bif Nat.beq t 210 then some ty210 else none) else (bif Nat.beq t 209 then some ty209 else none)) else (bif Nat.beq t 208 then some ty208 else none)) else (bif Nat.ble 206 t then (bif Nat.ble 207 t then (bif Nat.beq t 207 then some ty207 else none) else (bif Nat.beq t 206 then some ty206 else none)) else (bif Nat.beq t 205 then some ty205 else none)))) else (bif Nat.ble 197 t then (bif Nat.ble 200 t then (bif Nat.ble 203 t then (bif Nat.ble 204 t then (bif Nat.beq t 204 then some ty204 else none) else (bif Nat.beq t 203 then some ty203 else none)) else (bif Nat.ble 201 t then (bif Nat.beq t 201 then some ty201 else none) else (bif Nat.beq t 200 then some ty200 else none))) else (bif Nat.ble 198 t then (bif Nat.ble 199 t then (bif Nat.beq t 199 then some ty199 else none) else (bif Nat.beq t 198 then some ty198 else none)) else (bif Nat.beq t 197 then some ty197 else none))) else (bif Nat.ble 194 t then (bif Nat.ble 195 t then (bif Nat.ble 196 t then (bif Nat.beq t 196 then some ty196 else none) else (bif Nat.beq t 195 then some ty195 else none)) else (bif Nat.beq t 194 then some ty194 else none)) else (bif Nat.ble 192 t then (bif Nat.ble 193 t then (bif Nat.beq t 193 then some ty193 else none) else (bif Nat.beq t 192 then some ty192 else none)) else (bif Nat.beq t 191 then some ty191 else none))))) else (bif Nat.ble 178 t then (bif Nat.ble 184 t then (bif Nat.ble 187 t then (bif Nat.ble 189 t then (bif Nat.ble 190 t then (bif Nat.beq t 190 then some ty190 else none) else (bif Nat.beq t 189 then some ty189 else none)) else (bif Nat.ble 188 t then (bif Nat.beq t 188 then some ty188 else none) else (bif Nat.beq t 187 then some ty187 else none))) else (bif Nat.ble 185 t then (bif Nat.ble 186 t then (bif Nat.beq t 186 then some ty186 else none) else (bif Nat.beq t 185 then some ty185 else none)) else (bif Nat.beq t 184 then some ty184 else none))) else (bif Nat.ble 181 t then (bif Nat.ble 182 t then (bif Nat.ble 183 t then (bif Nat.beq t 183 then some ty183 else none) else (bif Nat.beq t 182 then some ty182 else none)) else (bif Nat.beq t 181 then some ty181 else none)) else (bif Nat.ble 179 t then (bif Nat.ble 180 t then (bif Nat.beq t 180 then some ty180 else none) else (bif Nat.beq t 179 then some ty179 else none)) else (bif Nat.beq t 178 then some ty178 else none)))) else (bif Nat.ble 171 t then (bif Nat.ble 174 t then (bif Nat.ble 176 t then (bif Nat.ble 177 t then (bif Nat.beq t 177 then some ty177 else none) else (bif Nat.beq t 176 then some ty176 else none)) else (bif Nat.ble 175 t then (bif Nat.beq t 175 then some ty175 else none) else (bif Nat.beq t 174 then some ty174 else none))) else (bif Nat.ble 172 t then (bif Nat.ble 173 t then (bif Nat.beq t 173 then some ty173 else none) else (bif Nat.beq t 172 then some ty172 else none)) else (bif Nat.beq t 171 then some ty171 else none))) else (bif Nat.ble 168 t then (bif Nat.ble 169 t then (bif Nat.ble 170 t then (bif Nat.beq t 170 then some ty170 else none) else (bif Nat.beq t 169 then some ty169 else none)) else (bif Nat.beq t 168 then some ty168 else none)) else (bif Nat.ble 165 t then (bif Nat.ble 166 t then (bif Nat.beq t 166 then some ty166 else none) else (bif Nat.beq t 165 then some ty165 else none)) else (bif Nat.beq t 163 then some ty163 else none)))))) else (bif Nat.ble 135 t then (bif Nat.ble 149 t then (bif Nat.ble 156 t then (bif Nat.ble 159 t then (bif Nat.ble 161 t then (bif Nat.ble 162 t then (bif Nat.beq t 162 then some ty162 else none) else (bif Nat.beq t 161 then some ty161 else none)) else (bif Nat.ble 160 t then (bif Nat.beq t 160 then some ty160 else none) else (bif Nat.beq t 159 then some ty159 else none))) else (bif Nat.ble 157 t then (bif Nat.ble 158 t then (bif Nat.beq t 158 then some ty158 else none) else (bif Nat.beq t 157 then some ty157 else none)) else (bif Nat.beq t 156 then some ty156 else none))) else (bif Nat.ble 152 t then (bif Nat.ble 154 t then (bif Nat.ble 155 t then (bif Nat.beq t 155 then some ty155 else none) else (bif Nat.beq t 154 then some ty154 else none)) else (bif Nat.beq t 152 then some ty152 else none)) else (bif Nat.ble 150 t then (bif Nat.ble 151 t then (bif Nat.beq t 151 then some ty151 else none) else (bif Nat.beq t 150 then some ty150 else none)) else (bif Nat.beq t 149 then some ty149 else none)))) else (bif Nat.ble 142 t then (bif Nat.ble 145 t then (bif Nat.ble 147 t then (bif Nat.ble 148 t then (bif Nat.beq t 148 then some ty148 else none) else (bif Nat.beq t 147 then some ty147 else none)) else (bif Nat.ble 146 t then (bif Nat.beq t 146 then some ty146 else none) else (bif Nat.beq t 145 then some ty145 else none))) else (bif Nat.ble 143 t then (bif Nat.ble 144 t then (bif Nat.beq t 144 then some ty144 else none) else (bif Nat.beq t 143 then some ty143 else none)) else (bif Nat.beq t 142 then some ty142 else none))) else (bif Nat.ble 138 t then (bif Nat.ble 139 t then (bif Nat.ble 140 t then (bif Nat.beq t 140 then some ty140 else none) else (bif Nat.beq t 139 then some ty139 else none)) else (bif Nat.beq t 138 then some ty138 else none)) else (bif Nat.ble 136 t then (bif Nat.ble 137 t then (bif Nat.beq t 137 then some ty137 else none) else (bif Nat.beq t 136 then some ty136 else none)) else (bif Nat.beq t 135 then some ty135 else none))))) else (bif Nat.ble 122 t then (bif Nat.ble 128 t then (bif Nat.ble 131 t then (bif Nat.ble 133 t then (bif Nat.ble 134 t then (bif Nat.beq t 134 then some ty134 else none) else (bif Nat.beq t 133 then some ty133 else none)) else (bif Nat.ble 132 t then (bif Nat.beq t 132 then some ty132 else none) else (bif Nat.beq t 131 then some ty131 else none))) else (bif Nat.ble 129 t then (bif Nat.ble 130 t then (bif Nat.beq t 130 then some ty130 else none) else (bif Nat.beq t 129 then some ty129 else none)) else (bif Nat.beq t 128 then some ty128 else none))) else (bif Nat.ble 125 t then (bif Nat.ble 126 t then (bif Nat.ble 127 t then (bif Nat.beq t 127 then some ty127 else none) else (bif Nat.beq t 126 then some ty126 else none)) else (bif Nat.beq t 125 then some ty125 else none)) else (bif Nat.ble 123 t then (bif Nat.ble 124 t then (bif Nat.beq t 124 then some ty124 else none) else (bif Nat.beq t 123 then some ty123 else none)) else (bif Nat.beq t 122 then some ty122 else none)))) else (bif Nat.ble 116 t then (bif Nat.ble 119 t then (bif Nat.ble 120 t then (bif Nat.ble 121 t then (bif Nat.beq t 121 then some ty121 else none) else (bif Nat.beq t 120 then some ty120 else none)) else (bif Nat.beq t 119 then some ty119 else none)) else (bif Nat.ble 117 t then (bif Nat.ble 118 t then (bif Nat.beq t 118 then some ty118 else none) else (bif Nat.beq t 117 then some ty117 else none)) else (bif Nat.beq t 116 then some ty116 else none))) else (bif Nat.ble 113 t then (bif Nat.ble 114 t then (bif Nat.ble 115 t then (bif Nat.beq t 115 then some ty115 else none) else (bif Nat.beq t 114 then some ty114 else none)) else (bif Nat.beq t 113 then some ty113 else none)) else (bif Nat.ble 111 t then (bif Nat.ble 112 t then (bif Nat.beq t 112 then some ty112 else none) else (bif Nat.beq t 111 then some ty111 else none)) else (bif Nat.beq t 110 then some ty110 else none))))))) else (bif Nat.ble 58 t then (bif Nat.ble 83 t then (bif Nat.ble 96 t then (bif Nat.ble 102 t then (bif Nat.ble 105 t then (bif Nat.ble 107 t then (bif Nat.ble 108 t then (bif Nat.beq t 108 then some ty108 else none) else (bif Nat.beq t 107 then some ty107 else none)) else (bif Nat.ble 106 t then (bif Nat.beq t 106 then some ty106 else none) else (bif Nat.beq t 105 then some ty105 else none))) else (bif Nat.ble 103 t then (bif Nat.ble 104 t then (bif Nat.beq t 104 then some ty104 else none) else (bif Nat.beq t 103 then some ty103 else none)) else (bif Nat.beq t 102 then some ty102 else none))) else (bif Nat.ble 99 t then (bif Nat.ble 100 t then (bif Nat.ble 101 t then (bif Nat.beq t 101 then some ty101 else none) else (bif Nat.beq t 100 then some ty100 else none)) else (bif Nat.beq t 99 then some ty99 else none)) else (bif Nat.ble 97 t then (bif Nat.ble 98 t then (bif Nat.beq t 98 then some ty98 else none) else (bif Nat.beq t 97 then some ty97 else none)) else (bif Nat.beq t 96 then some ty96 else none)))) else (bif Nat.ble 89 t then (bif Nat.ble 92 t then (bif Nat.ble 94 t then (bif Nat.ble 95 t then (bif Nat.beq t 95 then some ty95 else none) else (bif Nat.beq t 94 then some ty94 else none)) else (bif Nat.ble 93 t then (bif Nat.beq t 93 then some ty93 else none) else (bif Nat.beq t 92 then some ty92 else none))) else (bif Nat.ble 90 t then (bif Nat.ble 91 t then (bif Nat.beq t 91 then some ty91 else none) else (bif Nat.beq t 90 then some ty90 else none)) else (bif Nat.beq t 89 then some ty89 else none))) else (bif Nat.ble 86 t then (bif Nat.ble 87 t then (bif Nat.ble 88 t then (bif Nat.beq t 88 then some ty88 else none) else (bif Nat.beq t 87 then some ty87 else none)) else (bif Nat.beq t 86 then some ty86 else none)) else (bif Nat.ble 84 t then (bif Nat.ble 85 t then (bif Nat.beq t 85 then some ty85 else none) else (bif Nat.beq t 84 then some ty84 else none)) else (bif Nat.beq t 83 then some ty83 else none))))) else (bif Nat.ble 70 t then (bif Nat.ble 76 t then (bif Nat.ble 79 t then (bif Nat.ble 81 t then (bif Nat.ble 82 t then (bif Nat.beq t 82 then some ty82 else none) else (bif Nat.beq t 81 then some ty81 else none)) else (bif Nat.ble 80 t then (bif Nat.beq t 80 then some ty80 else none) else (bif Nat.beq t 79 then some ty79 else none))) else (bif Nat.ble 77 t then (bif Nat.ble 78 t then (bif Nat.beq t 78 then some ty78 else none) else (bif Nat.beq t 77 then some ty77 else none)) else (bif Nat.beq t 76 then some ty76 else none))) else (bif Nat.ble 73 t then (bif Nat.ble 74 t then (bif Nat.ble 75 t then (bif Nat.beq t 75 then some ty75 else none) else (bif Nat.beq t 74 then some ty74 else none)) else (bif Nat.beq t 73 then some ty73 else none)) else (bif Nat.ble 71 t then (bif Nat.ble 72 t then (bif Nat.beq t 72 then some ty72 else none) else (bif Nat.beq t 71 then some ty71 else none)) else (bif Nat.beq t 70 then some ty70 else none)))) else (bif Nat.ble 64 t then (bif Nat.ble 67 t then (bif Nat.ble 68 t then (bif Nat.ble 69 t then (bif Nat.beq t 69 then some ty69 else none) else (bif Nat.beq t 68 then some ty68 else none)) else (bif Nat.beq t 67 then some ty67 else none)) else (bif Nat.ble 65 t then (bif Nat.ble 66 t then (bif Nat.beq t 66 then some ty66 else none) else (bif Nat.beq t 65 then some ty65 else none)) else (bif Nat.beq t 64 then some ty64 else none))) else (bif Nat.ble 61 t then (bif Nat.ble 62 t then (bif Nat.ble 63 t then (bif Nat.beq t 63 then some ty63 else none) else (bif Nat.beq t 62 then some ty62 else none)) else (bif Nat.beq t 61 then some ty61 else none)) else (bif Nat.ble 59 t then (bif Nat.ble 60 t then (bif Nat.beq t 60 then some ty60 else none) else (bif Nat.beq t 59 then some ty59 else none)) else (bif Nat.beq t 58 then some ty58 else none)))))) else (bif Nat.ble 26 t then (bif Nat.ble 45 t then (bif Nat.ble 51 t then (bif Nat.ble 54 t then (bif Nat.ble 56 t then (bif Nat.ble 57 t then (bif Nat.beq t 57 then some ty57 else none) else (bif Nat.beq t 56 then some ty56 else none)) else (bif Nat.ble 55 t then (bif Nat.beq t 55 then some ty55 else none) else (bif Nat.beq t 54 then some ty54 else none))) else (bif Nat.ble 52 t then (bif Nat.ble 53 t then (bif Nat.beq t 53 then some ty53 else none) else (bif Nat.beq t 52 then some ty52 else none)) else (bif Nat.beq t 51 then some ty51 else none))) else (bif Nat.ble 48 t then (bif Nat.ble 49 t then (bif Nat.ble 50 t then (bif Nat.beq t 50 then some ty50 else none) else (bif Nat.beq t 49 then some ty49 else none)) else (bif Nat.beq t 48 then some ty48 else none)) else (bif Nat.ble 46 t then (bif Nat.ble 47 t then (bif Nat.beq t 47 then some ty47 else none) else (bif Nat.beq t 46 then some ty46 else none)) else (bif Nat.beq t 45 then some ty45 else none)))) else (bif Nat.ble 35 t then (bif Nat.ble 39 t then (bif Nat.ble 43 t then (bif Nat.ble 44 t then (bif Nat.beq t 44 then some ty44 else none) else (bif Nat.beq t 43 then some ty43 else none)) else (bif Nat.ble 41 t then (bif Nat.beq t 41 then some ty41 else none) else (bif Nat.beq t 39 then some ty39 else none))) else (bif Nat.ble 36 t then (bif Nat.ble 38 t then (bif Nat.beq t 38 then some ty38 else none) else (bif Nat.beq t 36 then some ty36 else none)) else (bif Nat.beq t 35 then some ty35 else none))) else (bif Nat.ble 31 t then (bif Nat.ble 33 t then (bif Nat.ble 34 t then (bif Nat.beq t 34 then some ty34 else none) else (bif Nat.beq t 33 then some ty33 else none)) else (bif Nat.beq t 31 then some ty31 else none)) else (bif Nat.ble 28 t then (bif Nat.ble 30 t then (bif Nat.beq t 30 then some ty30 else none) else (bif Nat.beq t 28 then some ty28 else none)) else (bif Nat.beq t 26 then some ty26 else none))))) else (bif Nat.ble 13 t then (bif Nat.ble 19 t then (bif Nat.ble 22 t then (bif Nat.ble 24 t then (bif Nat.ble 25 t then (bif Nat.beq t 25 then some ty25 else none) else (bif Nat.beq t 24 then some ty24 else none)) else (bif Nat.ble 23 t then (bif Nat.beq t 23 then some ty23 else none) else (bif Nat.beq t 22 then some ty22 else none))) else (bif Nat.ble 20 t then (bif Nat.ble 21 t then (bif Nat.beq t 21 then some ty21 else none) else (bif Nat.beq t 20 then some ty20 else none)) else (bif Nat.beq t 19 then some ty19 else none))) else (bif Nat.ble 16 t then (bif Nat.ble 17 t then (bif Nat.ble 18 t then (bif Nat.beq t 18 then some ty18 else none) else (bif Nat.beq t 17 then some ty17 else none)) else (bif Nat.beq t 16 then some ty16 else none)) else (bif Nat.ble 14 t then (bif Nat.ble 15 t then (bif Nat.beq t 15 then some ty15 else none) else (bif Nat.beq t 14 then some ty14 else none)) else (bif Nat.beq t 13 then some ty13 else none)))) else (bif Nat.ble 7 t then (bif Nat.ble 10 t then (bif Nat.ble 11 t then (bif Nat.ble 12 t then (bif Nat.beq t 12 then some ty12 else none) else (bif Nat.beq t 11 then some ty11 else none)) else (bif Nat.beq t 10 then some ty10 else none)) else (bif Nat.ble 8 t then (bif Nat.ble 9 t then (bif Nat.beq t 9 then some ty9 else none) else (bif Nat.beq t 8 then some ty8 else none)) else (bif Nat.beq t 7 then some ty7 else none))) else (bif Nat.ble 4 t then (bif Nat.ble 5 t then (bif Nat.ble 6 t then (bif Nat.beq t 6 then some ty6 else none) else (bif Nat.beq t 5 then some ty5 else none)) else (bif Nat.beq t 4 then some ty4 else none)) else (bif Nat.ble 2 t then (bif Nat.ble 3 t then (bif Nat.beq t 3 then some ty3 else none) else (bif Nat.beq t 2 then some ty2 else none)) else (bif Nat.beq t 1 then some ty1 else none)))))))
def tyL : List TypeId := List.range 218
theorem tyL_ok : (tyL.all fun t => match tyT t with | some d => tyOkB Tryz.prog t d | none => true) = true := by kernel_rfl
theorem tyT_in (t : TypeId) (d : TyD) (h : tyT t = some d) : t ∈ tyL := by
 unfold tyT at h
 rw [cond_eq_ite] at h
 split at h
 ·cases h
 ·rename_i e
  exact List.mem_range.2 (Nat.lt_of_not_le fun q => e (Nat.ble_eq_true_of_le q))
theorem tyT_ok (t : TypeId) (d : TyD) (h : tyT t = some d) : TyOk Tryz.prog t d := by
 have := List.all_eq_true.1 tyL_ok t (tyT_in t d h)
 rw [h] at this
 exact tyOk_of this
def mdT (t : FuncId) : Sb.Mode := bif Nat.ble 83 t then (bif Nat.ble 102 t then (bif Nat.ble 123 t then (bif Nat.ble 137 t then (bif Nat.ble 140 t then (bif Nat.ble 188 t then (bif Nat.beq t 188 then .shared else .own) else (bif Nat.beq t 140 then .shared else .own)) else (bif Nat.beq t 137 then .shared else .own)) else (bif Nat.ble 124 t then (bif Nat.ble 131 t then (bif Nat.beq t 131 then .shared else .own) else (bif Nat.beq t 124 then .shared else .own)) else (bif Nat.beq t 123 then .shared else .own))) else (bif Nat.ble 111 t then (bif Nat.ble 113 t then (bif Nat.ble 114 t then (bif Nat.beq t 114 then .shared else .own) else (bif Nat.beq t 113 then .shared else .own)) else (bif Nat.beq t 111 then .shared else .own)) else (bif Nat.ble 105 t then (bif Nat.ble 110 t then (bif Nat.beq t 110 then .shared else .own) else (bif Nat.beq t 105 then .shared else .own)) else (bif Nat.beq t 102 then .shared else .own)))) else (bif Nat.ble 88 t then (bif Nat.ble 99 t then (bif Nat.ble 100 t then (bif Nat.ble 101 t then (bif Nat.beq t 101 then .shared else .own) else (bif Nat.beq t 100 then .shared else .own)) else (bif Nat.beq t 99 then .shared else .own)) else (bif Nat.ble 89 t then (bif Nat.ble 98 t then (bif Nat.beq t 98 then .shared else .own) else (bif Nat.beq t 89 then .shared else .own)) else (bif Nat.beq t 88 then .shared else .own))) else (bif Nat.ble 85 t then (bif Nat.ble 86 t then (bif Nat.ble 87 t then (bif Nat.beq t 87 then .shared else .own) else (bif Nat.beq t 86 then .shared else .own)) else (bif Nat.beq t 85 then .shared else .own)) else (bif Nat.ble 84 t then (bif Nat.beq t 84 then .shared else .own) else (bif Nat.beq t 83 then .shared else .own))))) else (bif Nat.ble 54 t then (bif Nat.ble 61 t then (bif Nat.ble 76 t then (bif Nat.ble 77 t then (bif Nat.ble 82 t then (bif Nat.beq t 82 then .shared else .own) else (bif Nat.beq t 77 then .shared else .own)) else (bif Nat.beq t 76 then .shared else .own)) else (bif Nat.ble 66 t then (bif Nat.ble 67 t then (bif Nat.beq t 67 then .shared else .own) else (bif Nat.beq t 66 then .shared else .own)) else (bif Nat.beq t 61 then .shared else .own))) else (bif Nat.ble 57 t then (bif Nat.ble 58 t then (bif Nat.ble 60 t then (bif Nat.beq t 60 then .shared else .own) else (bif Nat.beq t 58 then .shared else .own)) else (bif Nat.beq t 57 then .shared else .own)) else (bif Nat.ble 55 t then (bif Nat.ble 56 t then (bif Nat.beq t 56 then .shared else .own) else (bif Nat.beq t 55 then .shared else .own)) else (bif Nat.beq t 54 then .shared else .own)))) else (bif Nat.ble 39 t then (bif Nat.ble 49 t then (bif Nat.ble 52 t then (bif Nat.ble 53 t then (bif Nat.beq t 53 then .shared else .own) else (bif Nat.beq t 52 then .shared else .own)) else (bif Nat.beq t 49 then .shared else .own)) else (bif Nat.ble 40 t then (bif Nat.ble 48 t then (bif Nat.beq t 48 then .shared else .own) else (bif Nat.beq t 40 then .shared else .own)) else (bif Nat.beq t 39 then .shared else .own))) else (bif Nat.ble 36 t then (bif Nat.ble 37 t then (bif Nat.ble 38 t then (bif Nat.beq t 38 then .shared else .own) else (bif Nat.beq t 37 then .shared else .own)) else (bif Nat.beq t 36 then .shared else .own)) else (bif Nat.ble 34 t then (bif Nat.beq t 34 then .shared else .own) else (bif Nat.beq t 33 then .shared else .own)))))
noncomputable def fn3 : FnD := fnDof Tryz.f3 mdT
noncomputable def fn4 : FnD := fnDof Tryz.f4 mdT
noncomputable def fn5 : FnD := fnDof Tryz.f5 mdT
noncomputable def fn6 : FnD := fnDof Tryz.f6 mdT
noncomputable def fn7 : FnD := fnDof Tryz.f7 mdT
noncomputable def fn8 : FnD := fnDof Tryz.f8 mdT
noncomputable def fn9 : FnD := fnDof Tryz.f9 mdT
noncomputable def fn10 : FnD := fnDof Tryz.f10 mdT
noncomputable def fn11 : FnD := fnDof Tryz.f11 mdT
noncomputable def fn12 : FnD := fnDof Tryz.f12 mdT
noncomputable def fn13 : FnD := fnDof Tryz.f13 mdT
noncomputable def fn14 : FnD := fnDof Tryz.f14 mdT
noncomputable def fn15 : FnD := fnDof Tryz.f15 mdT
noncomputable def fn16 : FnD := fnDof Tryz.f16 mdT
noncomputable def fn17 : FnD := fnDof Tryz.f17 mdT
noncomputable def fn18 : FnD := fnDof Tryz.f18 mdT
noncomputable def fn19 : FnD := fnDof Tryz.f19 mdT
noncomputable def fn20 : FnD := fnDof Tryz.f20 mdT
noncomputable def fn21 : FnD := fnDof Tryz.f21 mdT
noncomputable def fn22 : FnD := fnDof Tryz.f22 mdT
noncomputable def fn23 : FnD := fnDof Tryz.f23 mdT
noncomputable def fn24 : FnD := fnDof Tryz.f24 mdT
noncomputable def fn25 : FnD := fnDof Tryz.f25 mdT
noncomputable def fn26 : FnD := fnDof Tryz.f26 mdT
noncomputable def fn27 : FnD := fnDof Tryz.f27 mdT
noncomputable def fn28 : FnD := fnDof Tryz.f28 mdT
noncomputable def fn29 : FnD := fnDof Tryz.f29 mdT
noncomputable def fn30 : FnD := fnDof Tryz.f30 mdT
noncomputable def fn31 : FnD := fnDof Tryz.f31 mdT
noncomputable def fn32 : FnD := fnDof Tryz.f32 mdT
noncomputable def fn33 : FnD := fnDof Tryz.f33 mdT
noncomputable def fn34 : FnD := fnDof Tryz.f34 mdT
noncomputable def fn35 : FnD := fnDof Tryz.f35 mdT
noncomputable def fn36 : FnD := fnDof Tryz.f36 mdT
noncomputable def fn37 : FnD := fnDof Tryz.f37 mdT
noncomputable def fn39 : FnD := fnDof Tryz.f39 mdT
noncomputable def fn40 : FnD := fnDof Tryz.f40 mdT
noncomputable def fn41 : FnD := fnDof Tryz.f41 mdT
noncomputable def fn42 : FnD := fnDof Tryz.f42 mdT
noncomputable def fn43 : FnD := fnDof Tryz.f43 mdT
noncomputable def fn44 : FnD := fnDof Tryz.f44 mdT
noncomputable def fn45 : FnD := fnDof Tryz.f45 mdT
noncomputable def fn46 : FnD := fnDof Tryz.f46 mdT
noncomputable def fn47 : FnD := fnDof Tryz.f47 mdT
noncomputable def fn48 : FnD := fnDof Tryz.f48 mdT
noncomputable def fn49 : FnD := fnDof Tryz.f49 mdT
noncomputable def fn50 : FnD := fnDof Tryz.f50 mdT
noncomputable def fn51 : FnD := fnDof Tryz.f51 mdT
noncomputable def fn52 : FnD := fnDof Tryz.f52 mdT
noncomputable def fn53 : FnD := fnDof Tryz.f53 mdT
noncomputable def fn54 : FnD := fnDof Tryz.f54 mdT
noncomputable def fn55 : FnD := fnDof Tryz.f55 mdT
noncomputable def fn56 : FnD := fnDof Tryz.f56 mdT
noncomputable def fn57 : FnD := fnDof Tryz.f57 mdT
noncomputable def fn58 : FnD := fnDof Tryz.f58 mdT
noncomputable def fn59 : FnD := fnDof Tryz.f59 mdT
noncomputable def fn60 : FnD := fnDof Tryz.f60 mdT
noncomputable def fn61 : FnD := fnDof Tryz.f61 mdT
noncomputable def fn62 : FnD := fnDof Tryz.f62 mdT
noncomputable def fn63 : FnD := fnDof Tryz.f63 mdT
noncomputable def fn64 : FnD := fnDof Tryz.f64 mdT
noncomputable def fn65 : FnD := fnDof Tryz.f65 mdT
noncomputable def fn66 : FnD := fnDof Tryz.f66 mdT
noncomputable def fn67 : FnD := fnDof Tryz.f67 mdT
noncomputable def fn68 : FnD := fnDof Tryz.f68 mdT
noncomputable def fn69 : FnD := fnDof Tryz.f69 mdT
noncomputable def fn70 : FnD := fnDof Tryz.f70 mdT
noncomputable def fn71 : FnD := fnDof Tryz.f71 mdT
noncomputable def fn72 : FnD := fnDof Tryz.f72 mdT
noncomputable def fn73 : FnD := fnDof Tryz.f73 mdT
noncomputable def fn74 : FnD := fnDof Tryz.f74 mdT
noncomputable def fn75 : FnD := fnDof Tryz.f75 mdT
noncomputable def fn76 : FnD := fnDof Tryz.f76 mdT
noncomputable def fn77 : FnD := fnDof Tryz.f77 mdT
noncomputable def fn78 : FnD := fnDof Tryz.f78 mdT
noncomputable def fn79 : FnD := fnDof Tryz.f79 mdT
noncomputable def fn80 : FnD := fnDof Tryz.f80 mdT
noncomputable def fn81 : FnD := fnDof Tryz.f81 mdT
noncomputable def fn82 : FnD := fnDof Tryz.f82 mdT
noncomputable def fn83 : FnD := fnDof Tryz.f83 mdT
noncomputable def fn84 : FnD := fnDof Tryz.f84 mdT
noncomputable def fn85 : FnD := fnDof Tryz.f85 mdT
noncomputable def fn86 : FnD := fnDof Tryz.f86 mdT
noncomputable def fn87 : FnD := fnDof Tryz.f87 mdT
noncomputable def fn88 : FnD := fnDof Tryz.f88 mdT
noncomputable def fn89 : FnD := fnDof Tryz.f89 mdT
noncomputable def fn90 : FnD := fnDof Tryz.f90 mdT
noncomputable def fn91 : FnD := fnDof Tryz.f91 mdT
noncomputable def fn92 : FnD := fnDof Tryz.f92 mdT
noncomputable def fn93 : FnD := fnDof Tryz.f93 mdT
noncomputable def fn94 : FnD := fnDof Tryz.f94 mdT
noncomputable def fn95 : FnD := fnDof Tryz.f95 mdT
noncomputable def fn96 : FnD := fnDof Tryz.f96 mdT
noncomputable def fn97 : FnD := fnDof Tryz.f97 mdT
noncomputable def fn98 : FnD := fnDof Tryz.f98 mdT
noncomputable def fn99 : FnD := fnDof Tryz.f99 mdT
noncomputable def fn100 : FnD := fnDof Tryz.f100 mdT
noncomputable def fn101 : FnD := fnDof Tryz.f101 mdT
noncomputable def fn102 : FnD := fnDof Tryz.f102 mdT
noncomputable def fn103 : FnD := fnDof Tryz.f103 mdT
noncomputable def fn104 : FnD := fnDof Tryz.f104 mdT
noncomputable def fn105 : FnD := fnDof Tryz.f105 mdT
noncomputable def fn106 : FnD := fnDof Tryz.f106 mdT
noncomputable def fn107 : FnD := fnDof Tryz.f107 mdT
noncomputable def fn108 : FnD := fnDof Tryz.f108 mdT
noncomputable def fn109 : FnD := fnDof Tryz.f109 mdT
noncomputable def fn110 : FnD := fnDof Tryz.f110 mdT
noncomputable def fn111 : FnD := fnDof Tryz.f111 mdT
noncomputable def fn112 : FnD := fnDof Tryz.f112 mdT
noncomputable def fn113 : FnD := fnDof Tryz.f113 mdT
noncomputable def fn114 : FnD := fnDof Tryz.f114 mdT
noncomputable def fn115 : FnD := fnDof Tryz.f115 mdT
noncomputable def fn116 : FnD := fnDof Tryz.f116 mdT
noncomputable def fn117 : FnD := fnDof Tryz.f117 mdT
noncomputable def fn118 : FnD := fnDof Tryz.f118 mdT
noncomputable def fn119 : FnD := fnDof Tryz.f119 mdT
noncomputable def fn120 : FnD := fnDof Tryz.f120 mdT
noncomputable def fn121 : FnD := fnDof Tryz.f121 mdT
noncomputable def fn122 : FnD := fnDof Tryz.f122 mdT
noncomputable def fn123 : FnD := fnDof Tryz.f123 mdT
noncomputable def fn124 : FnD := fnDof Tryz.f124 mdT
noncomputable def fn126 : FnD := fnDof Tryz.f126 mdT
noncomputable def fn127 : FnD := fnDof Tryz.f127 mdT
noncomputable def fn128 : FnD := fnDof Tryz.f128 mdT
noncomputable def fn129 : FnD := fnDof Tryz.f129 mdT
noncomputable def fn130 : FnD := fnDof Tryz.f130 mdT
noncomputable def fn131 : FnD := fnDof Tryz.f131 mdT
noncomputable def fn132 : FnD := fnDof Tryz.f132 mdT
noncomputable def fn133 : FnD := fnDof Tryz.f133 mdT
noncomputable def fn134 : FnD := fnDof Tryz.f134 mdT
noncomputable def fn135 : FnD := fnDof Tryz.f135 mdT
noncomputable def fn136 : FnD := fnDof Tryz.f136 mdT
noncomputable def fn137 : FnD := fnDof Tryz.f137 mdT
noncomputable def fn138 : FnD := fnDof Tryz.f138 mdT
noncomputable def fn139 : FnD := fnDof Tryz.f139 mdT
noncomputable def fn140 : FnD := fnDof Tryz.f140 mdT
noncomputable def fn141 : FnD := fnDof Tryz.f141 mdT
noncomputable def fn142 : FnD := fnDof Tryz.f142 mdT
noncomputable def fn143 : FnD := fnDof Tryz.f143 mdT
noncomputable def fn144 : FnD := fnDof Tryz.f144 mdT
noncomputable def fn145 : FnD := fnDof Tryz.f145 mdT
noncomputable def fn146 : FnD := fnDof Tryz.f146 mdT
noncomputable def fn147 : FnD := fnDof Tryz.f147 mdT
noncomputable def fn148 : FnD := fnDof Tryz.f148 mdT
noncomputable def fn149 : FnD := fnDof Tryz.f149 mdT
noncomputable def fn151 : FnD := fnDof Tryz.f151 mdT
noncomputable def fn152 : FnD := fnDof Tryz.f152 mdT
noncomputable def fn153 : FnD := fnDof Tryz.f153 mdT
noncomputable def fn154 : FnD := fnDof Tryz.f154 mdT
noncomputable def fn155 : FnD := fnDof Tryz.f155 mdT
noncomputable def fn156 : FnD := fnDof Tryz.f156 mdT
noncomputable def fn157 : FnD := fnDof Tryz.f157 mdT
noncomputable def fn158 : FnD := fnDof Tryz.f158 mdT
noncomputable def fn160 : FnD := fnDof Tryz.f160 mdT
noncomputable def fn161 : FnD := fnDof Tryz.f161 mdT
noncomputable def fn162 : FnD := fnDof Tryz.f162 mdT
noncomputable def fn163 : FnD := fnDof Tryz.f163 mdT
noncomputable def fn164 : FnD := fnDof Tryz.f164 mdT
noncomputable def fn165 : FnD := fnDof Tryz.f165 mdT
noncomputable def fn167 : FnD := fnDof Tryz.f167 mdT
noncomputable def fn168 : FnD := fnDof Tryz.f168 mdT
noncomputable def fn169 : FnD := fnDof Tryz.f169 mdT
noncomputable def fn170 : FnD := fnDof Tryz.f170 mdT
noncomputable def fn172 : FnD := fnDof Tryz.f172 mdT
noncomputable def fn202 : FnD := fnDof Tryz.f202 mdT
noncomputable def fnT0 (t : FuncId) : Option FnD := bif Nat.ble 19 t then (bif Nat.ble 27 t then (bif Nat.ble 31 t then (bif Nat.ble 33 t then (bif Nat.ble 34 t then (bif Nat.beq t 34 then some fn34 else none) else (bif Nat.beq t 33 then some fn33 else none)) else (bif Nat.ble 32 t then (bif Nat.beq t 32 then some fn32 else none) else (bif Nat.beq t 31 then some fn31 else none))) else (bif Nat.ble 29 t then (bif Nat.ble 30 t then (bif Nat.beq t 30 then some fn30 else none) else (bif Nat.beq t 29 then some fn29 else none)) else (bif Nat.ble 28 t then (bif Nat.beq t 28 then some fn28 else none) else (bif Nat.beq t 27 then some fn27 else none)))) else (bif Nat.ble 23 t then (bif Nat.ble 25 t then (bif Nat.ble 26 t then (bif Nat.beq t 26 then some fn26 else none) else (bif Nat.beq t 25 then some fn25 else none)) else (bif Nat.ble 24 t then (bif Nat.beq t 24 then some fn24 else none) else (bif Nat.beq t 23 then some fn23 else none))) else (bif Nat.ble 21 t then (bif Nat.ble 22 t then (bif Nat.beq t 22 then some fn22 else none) else (bif Nat.beq t 21 then some fn21 else none)) else (bif Nat.ble 20 t then (bif Nat.beq t 20 then some fn20 else none) else (bif Nat.beq t 19 then some fn19 else none))))) else (bif Nat.ble 11 t then (bif Nat.ble 15 t then (bif Nat.ble 17 t then (bif Nat.ble 18 t then (bif Nat.beq t 18 then some fn18 else none) else (bif Nat.beq t 17 then some fn17 else none)) else (bif Nat.ble 16 t then (bif Nat.beq t 16 then some fn16 else none) else (bif Nat.beq t 15 then some fn15 else none))) else (bif Nat.ble 13 t then (bif Nat.ble 14 t then (bif Nat.beq t 14 then some fn14 else none) else (bif Nat.beq t 13 then some fn13 else none)) else (bif Nat.ble 12 t then (bif Nat.beq t 12 then some fn12 else none) else (bif Nat.beq t 11 then some fn11 else none)))) else (bif Nat.ble 7 t then (bif Nat.ble 9 t then (bif Nat.ble 10 t then (bif Nat.beq t 10 then some fn10 else none) else (bif Nat.beq t 9 then some fn9 else none)) else (bif Nat.ble 8 t then (bif Nat.beq t 8 then some fn8 else none) else (bif Nat.beq t 7 then some fn7 else none))) else (bif Nat.ble 5 t then (bif Nat.ble 6 t then (bif Nat.beq t 6 then some fn6 else none) else (bif Nat.beq t 5 then some fn5 else none)) else (bif Nat.ble 4 t then (bif Nat.beq t 4 then some fn4 else none) else (bif Nat.beq t 3 then some fn3 else none)))))
theorem fnT0_ok (f : FuncId) (d : FnD) (h : fnT0 f = some d) : FnOk Tryz.prog f d := by
 unfold fnT0 at h
 simp only [cond_eq_ite] at h
 repeat' split at h
 all_goals first | exact (ygv h).elim | skip
 ·rename_i e; cases Nat.eq_of_beq_eq_true e; cases h; exact yaa Tryz.func34 (by kernel_rfl) (by kernel_rfl)
 ·rename_i e; cases Nat.eq_of_beq_eq_true e; cases h; exact yaa Tryz.func33 (by kernel_rfl) (by kernel_rfl)
 ·rename_i e; cases Nat.eq_of_beq_eq_true e; cases h; exact yaa Tryz.func32 (by kernel_rfl) (by kernel_rfl)
 ·rename_i e; cases Nat.eq_of_beq_eq_true e; cases h; exact yaa Tryz.func31 (by kernel_rfl) (by kernel_rfl)
 ·rename_i e; cases Nat.eq_of_beq_eq_true e; cases h; exact yaa Tryz.func30 (by kernel_rfl) (by kernel_rfl)
 ·rename_i e; cases Nat.eq_of_beq_eq_true e; cases h; exact yaa Tryz.func29 (by kernel_rfl) (by kernel_rfl)
 ·rename_i e; cases Nat.eq_of_beq_eq_true e; cases h; exact yaa Tryz.func28 (by kernel_rfl) (by kernel_rfl)
 ·rename_i e; cases Nat.eq_of_beq_eq_true e; cases h; exact yaa Tryz.func27 (by kernel_rfl) (by kernel_rfl)
 ·rename_i e; cases Nat.eq_of_beq_eq_true e; cases h; exact yaa Tryz.func26 (by kernel_rfl) (by kernel_rfl)
 ·rename_i e; cases Nat.eq_of_beq_eq_true e; cases h; exact yaa Tryz.func25 (by kernel_rfl) (by kernel_rfl)
 ·rename_i e; cases Nat.eq_of_beq_eq_true e; cases h; exact yaa Tryz.func24 (by kernel_rfl) (by kernel_rfl)
 ·rename_i e; cases Nat.eq_of_beq_eq_true e; cases h; exact yaa Tryz.func23 (by kernel_rfl) (by kernel_rfl)
 ·rename_i e; cases Nat.eq_of_beq_eq_true e; cases h; exact yaa Tryz.func22 (by kernel_rfl) (by kernel_rfl)
 ·rename_i e; cases Nat.eq_of_beq_eq_true e; cases h; exact yaa Tryz.func21 (by kernel_rfl) (by kernel_rfl)
 ·rename_i e; cases Nat.eq_of_beq_eq_true e; cases h; exact yaa Tryz.func20 (by kernel_rfl) (by kernel_rfl)
 ·rename_i e; cases Nat.eq_of_beq_eq_true e; cases h; exact yaa Tryz.func19 (by kernel_rfl) (by kernel_rfl)
 ·rename_i e; cases Nat.eq_of_beq_eq_true e; cases h; exact yaa Tryz.func18 (by kernel_rfl) (by kernel_rfl)
 ·rename_i e; cases Nat.eq_of_beq_eq_true e; cases h; exact yaa Tryz.func17 (by kernel_rfl) (by kernel_rfl)
 ·rename_i e; cases Nat.eq_of_beq_eq_true e; cases h; exact yaa Tryz.func16 (by kernel_rfl) (by kernel_rfl)
 ·rename_i e; cases Nat.eq_of_beq_eq_true e; cases h; exact yaa Tryz.func15 (by kernel_rfl) (by kernel_rfl)
 ·rename_i e; cases Nat.eq_of_beq_eq_true e; cases h; exact yaa Tryz.func14 (by kernel_rfl) (by kernel_rfl)
 ·rename_i e; cases Nat.eq_of_beq_eq_true e; cases h; exact yaa Tryz.func13 (by kernel_rfl) (by kernel_rfl)
 ·rename_i e; cases Nat.eq_of_beq_eq_true e; cases h; exact yaa Tryz.func12 (by kernel_rfl) (by kernel_rfl)
 ·rename_i e; cases Nat.eq_of_beq_eq_true e; cases h; exact yaa Tryz.func11 (by kernel_rfl) (by kernel_rfl)
 ·rename_i e; cases Nat.eq_of_beq_eq_true e; cases h; exact yaa Tryz.func10 (by kernel_rfl) (by kernel_rfl)
 ·rename_i e; cases Nat.eq_of_beq_eq_true e; cases h; exact yaa Tryz.func9 (by kernel_rfl) (by kernel_rfl)
 ·rename_i e; cases Nat.eq_of_beq_eq_true e; cases h; exact yaa Tryz.func8 (by kernel_rfl) (by kernel_rfl)
 ·rename_i e; cases Nat.eq_of_beq_eq_true e; cases h; exact yaa Tryz.func7 (by kernel_rfl) (by kernel_rfl)
 ·rename_i e; cases Nat.eq_of_beq_eq_true e; cases h; exact yaa Tryz.func6 (by kernel_rfl) (by kernel_rfl)
 ·rename_i e; cases Nat.eq_of_beq_eq_true e; cases h; exact yaa Tryz.func5 (by kernel_rfl) (by kernel_rfl)
 ·rename_i e; cases Nat.eq_of_beq_eq_true e; cases h; exact yaa Tryz.func4 (by kernel_rfl) (by kernel_rfl)
 ·rename_i e; cases Nat.eq_of_beq_eq_true e; cases h; exact yaa Tryz.func3 (by kernel_rfl) (by kernel_rfl)
noncomputable def fnT1 (t : FuncId) : Option FnD := bif Nat.ble 52 t then (bif Nat.ble 60 t then (bif Nat.ble 64 t then (bif Nat.ble 66 t then (bif Nat.ble 67 t then (bif Nat.beq t 67 then some fn67 else none) else (bif Nat.beq t 66 then some fn66 else none)) else (bif Nat.ble 65 t then (bif Nat.beq t 65 then some fn65 else none) else (bif Nat.beq t 64 then some fn64 else none))) else (bif Nat.ble 62 t then (bif Nat.ble 63 t then (bif Nat.beq t 63 then some fn63 else none) else (bif Nat.beq t 62 then some fn62 else none)) else (bif Nat.ble 61 t then (bif Nat.beq t 61 then some fn61 else none) else (bif Nat.beq t 60 then some fn60 else none)))) else (bif Nat.ble 56 t then (bif Nat.ble 58 t then (bif Nat.ble 59 t then (bif Nat.beq t 59 then some fn59 else none) else (bif Nat.beq t 58 then some fn58 else none)) else (bif Nat.ble 57 t then (bif Nat.beq t 57 then some fn57 else none) else (bif Nat.beq t 56 then some fn56 else none))) else (bif Nat.ble 54 t then (bif Nat.ble 55 t then (bif Nat.beq t 55 then some fn55 else none) else (bif Nat.beq t 54 then some fn54 else none)) else (bif Nat.ble 53 t then (bif Nat.beq t 53 then some fn53 else none) else (bif Nat.beq t 52 then some fn52 else none))))) else (bif Nat.ble 44 t then (bif Nat.ble 48 t then (bif Nat.ble 50 t then (bif Nat.ble 51 t then (bif Nat.beq t 51 then some fn51 else none) else (bif Nat.beq t 50 then some fn50 else none)) else (bif Nat.ble 49 t then (bif Nat.beq t 49 then some fn49 else none) else (bif Nat.beq t 48 then some fn48 else none))) else (bif Nat.ble 46 t then (bif Nat.ble 47 t then (bif Nat.beq t 47 then some fn47 else none) else (bif Nat.beq t 46 then some fn46 else none)) else (bif Nat.ble 45 t then (bif Nat.beq t 45 then some fn45 else none) else (bif Nat.beq t 44 then some fn44 else none)))) else (bif Nat.ble 40 t then (bif Nat.ble 42 t then (bif Nat.ble 43 t then (bif Nat.beq t 43 then some fn43 else none) else (bif Nat.beq t 42 then some fn42 else none)) else (bif Nat.ble 41 t then (bif Nat.beq t 41 then some fn41 else none) else (bif Nat.beq t 40 then some fn40 else none))) else (bif Nat.ble 37 t then (bif Nat.ble 39 t then (bif Nat.beq t 39 then some fn39 else none) else (bif Nat.beq t 37 then some fn37 else none)) else (bif Nat.ble 36 t then (bif Nat.beq t 36 then some fn36 else none) else (bif Nat.beq t 35 then some fn35 else none)))))
theorem fnT1_ok (f : FuncId) (d : FnD) (h : fnT1 f = some d) : FnOk Tryz.prog f d := by
 unfold fnT1 at h
 simp only [cond_eq_ite] at h
 repeat' split at h
 all_goals first | exact (ygv h).elim | skip
 ·rename_i e; cases Nat.eq_of_beq_eq_true e; cases h; exact yaa Tryz.func67 (by kernel_rfl) (by kernel_rfl)
 ·rename_i e; cases Nat.eq_of_beq_eq_true e; cases h; exact yaa Tryz.func66 (by kernel_rfl) (by kernel_rfl)
 ·rename_i e; cases Nat.eq_of_beq_eq_true e; cases h; exact yaa Tryz.func65 (by kernel_rfl) (by kernel_rfl)
 ·rename_i e; cases Nat.eq_of_beq_eq_true e; cases h; exact yaa Tryz.func64 (by kernel_rfl) (by kernel_rfl)
 ·rename_i e; cases Nat.eq_of_beq_eq_true e; cases h; exact yaa Tryz.func63 (by kernel_rfl) (by kernel_rfl)
 ·rename_i e; cases Nat.eq_of_beq_eq_true e; cases h; exact yaa Tryz.func62 (by kernel_rfl) (by kernel_rfl)
 ·rename_i e; cases Nat.eq_of_beq_eq_true e; cases h; exact yaa Tryz.func61 (by kernel_rfl) (by kernel_rfl)
 ·rename_i e; cases Nat.eq_of_beq_eq_true e; cases h; exact yaa Tryz.func60 (by kernel_rfl) (by kernel_rfl)
 ·rename_i e; cases Nat.eq_of_beq_eq_true e; cases h; exact yaa Tryz.func59 (by kernel_rfl) (by kernel_rfl)
 ·rename_i e; cases Nat.eq_of_beq_eq_true e; cases h; exact yaa Tryz.func58 (by kernel_rfl) (by kernel_rfl)
 ·rename_i e; cases Nat.eq_of_beq_eq_true e; cases h; exact yaa Tryz.func57 (by kernel_rfl) (by kernel_rfl)
 ·rename_i e; cases Nat.eq_of_beq_eq_true e; cases h; exact yaa Tryz.func56 (by kernel_rfl) (by kernel_rfl)
 ·rename_i e; cases Nat.eq_of_beq_eq_true e; cases h; exact yaa Tryz.func55 (by kernel_rfl) (by kernel_rfl)
 ·rename_i e; cases Nat.eq_of_beq_eq_true e; cases h; exact yaa Tryz.func54 (by kernel_rfl) (by kernel_rfl)
 ·rename_i e; cases Nat.eq_of_beq_eq_true e; cases h; exact yaa Tryz.func53 (by kernel_rfl) (by kernel_rfl)
 ·rename_i e; cases Nat.eq_of_beq_eq_true e; cases h; exact yaa Tryz.func52 (by kernel_rfl) (by kernel_rfl)
 ·rename_i e; cases Nat.eq_of_beq_eq_true e; cases h; exact yaa Tryz.func51 (by kernel_rfl) (by kernel_rfl)
 ·rename_i e; cases Nat.eq_of_beq_eq_true e; cases h; exact yaa Tryz.func50 (by kernel_rfl) (by kernel_rfl)
 ·rename_i e; cases Nat.eq_of_beq_eq_true e; cases h; exact yaa Tryz.func49 (by kernel_rfl) (by kernel_rfl)
 ·rename_i e; cases Nat.eq_of_beq_eq_true e; cases h; exact yaa Tryz.func48 (by kernel_rfl) (by kernel_rfl)
 ·rename_i e; cases Nat.eq_of_beq_eq_true e; cases h; exact yaa Tryz.func47 (by kernel_rfl) (by kernel_rfl)
 ·rename_i e; cases Nat.eq_of_beq_eq_true e; cases h; exact yaa Tryz.func46 (by kernel_rfl) (by kernel_rfl)
 ·rename_i e; cases Nat.eq_of_beq_eq_true e; cases h; exact yaa Tryz.func45 (by kernel_rfl) (by kernel_rfl)
 ·rename_i e; cases Nat.eq_of_beq_eq_true e; cases h; exact yaa Tryz.func44 (by kernel_rfl) (by kernel_rfl)
 ·rename_i e; cases Nat.eq_of_beq_eq_true e; cases h; exact yaa Tryz.func43 (by kernel_rfl) (by kernel_rfl)
 ·rename_i e; cases Nat.eq_of_beq_eq_true e; cases h; exact yaa Tryz.func42 (by kernel_rfl) (by kernel_rfl)
 ·rename_i e; cases Nat.eq_of_beq_eq_true e; cases h; exact yaa Tryz.func41 (by kernel_rfl) (by kernel_rfl)
 ·rename_i e; cases Nat.eq_of_beq_eq_true e; cases h; exact yaa Tryz.func40 (by kernel_rfl) (by kernel_rfl)
 ·rename_i e; cases Nat.eq_of_beq_eq_true e; cases h; exact yaa Tryz.func39 (by kernel_rfl) (by kernel_rfl)
 ·rename_i e; cases Nat.eq_of_beq_eq_true e; cases h; exact yaa Tryz.func37 (by kernel_rfl) (by kernel_rfl)
 ·rename_i e; cases Nat.eq_of_beq_eq_true e; cases h; exact yaa Tryz.func36 (by kernel_rfl) (by kernel_rfl)
 ·rename_i e; cases Nat.eq_of_beq_eq_true e; cases h; exact yaa Tryz.func35 (by kernel_rfl) (by kernel_rfl)
noncomputable def fnT2 (t : FuncId) : Option FnD := bif Nat.ble 84 t then (bif Nat.ble 92 t then (bif Nat.ble 96 t then (bif Nat.ble 98 t then (bif Nat.ble 99 t then (bif Nat.beq t 99 then some fn99 else none) else (bif Nat.beq t 98 then some fn98 else none)) else (bif Nat.ble 97 t then (bif Nat.beq t 97 then some fn97 else none) else (bif Nat.beq t 96 then some fn96 else none))) else (bif Nat.ble 94 t then (bif Nat.ble 95 t then (bif Nat.beq t 95 then some fn95 else none) else (bif Nat.beq t 94 then some fn94 else none)) else (bif Nat.ble 93 t then (bif Nat.beq t 93 then some fn93 else none) else (bif Nat.beq t 92 then some fn92 else none)))) else (bif Nat.ble 88 t then (bif Nat.ble 90 t then (bif Nat.ble 91 t then (bif Nat.beq t 91 then some fn91 else none) else (bif Nat.beq t 90 then some fn90 else none)) else (bif Nat.ble 89 t then (bif Nat.beq t 89 then some fn89 else none) else (bif Nat.beq t 88 then some fn88 else none))) else (bif Nat.ble 86 t then (bif Nat.ble 87 t then (bif Nat.beq t 87 then some fn87 else none) else (bif Nat.beq t 86 then some fn86 else none)) else (bif Nat.ble 85 t then (bif Nat.beq t 85 then some fn85 else none) else (bif Nat.beq t 84 then some fn84 else none))))) else (bif Nat.ble 76 t then (bif Nat.ble 80 t then (bif Nat.ble 82 t then (bif Nat.ble 83 t then (bif Nat.beq t 83 then some fn83 else none) else (bif Nat.beq t 82 then some fn82 else none)) else (bif Nat.ble 81 t then (bif Nat.beq t 81 then some fn81 else none) else (bif Nat.beq t 80 then some fn80 else none))) else (bif Nat.ble 78 t then (bif Nat.ble 79 t then (bif Nat.beq t 79 then some fn79 else none) else (bif Nat.beq t 78 then some fn78 else none)) else (bif Nat.ble 77 t then (bif Nat.beq t 77 then some fn77 else none) else (bif Nat.beq t 76 then some fn76 else none)))) else (bif Nat.ble 72 t then (bif Nat.ble 74 t then (bif Nat.ble 75 t then (bif Nat.beq t 75 then some fn75 else none) else (bif Nat.beq t 74 then some fn74 else none)) else (bif Nat.ble 73 t then (bif Nat.beq t 73 then some fn73 else none) else (bif Nat.beq t 72 then some fn72 else none))) else (bif Nat.ble 70 t then (bif Nat.ble 71 t then (bif Nat.beq t 71 then some fn71 else none) else (bif Nat.beq t 70 then some fn70 else none)) else (bif Nat.ble 69 t then (bif Nat.beq t 69 then some fn69 else none) else (bif Nat.beq t 68 then some fn68 else none)))))
theorem fnT2_ok (f : FuncId) (d : FnD) (h : fnT2 f = some d) : FnOk Tryz.prog f d := by
 unfold fnT2 at h
 simp only [cond_eq_ite] at h
 repeat' split at h
 all_goals first | exact (ygv h).elim | skip
 ·rename_i e; cases Nat.eq_of_beq_eq_true e; cases h; exact yaa Tryz.func99 (by kernel_rfl) (by kernel_rfl)
 ·rename_i e; cases Nat.eq_of_beq_eq_true e; cases h; exact yaa Tryz.func98 (by kernel_rfl) (by kernel_rfl)
 ·rename_i e; cases Nat.eq_of_beq_eq_true e; cases h; exact yaa Tryz.func97 (by kernel_rfl) (by kernel_rfl)
 ·rename_i e; cases Nat.eq_of_beq_eq_true e; cases h; exact yaa Tryz.func96 (by kernel_rfl) (by kernel_rfl)
 ·rename_i e; cases Nat.eq_of_beq_eq_true e; cases h; exact yaa Tryz.func95 (by kernel_rfl) (by kernel_rfl)
 ·rename_i e; cases Nat.eq_of_beq_eq_true e; cases h; exact yaa Tryz.func94 (by kernel_rfl) (by kernel_rfl)
 ·rename_i e; cases Nat.eq_of_beq_eq_true e; cases h; exact yaa Tryz.func93 (by kernel_rfl) (by kernel_rfl)
 ·rename_i e; cases Nat.eq_of_beq_eq_true e; cases h; exact yaa Tryz.func92 (by kernel_rfl) (by kernel_rfl)
 ·rename_i e; cases Nat.eq_of_beq_eq_true e; cases h; exact yaa Tryz.func91 (by kernel_rfl) (by kernel_rfl)
 ·rename_i e; cases Nat.eq_of_beq_eq_true e; cases h; exact yaa Tryz.func90 (by kernel_rfl) (by kernel_rfl)
 ·rename_i e; cases Nat.eq_of_beq_eq_true e; cases h; exact yaa Tryz.func89 (by kernel_rfl) (by kernel_rfl)
 ·rename_i e; cases Nat.eq_of_beq_eq_true e; cases h; exact yaa Tryz.func88 (by kernel_rfl) (by kernel_rfl)
 ·rename_i e; cases Nat.eq_of_beq_eq_true e; cases h; exact yaa Tryz.func87 (by kernel_rfl) (by kernel_rfl)
 ·rename_i e; cases Nat.eq_of_beq_eq_true e; cases h; exact yaa Tryz.func86 (by kernel_rfl) (by kernel_rfl)
 ·rename_i e; cases Nat.eq_of_beq_eq_true e; cases h; exact yaa Tryz.func85 (by kernel_rfl) (by kernel_rfl)
 ·rename_i e; cases Nat.eq_of_beq_eq_true e; cases h; exact yaa Tryz.func84 (by kernel_rfl) (by kernel_rfl)
 ·rename_i e; cases Nat.eq_of_beq_eq_true e; cases h; exact yaa Tryz.func83 (by kernel_rfl) (by kernel_rfl)
 ·rename_i e; cases Nat.eq_of_beq_eq_true e; cases h; exact yaa Tryz.func82 (by kernel_rfl) (by kernel_rfl)
 ·rename_i e; cases Nat.eq_of_beq_eq_true e; cases h; exact yaa Tryz.func81 (by kernel_rfl) (by kernel_rfl)
 ·rename_i e; cases Nat.eq_of_beq_eq_true e; cases h; exact yaa Tryz.func80 (by kernel_rfl) (by kernel_rfl)
 ·rename_i e; cases Nat.eq_of_beq_eq_true e; cases h; exact yaa Tryz.func79 (by kernel_rfl) (by kernel_rfl)
 ·rename_i e; cases Nat.eq_of_beq_eq_true e; cases h; exact yaa Tryz.func78 (by kernel_rfl) (by kernel_rfl)
 ·rename_i e; cases Nat.eq_of_beq_eq_true e; cases h; exact yaa Tryz.func77 (by kernel_rfl) (by kernel_rfl)
 ·rename_i e; cases Nat.eq_of_beq_eq_true e; cases h; exact yaa Tryz.func76 (by kernel_rfl) (by kernel_rfl)
 ·rename_i e; cases Nat.eq_of_beq_eq_true e; cases h; exact yaa Tryz.func75 (by kernel_rfl) (by kernel_rfl)
 ·rename_i e; cases Nat.eq_of_beq_eq_true e; cases h; exact yaa Tryz.func74 (by kernel_rfl) (by kernel_rfl)
 ·rename_i e; cases Nat.eq_of_beq_eq_true e; cases h; exact yaa Tryz.func73 (by kernel_rfl) (by kernel_rfl)
 ·rename_i e; cases Nat.eq_of_beq_eq_true e; cases h; exact yaa Tryz.func72 (by kernel_rfl) (by kernel_rfl)
 ·rename_i e; cases Nat.eq_of_beq_eq_true e; cases h; exact yaa Tryz.func71 (by kernel_rfl) (by kernel_rfl)
 ·rename_i e; cases Nat.eq_of_beq_eq_true e; cases h; exact yaa Tryz.func70 (by kernel_rfl) (by kernel_rfl)
 ·rename_i e; cases Nat.eq_of_beq_eq_true e; cases h; exact yaa Tryz.func69 (by kernel_rfl) (by kernel_rfl)
 ·rename_i e; cases Nat.eq_of_beq_eq_true e; cases h; exact yaa Tryz.func68 (by kernel_rfl) (by kernel_rfl)
noncomputable def fnT3 (t : FuncId) : Option FnD := bif Nat.ble 116 t then (bif Nat.ble 124 t then (bif Nat.ble 129 t then (bif Nat.ble 131 t then (bif Nat.ble 132 t then (bif Nat.beq t 132 then some fn132 else none) else (bif Nat.beq t 131 then some fn131 else none)) else (bif Nat.ble 130 t then (bif Nat.beq t 130 then some fn130 else none) else (bif Nat.beq t 129 then some fn129 else none))) else (bif Nat.ble 127 t then (bif Nat.ble 128 t then (bif Nat.beq t 128 then some fn128 else none) else (bif Nat.beq t 127 then some fn127 else none)) else (bif Nat.ble 126 t then (bif Nat.beq t 126 then some fn126 else none) else (bif Nat.beq t 124 then some fn124 else none)))) else (bif Nat.ble 120 t then (bif Nat.ble 122 t then (bif Nat.ble 123 t then (bif Nat.beq t 123 then some fn123 else none) else (bif Nat.beq t 122 then some fn122 else none)) else (bif Nat.ble 121 t then (bif Nat.beq t 121 then some fn121 else none) else (bif Nat.beq t 120 then some fn120 else none))) else (bif Nat.ble 118 t then (bif Nat.ble 119 t then (bif Nat.beq t 119 then some fn119 else none) else (bif Nat.beq t 118 then some fn118 else none)) else (bif Nat.ble 117 t then (bif Nat.beq t 117 then some fn117 else none) else (bif Nat.beq t 116 then some fn116 else none))))) else (bif Nat.ble 108 t then (bif Nat.ble 112 t then (bif Nat.ble 114 t then (bif Nat.ble 115 t then (bif Nat.beq t 115 then some fn115 else none) else (bif Nat.beq t 114 then some fn114 else none)) else (bif Nat.ble 113 t then (bif Nat.beq t 113 then some fn113 else none) else (bif Nat.beq t 112 then some fn112 else none))) else (bif Nat.ble 110 t then (bif Nat.ble 111 t then (bif Nat.beq t 111 then some fn111 else none) else (bif Nat.beq t 110 then some fn110 else none)) else (bif Nat.ble 109 t then (bif Nat.beq t 109 then some fn109 else none) else (bif Nat.beq t 108 then some fn108 else none)))) else (bif Nat.ble 104 t then (bif Nat.ble 106 t then (bif Nat.ble 107 t then (bif Nat.beq t 107 then some fn107 else none) else (bif Nat.beq t 106 then some fn106 else none)) else (bif Nat.ble 105 t then (bif Nat.beq t 105 then some fn105 else none) else (bif Nat.beq t 104 then some fn104 else none))) else (bif Nat.ble 102 t then (bif Nat.ble 103 t then (bif Nat.beq t 103 then some fn103 else none) else (bif Nat.beq t 102 then some fn102 else none)) else (bif Nat.ble 101 t then (bif Nat.beq t 101 then some fn101 else none) else (bif Nat.beq t 100 then some fn100 else none)))))
theorem fnT3_ok (f : FuncId) (d : FnD) (h : fnT3 f = some d) : FnOk Tryz.prog f d := by
 unfold fnT3 at h
 simp only [cond_eq_ite] at h
 repeat' split at h
 all_goals first | exact (ygv h).elim | skip
 ·rename_i e; cases Nat.eq_of_beq_eq_true e; cases h; exact yaa Tryz.func132 (by kernel_rfl) (by kernel_rfl)
 ·rename_i e; cases Nat.eq_of_beq_eq_true e; cases h; exact yaa Tryz.func131 (by kernel_rfl) (by kernel_rfl)
 ·rename_i e; cases Nat.eq_of_beq_eq_true e; cases h; exact yaa Tryz.func130 (by kernel_rfl) (by kernel_rfl)
 ·rename_i e; cases Nat.eq_of_beq_eq_true e; cases h; exact yaa Tryz.func129 (by kernel_rfl) (by kernel_rfl)
 ·rename_i e; cases Nat.eq_of_beq_eq_true e; cases h; exact yaa Tryz.func128 (by kernel_rfl) (by kernel_rfl)
 ·rename_i e; cases Nat.eq_of_beq_eq_true e; cases h; exact yaa Tryz.func127 (by kernel_rfl) (by kernel_rfl)
 ·rename_i e; cases Nat.eq_of_beq_eq_true e; cases h; exact yaa Tryz.func126 (by kernel_rfl) (by kernel_rfl)
 ·rename_i e; cases Nat.eq_of_beq_eq_true e; cases h; exact yaa Tryz.func124 (by kernel_rfl) (by kernel_rfl)
 ·rename_i e; cases Nat.eq_of_beq_eq_true e; cases h; exact yaa Tryz.func123 (by kernel_rfl) (by kernel_rfl)
 ·rename_i e; cases Nat.eq_of_beq_eq_true e; cases h; exact yaa Tryz.func122 (by kernel_rfl) (by kernel_rfl)
 ·rename_i e; cases Nat.eq_of_beq_eq_true e; cases h; exact yaa Tryz.func121 (by kernel_rfl) (by kernel_rfl)
 ·rename_i e; cases Nat.eq_of_beq_eq_true e; cases h; exact yaa Tryz.func120 (by kernel_rfl) (by kernel_rfl)
 ·rename_i e; cases Nat.eq_of_beq_eq_true e; cases h; exact yaa Tryz.func119 (by kernel_rfl) (by kernel_rfl)
 ·rename_i e; cases Nat.eq_of_beq_eq_true e; cases h; exact yaa Tryz.func118 (by kernel_rfl) (by kernel_rfl)
 ·rename_i e; cases Nat.eq_of_beq_eq_true e; cases h; exact yaa Tryz.func117 (by kernel_rfl) (by kernel_rfl)
 ·rename_i e; cases Nat.eq_of_beq_eq_true e; cases h; exact yaa Tryz.func116 (by kernel_rfl) (by kernel_rfl)
 ·rename_i e; cases Nat.eq_of_beq_eq_true e; cases h; exact yaa Tryz.func115 (by kernel_rfl) (by kernel_rfl)
 ·rename_i e; cases Nat.eq_of_beq_eq_true e; cases h; exact yaa Tryz.func114 (by kernel_rfl) (by kernel_rfl)
 ·rename_i e; cases Nat.eq_of_beq_eq_true e; cases h; exact yaa Tryz.func113 (by kernel_rfl) (by kernel_rfl)
 ·rename_i e; cases Nat.eq_of_beq_eq_true e; cases h; exact yaa Tryz.func112 (by kernel_rfl) (by kernel_rfl)
 ·rename_i e; cases Nat.eq_of_beq_eq_true e; cases h; exact yaa Tryz.func111 (by kernel_rfl) (by kernel_rfl)
 ·rename_i e; cases Nat.eq_of_beq_eq_true e; cases h; exact yaa Tryz.func110 (by kernel_rfl) (by kernel_rfl)
 ·rename_i e; cases Nat.eq_of_beq_eq_true e; cases h; exact yaa Tryz.func109 (by kernel_rfl) (by kernel_rfl)
 ·rename_i e; cases Nat.eq_of_beq_eq_true e; cases h; exact yaa Tryz.func108 (by kernel_rfl) (by kernel_rfl)
 ·rename_i e; cases Nat.eq_of_beq_eq_true e; cases h; exact yaa Tryz.func107 (by kernel_rfl) (by kernel_rfl)
 ·rename_i e; cases Nat.eq_of_beq_eq_true e; cases h; exact yaa Tryz.func106 (by kernel_rfl) (by kernel_rfl)
 ·rename_i e; cases Nat.eq_of_beq_eq_true e; cases h; exact yaa Tryz.func105 (by kernel_rfl) (by kernel_rfl)
 ·rename_i e; cases Nat.eq_of_beq_eq_true e; cases h; exact yaa Tryz.func104 (by kernel_rfl) (by kernel_rfl)
 ·rename_i e; cases Nat.eq_of_beq_eq_true e; cases h; exact yaa Tryz.func103 (by kernel_rfl) (by kernel_rfl)
 ·rename_i e; cases Nat.eq_of_beq_eq_true e; cases h; exact yaa Tryz.func102 (by kernel_rfl) (by kernel_rfl)
 ·rename_i e; cases Nat.eq_of_beq_eq_true e; cases h; exact yaa Tryz.func101 (by kernel_rfl) (by kernel_rfl)
 ·rename_i e; cases Nat.eq_of_beq_eq_true e; cases h; exact yaa Tryz.func100 (by kernel_rfl) (by kernel_rfl)
noncomputable def fnT4 (t : FuncId) : Option FnD := bif Nat.ble 149 t then (bif Nat.ble 158 t then (bif Nat.ble 163 t then (bif Nat.ble 165 t then (bif Nat.ble 167 t then (bif Nat.beq t 167 then some fn167 else none) else (bif Nat.beq t 165 then some fn165 else none)) else (bif Nat.ble 164 t then (bif Nat.beq t 164 then some fn164 else none) else (bif Nat.beq t 163 then some fn163 else none))) else (bif Nat.ble 161 t then (bif Nat.ble 162 t then (bif Nat.beq t 162 then some fn162 else none) else (bif Nat.beq t 161 then some fn161 else none)) else (bif Nat.ble 160 t then (bif Nat.beq t 160 then some fn160 else none) else (bif Nat.beq t 158 then some fn158 else none)))) else (bif Nat.ble 154 t then (bif Nat.ble 156 t then (bif Nat.ble 157 t then (bif Nat.beq t 157 then some fn157 else none) else (bif Nat.beq t 156 then some fn156 else none)) else (bif Nat.ble 155 t then (bif Nat.beq t 155 then some fn155 else none) else (bif Nat.beq t 154 then some fn154 else none))) else (bif Nat.ble 152 t then (bif Nat.ble 153 t then (bif Nat.beq t 153 then some fn153 else none) else (bif Nat.beq t 152 then some fn152 else none)) else (bif Nat.ble 151 t then (bif Nat.beq t 151 then some fn151 else none) else (bif Nat.beq t 149 then some fn149 else none))))) else (bif Nat.ble 141 t then (bif Nat.ble 145 t then (bif Nat.ble 147 t then (bif Nat.ble 148 t then (bif Nat.beq t 148 then some fn148 else none) else (bif Nat.beq t 147 then some fn147 else none)) else (bif Nat.ble 146 t then (bif Nat.beq t 146 then some fn146 else none) else (bif Nat.beq t 145 then some fn145 else none))) else (bif Nat.ble 143 t then (bif Nat.ble 144 t then (bif Nat.beq t 144 then some fn144 else none) else (bif Nat.beq t 143 then some fn143 else none)) else (bif Nat.ble 142 t then (bif Nat.beq t 142 then some fn142 else none) else (bif Nat.beq t 141 then some fn141 else none)))) else (bif Nat.ble 137 t then (bif Nat.ble 139 t then (bif Nat.ble 140 t then (bif Nat.beq t 140 then some fn140 else none) else (bif Nat.beq t 139 then some fn139 else none)) else (bif Nat.ble 138 t then (bif Nat.beq t 138 then some fn138 else none) else (bif Nat.beq t 137 then some fn137 else none))) else (bif Nat.ble 135 t then (bif Nat.ble 136 t then (bif Nat.beq t 136 then some fn136 else none) else (bif Nat.beq t 135 then some fn135 else none)) else (bif Nat.ble 134 t then (bif Nat.beq t 134 then some fn134 else none) else (bif Nat.beq t 133 then some fn133 else none)))))
theorem fnT4_ok (f : FuncId) (d : FnD) (h : fnT4 f = some d) : FnOk Tryz.prog f d := by
 unfold fnT4 at h
 simp only [cond_eq_ite] at h
 repeat' split at h
 all_goals first | exact (ygv h).elim | skip
 ·rename_i e; cases Nat.eq_of_beq_eq_true e; cases h; exact yaa Tryz.func167 (by kernel_rfl) (by kernel_rfl)
 ·rename_i e; cases Nat.eq_of_beq_eq_true e; cases h; exact yaa Tryz.func165 (by kernel_rfl) (by kernel_rfl)
 ·rename_i e; cases Nat.eq_of_beq_eq_true e; cases h; exact yaa Tryz.func164 (by kernel_rfl) (by kernel_rfl)
 ·rename_i e; cases Nat.eq_of_beq_eq_true e; cases h; exact yaa Tryz.func163 (by kernel_rfl) (by kernel_rfl)
 ·rename_i e; cases Nat.eq_of_beq_eq_true e; cases h; exact yaa Tryz.func162 (by kernel_rfl) (by kernel_rfl)
 ·rename_i e; cases Nat.eq_of_beq_eq_true e; cases h; exact yaa Tryz.func161 (by kernel_rfl) (by kernel_rfl)
 ·rename_i e; cases Nat.eq_of_beq_eq_true e; cases h; exact yaa Tryz.func160 (by kernel_rfl) (by kernel_rfl)
 ·rename_i e; cases Nat.eq_of_beq_eq_true e; cases h; exact yaa Tryz.func158 (by kernel_rfl) (by kernel_rfl)
 ·rename_i e; cases Nat.eq_of_beq_eq_true e; cases h; exact yaa Tryz.func157 (by kernel_rfl) (by kernel_rfl)
 ·rename_i e; cases Nat.eq_of_beq_eq_true e; cases h; exact yaa Tryz.func156 (by kernel_rfl) (by kernel_rfl)
 ·rename_i e; cases Nat.eq_of_beq_eq_true e; cases h; exact yaa Tryz.func155 (by kernel_rfl) (by kernel_rfl)
 ·rename_i e; cases Nat.eq_of_beq_eq_true e; cases h; exact yaa Tryz.func154 (by kernel_rfl) (by kernel_rfl)
 ·rename_i e; cases Nat.eq_of_beq_eq_true e; cases h; exact yaa Tryz.func153 (by kernel_rfl) (by kernel_rfl)
 ·rename_i e; cases Nat.eq_of_beq_eq_true e; cases h; exact yaa Tryz.func152 (by kernel_rfl) (by kernel_rfl)
 ·rename_i e; cases Nat.eq_of_beq_eq_true e; cases h; exact yaa Tryz.func151 (by kernel_rfl) (by kernel_rfl)
 ·rename_i e; cases Nat.eq_of_beq_eq_true e; cases h; exact yaa Tryz.func149 (by kernel_rfl) (by kernel_rfl)
 ·rename_i e; cases Nat.eq_of_beq_eq_true e; cases h; exact yaa Tryz.func148 (by kernel_rfl) (by kernel_rfl)
 ·rename_i e; cases Nat.eq_of_beq_eq_true e; cases h; exact yaa Tryz.func147 (by kernel_rfl) (by kernel_rfl)
 ·rename_i e; cases Nat.eq_of_beq_eq_true e; cases h; exact yaa Tryz.func146 (by kernel_rfl) (by kernel_rfl)
 ·rename_i e; cases Nat.eq_of_beq_eq_true e; cases h; exact yaa Tryz.func145 (by kernel_rfl) (by kernel_rfl)
 ·rename_i e; cases Nat.eq_of_beq_eq_true e; cases h; exact yaa Tryz.func144 (by kernel_rfl) (by kernel_rfl)
 ·rename_i e; cases Nat.eq_of_beq_eq_true e; cases h; exact yaa Tryz.func143 (by kernel_rfl) (by kernel_rfl)
 ·rename_i e; cases Nat.eq_of_beq_eq_true e; cases h; exact yaa Tryz.func142 (by kernel_rfl) (by kernel_rfl)
 ·rename_i e; cases Nat.eq_of_beq_eq_true e; cases h; exact yaa Tryz.func141 (by kernel_rfl) (by kernel_rfl)
 ·rename_i e; cases Nat.eq_of_beq_eq_true e; cases h; exact yaa Tryz.func140 (by kernel_rfl) (by kernel_rfl)
 ·rename_i e; cases Nat.eq_of_beq_eq_true e; cases h; exact yaa Tryz.func139 (by kernel_rfl) (by kernel_rfl)
 ·rename_i e; cases Nat.eq_of_beq_eq_true e; cases h; exact yaa Tryz.func138 (by kernel_rfl) (by kernel_rfl)
 ·rename_i e; cases Nat.eq_of_beq_eq_true e; cases h; exact yaa Tryz.func137 (by kernel_rfl) (by kernel_rfl)
 ·rename_i e; cases Nat.eq_of_beq_eq_true e; cases h; exact yaa Tryz.func136 (by kernel_rfl) (by kernel_rfl)
 ·rename_i e; cases Nat.eq_of_beq_eq_true e; cases h; exact yaa Tryz.func135 (by kernel_rfl) (by kernel_rfl)
 ·rename_i e; cases Nat.eq_of_beq_eq_true e; cases h; exact yaa Tryz.func134 (by kernel_rfl) (by kernel_rfl)
 ·rename_i e; cases Nat.eq_of_beq_eq_true e; cases h; exact yaa Tryz.func133 (by kernel_rfl) (by kernel_rfl)
noncomputable def fnT5 (t : FuncId) : Option FnD := bif Nat.ble 170 t then (bif Nat.ble 172 t then (bif Nat.ble 202 t then (bif Nat.beq t 202 then some fn202 else none) else (bif Nat.beq t 172 then some fn172 else none)) else (bif Nat.beq t 170 then some fn170 else none)) else (bif Nat.ble 169 t then (bif Nat.beq t 169 then some fn169 else none) else (bif Nat.beq t 168 then some fn168 else none))
theorem fnT5_ok (f : FuncId) (d : FnD) (h : fnT5 f = some d) : FnOk Tryz.prog f d := by
 unfold fnT5 at h
 simp only [cond_eq_ite] at h
 repeat' split at h
 all_goals first | exact (ygv h).elim | skip
 ·rename_i e; cases Nat.eq_of_beq_eq_true e; cases h; exact yaa Tryz.func202 (by kernel_rfl) (by kernel_rfl)
 ·rename_i e; cases Nat.eq_of_beq_eq_true e; cases h; exact yaa Tryz.func172 (by kernel_rfl) (by kernel_rfl)
 ·rename_i e; cases Nat.eq_of_beq_eq_true e; cases h; exact yaa Tryz.func170 (by kernel_rfl) (by kernel_rfl)
 ·rename_i e; cases Nat.eq_of_beq_eq_true e; cases h; exact yaa Tryz.func169 (by kernel_rfl) (by kernel_rfl)
 ·rename_i e; cases Nat.eq_of_beq_eq_true e; cases h; exact yaa Tryz.func168 (by kernel_rfl) (by kernel_rfl)
noncomputable def fnT (t : FuncId) : Option FnD := bif Nat.ble 100 t then (bif Nat.ble 133 t then (bif Nat.ble 168 t then (fnT5 t) else (fnT4 t)) else (fnT3 t)) else (bif Nat.ble 35 t then (bif Nat.ble 68 t then (fnT2 t) else (fnT1 t)) else (fnT0 t))
theorem fnT_ok (f : FuncId) (d : FnD) (h : fnT f = some d) : FnOk Tryz.prog f d := by
 unfold fnT at h
 simp only [cond_eq_ite] at h
 repeat' split at h
 all_goals first | exact fnT0_ok f d h | exact fnT1_ok f d h | exact fnT2_ok f d h | exact fnT3_ok f d h | exact fnT4_ok f d h | exact fnT5_ok f d h
end Go.Proofs.YtekmafoicobphaaGreatDoor
