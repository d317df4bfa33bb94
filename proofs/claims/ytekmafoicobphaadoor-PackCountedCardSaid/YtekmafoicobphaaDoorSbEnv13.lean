/- The seat's types and functions as the evaluator reads them, checked against the load. By program (genenv.py). -/
import Derived.Test.YtekmafoicobphaaDoorSbSeat
import Derived.Test.YtekmafoicobphaaDoorProg
set_option linter.unusedVariables false
set_option linter.unusedSimpArgs false
namespace Go.Proofs.YtekmafoicobphaaDoor
open Go.Sb
set_option maxRecDepth 100000
def ty1 : TyD := ⟨.func, 1, 8, [.nilf]⟩
def ty2 : TyD := ⟨(.int .i64), 1, 8, [.int .i64 0]⟩
def ty3 : TyD := ⟨(.int .i64), 1, 8, [.int .i64 0]⟩
def ty4 : TyD := ⟨.bool, 1, 1, [.bool false]⟩
def ty5 : TyD := ⟨(.int .u8), 1, 1, [.int .u8 0]⟩
def ty6 : TyD := ⟨(.int .u8), 1, 1, [.int .u8 0]⟩
def ty7 : TyD := ⟨(.struct [(2, 0), (3, 1), (4, 2), (6, 3)]), 4, 24, [.int .i64 0, .int .i64 0, .bool false, .int .u8 0]⟩
def ty8 : TyD := ⟨(.struct [(2, 0), (3, 1), (4, 2), (6, 3)]), 4, 24, [.int .i64 0, .int .i64 0, .bool false, .int .u8 0]⟩
def ty9 : TyD := ⟨.str, 1, 16, [.str []]⟩
def ty10 : TyD := ⟨.str, 1, 16, [.str []]⟩
def ty11 : TyD := ⟨.str, 1, 16, [.str []]⟩
def ty12 : TyD := ⟨(.int .u64), 1, 8, [.int .u64 0]⟩
def ty13 : TyD := ⟨(.struct [(9, 0), (12, 1)]), 2, 24, [.str [], .int .u64 0]⟩
def ty14 : TyD := ⟨(.struct [(9, 0), (12, 1)]), 2, 24, [.str [], .int .u64 0]⟩
def ty15 : TyD := ⟨(.ptr 164), 1, 8, [.nilp]⟩
def ty16 : TyD := ⟨(.ptr 167), 1, 8, [.nilp]⟩
def ty17 : TyD := ⟨(.ptr 174), 1, 8, [.nilp]⟩
def ty18 : TyD := ⟨(.struct [(17, 0)]), 1, 8, [.nilp]⟩
def ty19 : TyD := ⟨(.struct [(17, 0)]), 1, 8, [.nilp]⟩
def ty20 : TyD := ⟨.iface, 1, 16, [.nili]⟩
def ty21 : TyD := ⟨(.int .i32), 1, 4, [.int .i32 0]⟩
def ty22 : TyD := ⟨.func, 1, 8, [.nilf]⟩
def ty23 : TyD := ⟨(.int .i64), 1, 8, [.int .i64 0]⟩
def ty25 : TyD := ⟨.func, 1, 8, [.nilf]⟩
def ty27 : TyD := ⟨.func, 1, 8, [.nilf]⟩
def ty28 : TyD := ⟨.func, 1, 8, [.nilf]⟩
def ty29 : TyD := ⟨.func, 1, 8, [.nilf]⟩
def ty30 : TyD := ⟨.func, 1, 8, [.nilf]⟩
def ty31 : TyD := ⟨.func, 1, 8, [.nilf]⟩
def ty32 : TyD := ⟨(.int .u64), 1, 8, [.int .u64 0]⟩
def ty33 : TyD := ⟨(.slice 5), 1, 24, [.nils]⟩
def ty34 : TyD := ⟨.func, 1, 8, [.nilf]⟩
def ty35 : TyD := ⟨(.ptr 37), 1, 8, [.nilp]⟩
def ty36 : TyD := ⟨(.struct [(9, 0), (3, 1)]), 2, 24, [.str [], .int .i64 0]⟩
def ty37 : TyD := ⟨(.struct [(9, 0), (3, 1)]), 2, 24, [.str [], .int .i64 0]⟩
def ty38 : TyD := ⟨.func, 1, 8, [.nilf]⟩
def ty39 : TyD := ⟨.func, 1, 8, [.nilf]⟩
def ty40 : TyD := ⟨(.slice 56), 1, 24, [.nils]⟩
def ty41 : TyD := ⟨(.struct [(40, 0)]), 1, 24, [.nils]⟩
def ty42 : TyD := ⟨(.struct [(40, 0)]), 1, 24, [.nils]⟩
def ty44 : TyD := ⟨.func, 1, 8, [.nilf]⟩
def ty45 : TyD := ⟨(.struct []), 0, 0, []⟩
def ty46 : TyD := ⟨(.struct []), 0, 0, []⟩
def ty47 : TyD := ⟨.func, 1, 8, [.nilf]⟩
def ty49 : TyD := ⟨.func, 1, 8, [.nilf]⟩
def ty50 : TyD := ⟨.func, 1, 8, [.nilf]⟩
def ty51 : TyD := ⟨.func, 1, 8, [.nilf]⟩
def ty52 : TyD := ⟨.func, 1, 8, [.nilf]⟩
def ty53 : TyD := ⟨(.slice 66), 1, 24, [.nils]⟩
def ty54 : TyD := ⟨(.slice 70), 1, 24, [.nils]⟩
def ty55 : TyD := ⟨(.struct [(9, 0), (3, 1), (3, 2), (53, 3), (54, 4)]), 5, 80, [.str [], .int .i64 0, .int .i64 0, .nils, .nils]⟩
def ty56 : TyD := ⟨(.struct [(9, 0), (3, 1), (3, 2), (53, 3), (54, 4)]), 5, 80, [.str [], .int .i64 0, .int .i64 0, .nils, .nils]⟩
def ty57 : TyD := ⟨.func, 1, 8, [.nilf]⟩
def ty58 : TyD := ⟨.func, 1, 8, [.nilf]⟩
def ty59 : TyD := ⟨.func, 1, 8, [.nilf]⟩
def ty60 : TyD := ⟨.func, 1, 8, [.nilf]⟩
def ty61 : TyD := ⟨.func, 1, 8, [.nilf]⟩
def ty62 : TyD := ⟨(.struct [(3, 0), (3, 1), (9, 2)]), 3, 32, [.int .i64 0, .int .i64 0, .str []]⟩
def ty63 : TyD := ⟨(.struct [(3, 0), (3, 1), (9, 2)]), 3, 32, [.int .i64 0, .int .i64 0, .str []]⟩
def ty64 : TyD := ⟨(.slice 3), 1, 24, [.nils]⟩
def ty65 : TyD := ⟨(.struct [(3, 0), (3, 1), (3, 2), (3, 3), (63, 4), (64, 7)]), 8, 88, [.int .i64 0, .int .i64 0, .int .i64 0, .int .i64 0, .int .i64 0, .int .i64 0, .str [], .nils]⟩
def ty66 : TyD := ⟨(.struct [(3, 0), (3, 1), (3, 2), (3, 3), (63, 4), (64, 7)]), 8, 88, [.int .i64 0, .int .i64 0, .int .i64 0, .int .i64 0, .int .i64 0, .int .i64 0, .str [], .nils]⟩
def ty67 : TyD := ⟨.func, 1, 8, [.nilf]⟩
def ty68 : TyD := ⟨.func, 1, 8, [.nilf]⟩
def ty69 : TyD := ⟨(.struct [(3, 0), (3, 1), (3, 2), (3, 3)]), 4, 32, [.int .i64 0, .int .i64 0, .int .i64 0, .int .i64 0]⟩
def ty70 : TyD := ⟨(.struct [(3, 0), (3, 1), (3, 2), (3, 3)]), 4, 32, [.int .i64 0, .int .i64 0, .int .i64 0, .int .i64 0]⟩
def ty71 : TyD := ⟨.func, 1, 8, [.nilf]⟩
def ty72 : TyD := ⟨.func, 1, 8, [.nilf]⟩
def ty73 : TyD := ⟨.func, 1, 8, [.nilf]⟩
def ty74 : TyD := ⟨.func, 1, 8, [.nilf]⟩
def ty75 : TyD := ⟨(.struct [(42, 0), (56, 1)]), 6, 104, [.nils, .str [], .int .i64 0, .int .i64 0, .nils, .nils]⟩
def ty76 : TyD := ⟨(.struct [(42, 0), (56, 1)]), 6, 104, [.nils, .str [], .int .i64 0, .int .i64 0, .nils, .nils]⟩
def ty77 : TyD := ⟨.func, 1, 8, [.nilf]⟩
def ty78 : TyD := ⟨.func, 1, 8, [.nilf]⟩
def ty79 : TyD := ⟨(.ptr 3), 1, 8, [.nilp]⟩
def ty80 : TyD := ⟨(.slice 79), 1, 24, [.nils]⟩
def ty81 : TyD := ⟨.func, 1, 8, [.nilf]⟩
def ty82 : TyD := ⟨.func, 1, 8, [.nilf]⟩
def ty83 : TyD := ⟨.func, 1, 8, [.nilf]⟩
def ty84 : TyD := ⟨.func, 1, 8, [.nilf]⟩
def ty85 : TyD := ⟨.func, 1, 8, [.nilf]⟩
def ty86 : TyD := ⟨.func, 1, 8, [.nilf]⟩
def ty87 : TyD := ⟨.func, 1, 8, [.nilf]⟩
def ty88 : TyD := ⟨.func, 1, 8, [.nilf]⟩
def ty89 : TyD := ⟨.func, 1, 8, [.nilf]⟩
def ty90 : TyD := ⟨.func, 1, 8, [.nilf]⟩
def ty91 : TyD := ⟨.func, 1, 8, [.nilf]⟩
def ty92 : TyD := ⟨.func, 1, 8, [.nilf]⟩
def ty93 : TyD := ⟨.func, 1, 8, [.nilf]⟩
def ty94 : TyD := ⟨(.struct [(9, 0), (3, 1), (3, 2), (3, 3), (3, 4), (3, 5), (4, 6), (4, 7), (4, 8), (4, 9)]), 10, 64, [.str [], .int .i64 0, .int .i64 0, .int .i64 0, .int .i64 0, .int .i64 0, .bool false, .bool false, .bool false, .bool false]⟩
def ty95 : TyD := ⟨(.struct [(9, 0), (3, 1), (3, 2), (3, 3), (3, 4), (3, 5), (4, 6), (4, 7), (4, 8), (4, 9)]), 10, 64, [.str [], .int .i64 0, .int .i64 0, .int .i64 0, .int .i64 0, .int .i64 0, .bool false, .bool false, .bool false, .bool false]⟩
def ty97 : TyD := ⟨(.map 3 95), 1, 8, [.nilm]⟩
def ty98 : TyD := ⟨.func, 1, 8, [.nilf]⟩
def ty99 : TyD := ⟨.func, 1, 8, [.nilf]⟩
def ty100 : TyD := ⟨.func, 1, 8, [.nilf]⟩
def ty101 : TyD := ⟨.func, 1, 8, [.nilf]⟩
def ty102 : TyD := ⟨.func, 1, 8, [.nilf]⟩
def ty103 : TyD := ⟨.func, 1, 8, [.nilf]⟩
def ty104 : TyD := ⟨.func, 1, 8, [.nilf]⟩
def ty105 : TyD := ⟨.func, 1, 8, [.nilf]⟩
def ty106 : TyD := ⟨(.slice 9), 1, 24, [.nils]⟩
def ty107 : TyD := ⟨.func, 1, 8, [.nilf]⟩
def ty108 : TyD := ⟨.func, 1, 8, [.nilf]⟩
def ty109 : TyD := ⟨(.struct [(3, 0), (3, 1), (3, 2)]), 3, 24, [.int .i64 0, .int .i64 0, .int .i64 0]⟩
def ty110 : TyD := ⟨(.struct [(3, 0), (3, 1), (3, 2)]), 3, 24, [.int .i64 0, .int .i64 0, .int .i64 0]⟩
def ty112 : TyD := ⟨(.map 3 110), 1, 8, [.nilm]⟩
def ty113 : TyD := ⟨.func, 1, 8, [.nilf]⟩
def ty114 : TyD := ⟨.func, 1, 8, [.nilf]⟩
def ty115 : TyD := ⟨.func, 1, 8, [.nilf]⟩
def ty116 : TyD := ⟨.func, 1, 8, [.nilf]⟩
def ty117 : TyD := ⟨(.array 256 5), 256, 256, [.int .u8 0, .int .u8 0, .int .u8 0, .int .u8 0, .int .u8 0, .int .u8 0, .int .u8 0, .int .u8 0, .int .u8 0, .int .u8 0, .int .u8 0, .int .u8 0, .int .u8 0, .int .u8 0, .int .u8 0, .int .u8 0, .int .u8 0, .int .u8 0, .int .u8 0, .int .u8 0, .int .u8 0, .int .u8 0, .int .u8 0, .int .u8 0, .int .u8 0, .int .u8 0, .int .u8 0, .int .u8 0, .int .u8 0, .int .u8 0, .int .u8 0, .int .u8 0, .int .u8 0, .int .u8 0, .int .u8 0, .int .u8 0, .int .u8 0, .int .u8 0, .int .u8 0, .int .u8 0, .int .u8 0, .int .u8 0, .int .u8 0, .int .u8 0, .int .u8 0, .int .u8 0, .int .u8 0, .int .u8 0, .int .u8 0, .int .u8 0, .int .u8 0, .int .u8 0, .int .u8 0, .int .u8 0, .int .u8 0, .int .u8 0, .int .u8 0, .int .u8 0, .int .u8 0, .int .u8 0, .int .u8 0, .int .u8 0, .int .u8 0, .int .u8 0, .int .u8 0, .int .u8 0, .int .u8 0, .int .u8 0, .int .u8 0, .int .u8 0, .int .u8 0, .int .u8 0, .int .u8 0, .int .u8 0, .int .u8 0, .int .u8 0, .int .u8 0, .int .u8 0, .int .u8 0, .int .u8 0, .int .u8 0, .int .u8 0, .int .u8 0, .int .u8 0, .int .u8 0, .int .u8 0, .int .u8 0, .int .u8 0, .int .u8 0, .int .u8 0, .int .u8 0, .int .u8 0, .int .u8 0, .int .u8 0, .int .u8 0, .int .u8 0, .int .u8 0, .int .u8 0, .int .u8 0, .int .u8 0, .int .u8 0, .int .u8 0, .int .u8 0, .int .u8 0, .int .u8 0, .int .u8 0, .int .u8 0, .int .u8 0, .int .u8 0, .int .u8 0, .int .u8 0, .int .u8 0, .int .u8 0, .int .u8 0, .int .u8 0, .int .u8 0, .int .u8 0, .int .u8 0, .int .u8 0, .int .u8 0, .int .u8 0, .int .u8 0, .int .u8 0, .int .u8 0, .int .u8 0, .int .u8 0, .int .u8 0, .int .u8 0, .int .u8 0, .int .u8 0, .int .u8 0, .int .u8 0, .int .u8 0, .int .u8 0, .int .u8 0, .int .u8 0, .int .u8 0, .int .u8 0, .int .u8 0, .int .u8 0, .int .u8 0, .int .u8 0, .int .u8 0, .int .u8 0, .int .u8 0, .int .u8 0, .int .u8 0, .int .u8 0, .int .u8 0, .int .u8 0, .int .u8 0, .int .u8 0, .int .u8 0, .int .u8 0, .int .u8 0, .int .u8 0, .int .u8 0, .int .u8 0, .int .u8 0, .int .u8 0, .int .u8 0, .int .u8 0, .int .u8 0, .int .u8 0, .int .u8 0, .int .u8 0, .int .u8 0, .int .u8 0, .int .u8 0, .int .u8 0, .int .u8 0, .int .u8 0, .int .u8 0, .int .u8 0, .int .u8 0, .int .u8 0, .int .u8 0, .int .u8 0, .int .u8 0, .int .u8 0, .int .u8 0, .int .u8 0, .int .u8 0, .int .u8 0, .int .u8 0, .int .u8 0, .int .u8 0, .int .u8 0, .int .u8 0, .int .u8 0, .int .u8 0, .int .u8 0, .int .u8 0, .int .u8 0, .int .u8 0, .int .u8 0, .int .u8 0, .int .u8 0, .int .u8 0, .int .u8 0, .int .u8 0, .int .u8 0, .int .u8 0, .int .u8 0, .int .u8 0, .int .u8 0, .int .u8 0, .int .u8 0, .int .u8 0, .int .u8 0, .int .u8 0, .int .u8 0, .int .u8 0, .int .u8 0, .int .u8 0, .int .u8 0, .int .u8 0, .int .u8 0, .int .u8 0, .int .u8 0, .int .u8 0, .int .u8 0, .int .u8 0, .int .u8 0, .int .u8 0, .int .u8 0, .int .u8 0, .int .u8 0, .int .u8 0, .int .u8 0, .int .u8 0, .int .u8 0, .int .u8 0, .int .u8 0, .int .u8 0, .int .u8 0, .int .u8 0, .int .u8 0, .int .u8 0, .int .u8 0, .int .u8 0, .int .u8 0, .int .u8 0, .int .u8 0, .int .u8 0, .int .u8 0, .int .u8 0, .int .u8 0, .int .u8 0, .int .u8 0, .int .u8 0, .int .u8 0, .int .u8 0, .int .u8 0, .int .u8 0, .int .u8 0]⟩
def ty118 : TyD := ⟨.func, 1, 8, [.nilf]⟩
def ty119 : TyD := ⟨.func, 1, 8, [.nilf]⟩
def ty120 : TyD := ⟨.func, 1, 8, [.nilf]⟩
def ty121 : TyD := ⟨(.slice 123), 1, 24, [.nils]⟩
def ty122 : TyD := ⟨(.struct [(3, 0), (3, 1)]), 2, 16, [.int .i64 0, .int .i64 0]⟩
def ty123 : TyD := ⟨(.struct [(3, 0), (3, 1)]), 2, 16, [.int .i64 0, .int .i64 0]⟩
def ty124 : TyD := ⟨(.int .u32), 1, 4, [.int .u32 0]⟩
def ty125 : TyD := ⟨.func, 1, 8, [.nilf]⟩
def ty126 : TyD := ⟨(.ptr 131), 1, 8, [.nilp]⟩
def ty127 : TyD := ⟨.func, 1, 8, [.nilf]⟩
def ty128 : TyD := ⟨(.slice 134), 1, 24, [.nils]⟩
def ty129 : TyD := ⟨(.slice 137), 1, 24, [.nils]⟩
def ty130 : TyD := ⟨(.struct [(128, 0), (129, 1), (3, 2)]), 3, 56, [.nils, .nils, .int .i64 0]⟩
def ty131 : TyD := ⟨(.struct [(128, 0), (129, 1), (3, 2)]), 3, 56, [.nils, .nils, .int .i64 0]⟩
def ty132 : TyD := ⟨(.int .u16), 1, 2, [.int .u16 0]⟩
def ty133 : TyD := ⟨(.struct [(132, 0), (132, 1), (132, 2)]), 3, 6, [.int .u16 0, .int .u16 0, .int .u16 0]⟩
def ty134 : TyD := ⟨(.struct [(132, 0), (132, 1), (132, 2)]), 3, 6, [.int .u16 0, .int .u16 0, .int .u16 0]⟩
def ty135 : TyD := ⟨.func, 1, 8, [.nilf]⟩
def ty136 : TyD := ⟨(.struct [(124, 0), (124, 1), (124, 2)]), 3, 12, [.int .u32 0, .int .u32 0, .int .u32 0]⟩
def ty137 : TyD := ⟨(.struct [(124, 0), (124, 1), (124, 2)]), 3, 12, [.int .u32 0, .int .u32 0, .int .u32 0]⟩
def ty138 : TyD := ⟨.func, 1, 8, [.nilf]⟩
def ty139 : TyD := ⟨.func, 1, 8, [.nilf]⟩
def ty140 : TyD := ⟨(.ptr 142), 1, 8, [.nilp]⟩
def ty141 : TyD := ⟨(.struct [(140, 0), (33, 1)]), 2, 32, [.nilp, .nils]⟩
def ty142 : TyD := ⟨(.struct [(140, 0), (33, 1)]), 2, 32, [.nilp, .nils]⟩
def ty143 : TyD := ⟨.func, 1, 8, [.nilf]⟩
def ty144 : TyD := ⟨.iface, 1, 16, [.nili]⟩
def ty145 : TyD := ⟨.iface, 1, 16, [.nili]⟩
def ty147 : TyD := ⟨.func, 1, 8, [.nilf]⟩
def ty149 : TyD := ⟨.func, 1, 8, [.nilf]⟩
def ty150 : TyD := ⟨(.ptr 134), 1, 8, [.nilp]⟩
def ty151 : TyD := ⟨(.ptr 137), 1, 8, [.nilp]⟩
def ty152 : TyD := ⟨.func, 1, 8, [.nilf]⟩
def ty153 : TyD := ⟨(.ptr 5), 1, 8, [.nilp]⟩
def ty154 : TyD := ⟨.uptr, 1, 8, [.nilp]⟩
def ty155 : TyD := ⟨.func, 1, 8, [.nilf]⟩
def ty156 : TyD := ⟨.func, 1, 8, [.nilf]⟩
def ty157 : TyD := ⟨.func, 1, 8, [.nilf]⟩
def ty158 : TyD := ⟨(.struct [(5, 0), (5, 1)]), 2, 2, [.int .u8 0, .int .u8 0]⟩
def ty159 : TyD := ⟨(.struct [(5, 0), (5, 1)]), 2, 2, [.int .u8 0, .int .u8 0]⟩
def ty160 : TyD := ⟨(.array 16 159), 32, 32, [.int .u8 0, .int .u8 0, .int .u8 0, .int .u8 0, .int .u8 0, .int .u8 0, .int .u8 0, .int .u8 0, .int .u8 0, .int .u8 0, .int .u8 0, .int .u8 0, .int .u8 0, .int .u8 0, .int .u8 0, .int .u8 0, .int .u8 0, .int .u8 0, .int .u8 0, .int .u8 0, .int .u8 0, .int .u8 0, .int .u8 0, .int .u8 0, .int .u8 0, .int .u8 0, .int .u8 0, .int .u8 0, .int .u8 0, .int .u8 0, .int .u8 0, .int .u8 0]⟩
def ty162 : TyD := ⟨.func, 1, 8, [.nilf]⟩
def ty163 : TyD := ⟨(.struct [(17, 0), (17, 1), (17, 2), (9, 3)]), 4, 40, [.nilp, .nilp, .nilp, .str []]⟩
def ty164 : TyD := ⟨(.struct [(17, 0), (17, 1), (17, 2), (9, 3)]), 4, 40, [.nilp, .nilp, .nilp, .str []]⟩
def ty165 : TyD := ⟨(.array 0 16), 0, 0, []⟩
def ty166 : TyD := ⟨(.struct [(165, 0)]), 0, 0, []⟩
def ty167 : TyD := ⟨(.struct [(165, 0)]), 0, 0, []⟩
def ty168 : TyD := ⟨(.int .u8), 1, 1, [.int .u8 0]⟩
def ty169 : TyD := ⟨(.int .u8), 1, 1, [.int .u8 0]⟩
def ty170 : TyD := ⟨.func, 1, 8, [.nilf]⟩
def ty171 : TyD := ⟨(.int .i32), 1, 4, [.int .i32 0]⟩
def ty172 : TyD := ⟨(.int .i32), 1, 4, [.int .i32 0]⟩
def ty173 : TyD := ⟨(.struct [(12, 0), (12, 1), (124, 2), (168, 3), (5, 4), (5, 5), (169, 6), (170, 7), (153, 8), (171, 9), (172, 10)]), 11, 48, [.int .u64 0, .int .u64 0, .int .u32 0, .int .u8 0, .int .u8 0, .int .u8 0, .int .u8 0, .nilf, .nilp, .int .i32 0, .int .i32 0]⟩
def ty174 : TyD := ⟨(.struct [(12, 0), (12, 1), (124, 2), (168, 3), (5, 4), (5, 5), (169, 6), (170, 7), (153, 8), (171, 9), (172, 10)]), 11, 48, [.int .u64 0, .int .u64 0, .int .u32 0, .int .u8 0, .int .u8 0, .int .u8 0, .int .u8 0, .nilf, .nilp, .int .i32 0, .int .i32 0]⟩
def tyT (t : TypeId) : Option TyD := bif Nat.ble 175 t then none else bif Nat.ble 87 t then (bif Nat.ble 130 t then (bif Nat.ble 153 t then (bif Nat.ble 164 t then (bif Nat.ble 169 t then (bif Nat.ble 172 t then (bif Nat.ble 173 t then (bif Nat.ble 174 t then (bif Nat.beq t 174 then some ty174 else none) else (bif Nat.beq t 173 then some ty173 else none)) else (bif Nat.beq t 172 then some ty172 else none)) else (bif Nat.ble 170 t then (bif Nat.ble 171 t then (bif Nat.beq t 171 then some ty171 else none) else (bif Nat.beq t 170 then some ty170 else none)) else (bif Nat.beq t 169 then some ty169 else none))) else (bif Nat.ble 166 t then (bif Nat.ble 167 t then (bif Nat.ble 168 t then (bif Nat.beq t 168 then some ty168 else none) else (bif Nat.beq t 167 then some ty167 else none)) else (bif Nat.beq t 166 then some ty166 else none)) else (bif Nat.ble 165 t then (bif Nat.beq t 165 then some ty165 else none) else (bif Nat.beq t 164 then some ty164 else none)))) else (bif Nat.ble 158 t then (bif Nat.ble 160 t then (bif Nat.ble 162 t then (bif Nat.ble 163 t then (bif Nat.beq t 163 then some ty163 else none) else (bif Nat.beq t 162 then some ty162 else none)) else (bif Nat.beq t 160 then some ty160 else none)) else (bif Nat.ble 159 t then (bif Nat.beq t 159 then some ty159 else none) else (bif Nat.beq t 158 then some ty158 else none))) else (bif Nat.ble 155 t then (bif Nat.ble 156 t then (bif Nat.ble 157 t then (bif Nat.beq t 157 then some ty157 else none) else (bif Nat.beq t 156 then some ty156 else none)) else (bif Nat.beq t 155 then some ty155 else none)) else (bif Nat.ble 154 t then (bif Nat.beq t 154 then some ty154 else none) else (bif Nat.beq t 153 then some ty153 else none))))) else (bif Nat.ble 140 t then (bif Nat.ble 145 t then (bif Nat.ble 150 t then (bif Nat.ble 151 t then (bif Nat.ble 152 t then (bif Nat.beq t 152 then some ty152 else none) else (bif Nat.beq t 151 then some ty151 else none)) else (bif Nat.beq t 150 then some ty150 else none)) else (bif Nat.ble 147 t then (bif Nat.ble 149 t then (bif Nat.beq t 149 then some ty149 else none) else (bif Nat.beq t 147 then some ty147 else none)) else (bif Nat.beq t 145 then some ty145 else none))) else (bif Nat.ble 142 t then (bif Nat.ble 143 t then (bif Nat.ble 144 t then (bif Nat.beq t 144 then some ty144 else none) else (bif Nat.beq t 143 then some ty143 else none)) else (bif Nat.beq t 142 then some ty142 else none)) else (bif Nat.ble 141 t then (bif Nat.beq t 141 then some ty141 else none) else (bif Nat.beq t 140 then some ty140 else none)))) else (bif Nat.ble 135 t then (bif Nat.ble 137 t then (bif Nat.ble 138 t then (bif Nat.ble 139 t then (bif Nat.beq t 139 then some ty139 else none) else (bif Nat.beq t 138 then some ty138 else none)) else (bif Nat.beq t 137 then some ty137 else none)) else (bif Nat.ble 136 t then (bif Nat.beq t 136 then some ty136 else none) else (bif Nat.beq t 135 then some ty135 else none))) else (bif Nat.ble 132 t then (bif Nat.ble 133 t then (bif Nat.ble 134 t then (bif Nat.beq t 134 then some ty134 else none) else (bif Nat.beq t 133 then some ty133 else none)) else (bif Nat.beq t 132 then some ty132 else none)) else (bif Nat.ble 131 t then (bif Nat.beq t 131 then some ty131 else none) else (bif Nat.beq t 130 then some ty130 else none)))))) else (bif Nat.ble 108 t then (bif Nat.ble 119 t then (bif Nat.ble 124 t then (bif Nat.ble 127 t then (bif Nat.ble 128 t then (bif Nat.ble 129 t then (bif Nat.beq t 129 then some ty129 else none) else (bif Nat.beq t 128 then some ty128 else none)) else (bif Nat.beq t 127 then some ty127 else none)) else (bif Nat.ble 125 t then (bif Nat.ble 126 t then (bif Nat.beq t 126 then some ty126 else none) else (bif Nat.beq t 125 then some ty125 else none)) else (bif Nat.beq t 124 then some ty124 else none))) else (bif Nat.ble 121 t then (bif Nat.ble 122 t then (bif Nat.ble 123 t then (bif Nat.beq t 123 then some ty123 else none) else (bif Nat.beq t 122 then some ty122 else none)) else (bif Nat.beq t 121 then some ty121 else none)) else (bif Nat.ble 120 t then (bif Nat.beq t 120 then some ty120 else none) else (bif Nat.beq t 119 then some ty119 else none)))) else (bif Nat.ble 114 t then (bif Nat.ble 116 t then (bif Nat.ble 117 t then (bif Nat.ble 118 t then (bif Nat.beq t 118 then some ty118 else none) else (bif Nat.beq t 117 then some ty117 else none)) else (bif Nat.beq t 116 then some ty116 else none)) else (bif Nat.ble 115 t then (bif Nat.beq t 115 then some ty115 else none) else (bif Nat.beq t 114 then some ty114 else none))) else (bif Nat.ble 110 t then (bif Nat.ble 112 t then (bif Nat.ble 113 t then (bif Nat.beq t 113 then some ty113 else none) else (bif Nat.beq t 112 then some ty112 else none)) else (bif Nat.beq t 110 then some ty110 else none)) else (bif Nat.ble 109 t then (bif Nat.beq t 109 then some ty109 else none) else (bif Nat.beq t 108 then some ty108 else none))))) else (bif Nat.ble 98 t then (bif Nat.ble 103 t then (bif Nat.ble 105 t then (bif Nat.ble 106 t then (bif Nat.ble 107 t then (bif Nat.beq t 107 then some ty107 else none) else (bif Nat.beq t 106 then some ty106 else none)) else (bif Nat.beq t 105 then some ty105 else none)) else (bif Nat.ble 104 t then (bif Nat.beq t 104 then some ty104 else none) else (bif Nat.beq t 103 then some ty103 else none))) else (bif Nat.ble 100 t then (bif Nat.ble 101 t then (bif Nat.ble 102 t then (bif Nat.beq t 102 then some ty102 else none) else (bif Nat.beq t 101 then some ty101 else none)) else (bif Nat.beq t 100 then some ty100 else none)) else (bif Nat.ble 99 t then (bif Nat.beq t 99 then some ty99 else none) else (bif Nat.beq t 98 then some ty98 else none)))) else (bif Nat.ble 92 t then (bif Nat.ble 94 t then (bif Nat.ble 95 t then (bif Nat.ble 97 t then (bif Nat.beq t 97 then some ty97 else none) else (bif Nat.beq t 95 then some ty95 else none)) else (bif Nat.beq t 94 then some ty94 else none)) else (bif Nat.ble 93 t then (bif Nat.beq t 93 then some ty93 else none) else (bif Nat.beq t 92 then some ty92 else none))) else (bif Nat.ble 89 t then (bif Nat.ble 90 t then (bif Nat.ble 91 t then (bif Nat.beq t 91 then some ty91 else none) else (bif Nat.beq t 90 then some ty90 else none)) else (bif Nat.beq t 89 then some ty89 else none)) else (bif Nat.ble 88 t then (bif Nat.beq t 88 then some ty88 else none) else (bif Nat.beq t 87 then some ty87 else none))))))) else (bif Nat.ble 45 t then (bif Nat.ble 66 t then (bif Nat.ble 76 t then (bif Nat.ble 81 t then (bif Nat.ble 84 t then (bif Nat.ble 85 t then (bif Nat.ble 86 t then (bif Nat.beq t 86 then some ty86 else none) else (bif Nat.beq t 85 then some ty85 else none)) else (bif Nat.beq t 84 then some ty84 else none)) else (bif Nat.ble 82 t then (bif Nat.ble 83 t then (bif Nat.beq t 83 then some ty83 else none) else (bif Nat.beq t 82 then some ty82 else none)) else (bif Nat.beq t 81 then some ty81 else none))) else (bif Nat.ble 78 t then (bif Nat.ble 79 t then (bif Nat.ble 80 t then (bif Nat.beq t 80 then some ty80 else none) else (bif Nat.beq t 79 then some ty79 else none)) else (bif Nat.beq t 78 then some ty78 else none)) else (bif Nat.ble 77 t then (bif Nat.beq t 77 then some ty77 else none) else (bif Nat.beq t 76 then some ty76 else none)))) else (bif Nat.ble 71 t then (bif Nat.ble 73 t then (bif Nat.ble 74 t then (bif Nat.ble 75 t then (bif Nat.beq t 75 then some ty75 else none) else (bif Nat.beq t 74 then some ty74 else none)) else (bif Nat.beq t 73 then some ty73 else none)) else (bif Nat.ble 72 t then (bif Nat.beq t 72 then some ty72 else none) else (bif Nat.beq t 71 then some ty71 else none))) else (bif Nat.ble 68 t then (bif Nat.ble 69 t then (bif Nat.ble 70 t then (bif Nat.beq t 70 then some ty70 else none) else (bif Nat.beq t 69 then some ty69 else none)) else (bif Nat.beq t 68 then some ty68 else none)) else (bif Nat.ble 67 t then (bif Nat.beq t 67 then some ty67 else none) else (bif Nat.beq t 66 then some ty66 else none))))) else (bif Nat.ble 56 t then (bif Nat.ble 61 t then (bif Nat.ble 63 t then (bif Nat.ble 64 t then (bif Nat.ble 65 t then (bif Nat.beq t 65 then some ty65 else none) else (bif Nat.beq t 64 then some ty64 else none)) else (bif Nat.beq t 63 then some ty63 else none)) else (bif Nat.ble 62 t then (bif Nat.beq t 62 then some ty62 else none) else (bif Nat.beq t 61 then some ty61 else none))) else (bif Nat.ble 58 t then (bif Nat.ble 59 t then (bif Nat.ble 60 t then (bif Nat.beq t 60 then some ty60 else none) else (bif Nat.beq t 59 then some ty59 else none)) else (bif Nat.beq t 58 then some ty58 else none)) else (bif Nat.ble 57 t then (bif Nat.beq t 57 then some ty57 else none) else (bif Nat.beq t 56 then some ty56 else none)))) else (bif Nat.ble 51 t then (bif Nat.ble 53 t then (bif Nat.ble 54 t then (bif Nat.ble 55 t then (bif Nat.beq t 55 then some ty55 else none) else (bif Nat.beq t 54 then some ty54 else none)) else (bif Nat.beq t 53 then some ty53 else none)) else (bif Nat.ble 52 t then (bif Nat.beq t 52 then some ty52 else none) else (bif Nat.beq t 51 then some ty51 else none))) else (bif Nat.ble 47 t then (bif Nat.ble 49 t then (bif Nat.ble 50 t then (bif Nat.beq t 50 then some ty50 else none) else (bif Nat.beq t 49 then some ty49 else none)) else (bif Nat.beq t 47 then some ty47 else none)) else (bif Nat.ble 46 t then (bif Nat.beq t 46 then some ty46 else none) else (bif Nat.beq t 45 then some ty45 else none)))))) else (bif Nat.ble 21 t then (bif Nat.ble 33 t then (bif Nat.ble 38 t then (bif Nat.ble 41 t then (bif Nat.ble 42 t then (bif Nat.ble 44 t then (bif Nat.beq t 44 then some ty44 else none) else (bif Nat.beq t 42 then some ty42 else none)) else (bif Nat.beq t 41 then some ty41 else none)) else (bif Nat.ble 39 t then (bif Nat.ble 40 t then (bif Nat.beq t 40 then some ty40 else none) else (bif Nat.beq t 39 then some ty39 else none)) else (bif Nat.beq t 38 then some ty38 else none))) else (bif Nat.ble 35 t then (bif Nat.ble 36 t then (bif Nat.ble 37 t then (bif Nat.beq t 37 then some ty37 else none) else (bif Nat.beq t 36 then some ty36 else none)) else (bif Nat.beq t 35 then some ty35 else none)) else (bif Nat.ble 34 t then (bif Nat.beq t 34 then some ty34 else none) else (bif Nat.beq t 33 then some ty33 else none)))) else (bif Nat.ble 28 t then (bif Nat.ble 30 t then (bif Nat.ble 31 t then (bif Nat.ble 32 t then (bif Nat.beq t 32 then some ty32 else none) else (bif Nat.beq t 31 then some ty31 else none)) else (bif Nat.beq t 30 then some ty30 else none)) else (bif Nat.ble 29 t then (bif Nat.beq t 29 then some ty29 else none) else (bif Nat.beq t 28 then some ty28 else none))) else (bif Nat.ble 23 t then (bif Nat.ble 25 t then (bif Nat.ble 27 t then (bif Nat.beq t 27 then some ty27 else none) else (bif Nat.beq t 25 then some ty25 else none)) else (bif Nat.beq t 23 then some ty23 else none)) else (bif Nat.ble 22 t then (bif Nat.beq t 22 then some ty22 else none) else (bif Nat.beq t 21 then some ty21 else none))))) else (bif Nat.ble 11 t then (bif Nat.ble 16 t then (bif Nat.ble 18 t then (bif Nat.ble 19 t then (bif Nat.ble 20 t then (bif Nat.beq t 20 then some ty20 else none) else (bif Nat.beq t 19 then some ty19 else none)) else (bif Nat.beq t 18 then some ty18 else none)) else (bif Nat.ble 17 t then (bif Nat.beq t 17 then some ty17 else none) else (bif Nat.beq t 16 then some ty16 else none))) else (bif Nat.ble 13 t then (bif Nat.ble 14 t then (bif Nat.ble 15 t then (bif Nat.beq t 15 then some ty15 else none) else (bif Nat.beq t 14 then some ty14 else none)) else (bif Nat.beq t 13 then some ty13 else none)) else (bif Nat.ble 12 t then (bif Nat.beq t 12 then some ty12 else none) else (bif Nat.beq t 11 then some ty11 else none)))) else (bif Nat.ble 6 t then (bif Nat.ble 8 t then (bif Nat.ble 9 t then (bif Nat.ble 10 t then (bif Nat.beq t 10 then some ty10 else none) else (bif Nat.beq t 9 then some ty9 else none)) else (bif Nat.beq t 8 then some ty8 else none)) else (bif Nat.ble 7 t then (bif Nat.beq t 7 then some ty7 else none) else (bif Nat.beq t 6 then some ty6 else none))) else (bif Nat.ble 3 t then (bif Nat.ble 4 t then (bif Nat.ble 5 t then (bif Nat.beq t 5 then some ty5 else none) else (bif Nat.beq t 4 then some ty4 else none)) else (bif Nat.beq t 3 then some ty3 else none)) else (bif Nat.ble 2 t then (bif Nat.beq t 2 then some ty2 else none) else (bif Nat.beq t 1 then some ty1 else none)))))))
def tyL : List TypeId := List.range 175
theorem tyL_ok : (tyL.all fun t => match tyT t with | some d => tyOkB Tryd.prog t d | none => true) = true := by kernel_rfl
theorem tyT_in (t : TypeId) (d : TyD) (h : tyT t = some d) : t ∈ tyL := by
  unfold tyT at h
  rw [cond_eq_ite] at h
  split at h
  · cases h
  · rename_i e
    exact List.mem_range.2 (Nat.lt_of_not_le fun q => e (Nat.ble_eq_true_of_le q))
theorem tyT_ok (t : TypeId) (d : TyD) (h : tyT t = some d) : TyOk Tryd.prog t d := by
  have := List.all_eq_true.1 tyL_ok t (tyT_in t d h)
  rw [h] at this
  exact tyOk_of this
def mdT (t : FuncId) : Sb.Mode := bif Nat.ble 17 t then (bif Nat.ble 88 t then (bif Nat.ble 91 t then (bif Nat.ble 92 t then (bif Nat.beq t 92 then .shared else .own) else (bif Nat.beq t 91 then .shared else .own)) else (bif Nat.beq t 88 then .shared else .own)) else (bif Nat.ble 84 t then (bif Nat.ble 86 t then (bif Nat.beq t 86 then .shared else .own) else (bif Nat.beq t 84 then .shared else .own)) else (bif Nat.beq t 17 then .shared else .own))) else (bif Nat.ble 13 t then (bif Nat.ble 15 t then (bif Nat.ble 16 t then (bif Nat.beq t 16 then .shared else .own) else (bif Nat.beq t 15 then .shared else .own)) else (bif Nat.beq t 13 then .shared else .own)) else (bif Nat.ble 12 t then (bif Nat.beq t 12 then .shared else .own) else (bif Nat.beq t 11 then .shared else .own)))
/-- seedbed/seedbedlaw13.PackCounted -/
noncomputable def fn3 : FnD := fnDof Tryd.f3 mdT
/-- seedbed/seedbedlaw13.PackSums -/
noncomputable def fn4 : FnD := fnDof Tryd.f4 mdT
/-- seedbed/seedbedlaw13.mod -/
noncomputable def fn5 : FnD := fnDof Tryd.f5 mdT
/-- seedbed/pack.Number -/
noncomputable def fn6 : FnD := fnDof Tryd.f6 mdT
/-- seedbed/pack.ReadNumber -/
noncomputable def fn7 : FnD := fnDof Tryd.f7 mdT
/-- seedbed/seedbedlaw13.awake -/
noncomputable def fn8 : FnD := fnDof Tryd.f8 mdT
/-- seedbed/pack.Sum -/
noncomputable def fn9 : FnD := fnDof Tryd.f9 mdT
/-- seedbed/pack.number -/
noncomputable def fn10 : FnD := fnDof Tryd.f10 mdT
/-- seedbed/pack.ReadNumber$1 -/
noncomputable def fn12 : FnD := fnDof Tryd.f12 mdT
/-- (*seedbed/pack.reader).number -/
noncomputable def fn13 : FnD := fnDof Tryd.f13 mdT
/-- seedbed/pack.Unpack -/
noncomputable def fn14 : FnD := fnDof Tryd.f14 mdT
/-- seedbed/pack.guarded$1 -/
noncomputable def fn15 : FnD := fnDof Tryd.f15 mdT
/-- (*seedbed/pack.reader).next -/
noncomputable def fn16 : FnD := fnDof Tryd.f16 mdT
/-- (*seedbed/pack.reader).demand -/
noncomputable def fn17 : FnD := fnDof Tryd.f17 mdT
/-- seedbed/pack.Damage -/
noncomputable def fn18 : FnD := fnDof Tryd.f18 mdT
/-- seedbed/pack.opened -/
noncomputable def fn19 : FnD := fnDof Tryd.f19 mdT
/-- slices.Equal[[]byte,byte] -/
noncomputable def fn20 : FnD := fnDof Tryd.f20 mdT
/-- seedbed/pack.sealed -/
noncomputable def fn21 : FnD := fnDof Tryd.f21 mdT
/-- seedbed/pack.opened$1 -/
noncomputable def fn22 : FnD := fnDof Tryd.f22 mdT
/-- seedbed/pack.read[seedbed/api.FnCode] -/
noncomputable def fn23 : FnD := fnDof Tryd.f23 mdT
/-- (*seedbed/pack.reader).function -/
noncomputable def fn24 : FnD := fnDof Tryd.f24 mdT
/-- seedbed/code.Check -/
noncomputable def fn25 : FnD := fnDof Tryd.f25 mdT
/-- seedbed/pack.packed -/
noncomputable def fn26 : FnD := fnDof Tryd.f26 mdT
/-- (*seedbed/pack.reader).text -/
noncomputable def fn27 : FnD := fnDof Tryd.f27 mdT
/-- seedbed/pack.read[seedbed/api.Instr] -/
noncomputable def fn28 : FnD := fnDof Tryd.f28 mdT
/-- (*seedbed/pack.reader).instr -/
noncomputable def fn29 : FnD := fnDof Tryd.f29 mdT
/-- seedbed/pack.read[seedbed/api.Guard] -/
noncomputable def fn30 : FnD := fnDof Tryd.f30 mdT
/-- (*seedbed/pack.reader).guard -/
noncomputable def fn31 : FnD := fnDof Tryd.f31 mdT
/-- seedbed/code.within -/
noncomputable def fn32 : FnD := fnDof Tryd.f32 mdT
/-- slices.ContainsFunc[[]seedbed/api.FnCode,seedbed/api.FnCode] -/
noncomputable def fn33 : FnD := fnDof Tryd.f33 mdT
/-- seedbed/code.Check$1 -/
noncomputable def fn34 : FnD := fnDof Tryd.f34 mdT
/-- (seedbed/code.checker).function -/
noncomputable def fn35 : FnD := fnDof Tryd.f35 mdT
/-- seedbed/pack.list[seedbed/api.FnCode] -/
noncomputable def fn36 : FnD := fnDof Tryd.f36 mdT
/-- seedbed/pack.function -/
noncomputable def fn37 : FnD := fnDof Tryd.f37 mdT
/-- (*seedbed/pack.reader).integer -/
noncomputable def fn38 : FnD := fnDof Tryd.f38 mdT
/-- seedbed/pack.read[int] -/
noncomputable def fn39 : FnD := fnDof Tryd.f39 mdT
/-- slices.IndexFunc[[]seedbed/api.FnCode,seedbed/api.FnCode] -/
noncomputable def fn40 : FnD := fnDof Tryd.f40 mdT
/-- seedbed/lexis.IsName -/
noncomputable def fn41 : FnD := fnDof Tryd.f41 mdT
/-- (seedbed/code.checker).instr -/
noncomputable def fn42 : FnD := fnDof Tryd.f42 mdT
/-- seedbed/code.Arms -/
noncomputable def fn43 : FnD := fnDof Tryd.f43 mdT
/-- seedbed/code.Goes -/
noncomputable def fn44 : FnD := fnDof Tryd.f44 mdT
/-- slices.ContainsFunc[[]seedbed/api.Guard,seedbed/api.Guard] -/
noncomputable def fn45 : FnD := fnDof Tryd.f45 mdT
/-- (seedbed/code.checker).function$1 -/
noncomputable def fn46 : FnD := fnDof Tryd.f46 mdT
/-- (seedbed/code.checker).guard -/
noncomputable def fn47 : FnD := fnDof Tryd.f47 mdT
/-- seedbed/pack.text -/
noncomputable def fn48 : FnD := fnDof Tryd.f48 mdT
/-- seedbed/pack.list[seedbed/api.Instr] -/
noncomputable def fn49 : FnD := fnDof Tryd.f49 mdT
/-- seedbed/pack.instr -/
noncomputable def fn50 : FnD := fnDof Tryd.f50 mdT
/-- seedbed/pack.list[seedbed/api.Guard] -/
noncomputable def fn51 : FnD := fnDof Tryd.f51 mdT
/-- seedbed/pack.guard -/
noncomputable def fn52 : FnD := fnDof Tryd.f52 mdT
/-- seedbed/lexis.isRun -/
noncomputable def fn53 : FnD := fnDof Tryd.f53 mdT
/-- seedbed/lexis.IsWord -/
noncomputable def fn54 : FnD := fnDof Tryd.f54 mdT
/-- seedbed/code.forms -/
noncomputable def fn55 : FnD := fnDof Tryd.f55 mdT
/-- (seedbed/code.checker).field -/
noncomputable def fn56 : FnD := fnDof Tryd.f56 mdT
/-- seedbed/eval.Valid -/
noncomputable def fn57 : FnD := fnDof Tryd.f57 mdT
/-- slices.ContainsFunc[[]int,int] -/
noncomputable def fn58 : FnD := fnDof Tryd.f58 mdT
/-- (seedbed/code.checker).instr$1 -/
noncomputable def fn59 : FnD := fnDof Tryd.f59 mdT
/-- (seedbed/code.checker).params -/
noncomputable def fn60 : FnD := fnDof Tryd.f60 mdT
/-- (seedbed/code.checker).ask -/
noncomputable def fn61 : FnD := fnDof Tryd.f61 mdT
/-- slices.IndexFunc[[]seedbed/api.Guard,seedbed/api.Guard] -/
noncomputable def fn62 : FnD := fnDof Tryd.f62 mdT
/-- seedbed/pack.integer -/
noncomputable def fn63 : FnD := fnDof Tryd.f63 mdT
/-- seedbed/pack.list[int] -/
noncomputable def fn64 : FnD := fnDof Tryd.f64 mdT
/-- seedbed/lexis.isLetter -/
noncomputable def fn65 : FnD := fnDof Tryd.f65 mdT
/-- seedbed/lexis.isDigit -/
noncomputable def fn66 : FnD := fnDof Tryd.f66 mdT
/-- slices.Contains[[]string,string] -/
noncomputable def fn67 : FnD := fnDof Tryd.f67 mdT
/-- seedbed/lexis.words -/
noncomputable def fn68 : FnD := fnDof Tryd.f68 mdT
/-- seedbed/eval.isText -/
noncomputable def fn69 : FnD := fnDof Tryd.f69 mdT
/-- slices.IndexFunc[[]int,int] -/
noncomputable def fn70 : FnD := fnDof Tryd.f70 mdT
/-- seedbed/code.asks -/
noncomputable def fn71 : FnD := fnDof Tryd.f71 mdT
/-- slices.Index[[]string,string] -/
noncomputable def fn72 : FnD := fnDof Tryd.f72 mdT
/-- strings.Fields -/
noncomputable def fn73 : FnD := fnDof Tryd.f73 mdT
/-- seedbed/lexis.Quote -/
noncomputable def fn74 : FnD := fnDof Tryd.f74 mdT
/-- strings.FieldsFunc -/
noncomputable def fn75 : FnD := fnDof Tryd.f75 mdT
/-- unicode.IsSpace -/
noncomputable def fn76 : FnD := fnDof Tryd.f76 mdT
/-- seedbed/lexis.isText -/
noncomputable def fn77 : FnD := fnDof Tryd.f77 mdT
/-- strings.ReplaceAll -/
noncomputable def fn78 : FnD := fnDof Tryd.f78 mdT
/-- unicode.isExcludingLatin -/
noncomputable def fn79 : FnD := fnDof Tryd.f79 mdT
/-- strings.Replace -/
noncomputable def fn80 : FnD := fnDof Tryd.f80 mdT
/-- unicode.is16 -/
noncomputable def fn81 : FnD := fnDof Tryd.f81 mdT
/-- unicode.is32 -/
noncomputable def fn82 : FnD := fnDof Tryd.f82 mdT
/-- strings.Count -/
noncomputable def fn83 : FnD := fnDof Tryd.f83 mdT
/-- (*strings.Builder).Grow -/
noncomputable def fn84 : FnD := fnDof Tryd.f84 mdT
/-- strings.Index -/
noncomputable def fn85 : FnD := fnDof Tryd.f85 mdT
/-- (*strings.Builder).WriteString -/
noncomputable def fn86 : FnD := fnDof Tryd.f86 mdT
/-- unicode/utf8.DecodeRuneInString -/
noncomputable def fn87 : FnD := fnDof Tryd.f87 mdT
/-- (*strings.Builder).String -/
noncomputable def fn88 : FnD := fnDof Tryd.f88 mdT
/-- unicode/utf8.RuneCountInString -/
noncomputable def fn89 : FnD := fnDof Tryd.f89 mdT
/-- (*strings.Builder).copyCheck -/
noncomputable def fn91 : FnD := fnDof Tryd.f91 mdT
/-- (*strings.Builder).grow -/
noncomputable def fn92 : FnD := fnDof Tryd.f92 mdT
/-- internal/stringslite.Index -/
noncomputable def fn93 : FnD := fnDof Tryd.f93 mdT
/-- unicode/utf8.decodeRuneInStringSlow -/
noncomputable def fn94 : FnD := fnDof Tryd.f94 mdT
/-- internal/stringslite.IndexByte -/
noncomputable def fn97 : FnD := fnDof Tryd.f97 mdT
/-- internal/bytealg.Cutover -/
noncomputable def fn99 : FnD := fnDof Tryd.f99 mdT
noncomputable def fnT0 (t : FuncId) : Option FnD := bif Nat.ble 20 t then (bif Nat.ble 28 t then (bif Nat.ble 32 t then (bif Nat.ble 34 t then (bif Nat.ble 35 t then (bif Nat.beq t 35 then some fn35 else none) else (bif Nat.beq t 34 then some fn34 else none)) else (bif Nat.ble 33 t then (bif Nat.beq t 33 then some fn33 else none) else (bif Nat.beq t 32 then some fn32 else none))) else (bif Nat.ble 30 t then (bif Nat.ble 31 t then (bif Nat.beq t 31 then some fn31 else none) else (bif Nat.beq t 30 then some fn30 else none)) else (bif Nat.ble 29 t then (bif Nat.beq t 29 then some fn29 else none) else (bif Nat.beq t 28 then some fn28 else none)))) else (bif Nat.ble 24 t then (bif Nat.ble 26 t then (bif Nat.ble 27 t then (bif Nat.beq t 27 then some fn27 else none) else (bif Nat.beq t 26 then some fn26 else none)) else (bif Nat.ble 25 t then (bif Nat.beq t 25 then some fn25 else none) else (bif Nat.beq t 24 then some fn24 else none))) else (bif Nat.ble 22 t then (bif Nat.ble 23 t then (bif Nat.beq t 23 then some fn23 else none) else (bif Nat.beq t 22 then some fn22 else none)) else (bif Nat.ble 21 t then (bif Nat.beq t 21 then some fn21 else none) else (bif Nat.beq t 20 then some fn20 else none))))) else (bif Nat.ble 12 t then (bif Nat.ble 16 t then (bif Nat.ble 18 t then (bif Nat.ble 19 t then (bif Nat.beq t 19 then some fn19 else none) else (bif Nat.beq t 18 then some fn18 else none)) else (bif Nat.ble 17 t then (bif Nat.beq t 17 then some fn17 else none) else (bif Nat.beq t 16 then some fn16 else none))) else (bif Nat.ble 14 t then (bif Nat.ble 15 t then (bif Nat.beq t 15 then some fn15 else none) else (bif Nat.beq t 14 then some fn14 else none)) else (bif Nat.ble 13 t then (bif Nat.beq t 13 then some fn13 else none) else (bif Nat.beq t 12 then some fn12 else none)))) else (bif Nat.ble 7 t then (bif Nat.ble 9 t then (bif Nat.ble 10 t then (bif Nat.beq t 10 then some fn10 else none) else (bif Nat.beq t 9 then some fn9 else none)) else (bif Nat.ble 8 t then (bif Nat.beq t 8 then some fn8 else none) else (bif Nat.beq t 7 then some fn7 else none))) else (bif Nat.ble 5 t then (bif Nat.ble 6 t then (bif Nat.beq t 6 then some fn6 else none) else (bif Nat.beq t 5 then some fn5 else none)) else (bif Nat.ble 4 t then (bif Nat.beq t 4 then some fn4 else none) else (bif Nat.beq t 3 then some fn3 else none)))))
theorem fnT0_ok (f : FuncId) (d : FnD) (h : fnT0 f = some d) : FnOk Tryd.prog f d := by
  unfold fnT0 at h
  simp only [cond_eq_ite] at h
  repeat' split at h
  all_goals first | exact (none_no h).elim | skip
  · rename_i e; have e := Nat.eq_of_beq_eq_true e; subst e; cases h; exact fnOk_of Tryd.func35 (by kernel_rfl) (by kernel_rfl)
  · rename_i e; have e := Nat.eq_of_beq_eq_true e; subst e; cases h; exact fnOk_of Tryd.func34 (by kernel_rfl) (by kernel_rfl)
  · rename_i e; have e := Nat.eq_of_beq_eq_true e; subst e; cases h; exact fnOk_of Tryd.func33 (by kernel_rfl) (by kernel_rfl)
  · rename_i e; have e := Nat.eq_of_beq_eq_true e; subst e; cases h; exact fnOk_of Tryd.func32 (by kernel_rfl) (by kernel_rfl)
  · rename_i e; have e := Nat.eq_of_beq_eq_true e; subst e; cases h; exact fnOk_of Tryd.func31 (by kernel_rfl) (by kernel_rfl)
  · rename_i e; have e := Nat.eq_of_beq_eq_true e; subst e; cases h; exact fnOk_of Tryd.func30 (by kernel_rfl) (by kernel_rfl)
  · rename_i e; have e := Nat.eq_of_beq_eq_true e; subst e; cases h; exact fnOk_of Tryd.func29 (by kernel_rfl) (by kernel_rfl)
  · rename_i e; have e := Nat.eq_of_beq_eq_true e; subst e; cases h; exact fnOk_of Tryd.func28 (by kernel_rfl) (by kernel_rfl)
  · rename_i e; have e := Nat.eq_of_beq_eq_true e; subst e; cases h; exact fnOk_of Tryd.func27 (by kernel_rfl) (by kernel_rfl)
  · rename_i e; have e := Nat.eq_of_beq_eq_true e; subst e; cases h; exact fnOk_of Tryd.func26 (by kernel_rfl) (by kernel_rfl)
  · rename_i e; have e := Nat.eq_of_beq_eq_true e; subst e; cases h; exact fnOk_of Tryd.func25 (by kernel_rfl) (by kernel_rfl)
  · rename_i e; have e := Nat.eq_of_beq_eq_true e; subst e; cases h; exact fnOk_of Tryd.func24 (by kernel_rfl) (by kernel_rfl)
  · rename_i e; have e := Nat.eq_of_beq_eq_true e; subst e; cases h; exact fnOk_of Tryd.func23 (by kernel_rfl) (by kernel_rfl)
  · rename_i e; have e := Nat.eq_of_beq_eq_true e; subst e; cases h; exact fnOk_of Tryd.func22 (by kernel_rfl) (by kernel_rfl)
  · rename_i e; have e := Nat.eq_of_beq_eq_true e; subst e; cases h; exact fnOk_of Tryd.func21 (by kernel_rfl) (by kernel_rfl)
  · rename_i e; have e := Nat.eq_of_beq_eq_true e; subst e; cases h; exact fnOk_of Tryd.func20 (by kernel_rfl) (by kernel_rfl)
  · rename_i e; have e := Nat.eq_of_beq_eq_true e; subst e; cases h; exact fnOk_of Tryd.func19 (by kernel_rfl) (by kernel_rfl)
  · rename_i e; have e := Nat.eq_of_beq_eq_true e; subst e; cases h; exact fnOk_of Tryd.func18 (by kernel_rfl) (by kernel_rfl)
  · rename_i e; have e := Nat.eq_of_beq_eq_true e; subst e; cases h; exact fnOk_of Tryd.func17 (by kernel_rfl) (by kernel_rfl)
  · rename_i e; have e := Nat.eq_of_beq_eq_true e; subst e; cases h; exact fnOk_of Tryd.func16 (by kernel_rfl) (by kernel_rfl)
  · rename_i e; have e := Nat.eq_of_beq_eq_true e; subst e; cases h; exact fnOk_of Tryd.func15 (by kernel_rfl) (by kernel_rfl)
  · rename_i e; have e := Nat.eq_of_beq_eq_true e; subst e; cases h; exact fnOk_of Tryd.func14 (by kernel_rfl) (by kernel_rfl)
  · rename_i e; have e := Nat.eq_of_beq_eq_true e; subst e; cases h; exact fnOk_of Tryd.func13 (by kernel_rfl) (by kernel_rfl)
  · rename_i e; have e := Nat.eq_of_beq_eq_true e; subst e; cases h; exact fnOk_of Tryd.func12 (by kernel_rfl) (by kernel_rfl)
  · rename_i e; have e := Nat.eq_of_beq_eq_true e; subst e; cases h; exact fnOk_of Tryd.func10 (by kernel_rfl) (by kernel_rfl)
  · rename_i e; have e := Nat.eq_of_beq_eq_true e; subst e; cases h; exact fnOk_of Tryd.func9 (by kernel_rfl) (by kernel_rfl)
  · rename_i e; have e := Nat.eq_of_beq_eq_true e; subst e; cases h; exact fnOk_of Tryd.func8 (by kernel_rfl) (by kernel_rfl)
  · rename_i e; have e := Nat.eq_of_beq_eq_true e; subst e; cases h; exact fnOk_of Tryd.func7 (by kernel_rfl) (by kernel_rfl)
  · rename_i e; have e := Nat.eq_of_beq_eq_true e; subst e; cases h; exact fnOk_of Tryd.func6 (by kernel_rfl) (by kernel_rfl)
  · rename_i e; have e := Nat.eq_of_beq_eq_true e; subst e; cases h; exact fnOk_of Tryd.func5 (by kernel_rfl) (by kernel_rfl)
  · rename_i e; have e := Nat.eq_of_beq_eq_true e; subst e; cases h; exact fnOk_of Tryd.func4 (by kernel_rfl) (by kernel_rfl)
  · rename_i e; have e := Nat.eq_of_beq_eq_true e; subst e; cases h; exact fnOk_of Tryd.func3 (by kernel_rfl) (by kernel_rfl)
noncomputable def fnT1 (t : FuncId) : Option FnD := bif Nat.ble 52 t then (bif Nat.ble 60 t then (bif Nat.ble 64 t then (bif Nat.ble 66 t then (bif Nat.ble 67 t then (bif Nat.beq t 67 then some fn67 else none) else (bif Nat.beq t 66 then some fn66 else none)) else (bif Nat.ble 65 t then (bif Nat.beq t 65 then some fn65 else none) else (bif Nat.beq t 64 then some fn64 else none))) else (bif Nat.ble 62 t then (bif Nat.ble 63 t then (bif Nat.beq t 63 then some fn63 else none) else (bif Nat.beq t 62 then some fn62 else none)) else (bif Nat.ble 61 t then (bif Nat.beq t 61 then some fn61 else none) else (bif Nat.beq t 60 then some fn60 else none)))) else (bif Nat.ble 56 t then (bif Nat.ble 58 t then (bif Nat.ble 59 t then (bif Nat.beq t 59 then some fn59 else none) else (bif Nat.beq t 58 then some fn58 else none)) else (bif Nat.ble 57 t then (bif Nat.beq t 57 then some fn57 else none) else (bif Nat.beq t 56 then some fn56 else none))) else (bif Nat.ble 54 t then (bif Nat.ble 55 t then (bif Nat.beq t 55 then some fn55 else none) else (bif Nat.beq t 54 then some fn54 else none)) else (bif Nat.ble 53 t then (bif Nat.beq t 53 then some fn53 else none) else (bif Nat.beq t 52 then some fn52 else none))))) else (bif Nat.ble 44 t then (bif Nat.ble 48 t then (bif Nat.ble 50 t then (bif Nat.ble 51 t then (bif Nat.beq t 51 then some fn51 else none) else (bif Nat.beq t 50 then some fn50 else none)) else (bif Nat.ble 49 t then (bif Nat.beq t 49 then some fn49 else none) else (bif Nat.beq t 48 then some fn48 else none))) else (bif Nat.ble 46 t then (bif Nat.ble 47 t then (bif Nat.beq t 47 then some fn47 else none) else (bif Nat.beq t 46 then some fn46 else none)) else (bif Nat.ble 45 t then (bif Nat.beq t 45 then some fn45 else none) else (bif Nat.beq t 44 then some fn44 else none)))) else (bif Nat.ble 40 t then (bif Nat.ble 42 t then (bif Nat.ble 43 t then (bif Nat.beq t 43 then some fn43 else none) else (bif Nat.beq t 42 then some fn42 else none)) else (bif Nat.ble 41 t then (bif Nat.beq t 41 then some fn41 else none) else (bif Nat.beq t 40 then some fn40 else none))) else (bif Nat.ble 38 t then (bif Nat.ble 39 t then (bif Nat.beq t 39 then some fn39 else none) else (bif Nat.beq t 38 then some fn38 else none)) else (bif Nat.ble 37 t then (bif Nat.beq t 37 then some fn37 else none) else (bif Nat.beq t 36 then some fn36 else none)))))
theorem fnT1_ok (f : FuncId) (d : FnD) (h : fnT1 f = some d) : FnOk Tryd.prog f d := by
  unfold fnT1 at h
  simp only [cond_eq_ite] at h
  repeat' split at h
  all_goals first | exact (none_no h).elim | skip
  · rename_i e; have e := Nat.eq_of_beq_eq_true e; subst e; cases h; exact fnOk_of Tryd.func67 (by kernel_rfl) (by kernel_rfl)
  · rename_i e; have e := Nat.eq_of_beq_eq_true e; subst e; cases h; exact fnOk_of Tryd.func66 (by kernel_rfl) (by kernel_rfl)
  · rename_i e; have e := Nat.eq_of_beq_eq_true e; subst e; cases h; exact fnOk_of Tryd.func65 (by kernel_rfl) (by kernel_rfl)
  · rename_i e; have e := Nat.eq_of_beq_eq_true e; subst e; cases h; exact fnOk_of Tryd.func64 (by kernel_rfl) (by kernel_rfl)
  · rename_i e; have e := Nat.eq_of_beq_eq_true e; subst e; cases h; exact fnOk_of Tryd.func63 (by kernel_rfl) (by kernel_rfl)
  · rename_i e; have e := Nat.eq_of_beq_eq_true e; subst e; cases h; exact fnOk_of Tryd.func62 (by kernel_rfl) (by kernel_rfl)
  · rename_i e; have e := Nat.eq_of_beq_eq_true e; subst e; cases h; exact fnOk_of Tryd.func61 (by kernel_rfl) (by kernel_rfl)
  · rename_i e; have e := Nat.eq_of_beq_eq_true e; subst e; cases h; exact fnOk_of Tryd.func60 (by kernel_rfl) (by kernel_rfl)
  · rename_i e; have e := Nat.eq_of_beq_eq_true e; subst e; cases h; exact fnOk_of Tryd.func59 (by kernel_rfl) (by kernel_rfl)
  · rename_i e; have e := Nat.eq_of_beq_eq_true e; subst e; cases h; exact fnOk_of Tryd.func58 (by kernel_rfl) (by kernel_rfl)
  · rename_i e; have e := Nat.eq_of_beq_eq_true e; subst e; cases h; exact fnOk_of Tryd.func57 (by kernel_rfl) (by kernel_rfl)
  · rename_i e; have e := Nat.eq_of_beq_eq_true e; subst e; cases h; exact fnOk_of Tryd.func56 (by kernel_rfl) (by kernel_rfl)
  · rename_i e; have e := Nat.eq_of_beq_eq_true e; subst e; cases h; exact fnOk_of Tryd.func55 (by kernel_rfl) (by kernel_rfl)
  · rename_i e; have e := Nat.eq_of_beq_eq_true e; subst e; cases h; exact fnOk_of Tryd.func54 (by kernel_rfl) (by kernel_rfl)
  · rename_i e; have e := Nat.eq_of_beq_eq_true e; subst e; cases h; exact fnOk_of Tryd.func53 (by kernel_rfl) (by kernel_rfl)
  · rename_i e; have e := Nat.eq_of_beq_eq_true e; subst e; cases h; exact fnOk_of Tryd.func52 (by kernel_rfl) (by kernel_rfl)
  · rename_i e; have e := Nat.eq_of_beq_eq_true e; subst e; cases h; exact fnOk_of Tryd.func51 (by kernel_rfl) (by kernel_rfl)
  · rename_i e; have e := Nat.eq_of_beq_eq_true e; subst e; cases h; exact fnOk_of Tryd.func50 (by kernel_rfl) (by kernel_rfl)
  · rename_i e; have e := Nat.eq_of_beq_eq_true e; subst e; cases h; exact fnOk_of Tryd.func49 (by kernel_rfl) (by kernel_rfl)
  · rename_i e; have e := Nat.eq_of_beq_eq_true e; subst e; cases h; exact fnOk_of Tryd.func48 (by kernel_rfl) (by kernel_rfl)
  · rename_i e; have e := Nat.eq_of_beq_eq_true e; subst e; cases h; exact fnOk_of Tryd.func47 (by kernel_rfl) (by kernel_rfl)
  · rename_i e; have e := Nat.eq_of_beq_eq_true e; subst e; cases h; exact fnOk_of Tryd.func46 (by kernel_rfl) (by kernel_rfl)
  · rename_i e; have e := Nat.eq_of_beq_eq_true e; subst e; cases h; exact fnOk_of Tryd.func45 (by kernel_rfl) (by kernel_rfl)
  · rename_i e; have e := Nat.eq_of_beq_eq_true e; subst e; cases h; exact fnOk_of Tryd.func44 (by kernel_rfl) (by kernel_rfl)
  · rename_i e; have e := Nat.eq_of_beq_eq_true e; subst e; cases h; exact fnOk_of Tryd.func43 (by kernel_rfl) (by kernel_rfl)
  · rename_i e; have e := Nat.eq_of_beq_eq_true e; subst e; cases h; exact fnOk_of Tryd.func42 (by kernel_rfl) (by kernel_rfl)
  · rename_i e; have e := Nat.eq_of_beq_eq_true e; subst e; cases h; exact fnOk_of Tryd.func41 (by kernel_rfl) (by kernel_rfl)
  · rename_i e; have e := Nat.eq_of_beq_eq_true e; subst e; cases h; exact fnOk_of Tryd.func40 (by kernel_rfl) (by kernel_rfl)
  · rename_i e; have e := Nat.eq_of_beq_eq_true e; subst e; cases h; exact fnOk_of Tryd.func39 (by kernel_rfl) (by kernel_rfl)
  · rename_i e; have e := Nat.eq_of_beq_eq_true e; subst e; cases h; exact fnOk_of Tryd.func38 (by kernel_rfl) (by kernel_rfl)
  · rename_i e; have e := Nat.eq_of_beq_eq_true e; subst e; cases h; exact fnOk_of Tryd.func37 (by kernel_rfl) (by kernel_rfl)
  · rename_i e; have e := Nat.eq_of_beq_eq_true e; subst e; cases h; exact fnOk_of Tryd.func36 (by kernel_rfl) (by kernel_rfl)
noncomputable def fnT2 (t : FuncId) : Option FnD := bif Nat.ble 82 t then (bif Nat.ble 89 t then (bif Nat.ble 93 t then (bif Nat.ble 97 t then (bif Nat.ble 99 t then (bif Nat.beq t 99 then some fn99 else none) else (bif Nat.beq t 97 then some fn97 else none)) else (bif Nat.ble 94 t then (bif Nat.beq t 94 then some fn94 else none) else (bif Nat.beq t 93 then some fn93 else none))) else (bif Nat.ble 91 t then (bif Nat.ble 92 t then (bif Nat.beq t 92 then some fn92 else none) else (bif Nat.beq t 91 then some fn91 else none)) else (bif Nat.beq t 89 then some fn89 else none))) else (bif Nat.ble 85 t then (bif Nat.ble 87 t then (bif Nat.ble 88 t then (bif Nat.beq t 88 then some fn88 else none) else (bif Nat.beq t 87 then some fn87 else none)) else (bif Nat.ble 86 t then (bif Nat.beq t 86 then some fn86 else none) else (bif Nat.beq t 85 then some fn85 else none))) else (bif Nat.ble 83 t then (bif Nat.ble 84 t then (bif Nat.beq t 84 then some fn84 else none) else (bif Nat.beq t 83 then some fn83 else none)) else (bif Nat.beq t 82 then some fn82 else none)))) else (bif Nat.ble 75 t then (bif Nat.ble 78 t then (bif Nat.ble 80 t then (bif Nat.ble 81 t then (bif Nat.beq t 81 then some fn81 else none) else (bif Nat.beq t 80 then some fn80 else none)) else (bif Nat.ble 79 t then (bif Nat.beq t 79 then some fn79 else none) else (bif Nat.beq t 78 then some fn78 else none))) else (bif Nat.ble 76 t then (bif Nat.ble 77 t then (bif Nat.beq t 77 then some fn77 else none) else (bif Nat.beq t 76 then some fn76 else none)) else (bif Nat.beq t 75 then some fn75 else none))) else (bif Nat.ble 71 t then (bif Nat.ble 73 t then (bif Nat.ble 74 t then (bif Nat.beq t 74 then some fn74 else none) else (bif Nat.beq t 73 then some fn73 else none)) else (bif Nat.ble 72 t then (bif Nat.beq t 72 then some fn72 else none) else (bif Nat.beq t 71 then some fn71 else none))) else (bif Nat.ble 69 t then (bif Nat.ble 70 t then (bif Nat.beq t 70 then some fn70 else none) else (bif Nat.beq t 69 then some fn69 else none)) else (bif Nat.beq t 68 then some fn68 else none))))
theorem fnT2_ok (f : FuncId) (d : FnD) (h : fnT2 f = some d) : FnOk Tryd.prog f d := by
  unfold fnT2 at h
  simp only [cond_eq_ite] at h
  repeat' split at h
  all_goals first | exact (none_no h).elim | skip
  · rename_i e; have e := Nat.eq_of_beq_eq_true e; subst e; cases h; exact fnOk_of Tryd.func99 (by kernel_rfl) (by kernel_rfl)
  · rename_i e; have e := Nat.eq_of_beq_eq_true e; subst e; cases h; exact fnOk_of Tryd.func97 (by kernel_rfl) (by kernel_rfl)
  · rename_i e; have e := Nat.eq_of_beq_eq_true e; subst e; cases h; exact fnOk_of Tryd.func94 (by kernel_rfl) (by kernel_rfl)
  · rename_i e; have e := Nat.eq_of_beq_eq_true e; subst e; cases h; exact fnOk_of Tryd.func93 (by kernel_rfl) (by kernel_rfl)
  · rename_i e; have e := Nat.eq_of_beq_eq_true e; subst e; cases h; exact fnOk_of Tryd.func92 (by kernel_rfl) (by kernel_rfl)
  · rename_i e; have e := Nat.eq_of_beq_eq_true e; subst e; cases h; exact fnOk_of Tryd.func91 (by kernel_rfl) (by kernel_rfl)
  · rename_i e; have e := Nat.eq_of_beq_eq_true e; subst e; cases h; exact fnOk_of Tryd.func89 (by kernel_rfl) (by kernel_rfl)
  · rename_i e; have e := Nat.eq_of_beq_eq_true e; subst e; cases h; exact fnOk_of Tryd.func88 (by kernel_rfl) (by kernel_rfl)
  · rename_i e; have e := Nat.eq_of_beq_eq_true e; subst e; cases h; exact fnOk_of Tryd.func87 (by kernel_rfl) (by kernel_rfl)
  · rename_i e; have e := Nat.eq_of_beq_eq_true e; subst e; cases h; exact fnOk_of Tryd.func86 (by kernel_rfl) (by kernel_rfl)
  · rename_i e; have e := Nat.eq_of_beq_eq_true e; subst e; cases h; exact fnOk_of Tryd.func85 (by kernel_rfl) (by kernel_rfl)
  · rename_i e; have e := Nat.eq_of_beq_eq_true e; subst e; cases h; exact fnOk_of Tryd.func84 (by kernel_rfl) (by kernel_rfl)
  · rename_i e; have e := Nat.eq_of_beq_eq_true e; subst e; cases h; exact fnOk_of Tryd.func83 (by kernel_rfl) (by kernel_rfl)
  · rename_i e; have e := Nat.eq_of_beq_eq_true e; subst e; cases h; exact fnOk_of Tryd.func82 (by kernel_rfl) (by kernel_rfl)
  · rename_i e; have e := Nat.eq_of_beq_eq_true e; subst e; cases h; exact fnOk_of Tryd.func81 (by kernel_rfl) (by kernel_rfl)
  · rename_i e; have e := Nat.eq_of_beq_eq_true e; subst e; cases h; exact fnOk_of Tryd.func80 (by kernel_rfl) (by kernel_rfl)
  · rename_i e; have e := Nat.eq_of_beq_eq_true e; subst e; cases h; exact fnOk_of Tryd.func79 (by kernel_rfl) (by kernel_rfl)
  · rename_i e; have e := Nat.eq_of_beq_eq_true e; subst e; cases h; exact fnOk_of Tryd.func78 (by kernel_rfl) (by kernel_rfl)
  · rename_i e; have e := Nat.eq_of_beq_eq_true e; subst e; cases h; exact fnOk_of Tryd.func77 (by kernel_rfl) (by kernel_rfl)
  · rename_i e; have e := Nat.eq_of_beq_eq_true e; subst e; cases h; exact fnOk_of Tryd.func76 (by kernel_rfl) (by kernel_rfl)
  · rename_i e; have e := Nat.eq_of_beq_eq_true e; subst e; cases h; exact fnOk_of Tryd.func75 (by kernel_rfl) (by kernel_rfl)
  · rename_i e; have e := Nat.eq_of_beq_eq_true e; subst e; cases h; exact fnOk_of Tryd.func74 (by kernel_rfl) (by kernel_rfl)
  · rename_i e; have e := Nat.eq_of_beq_eq_true e; subst e; cases h; exact fnOk_of Tryd.func73 (by kernel_rfl) (by kernel_rfl)
  · rename_i e; have e := Nat.eq_of_beq_eq_true e; subst e; cases h; exact fnOk_of Tryd.func72 (by kernel_rfl) (by kernel_rfl)
  · rename_i e; have e := Nat.eq_of_beq_eq_true e; subst e; cases h; exact fnOk_of Tryd.func71 (by kernel_rfl) (by kernel_rfl)
  · rename_i e; have e := Nat.eq_of_beq_eq_true e; subst e; cases h; exact fnOk_of Tryd.func70 (by kernel_rfl) (by kernel_rfl)
  · rename_i e; have e := Nat.eq_of_beq_eq_true e; subst e; cases h; exact fnOk_of Tryd.func69 (by kernel_rfl) (by kernel_rfl)
  · rename_i e; have e := Nat.eq_of_beq_eq_true e; subst e; cases h; exact fnOk_of Tryd.func68 (by kernel_rfl) (by kernel_rfl)
noncomputable def fnT (t : FuncId) : Option FnD := bif Nat.ble 36 t then (bif Nat.ble 68 t then (fnT2 t) else (fnT1 t)) else (fnT0 t)
theorem fnT_ok (f : FuncId) (d : FnD) (h : fnT f = some d) : FnOk Tryd.prog f d := by
  unfold fnT at h
  simp only [cond_eq_ite] at h
  repeat' split at h
  all_goals first | exact fnT0_ok f d h | exact fnT1_ok f d h | exact fnT2_ok f d h
end Go.Proofs.YtekmafoicobphaaDoor
