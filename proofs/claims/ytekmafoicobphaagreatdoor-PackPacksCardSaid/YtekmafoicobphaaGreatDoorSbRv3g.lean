/- Codes: the reference's words: instructions (g). -/
import Derived.Test.YtekmafoicobphaaGreatDoorSbRv3
set_option linter.unusedVariables false
set_option linter.unusedSimpArgs false
namespace Go.Proofs.YtekmafoicobphaaGreatDoor
open Go.Sb
set_option maxRecDepth 100000
theorem ykv {E : Env} {md : Go.FuncId → Sb.Mode} {A : List (List Nat)} {k : Nat} {o : ROp} {os : List ROp} {acc : List (Nat × Go.Op × List V × V)} {s : List V} {h g : Heap} {v : V} {K : List V → Heap → Prop} {a0 a1 a2 a3 a4 a5 a6 a7 a8 a9 a10 a11 a12 a13 a14 a15 a16 a17 a18 a19 a20 a21 a22 a23 a24 a25 a26 a27 a28 a29 a30 a31 a32 a33 a34 a35 a36 a37 a38 a39 a40 a41 a42 a43 a44 a45 a46 a47 a48 a49 a50 a51 a52 a53 a54 a55 a56 a57 a58 a59 a60 a61 a62 a63 a64 a65 a66 a67 a68 a69 a70 a71 a72 a73 a74 a75 a76 a77 a78 a79 a80 a81 a82 a83 a84 a85 a86 a87 a88 a89 a90 a91 a92 a93 a94 a95 a96 a97 a98 a99 a100 a101 a102 a103 a104 a105 a106 a107 a108 a109 a110 a111 a112 a113 a114 a115 a116 a117 a118 a119 a120 a121 a122 a123 a124 a125 a126 a127 a128 a129 a130 a131 a132 a133 a134 a135 a136 a137 a138 a139 a140 a141 a142 a143 a144 a145 a146 a147 a148 a149 a150 a151 a152 a153 a154 a155 a156 a157 a158 a159 a160 a161 a162 a163 a164 a165 a166 a167 a168 a169 a170 a171 a172 a173 a174 a175 a176 a177 a178 a179 a180 a181 a182 a183 a184 a185 a186 a187 a188 a189 a190 a191 a192 a193 a194 a195 a196 a197 a198 a199 a200 a201 a202 a203 a204 a205 a206 a207 a208 a209 a210 a211 a212 a213 a214 a215 a216 a217 a218 a219 a220 a221 a222 a223 a224 a225 a226 a227 a228 a229 a230 a231 a232 a233 a234 a235 a236 a237 a238 a239 a240 a241 a242 a243 a244 a245 a246 a247 a248 a249 a250 a251 a252 a253 a254 a255 a256 a257 a258 a259 a260 a261 a262 a263 a264 a265 a266 a267 a268 a269 a270 a271 a272 a273 a274 a275 a276 a277 a278 a279 a280 a281 a282 a283 a284 a285 a286 a287 a288 a289 a290 a291 a292 a293 a294 a295 a296 a297 a298 a299 a300 a301 a302 a303 a304 a305 a306 a307 a308 a309 a310 a311 a312 a313 a314 a315 a316 a317 a318 a319 a320 a321 a322 a323 a324 a325 a326 a327 a328 a329 a330 a331 a332 a333 a334 a335 a336 a337 a338 a339 a340 : V} (hg : o.gd = none) (hop : ∀ K : V → Heap → Prop, K v g → runOp E md o.op s h K) (hk : yal E md o.op = 1) (hs : putT s o.dst v = [a0, a1, a2, a3, a4, a5, a6, a7, a8, a9, a10, a11, a12, a13, a14, a15, a16, a17, a18, a19, a20, a21, a22, a23, a24, a25, a26, a27, a28, a29, a30, a31, a32, a33, a34, a35, a36, a37, a38, a39, a40, a41, a42, a43, a44, a45, a46, a47, a48, a49, a50, a51, a52, a53, a54, a55, a56, a57, a58, a59, a60, a61, a62, a63, a64, a65, a66, a67, a68, a69, a70, a71, a72, a73, a74, a75, a76, a77, a78, a79, a80, a81, a82, a83, a84, a85, a86, a87, a88, a89, a90, a91, a92, a93, a94, a95, a96, a97, a98, a99, a100, a101, a102, a103, a104, a105, a106, a107, a108, a109, a110, a111, a112, a113, a114, a115, a116, a117, a118, a119, a120, a121, a122, a123, a124, a125, a126, a127, a128, a129, a130, a131, a132, a133, a134, a135, a136, a137, a138, a139, a140, a141, a142, a143, a144, a145, a146, a147, a148, a149, a150, a151, a152, a153, a154, a155, a156, a157, a158, a159, a160, a161, a162, a163, a164, a165, a166, a167, a168, a169, a170, a171, a172, a173, a174, a175, a176, a177, a178, a179, a180, a181, a182, a183, a184, a185, a186, a187, a188, a189, a190, a191, a192, a193, a194, a195, a196, a197, a198, a199, a200, a201, a202, a203, a204, a205, a206, a207, a208, a209, a210, a211, a212, a213, a214, a215, a216, a217, a218, a219, a220, a221, a222, a223, a224, a225, a226, a227, a228, a229, a230, a231, a232, a233, a234, a235, a236, a237, a238, a239, a240, a241, a242, a243, a244, a245, a246, a247, a248, a249, a250, a251, a252, a253, a254, a255, a256, a257, a258, a259, a260, a261, a262, a263, a264, a265, a266, a267, a268, a269, a270, a271, a272, a273, a274, a275, a276, a277, a278, a279, a280, a281, a282, a283, a284, a285, a286, a287, a288, a289, a290, a291, a292, a293, a294, a295, a296, a297, a298, a299, a300, a301, a302, a303, a304, a305, a306, a307, a308, a309, a310, a311, a312, a313, a314, a315, a316, a317, a318, a319, a320, a321, a322, a323, a324, a325, a326, a327, a328, a329, a330, a331, a332, a333, a334, a335, a336, a337, a338, a339, a340]) (hn : yar E md A (k + 1) os ((k, o.op, s, v) :: acc) [a0, a1, a2, a3, a4, a5, a6, a7, a8, a9, a10, a11, a12, a13, a14, a15, a16, a17, a18, a19, a20, a21, a22, a23, a24, a25, a26, a27, a28, a29, a30, a31, a32, a33, a34, a35, a36, a37, a38, a39, a40, a41, a42, a43, a44, a45, a46, a47, a48, a49, a50, a51, a52, a53, a54, a55, a56, a57, a58, a59, a60, a61, a62, a63, a64, a65, a66, a67, a68, a69, a70, a71, a72, a73, a74, a75, a76, a77, a78, a79, a80, a81, a82, a83, a84, a85, a86, a87, a88, a89, a90, a91, a92, a93, a94, a95, a96, a97, a98, a99, a100, a101, a102, a103, a104, a105, a106, a107, a108, a109, a110, a111, a112, a113, a114, a115, a116, a117, a118, a119, a120, a121, a122, a123, a124, a125, a126, a127, a128, a129, a130, a131, a132, a133, a134, a135, a136, a137, a138, a139, a140, a141, a142, a143, a144, a145, a146, a147, a148, a149, a150, a151, a152, a153, a154, a155, a156, a157, a158, a159, a160, a161, a162, a163, a164, a165, a166, a167, a168, a169, a170, a171, a172, a173, a174, a175, a176, a177, a178, a179, a180, a181, a182, a183, a184, a185, a186, a187, a188, a189, a190, a191, a192, a193, a194, a195, a196, a197, a198, a199, a200, a201, a202, a203, a204, a205, a206, a207, a208, a209, a210, a211, a212, a213, a214, a215, a216, a217, a218, a219, a220, a221, a222, a223, a224, a225, a226, a227, a228, a229, a230, a231, a232, a233, a234, a235, a236, a237, a238, a239, a240, a241, a242, a243, a244, a245, a246, a247, a248, a249, a250, a251, a252, a253, a254, a255, a256, a257, a258, a259, a260, a261, a262, a263, a264, a265, a266, a267, a268, a269, a270, a271, a272, a273, a274, a275, a276, a277, a278, a279, a280, a281, a282, a283, a284, a285, a286, a287, a288, a289, a290, a291, a292, a293, a294, a295, a296, a297, a298, a299, a300, a301, a302, a303, a304, a305, a306, a307, a308, a309, a310, a311, a312, a313, a314, a315, a316, a317, a318, a319, a320, a321, a322, a323, a324, a325, a326, a327, a328, a329, a330, a331, a332, a333, a334, a335, a336, a337, a338, a339, a340] g K) : yar E md A k (o :: os) acc s h K := yii hg hop hk hs hn
theorem ykw {E : Env} {md : Go.FuncId → Sb.Mode} {A : List (List Nat)} {k : Nat} {o : ROp} {os : List ROp} {acc : List (Nat × Go.Op × List V × V)} {s : List V} {h g : Heap} {v : V} {K : List V → Heap → Prop} {a0 a1 a2 a3 a4 a5 a6 a7 a8 a9 a10 a11 a12 a13 a14 a15 a16 a17 a18 a19 a20 a21 a22 a23 a24 a25 a26 a27 a28 a29 a30 a31 a32 a33 a34 a35 a36 a37 a38 a39 a40 a41 a42 a43 a44 a45 a46 a47 a48 a49 a50 a51 a52 a53 a54 a55 a56 a57 a58 a59 a60 a61 a62 a63 a64 a65 a66 a67 a68 a69 a70 a71 a72 a73 a74 a75 a76 a77 a78 a79 a80 a81 a82 a83 a84 a85 a86 a87 a88 a89 a90 a91 a92 a93 a94 a95 a96 a97 a98 a99 a100 a101 a102 a103 a104 a105 a106 a107 a108 a109 a110 a111 a112 a113 a114 a115 a116 a117 a118 a119 a120 a121 a122 a123 a124 a125 a126 a127 a128 a129 a130 a131 a132 a133 a134 a135 a136 a137 a138 a139 a140 a141 a142 a143 a144 a145 a146 a147 a148 a149 a150 a151 a152 a153 a154 a155 a156 a157 a158 a159 a160 a161 a162 a163 a164 a165 a166 a167 a168 a169 a170 a171 a172 a173 a174 a175 a176 a177 a178 a179 a180 a181 a182 a183 a184 a185 a186 a187 a188 a189 a190 a191 a192 a193 a194 a195 a196 a197 a198 a199 a200 a201 a202 a203 a204 a205 a206 a207 a208 a209 a210 a211 a212 a213 a214 a215 a216 a217 a218 a219 a220 a221 a222 a223 a224 a225 a226 a227 a228 a229 a230 a231 a232 a233 a234 a235 a236 a237 a238 a239 a240 a241 a242 a243 a244 a245 a246 a247 a248 a249 a250 a251 a252 a253 a254 a255 a256 a257 a258 a259 a260 a261 a262 a263 a264 a265 a266 a267 a268 a269 a270 a271 a272 a273 a274 a275 a276 a277 a278 a279 a280 a281 a282 a283 a284 a285 a286 a287 a288 a289 a290 a291 a292 a293 a294 a295 a296 a297 a298 a299 a300 a301 a302 a303 a304 a305 a306 a307 a308 a309 a310 a311 a312 a313 a314 a315 a316 a317 a318 a319 a320 a321 a322 a323 a324 a325 a326 a327 a328 a329 a330 a331 a332 a333 a334 a335 a336 a337 a338 a339 a340 : V} (hg : o.gd = none) (hop : ∀ K : V → Heap → Prop, K v g → runOp E md o.op s h K) (hk : yal E md o.op = 0) (hs : putT s o.dst v = [a0, a1, a2, a3, a4, a5, a6, a7, a8, a9, a10, a11, a12, a13, a14, a15, a16, a17, a18, a19, a20, a21, a22, a23, a24, a25, a26, a27, a28, a29, a30, a31, a32, a33, a34, a35, a36, a37, a38, a39, a40, a41, a42, a43, a44, a45, a46, a47, a48, a49, a50, a51, a52, a53, a54, a55, a56, a57, a58, a59, a60, a61, a62, a63, a64, a65, a66, a67, a68, a69, a70, a71, a72, a73, a74, a75, a76, a77, a78, a79, a80, a81, a82, a83, a84, a85, a86, a87, a88, a89, a90, a91, a92, a93, a94, a95, a96, a97, a98, a99, a100, a101, a102, a103, a104, a105, a106, a107, a108, a109, a110, a111, a112, a113, a114, a115, a116, a117, a118, a119, a120, a121, a122, a123, a124, a125, a126, a127, a128, a129, a130, a131, a132, a133, a134, a135, a136, a137, a138, a139, a140, a141, a142, a143, a144, a145, a146, a147, a148, a149, a150, a151, a152, a153, a154, a155, a156, a157, a158, a159, a160, a161, a162, a163, a164, a165, a166, a167, a168, a169, a170, a171, a172, a173, a174, a175, a176, a177, a178, a179, a180, a181, a182, a183, a184, a185, a186, a187, a188, a189, a190, a191, a192, a193, a194, a195, a196, a197, a198, a199, a200, a201, a202, a203, a204, a205, a206, a207, a208, a209, a210, a211, a212, a213, a214, a215, a216, a217, a218, a219, a220, a221, a222, a223, a224, a225, a226, a227, a228, a229, a230, a231, a232, a233, a234, a235, a236, a237, a238, a239, a240, a241, a242, a243, a244, a245, a246, a247, a248, a249, a250, a251, a252, a253, a254, a255, a256, a257, a258, a259, a260, a261, a262, a263, a264, a265, a266, a267, a268, a269, a270, a271, a272, a273, a274, a275, a276, a277, a278, a279, a280, a281, a282, a283, a284, a285, a286, a287, a288, a289, a290, a291, a292, a293, a294, a295, a296, a297, a298, a299, a300, a301, a302, a303, a304, a305, a306, a307, a308, a309, a310, a311, a312, a313, a314, a315, a316, a317, a318, a319, a320, a321, a322, a323, a324, a325, a326, a327, a328, a329, a330, a331, a332, a333, a334, a335, a336, a337, a338, a339, a340]) (hn : yar E md A (k + 1) os acc [a0, a1, a2, a3, a4, a5, a6, a7, a8, a9, a10, a11, a12, a13, a14, a15, a16, a17, a18, a19, a20, a21, a22, a23, a24, a25, a26, a27, a28, a29, a30, a31, a32, a33, a34, a35, a36, a37, a38, a39, a40, a41, a42, a43, a44, a45, a46, a47, a48, a49, a50, a51, a52, a53, a54, a55, a56, a57, a58, a59, a60, a61, a62, a63, a64, a65, a66, a67, a68, a69, a70, a71, a72, a73, a74, a75, a76, a77, a78, a79, a80, a81, a82, a83, a84, a85, a86, a87, a88, a89, a90, a91, a92, a93, a94, a95, a96, a97, a98, a99, a100, a101, a102, a103, a104, a105, a106, a107, a108, a109, a110, a111, a112, a113, a114, a115, a116, a117, a118, a119, a120, a121, a122, a123, a124, a125, a126, a127, a128, a129, a130, a131, a132, a133, a134, a135, a136, a137, a138, a139, a140, a141, a142, a143, a144, a145, a146, a147, a148, a149, a150, a151, a152, a153, a154, a155, a156, a157, a158, a159, a160, a161, a162, a163, a164, a165, a166, a167, a168, a169, a170, a171, a172, a173, a174, a175, a176, a177, a178, a179, a180, a181, a182, a183, a184, a185, a186, a187, a188, a189, a190, a191, a192, a193, a194, a195, a196, a197, a198, a199, a200, a201, a202, a203, a204, a205, a206, a207, a208, a209, a210, a211, a212, a213, a214, a215, a216, a217, a218, a219, a220, a221, a222, a223, a224, a225, a226, a227, a228, a229, a230, a231, a232, a233, a234, a235, a236, a237, a238, a239, a240, a241, a242, a243, a244, a245, a246, a247, a248, a249, a250, a251, a252, a253, a254, a255, a256, a257, a258, a259, a260, a261, a262, a263, a264, a265, a266, a267, a268, a269, a270, a271, a272, a273, a274, a275, a276, a277, a278, a279, a280, a281, a282, a283, a284, a285, a286, a287, a288, a289, a290, a291, a292, a293, a294, a295, a296, a297, a298, a299, a300, a301, a302, a303, a304, a305, a306, a307, a308, a309, a310, a311, a312, a313, a314, a315, a316, a317, a318, a319, a320, a321, a322, a323, a324, a325, a326, a327, a328, a329, a330, a331, a332, a333, a334, a335, a336, a337, a338, a339, a340] g K) : yar E md A k (o :: os) acc s h K := yih hg hop hk hs hn
def rswI (c : Cod) (f : Fnc) (k0 : Nat) (op a b cc kd n : Int) (tx : Bs) (l : Option LIt) (bN : Bool) (k : Nat) (s : List V) (h : Heap) : Prop :=
 ∃ (i : Nat) (z : Int), ((i + k = (l.getD []).length ∧ z = i) ∧ (∀ n ∈ (l.getD []).take i, plP (lenO f.cd) n) ∧ h = [.cells 81 (ckC c f), .cells 68 (iC op a b cc kd n tx l)]) ∧ s.length = 341 ∧ s.getD 0 und = und ∧ s.getD 1 und = ckV c f ∧ s.getD 2 und = .agg (iC op a b cc kd n tx l) ∧ s.getD 3 und = .int .i64 k0 ∧ s.getD 4 und = .ptr 0 0 6 ∧ s.getD 5 und = .ptr 1 0 8 ∧ s.getD 7 und = .bool false ∧ s.getD 8 und = .bool bN ∧ s.getD 10 und = .int .i64 z
theorem rswI_lit {c : Cod} {f : Fnc} {k0 : Nat} {op a b cc kd n : Int} {tx : Bs} {l : Option LIt} {bN : Bool} {k : Nat} {s : List V} {h : Heap} (hI : rswI c f k0 op a b cc kd n tx l bN k s h) : ∃ (i : Nat) (z : Int) (x : Nat → V), ((i + k = (l.getD []).length ∧ z = i) ∧ (∀ n ∈ (l.getD []).take i, plP (lenO f.cd) n) ∧ h = [.cells 81 (ckC c f), .cells 68 (iC op a b cc kd n tx l)]) ∧
  s = [und, ckV c f, .agg (iC op a b cc kd n tx l), .int .i64 k0, .ptr 0 0 6, .ptr 1 0 8, x 6, .bool false, .bool bN, x 9, .int .i64 z, x 11, x 12, x 13, x 14, x 15, x 16, x 17, x 18, x 19, x 20, x 21, x 22, x 23, x 24, x 25, x 26, x 27, x 28, x 29, x 30, x 31, x 32, x 33, x 34, x 35, x 36, x 37, x 38, x 39, x 40, x 41, x 42, x 43, x 44, x 45, x 46, x 47, x 48, x 49, x 50, x 51, x 52, x 53, x 54, x 55, x 56, x 57, x 58, x 59, x 60, x 61, x 62, x 63, x 64, x 65, x 66, x 67, x 68, x 69, x 70, x 71, x 72, x 73, x 74, x 75, x 76, x 77, x 78, x 79, x 80, x 81, x 82, x 83, x 84, x 85, x 86, x 87, x 88, x 89, x 90, x 91, x 92, x 93, x 94, x 95, x 96, x 97, x 98, x 99, x 100, x 101, x 102, x 103, x 104, x 105, x 106, x 107, x 108, x 109, x 110, x 111, x 112, x 113, x 114, x 115, x 116, x 117, x 118, x 119, x 120, x 121, x 122, x 123, x 124, x 125, x 126, x 127, x 128, x 129, x 130, x 131, x 132, x 133, x 134, x 135, x 136, x 137, x 138, x 139, x 140, x 141, x 142, x 143, x 144, x 145, x 146, x 147, x 148, x 149, x 150, x 151, x 152, x 153, x 154, x 155, x 156, x 157, x 158, x 159, x 160, x 161, x 162, x 163, x 164, x 165, x 166, x 167, x 168, x 169, x 170, x 171, x 172, x 173, x 174, x 175, x 176, x 177, x 178, x 179, x 180, x 181, x 182, x 183, x 184, x 185, x 186, x 187, x 188, x 189, x 190, x 191, x 192, x 193, x 194, x 195, x 196, x 197, x 198, x 199, x 200, x 201, x 202, x 203, x 204, x 205, x 206, x 207, x 208, x 209, x 210, x 211, x 212, x 213, x 214, x 215, x 216, x 217, x 218, x 219, x 220, x 221, x 222, x 223, x 224, x 225, x 226, x 227, x 228, x 229, x 230, x 231, x 232, x 233, x 234, x 235, x 236, x 237, x 238, x 239, x 240, x 241, x 242, x 243, x 244, x 245, x 246, x 247, x 248, x 249, x 250, x 251, x 252, x 253, x 254, x 255, x 256, x 257, x 258, x 259, x 260, x 261, x 262, x 263, x 264, x 265, x 266, x 267, x 268, x 269, x 270, x 271, x 272, x 273, x 274, x 275, x 276, x 277, x 278, x 279, x 280, x 281, x 282, x 283, x 284, x 285, x 286, x 287, x 288, x 289, x 290, x 291, x 292, x 293, x 294, x 295, x 296, x 297, x 298, x 299, x 300, x 301, x 302, x 303, x 304, x 305, x 306, x 307, x 308, x 309, x 310, x 311, x 312, x 313, x 314, x 315, x 316, x 317, x 318, x 319, x 320, x 321, x 322, x 323, x 324, x 325, x 326, x 327, x 328, x 329, x 330, x 331, x 332, x 333, x 334, x 335, x 336, x 337, x 338, x 339, x 340] := by
 obtain ⟨i, z, hF, hl, e0, e1, e2, e3, e4, e5, e7, e8, e10⟩ := hI
 refine ⟨i, z, fun n => s.getD n und, hF, (ybb hl).trans ?_⟩
 simp only [List.range, List.range.loop, List.map_cons, List.map_nil]
 rw [e0, e1, e2, e3, e4, e5, e7, e8, e10]
set_option maxHeartbeats 16000000 in
theorem rop_12 (h : Heap) (c : Cod) (f : Fnc) (L : List Ins) (k : Nat) (op a b cc kd n : Int) (tx : List UInt8) (l : Option (List Int)) (hS : 0 ≤ f.s ∧ f.s ≤ 200) (hl : lenO f.cd ≤ 4000) (hc : lenO c ≤ 1000) (hx : lenO l ≤ 2 ^ 50) (hcd : f.cd = some L) (hk : k ≤ L.length) (hs : tx.length ≤ 2 ^ 50) (bN : Bool) (hbN : decide ((lenO l : Int) = 0) = bN) (hz : kd = 0 ∧ n = 0 ∧ tx = []) (h12 : op = 12) (s : List V) (g : Heap) (hI : swI c f k op a b cc kd n tx l bN 0 s g) : RunP envQ fn45.md (sndC (sndC (sndC fn45.body))) s g (endK envQ fn45 fun v' h' => ∃ v, Sb.fz envQ h' ybq v' = some v ∧ (V.norefs [ckV c f, .agg (iC op a b cc kd n tx l), .int .i64 k] || v.flat) = true ∧ v = .bool (decide (rInsP c f L k ⟨op, a, b, cc, kd, n, tx, l⟩))) := by
 have hcl : lenO f.cd = L.length := by rw [hcd]; rfl
 obtain ⟨u, x, ⟨_, rfl⟩, rfl⟩ := ydj hI
 clear hI
 have hR : rInsP c f L k ⟨op, a, b, cc, kd, n, tx, l⟩ ↔ (op = 1 ∨ (kd = 0 ∧ n = 0 ∧ tx = [])) ∧ (plsP (lenO f.cd) l ∧ slP f.s a 1 ∧ b = 0 ∧ cc = 0 ∧ lenO l ≠ 0) := by
  unfold rInsP
  simp only
  rw [if_neg (by omega), if_neg (by omega), if_neg (by omega), if_neg (by omega), if_neg (by omega), if_neg (by omega), if_neg (by omega), if_neg (by omega), if_neg (by omega), if_neg (by omega), if_neg (by omega), if_pos (by omega)]
 refine jW ?_
 refine jR _ ?_
 iterate 2 (refine yaa ?_)
 refine jW ?_
 refine jR _ ?_
 refine yaa ?_ (fun K hK => jN (by omega) (fun _ => hK))
 refine yaa ?_
 refine jW ?_
 refine jR _ ?_
 refine yaa ?_ (fun K hK => jN (by omega) (fun _ => hK))
 refine yaa ?_
 refine jW ?_
 refine jR _ ?_
 refine yaa ?_ (fun K hK => jN (by omega) (fun _ => hK))
 refine yaa ?_
 refine jW ?_
 refine jR _ ?_
 refine yaa ?_ (fun K hK => jN (by omega) (fun _ => hK))
 refine yaa ?_
 refine jW ?_
 refine jR _ ?_
 refine yaa ?_ (fun K hK => jN (by omega) (fun _ => hK))
 refine yaa ?_
 refine jW ?_
 refine jR _ ?_
 refine yaa ?_ (fun K hK => jN (by omega) (fun _ => hK))
 refine yaa ?_
 refine jW ?_
 refine jR _ ?_
 refine yaa ?_ (fun K hK => jN (by omega) (fun _ => hK))
 refine yaa ?_
 refine jW ?_
 refine jR _ ?_
 refine yaa ?_ (fun K hK => jN (by omega) (fun _ => hK))
 refine yaa ?_
 refine jW ?_
 refine jR _ ?_
 refine yaa ?_ (fun K hK => jN (by omega) (fun _ => hK))
 refine yaa ?_
 refine jW ?_
 refine jR _ ?_
 refine yaa ?_ (fun K hK => jN (by omega) (fun _ => hK))
 refine yaa ?_
 refine jW ?_
 refine jR _ ?_
 refine yaa ?_ (fun K hK => jN (by omega) (fun _ => hK))
 refine yaa ?_
 refine jW ?_
 refine jR _ ?_
 refine yaa ?_ (fun K hK => jN (by omega) (fun _ => hK))
 refine yaa ?_
 refine jW ?_
 refine jR _ ?_
 refine yaa ?_ (fun K hK => jY (fun _ => hK) (by omega))
 refine yaa ?_
 refine jW ?_
 refine jR _ ?_
 refine yaa ?_
 refine jW ?_
 refine RunP.loop (rswI c f k op a b cc kd n tx l bN) ?_ (l.getD []).length ⟨0, _, ⟨⟨Nat.zero_add _, rfl⟩, by simp, rfl⟩, rfl, rfl, rfl, rfl, rfl, rfl, rfl, rfl, rfl, rfl⟩
 intro k2 st g hI
 obtain ⟨i, z, x, ⟨⟨hik, hz2⟩, hall, rfl⟩, rfl⟩ := rswI_lit hI
 clear hI
 subst hz2
 have hll : lenO l = (l.getD []).length := rfl
 by_cases hi : i < (l.getD []).length
 case pos =>
  refine jW ?_
  refine jR _ ?_
  iterate 3 (refine yaa ?_)
  refine yaa ?_ (fun K hK => yan (E := envQ) (t := 66) (el := 3) (d := ty66) rfl rfl hK)
  refine yaa ?_ (fun K hK => jI (fun _ => hK) (fun q => absurd q (by rw [hll]; omega)))
  obtain ⟨l, rfl⟩ : ∃ l', l = some l' := by
   cases l with
   | none => simp at hi
   | some l => exact ⟨l, rfl⟩
  simp only [Option.getD_some] at *
  obtain ⟨x0, hx0⟩ : ∃ y, l[i]? = some y := ⟨_, List.getElem?_eq_getElem hi⟩
  have hq := yhc [.cells 81 (ckC c f), .cells 68 (iC op a b cc kd n tx (some l))] c f x0 hl
  refine jW ?_
  refine RunP.drawnR _ (by decide +kernel) (fun _ => rfl) ?_
  refine ykv rfl (fun _ => id) (by decide +kernel) rfl ?_
  refine ykw rfl (fun _ => id) (by decide +kernel) rfl ?_
  refine ykv rfl (fun _ => id) (by decide +kernel) rfl ?_
  refine ykw rfl (fun _ => id) (by decide +kernel) rfl ?_
  refine ykw rfl (fun K hK => jI (by omega) (jI rfl (Exists.intro (intV x0) (jI (by rw [List.getElem?_map]; simp [hx0]) hK)))) (by decide +kernel) rfl ?_
  refine ykv rfl (fun _ => id) (by decide +kernel) rfl ?_
  refine ykv rfl (fun K hK => CallK.of hq hK) (by decide +kernel) rfl ?_
  refine ykw rfl (fun _ => id) (by decide +kernel) rfl ?_
  by_cases hp : plP (lenO f.cd) x0
  ·rw [decide_eq_true hp]
   refine jW ?_
   refine jR _ ?_
   iterate 3 (refine yaa ?_)
   exact ⟨k2 - 1, by omega, i + 1, _, ⟨⟨by simp only [Option.getD_some]; omega, ycj i (by omega)⟩, by
    intro m hm
    simp only [Option.getD_some] at hm
    rw [List.take_add_one, hx0] at hm
    rcases List.mem_append.1 hm with q | q
    ·exact hall m q
    ·simp at q; subst q; exact hp, rfl⟩, rfl, rfl, rfl, rfl, rfl, rfl, rfl, rfl, rfl, rfl⟩
  ·rw [decide_eq_false hp]
   refine jW ?_
   refine jR _ ?_
   refine yaa ?_
   refine jW ?_
   apply jH
   exact ⟨rfl, _, rfl, jO _, vN (fun q => hp ((hR.1 q).2.1 x0 (List.mem_of_getElem? hx0)))⟩
 have hi : i = (l.getD []).length := by omega
 rw [hi, List.take_length] at hall
 obtain ⟨bA, hbA⟩ : ∃ w, decide (slP f.s a 1) = w := ⟨_, rfl⟩
 have kbA := yct [.cells 81 (ckC c f), .cells 68 (iC op a b cc kd n tx l)] c f a 1 hS (by omega)
 rw [hbA] at kbA
 obtain ⟨bB, hbB⟩ : ∃ w, decide (b = 0) = w := ⟨_, rfl⟩
 obtain ⟨bC, hbC⟩ : ∃ w, decide (cc = 0) = w := ⟨_, rfl⟩
 refine jW ?_
 refine jR _ ?_
 iterate 3 (refine yaa ?_)
 refine yaa ?_ (fun K hK => yan (E := envQ) (t := 66) (el := 3) (d := ty66) rfl rfl hK)
 refine yaa ?_ (fun K hK => jI (fun q => absurd q (by rw [hll]; omega)) (fun _ => hK))
 refine jW ?_
 refine jR _ ?_
 iterate 3 (refine yaa ?_)
 cases bA
 ·refine yaa ?_ (fun K hK => CallK.of kbA hK)
  refine yaa ?_
  iterate 3 (refine yag ?_)
  iterate 2 (refine yaa ?_)
  iterate 3 (refine yag ?_)
  iterate 2 (refine yaa ?_)
  iterate 2 (refine yag ?_)
  iterate 2 (refine yaa ?_)
  refine jW ?_
  apply jH
  exact ⟨rfl, _, rfl, jO _, vN (fun q => by obtain ⟨_, q0, q1, q2, q3, q4⟩ := hR.1 q; have w := jU hbA; first | exact absurd q1 w | omega)⟩
 ·refine yaa ?_ (fun K hK => CallK.of kbA hK)
  refine yaa ?_
  iterate 2 (refine yad ?_)
  cases bB
  ·refine yad ?_ (fun K hK => cmpK (by rw [hbB]; exact hK))
   iterate 2 (refine yaa ?_)
   iterate 3 (refine yag ?_)
   iterate 2 (refine yaa ?_)
   iterate 2 (refine yag ?_)
   iterate 2 (refine yaa ?_)
   refine jW ?_
   apply jH
   exact ⟨rfl, _, rfl, jO _, vN (fun q => by obtain ⟨_, q0, q1, q2, q3, q4⟩ := hR.1 q; have w := jU hbB; first | exact absurd q2 w | omega)⟩
  ·refine yad ?_ (fun K hK => cmpK (by rw [hbB]; exact hK))
   iterate 2 (refine yaa ?_)
   iterate 2 (refine yad ?_)
   cases bC
   ·refine yad ?_ (fun K hK => cmpK (by rw [hbC]; exact hK))
    iterate 2 (refine yaa ?_)
    iterate 2 (refine yag ?_)
    iterate 2 (refine yaa ?_)
    refine jW ?_
    apply jH
    exact ⟨rfl, _, rfl, jO _, vN (fun q => by obtain ⟨_, q0, q1, q2, q3, q4⟩ := hR.1 q; have w := jU hbC; first | exact absurd q3 w | omega)⟩
   ·refine yad ?_ (fun K hK => cmpK (by rw [hbC]; exact hK))
    iterate 2 (refine yaa ?_)
    iterate 2 (refine yad ?_)
    iterate 2 (refine yaa ?_)
    refine jW ?_
    apply jH
    cases bN
    ·exact ⟨rfl, _, rfl, jO _, vY (hR.2 ⟨.inr hz, hall, jT hbA, jT hbB, jT hbC, (by have := jU hbN; omega)⟩)⟩
    ·exact ⟨rfl, _, rfl, jO _, vN (fun q => by obtain ⟨_, q0, q1, q2, q3, q4⟩ := hR.1 q; have w := jT hbN; omega)⟩
set_option maxHeartbeats 16000000 in
theorem rop_0 (h : Heap) (c : Cod) (f : Fnc) (L : List Ins) (k : Nat) (op a b cc kd n : Int) (tx : List UInt8) (l : Option (List Int)) (hS : 0 ≤ f.s ∧ f.s ≤ 200) (hl : lenO f.cd ≤ 4000) (hc : lenO c ≤ 1000) (hx : lenO l ≤ 2 ^ 50) (hcd : f.cd = some L) (hk : k ≤ L.length) (hs : tx.length ≤ 2 ^ 50) (bN : Bool) (hbN : decide ((lenO l : Int) = 0) = bN) (hop : ¬ (1 ≤ op ∧ op ≤ 14)) (s : List V) (g : Heap) (hI : swI c f k op a b cc kd n tx l bN 0 s g) : RunP envQ fn45.md (sndC (sndC (sndC fn45.body))) s g (endK envQ fn45 fun v' h' => ∃ v, Sb.fz envQ h' ybq v' = some v ∧ (V.norefs [ckV c f, .agg (iC op a b cc kd n tx l), .int .i64 k] || v.flat) = true ∧ v = .bool (decide (rInsP c f L k ⟨op, a, b, cc, kd, n, tx, l⟩))) := by
 have hcl : lenO f.cd = L.length := by rw [hcd]; rfl
 obtain ⟨u, x, ⟨_, rfl⟩, rfl⟩ := ydj hI
 clear hI
 have hR : ¬ rInsP c f L k ⟨op, a, b, cc, kd, n, tx, l⟩ := fun q => by
  unfold rInsP at q
  simp only at q
  rw [if_neg (by omega), if_neg (by omega), if_neg (by omega), if_neg (by omega), if_neg (by omega), if_neg (by omega), if_neg (by omega), if_neg (by omega), if_neg (by omega), if_neg (by omega), if_neg (by omega), if_neg (by omega)] at q
  have := q.2.1
  omega
 refine jW ?_
 refine jR _ ?_
 iterate 2 (refine yaa ?_)
 refine jW ?_
 refine jR _ ?_
 refine yaa ?_ (fun K hK => jN (by omega) (fun _ => hK))
 refine yaa ?_
 refine jW ?_
 refine jR _ ?_
 refine yaa ?_ (fun K hK => jN (by omega) (fun _ => hK))
 refine yaa ?_
 refine jW ?_
 refine jR _ ?_
 refine yaa ?_ (fun K hK => jN (by omega) (fun _ => hK))
 refine yaa ?_
 refine jW ?_
 refine jR _ ?_
 refine yaa ?_ (fun K hK => jN (by omega) (fun _ => hK))
 refine yaa ?_
 refine jW ?_
 refine jR _ ?_
 refine yaa ?_ (fun K hK => jN (by omega) (fun _ => hK))
 refine yaa ?_
 refine jW ?_
 refine jR _ ?_
 refine yaa ?_ (fun K hK => jN (by omega) (fun _ => hK))
 refine yaa ?_
 refine jW ?_
 refine jR _ ?_
 refine yaa ?_ (fun K hK => jN (by omega) (fun _ => hK))
 refine yaa ?_
 refine jW ?_
 refine jR _ ?_
 refine yaa ?_ (fun K hK => jN (by omega) (fun _ => hK))
 refine yaa ?_
 refine jW ?_
 refine jR _ ?_
 refine yaa ?_ (fun K hK => jN (by omega) (fun _ => hK))
 refine yaa ?_
 refine jW ?_
 refine jR _ ?_
 refine yaa ?_ (fun K hK => jN (by omega) (fun _ => hK))
 refine yaa ?_
 refine jW ?_
 refine jR _ ?_
 refine yaa ?_ (fun K hK => jN (by omega) (fun _ => hK))
 refine yaa ?_
 refine jW ?_
 refine jR _ ?_
 refine yaa ?_ (fun K hK => jN (by omega) (fun _ => hK))
 refine yaa ?_
 refine jW ?_
 refine jR _ ?_
 refine yaa ?_ (fun K hK => jN (by omega) (fun _ => hK))
 refine yaa ?_
 refine jW ?_
 refine jR _ ?_
 iterate 2 (refine yaa ?_)
 refine yaa ?_ (fun K hK => jN (by omega) (fun _ => hK))
 refine yaa ?_
 iterate 4 (refine yag ?_)
 iterate 2 (refine yaa ?_)
 iterate 3 (refine yag ?_)
 iterate 2 (refine yaa ?_)
 iterate 3 (refine yag ?_)
 iterate 2 (refine yaa ?_)
 refine yag ?_
 iterate 2 (refine yaa ?_)
 refine jW ?_
 apply jH
 exact ⟨rfl, _, rfl, jO _, vN hR⟩
end Go.Proofs.YtekmafoicobphaaGreatDoor
