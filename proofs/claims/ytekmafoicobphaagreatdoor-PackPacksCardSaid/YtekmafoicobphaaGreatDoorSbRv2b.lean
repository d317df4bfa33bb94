/- Codes: the reference's words: asks. -/
import Derived.Test.YtekmafoicobphaaGreatDoorSbRv2
set_option linter.unusedVariables false
set_option linter.unusedSimpArgs false
namespace Go.Proofs.YtekmafoicobphaaGreatDoor
open Go.Sb
set_option maxRecDepth 100000
theorem ycu {E : Env} {md : Go.FuncId → Sb.Mode} {A : List (List Nat)} {k : Nat} {o : ROp} {os : List ROp} {acc : List (Nat × Go.Op × List V × V)} {s : List V} {h : Heap} {K : List V → Heap → Prop} {a0 a1 a2 a3 a4 a5 a6 a7 a8 a9 a10 a11 a12 a13 a14 a15 a16 a17 a18 a19 a20 a21 a22 a23 a24 a25 a26 a27 a28 a29 a30 a31 a32 a33 a34 a35 a36 a37 a38 a39 a40 a41 a42 a43 a44 a45 a46 a47 a48 a49 a50 a51 a52 a53 a54 a55 a56 a57 a58 a59 a60 a61 a62 a63 a64 a65 a66 a67 a68 a69 a70 a71 a72 a73 a74 a75 a76 a77 a78 a79 a80 a81 a82 a83 a84 a85 a86 a87 a88 a89 a90 a91 a92 a93 a94 a95 a96 a97 a98 a99 a100 a101 a102 a103 a104 a105 a106 a107 a108 a109 a110 a111 a112 a113 a114 a115 a116 a117 a118 a119 a120 a121 a122 a123 a124 a125 a126 a127 a128 a129 a130 a131 a132 a133 a134 a135 a136 a137 a138 a139 a140 a141 a142 a143 a144 a145 a146 a147 a148 a149 a150 a151 a152 a153 a154 a155 a156 a157 a158 a159 a160 a161 a162 a163 a164 a165 a166 a167 a168 a169 a170 a171 : V} {t : Go.Tmp} {w b : Bool} (hg : o.gd = some (t, w)) (hb : getT s t = .bool b) (hw : b = !w) (hk : yal E md o.op ≠ 2) (hs : putT s o.dst und = [a0, a1, a2, a3, a4, a5, a6, a7, a8, a9, a10, a11, a12, a13, a14, a15, a16, a17, a18, a19, a20, a21, a22, a23, a24, a25, a26, a27, a28, a29, a30, a31, a32, a33, a34, a35, a36, a37, a38, a39, a40, a41, a42, a43, a44, a45, a46, a47, a48, a49, a50, a51, a52, a53, a54, a55, a56, a57, a58, a59, a60, a61, a62, a63, a64, a65, a66, a67, a68, a69, a70, a71, a72, a73, a74, a75, a76, a77, a78, a79, a80, a81, a82, a83, a84, a85, a86, a87, a88, a89, a90, a91, a92, a93, a94, a95, a96, a97, a98, a99, a100, a101, a102, a103, a104, a105, a106, a107, a108, a109, a110, a111, a112, a113, a114, a115, a116, a117, a118, a119, a120, a121, a122, a123, a124, a125, a126, a127, a128, a129, a130, a131, a132, a133, a134, a135, a136, a137, a138, a139, a140, a141, a142, a143, a144, a145, a146, a147, a148, a149, a150, a151, a152, a153, a154, a155, a156, a157, a158, a159, a160, a161, a162, a163, a164, a165, a166, a167, a168, a169, a170, a171]) (hn : yar E md A (k + 1) os acc [a0, a1, a2, a3, a4, a5, a6, a7, a8, a9, a10, a11, a12, a13, a14, a15, a16, a17, a18, a19, a20, a21, a22, a23, a24, a25, a26, a27, a28, a29, a30, a31, a32, a33, a34, a35, a36, a37, a38, a39, a40, a41, a42, a43, a44, a45, a46, a47, a48, a49, a50, a51, a52, a53, a54, a55, a56, a57, a58, a59, a60, a61, a62, a63, a64, a65, a66, a67, a68, a69, a70, a71, a72, a73, a74, a75, a76, a77, a78, a79, a80, a81, a82, a83, a84, a85, a86, a87, a88, a89, a90, a91, a92, a93, a94, a95, a96, a97, a98, a99, a100, a101, a102, a103, a104, a105, a106, a107, a108, a109, a110, a111, a112, a113, a114, a115, a116, a117, a118, a119, a120, a121, a122, a123, a124, a125, a126, a127, a128, a129, a130, a131, a132, a133, a134, a135, a136, a137, a138, a139, a140, a141, a142, a143, a144, a145, a146, a147, a148, a149, a150, a151, a152, a153, a154, a155, a156, a157, a158, a159, a160, a161, a162, a163, a164, a165, a166, a167, a168, a169, a170, a171] h K) : yar E md A k (o :: os) acc s h K := draw_n hg hb hw hk hs hn
theorem yku {E : Env} {md : Go.FuncId → Sb.Mode} {A : List (List Nat)} {k : Nat} {o : ROp} {os : List ROp} {acc : List (Nat × Go.Op × List V × V)} {s : List V} {h g : Heap} {v : V} {K : List V → Heap → Prop} {a0 a1 a2 a3 a4 a5 a6 a7 a8 a9 a10 a11 a12 a13 a14 a15 a16 a17 a18 a19 a20 a21 a22 a23 a24 a25 a26 a27 a28 a29 a30 a31 a32 a33 a34 a35 a36 a37 a38 a39 a40 a41 a42 a43 a44 a45 a46 a47 a48 a49 a50 a51 a52 a53 a54 a55 a56 a57 a58 a59 a60 a61 a62 a63 a64 a65 a66 a67 a68 a69 a70 a71 a72 a73 a74 a75 a76 a77 a78 a79 a80 a81 a82 a83 a84 a85 a86 a87 a88 a89 a90 a91 a92 a93 a94 a95 a96 a97 a98 a99 a100 a101 a102 a103 a104 a105 a106 a107 a108 a109 a110 a111 a112 a113 a114 a115 a116 a117 a118 a119 a120 a121 a122 a123 a124 a125 a126 a127 a128 a129 a130 a131 a132 a133 a134 a135 a136 a137 a138 a139 a140 a141 a142 a143 a144 a145 a146 a147 a148 a149 a150 a151 a152 a153 a154 a155 a156 a157 a158 a159 a160 a161 a162 a163 a164 a165 a166 a167 a168 a169 a170 a171 : V} (hg : o.gd = none) (hop : ∀ K : V → Heap → Prop, K v g → runOp E md o.op s h K) (hk : yal E md o.op = 1) (hs : putT s o.dst v = [a0, a1, a2, a3, a4, a5, a6, a7, a8, a9, a10, a11, a12, a13, a14, a15, a16, a17, a18, a19, a20, a21, a22, a23, a24, a25, a26, a27, a28, a29, a30, a31, a32, a33, a34, a35, a36, a37, a38, a39, a40, a41, a42, a43, a44, a45, a46, a47, a48, a49, a50, a51, a52, a53, a54, a55, a56, a57, a58, a59, a60, a61, a62, a63, a64, a65, a66, a67, a68, a69, a70, a71, a72, a73, a74, a75, a76, a77, a78, a79, a80, a81, a82, a83, a84, a85, a86, a87, a88, a89, a90, a91, a92, a93, a94, a95, a96, a97, a98, a99, a100, a101, a102, a103, a104, a105, a106, a107, a108, a109, a110, a111, a112, a113, a114, a115, a116, a117, a118, a119, a120, a121, a122, a123, a124, a125, a126, a127, a128, a129, a130, a131, a132, a133, a134, a135, a136, a137, a138, a139, a140, a141, a142, a143, a144, a145, a146, a147, a148, a149, a150, a151, a152, a153, a154, a155, a156, a157, a158, a159, a160, a161, a162, a163, a164, a165, a166, a167, a168, a169, a170, a171]) (hn : yar E md A (k + 1) os ((k, o.op, s, v) :: acc) [a0, a1, a2, a3, a4, a5, a6, a7, a8, a9, a10, a11, a12, a13, a14, a15, a16, a17, a18, a19, a20, a21, a22, a23, a24, a25, a26, a27, a28, a29, a30, a31, a32, a33, a34, a35, a36, a37, a38, a39, a40, a41, a42, a43, a44, a45, a46, a47, a48, a49, a50, a51, a52, a53, a54, a55, a56, a57, a58, a59, a60, a61, a62, a63, a64, a65, a66, a67, a68, a69, a70, a71, a72, a73, a74, a75, a76, a77, a78, a79, a80, a81, a82, a83, a84, a85, a86, a87, a88, a89, a90, a91, a92, a93, a94, a95, a96, a97, a98, a99, a100, a101, a102, a103, a104, a105, a106, a107, a108, a109, a110, a111, a112, a113, a114, a115, a116, a117, a118, a119, a120, a121, a122, a123, a124, a125, a126, a127, a128, a129, a130, a131, a132, a133, a134, a135, a136, a137, a138, a139, a140, a141, a142, a143, a144, a145, a146, a147, a148, a149, a150, a151, a152, a153, a154, a155, a156, a157, a158, a159, a160, a161, a162, a163, a164, a165, a166, a167, a168, a169, a170, a171] g K) : yar E md A k (o :: os) acc s h K := yii hg hop hk hs hn
theorem ycv {E : Env} {md : Go.FuncId → Sb.Mode} {A : List (List Nat)} {k : Nat} {o : ROp} {os : List ROp} {acc : List (Nat × Go.Op × List V × V)} {s : List V} {h : Heap} {K : List V → Heap → Prop} {a0 a1 a2 a3 a4 a5 a6 a7 a8 a9 a10 a11 a12 a13 a14 a15 a16 a17 a18 a19 a20 a21 a22 a23 a24 a25 a26 a27 a28 a29 a30 a31 a32 a33 a34 a35 a36 a37 a38 a39 a40 a41 a42 a43 a44 a45 a46 a47 a48 a49 a50 a51 a52 a53 a54 a55 a56 a57 a58 a59 a60 a61 a62 a63 a64 a65 a66 a67 a68 a69 a70 a71 a72 a73 a74 a75 a76 a77 a78 a79 a80 a81 a82 a83 a84 a85 a86 a87 a88 a89 a90 a91 a92 a93 a94 a95 a96 a97 a98 a99 a100 a101 a102 a103 a104 a105 a106 a107 a108 a109 a110 a111 a112 a113 a114 a115 a116 a117 a118 a119 a120 a121 a122 a123 a124 a125 a126 a127 a128 a129 a130 a131 a132 a133 a134 a135 a136 a137 a138 a139 a140 a141 a142 a143 a144 a145 a146 a147 a148 a149 a150 a151 a152 a153 a154 a155 a156 a157 a158 a159 a160 a161 a162 a163 a164 a165 a166 a167 a168 a169 a170 a171 : V} {t : Go.Tmp} {w : Bool} (hg : o.gd = some (t, w)) (hb : getT s t = .tup []) (hk : yal E md o.op ≠ 2) (hs : putT s o.dst und = [a0, a1, a2, a3, a4, a5, a6, a7, a8, a9, a10, a11, a12, a13, a14, a15, a16, a17, a18, a19, a20, a21, a22, a23, a24, a25, a26, a27, a28, a29, a30, a31, a32, a33, a34, a35, a36, a37, a38, a39, a40, a41, a42, a43, a44, a45, a46, a47, a48, a49, a50, a51, a52, a53, a54, a55, a56, a57, a58, a59, a60, a61, a62, a63, a64, a65, a66, a67, a68, a69, a70, a71, a72, a73, a74, a75, a76, a77, a78, a79, a80, a81, a82, a83, a84, a85, a86, a87, a88, a89, a90, a91, a92, a93, a94, a95, a96, a97, a98, a99, a100, a101, a102, a103, a104, a105, a106, a107, a108, a109, a110, a111, a112, a113, a114, a115, a116, a117, a118, a119, a120, a121, a122, a123, a124, a125, a126, a127, a128, a129, a130, a131, a132, a133, a134, a135, a136, a137, a138, a139, a140, a141, a142, a143, a144, a145, a146, a147, a148, a149, a150, a151, a152, a153, a154, a155, a156, a157, a158, a159, a160, a161, a162, a163, a164, a165, a166, a167, a168, a169, a170, a171]) (hn : yar E md A (k + 1) os acc [a0, a1, a2, a3, a4, a5, a6, a7, a8, a9, a10, a11, a12, a13, a14, a15, a16, a17, a18, a19, a20, a21, a22, a23, a24, a25, a26, a27, a28, a29, a30, a31, a32, a33, a34, a35, a36, a37, a38, a39, a40, a41, a42, a43, a44, a45, a46, a47, a48, a49, a50, a51, a52, a53, a54, a55, a56, a57, a58, a59, a60, a61, a62, a63, a64, a65, a66, a67, a68, a69, a70, a71, a72, a73, a74, a75, a76, a77, a78, a79, a80, a81, a82, a83, a84, a85, a86, a87, a88, a89, a90, a91, a92, a93, a94, a95, a96, a97, a98, a99, a100, a101, a102, a103, a104, a105, a106, a107, a108, a109, a110, a111, a112, a113, a114, a115, a116, a117, a118, a119, a120, a121, a122, a123, a124, a125, a126, a127, a128, a129, a130, a131, a132, a133, a134, a135, a136, a137, a138, a139, a140, a141, a142, a143, a144, a145, a146, a147, a148, a149, a150, a151, a152, a153, a154, a155, a156, a157, a158, a159, a160, a161, a162, a163, a164, a165, a166, a167, a168, a169, a170, a171] h K) : yar E md A k (o :: os) acc s h K := draw_u hg hb hk hs hn
theorem ydo {E : Env} {md : Go.FuncId → Sb.Mode} {A : List (List Nat)} {k : Nat} {o : ROp} {os : List ROp} {acc : List (Nat × Go.Op × List V × V)} {s : List V} {h g : Heap} {v : V} {K : List V → Heap → Prop} {a0 a1 a2 a3 a4 a5 a6 a7 a8 a9 a10 a11 a12 a13 a14 a15 a16 a17 a18 a19 a20 a21 a22 a23 a24 a25 a26 a27 a28 a29 a30 a31 a32 a33 a34 a35 a36 a37 a38 a39 a40 a41 a42 a43 a44 a45 a46 a47 a48 a49 a50 a51 a52 a53 a54 a55 a56 a57 a58 a59 a60 a61 a62 a63 a64 a65 a66 a67 a68 a69 a70 a71 a72 a73 a74 a75 a76 a77 a78 a79 a80 a81 a82 a83 a84 a85 a86 a87 a88 a89 a90 a91 a92 a93 a94 a95 a96 a97 a98 a99 a100 a101 a102 a103 a104 a105 a106 a107 a108 a109 a110 a111 a112 a113 a114 a115 a116 a117 a118 a119 a120 a121 a122 a123 a124 a125 a126 a127 a128 a129 a130 a131 a132 a133 a134 a135 a136 a137 a138 a139 a140 a141 a142 a143 a144 a145 a146 a147 a148 a149 a150 a151 a152 a153 a154 a155 a156 a157 a158 a159 a160 a161 a162 a163 a164 a165 a166 a167 a168 a169 a170 a171 : V} {t : Go.Tmp} {w : Bool} (hg : o.gd = some (t, w)) (hb : getT s t = .bool w) (hop : ∀ K : V → Heap → Prop, K v g → runOp E md o.op s h K) (hk : yal E md o.op = 1) (hs : putT s o.dst v = [a0, a1, a2, a3, a4, a5, a6, a7, a8, a9, a10, a11, a12, a13, a14, a15, a16, a17, a18, a19, a20, a21, a22, a23, a24, a25, a26, a27, a28, a29, a30, a31, a32, a33, a34, a35, a36, a37, a38, a39, a40, a41, a42, a43, a44, a45, a46, a47, a48, a49, a50, a51, a52, a53, a54, a55, a56, a57, a58, a59, a60, a61, a62, a63, a64, a65, a66, a67, a68, a69, a70, a71, a72, a73, a74, a75, a76, a77, a78, a79, a80, a81, a82, a83, a84, a85, a86, a87, a88, a89, a90, a91, a92, a93, a94, a95, a96, a97, a98, a99, a100, a101, a102, a103, a104, a105, a106, a107, a108, a109, a110, a111, a112, a113, a114, a115, a116, a117, a118, a119, a120, a121, a122, a123, a124, a125, a126, a127, a128, a129, a130, a131, a132, a133, a134, a135, a136, a137, a138, a139, a140, a141, a142, a143, a144, a145, a146, a147, a148, a149, a150, a151, a152, a153, a154, a155, a156, a157, a158, a159, a160, a161, a162, a163, a164, a165, a166, a167, a168, a169, a170, a171]) (hn : yar E md A (k + 1) os ((k, o.op, s, v) :: acc) [a0, a1, a2, a3, a4, a5, a6, a7, a8, a9, a10, a11, a12, a13, a14, a15, a16, a17, a18, a19, a20, a21, a22, a23, a24, a25, a26, a27, a28, a29, a30, a31, a32, a33, a34, a35, a36, a37, a38, a39, a40, a41, a42, a43, a44, a45, a46, a47, a48, a49, a50, a51, a52, a53, a54, a55, a56, a57, a58, a59, a60, a61, a62, a63, a64, a65, a66, a67, a68, a69, a70, a71, a72, a73, a74, a75, a76, a77, a78, a79, a80, a81, a82, a83, a84, a85, a86, a87, a88, a89, a90, a91, a92, a93, a94, a95, a96, a97, a98, a99, a100, a101, a102, a103, a104, a105, a106, a107, a108, a109, a110, a111, a112, a113, a114, a115, a116, a117, a118, a119, a120, a121, a122, a123, a124, a125, a126, a127, a128, a129, a130, a131, a132, a133, a134, a135, a136, a137, a138, a139, a140, a141, a142, a143, a144, a145, a146, a147, a148, a149, a150, a151, a152, a153, a154, a155, a156, a157, a158, a159, a160, a161, a162, a163, a164, a165, a166, a167, a168, a169, a170, a171] g K) : yar E md A k (o :: os) acc s h K := yqu hg hb hop hk hs hn
theorem yce {E : Env} {md : Go.FuncId → Sb.Mode} {A : List (List Nat)} {k : Nat} {o : ROp} {os : List ROp} {acc : List (Nat × Go.Op × List V × V)} {s : List V} {h g : Heap} {v : V} {K : List V → Heap → Prop} {a0 a1 a2 a3 a4 a5 a6 a7 a8 a9 a10 a11 a12 a13 a14 a15 a16 a17 a18 a19 a20 a21 a22 a23 a24 a25 a26 a27 a28 a29 a30 a31 a32 a33 a34 a35 a36 a37 a38 a39 a40 a41 a42 a43 a44 a45 a46 a47 a48 a49 a50 a51 a52 a53 a54 a55 a56 a57 a58 a59 a60 a61 a62 a63 a64 a65 a66 a67 a68 a69 a70 a71 a72 a73 a74 a75 a76 a77 a78 a79 a80 a81 a82 a83 a84 a85 a86 a87 a88 a89 a90 a91 a92 a93 a94 a95 a96 a97 a98 a99 a100 a101 a102 a103 a104 a105 a106 a107 a108 a109 a110 a111 a112 a113 a114 a115 a116 a117 a118 a119 a120 a121 a122 a123 a124 a125 a126 a127 a128 a129 a130 a131 a132 a133 a134 a135 a136 a137 a138 a139 a140 a141 a142 a143 a144 a145 a146 a147 a148 a149 a150 a151 a152 a153 a154 a155 a156 a157 a158 a159 a160 a161 a162 a163 a164 a165 a166 a167 a168 a169 a170 a171 : V} {t : Go.Tmp} {w : Bool} (hg : o.gd = some (t, w)) (hb : getT s t = .bool w) (hop : ∀ K : V → Heap → Prop, K v g → runOp E md o.op s h K) (hk : yal E md o.op = 0) (hs : putT s o.dst v = [a0, a1, a2, a3, a4, a5, a6, a7, a8, a9, a10, a11, a12, a13, a14, a15, a16, a17, a18, a19, a20, a21, a22, a23, a24, a25, a26, a27, a28, a29, a30, a31, a32, a33, a34, a35, a36, a37, a38, a39, a40, a41, a42, a43, a44, a45, a46, a47, a48, a49, a50, a51, a52, a53, a54, a55, a56, a57, a58, a59, a60, a61, a62, a63, a64, a65, a66, a67, a68, a69, a70, a71, a72, a73, a74, a75, a76, a77, a78, a79, a80, a81, a82, a83, a84, a85, a86, a87, a88, a89, a90, a91, a92, a93, a94, a95, a96, a97, a98, a99, a100, a101, a102, a103, a104, a105, a106, a107, a108, a109, a110, a111, a112, a113, a114, a115, a116, a117, a118, a119, a120, a121, a122, a123, a124, a125, a126, a127, a128, a129, a130, a131, a132, a133, a134, a135, a136, a137, a138, a139, a140, a141, a142, a143, a144, a145, a146, a147, a148, a149, a150, a151, a152, a153, a154, a155, a156, a157, a158, a159, a160, a161, a162, a163, a164, a165, a166, a167, a168, a169, a170, a171]) (hn : yar E md A (k + 1) os acc [a0, a1, a2, a3, a4, a5, a6, a7, a8, a9, a10, a11, a12, a13, a14, a15, a16, a17, a18, a19, a20, a21, a22, a23, a24, a25, a26, a27, a28, a29, a30, a31, a32, a33, a34, a35, a36, a37, a38, a39, a40, a41, a42, a43, a44, a45, a46, a47, a48, a49, a50, a51, a52, a53, a54, a55, a56, a57, a58, a59, a60, a61, a62, a63, a64, a65, a66, a67, a68, a69, a70, a71, a72, a73, a74, a75, a76, a77, a78, a79, a80, a81, a82, a83, a84, a85, a86, a87, a88, a89, a90, a91, a92, a93, a94, a95, a96, a97, a98, a99, a100, a101, a102, a103, a104, a105, a106, a107, a108, a109, a110, a111, a112, a113, a114, a115, a116, a117, a118, a119, a120, a121, a122, a123, a124, a125, a126, a127, a128, a129, a130, a131, a132, a133, a134, a135, a136, a137, a138, a139, a140, a141, a142, a143, a144, a145, a146, a147, a148, a149, a150, a151, a152, a153, a154, a155, a156, a157, a158, a159, a160, a161, a162, a163, a164, a165, a166, a167, a168, a169, a170, a171] g K) : yar E md A k (o :: os) acc s h K := yqt hg hb hop hk hs hn
theorem ycl {E : Env} {md : Go.FuncId → Sb.Mode} {A : List (List Nat)} {k : Nat} {o : ROp} {os : List ROp} {acc : List (Nat × Go.Op × List V × V)} {s : List V} {h g : Heap} {v : V} {K : List V → Heap → Prop} {a0 a1 a2 a3 a4 a5 a6 a7 a8 a9 a10 a11 a12 a13 a14 a15 a16 a17 a18 a19 a20 a21 a22 a23 a24 a25 a26 a27 a28 a29 a30 a31 a32 a33 a34 a35 a36 a37 a38 a39 a40 a41 a42 a43 a44 a45 a46 a47 a48 a49 a50 a51 a52 a53 a54 a55 a56 a57 a58 a59 a60 a61 a62 a63 a64 a65 a66 a67 a68 a69 a70 a71 a72 a73 a74 a75 a76 a77 a78 a79 a80 a81 a82 a83 a84 a85 a86 a87 a88 a89 a90 a91 a92 a93 a94 a95 a96 a97 a98 a99 a100 a101 a102 a103 a104 a105 a106 a107 a108 a109 a110 a111 a112 a113 a114 a115 a116 a117 a118 a119 a120 a121 a122 a123 a124 a125 a126 a127 a128 a129 a130 a131 a132 a133 a134 a135 a136 a137 a138 a139 a140 a141 a142 a143 a144 a145 a146 a147 a148 a149 a150 a151 a152 a153 a154 a155 a156 a157 a158 a159 a160 a161 a162 a163 a164 a165 a166 a167 a168 a169 a170 a171 : V} (hg : o.gd = none) (hop : ∀ K : V → Heap → Prop, K v g → runOp E md o.op s h K) (hk : yal E md o.op = 0) (hs : putT s o.dst v = [a0, a1, a2, a3, a4, a5, a6, a7, a8, a9, a10, a11, a12, a13, a14, a15, a16, a17, a18, a19, a20, a21, a22, a23, a24, a25, a26, a27, a28, a29, a30, a31, a32, a33, a34, a35, a36, a37, a38, a39, a40, a41, a42, a43, a44, a45, a46, a47, a48, a49, a50, a51, a52, a53, a54, a55, a56, a57, a58, a59, a60, a61, a62, a63, a64, a65, a66, a67, a68, a69, a70, a71, a72, a73, a74, a75, a76, a77, a78, a79, a80, a81, a82, a83, a84, a85, a86, a87, a88, a89, a90, a91, a92, a93, a94, a95, a96, a97, a98, a99, a100, a101, a102, a103, a104, a105, a106, a107, a108, a109, a110, a111, a112, a113, a114, a115, a116, a117, a118, a119, a120, a121, a122, a123, a124, a125, a126, a127, a128, a129, a130, a131, a132, a133, a134, a135, a136, a137, a138, a139, a140, a141, a142, a143, a144, a145, a146, a147, a148, a149, a150, a151, a152, a153, a154, a155, a156, a157, a158, a159, a160, a161, a162, a163, a164, a165, a166, a167, a168, a169, a170, a171]) (hn : yar E md A (k + 1) os acc [a0, a1, a2, a3, a4, a5, a6, a7, a8, a9, a10, a11, a12, a13, a14, a15, a16, a17, a18, a19, a20, a21, a22, a23, a24, a25, a26, a27, a28, a29, a30, a31, a32, a33, a34, a35, a36, a37, a38, a39, a40, a41, a42, a43, a44, a45, a46, a47, a48, a49, a50, a51, a52, a53, a54, a55, a56, a57, a58, a59, a60, a61, a62, a63, a64, a65, a66, a67, a68, a69, a70, a71, a72, a73, a74, a75, a76, a77, a78, a79, a80, a81, a82, a83, a84, a85, a86, a87, a88, a89, a90, a91, a92, a93, a94, a95, a96, a97, a98, a99, a100, a101, a102, a103, a104, a105, a106, a107, a108, a109, a110, a111, a112, a113, a114, a115, a116, a117, a118, a119, a120, a121, a122, a123, a124, a125, a126, a127, a128, a129, a130, a131, a132, a133, a134, a135, a136, a137, a138, a139, a140, a141, a142, a143, a144, a145, a146, a147, a148, a149, a150, a151, a152, a153, a154, a155, a156, a157, a158, a159, a160, a161, a162, a163, a164, a165, a166, a167, a168, a169, a170, a171] g K) : yar E md A k (o :: os) acc s h K := yih hg hop hk hs hn
theorem ybm {E : Env} {md : Go.FuncId → Sb.Mode} {o : ROp} {os : List ROp} {s : List V} {h : Heap} {K : List V → Heap → Prop} {a0 a1 a2 a3 a4 a5 a6 a7 a8 a9 a10 a11 a12 a13 a14 a15 a16 a17 a18 a19 a20 a21 a22 a23 a24 a25 a26 a27 a28 a29 a30 a31 a32 a33 a34 a35 a36 a37 a38 a39 a40 a41 a42 a43 a44 a45 a46 a47 a48 a49 a50 a51 a52 a53 a54 a55 a56 a57 a58 a59 a60 a61 a62 a63 a64 a65 a66 a67 a68 a69 a70 a71 a72 a73 a74 a75 a76 a77 a78 a79 a80 a81 a82 a83 a84 a85 a86 a87 a88 a89 a90 a91 a92 a93 a94 a95 a96 a97 a98 a99 a100 a101 a102 a103 a104 a105 a106 a107 a108 a109 a110 a111 a112 a113 a114 a115 a116 a117 a118 a119 a120 a121 a122 a123 a124 a125 a126 a127 a128 a129 a130 a131 a132 a133 a134 a135 a136 a137 a138 a139 a140 a141 a142 a143 a144 a145 a146 a147 a148 a149 a150 a151 a152 a153 a154 a155 a156 a157 a158 a159 a160 a161 a162 a163 a164 a165 a166 a167 a168 a169 a170 a171 : V} {t : Go.Tmp} {w b : Bool} (hn : yai E md os [a0, a1, a2, a3, a4, a5, a6, a7, a8, a9, a10, a11, a12, a13, a14, a15, a16, a17, a18, a19, a20, a21, a22, a23, a24, a25, a26, a27, a28, a29, a30, a31, a32, a33, a34, a35, a36, a37, a38, a39, a40, a41, a42, a43, a44, a45, a46, a47, a48, a49, a50, a51, a52, a53, a54, a55, a56, a57, a58, a59, a60, a61, a62, a63, a64, a65, a66, a67, a68, a69, a70, a71, a72, a73, a74, a75, a76, a77, a78, a79, a80, a81, a82, a83, a84, a85, a86, a87, a88, a89, a90, a91, a92, a93, a94, a95, a96, a97, a98, a99, a100, a101, a102, a103, a104, a105, a106, a107, a108, a109, a110, a111, a112, a113, a114, a115, a116, a117, a118, a119, a120, a121, a122, a123, a124, a125, a126, a127, a128, a129, a130, a131, a132, a133, a134, a135, a136, a137, a138, a139, a140, a141, a142, a143, a144, a145, a146, a147, a148, a149, a150, a151, a152, a153, a154, a155, a156, a157, a158, a159, a160, a161, a162, a163, a164, a165, a166, a167, a168, a169, a170, a171] h K) (hg : o.gd = some (t, w) := by rfl) (hb : getT s t = .bool b := by rfl) (hw : b = !w := by rfl) (hs : putT s o.dst und = [a0, a1, a2, a3, a4, a5, a6, a7, a8, a9, a10, a11, a12, a13, a14, a15, a16, a17, a18, a19, a20, a21, a22, a23, a24, a25, a26, a27, a28, a29, a30, a31, a32, a33, a34, a35, a36, a37, a38, a39, a40, a41, a42, a43, a44, a45, a46, a47, a48, a49, a50, a51, a52, a53, a54, a55, a56, a57, a58, a59, a60, a61, a62, a63, a64, a65, a66, a67, a68, a69, a70, a71, a72, a73, a74, a75, a76, a77, a78, a79, a80, a81, a82, a83, a84, a85, a86, a87, a88, a89, a90, a91, a92, a93, a94, a95, a96, a97, a98, a99, a100, a101, a102, a103, a104, a105, a106, a107, a108, a109, a110, a111, a112, a113, a114, a115, a116, a117, a118, a119, a120, a121, a122, a123, a124, a125, a126, a127, a128, a129, a130, a131, a132, a133, a134, a135, a136, a137, a138, a139, a140, a141, a142, a143, a144, a145, a146, a147, a148, a149, a150, a151, a152, a153, a154, a155, a156, a157, a158, a159, a160, a161, a162, a163, a164, a165, a166, a167, a168, a169, a170, a171] := by rfl) : yai E md (o :: os) s h K := yfl hg hb hw hs hn
theorem yac {E : Env} {md : Go.FuncId → Sb.Mode} {o : ROp} {os : List ROp} {s : List V} {h g : Heap} {v : V} {K : List V → Heap → Prop} {a0 a1 a2 a3 a4 a5 a6 a7 a8 a9 a10 a11 a12 a13 a14 a15 a16 a17 a18 a19 a20 a21 a22 a23 a24 a25 a26 a27 a28 a29 a30 a31 a32 a33 a34 a35 a36 a37 a38 a39 a40 a41 a42 a43 a44 a45 a46 a47 a48 a49 a50 a51 a52 a53 a54 a55 a56 a57 a58 a59 a60 a61 a62 a63 a64 a65 a66 a67 a68 a69 a70 a71 a72 a73 a74 a75 a76 a77 a78 a79 a80 a81 a82 a83 a84 a85 a86 a87 a88 a89 a90 a91 a92 a93 a94 a95 a96 a97 a98 a99 a100 a101 a102 a103 a104 a105 a106 a107 a108 a109 a110 a111 a112 a113 a114 a115 a116 a117 a118 a119 a120 a121 a122 a123 a124 a125 a126 a127 a128 a129 a130 a131 a132 a133 a134 a135 a136 a137 a138 a139 a140 a141 a142 a143 a144 a145 a146 a147 a148 a149 a150 a151 a152 a153 a154 a155 a156 a157 a158 a159 a160 a161 a162 a163 a164 a165 a166 a167 a168 a169 a170 a171 : V} (hn : yai E md os [a0, a1, a2, a3, a4, a5, a6, a7, a8, a9, a10, a11, a12, a13, a14, a15, a16, a17, a18, a19, a20, a21, a22, a23, a24, a25, a26, a27, a28, a29, a30, a31, a32, a33, a34, a35, a36, a37, a38, a39, a40, a41, a42, a43, a44, a45, a46, a47, a48, a49, a50, a51, a52, a53, a54, a55, a56, a57, a58, a59, a60, a61, a62, a63, a64, a65, a66, a67, a68, a69, a70, a71, a72, a73, a74, a75, a76, a77, a78, a79, a80, a81, a82, a83, a84, a85, a86, a87, a88, a89, a90, a91, a92, a93, a94, a95, a96, a97, a98, a99, a100, a101, a102, a103, a104, a105, a106, a107, a108, a109, a110, a111, a112, a113, a114, a115, a116, a117, a118, a119, a120, a121, a122, a123, a124, a125, a126, a127, a128, a129, a130, a131, a132, a133, a134, a135, a136, a137, a138, a139, a140, a141, a142, a143, a144, a145, a146, a147, a148, a149, a150, a151, a152, a153, a154, a155, a156, a157, a158, a159, a160, a161, a162, a163, a164, a165, a166, a167, a168, a169, a170, a171] g K) (hop : ∀ K : V → Heap → Prop, K v g → runOp E md o.op s h K := by exact fun _ => id) (hg : o.gd = none := by rfl) (hs : putT s o.dst v = [a0, a1, a2, a3, a4, a5, a6, a7, a8, a9, a10, a11, a12, a13, a14, a15, a16, a17, a18, a19, a20, a21, a22, a23, a24, a25, a26, a27, a28, a29, a30, a31, a32, a33, a34, a35, a36, a37, a38, a39, a40, a41, a42, a43, a44, a45, a46, a47, a48, a49, a50, a51, a52, a53, a54, a55, a56, a57, a58, a59, a60, a61, a62, a63, a64, a65, a66, a67, a68, a69, a70, a71, a72, a73, a74, a75, a76, a77, a78, a79, a80, a81, a82, a83, a84, a85, a86, a87, a88, a89, a90, a91, a92, a93, a94, a95, a96, a97, a98, a99, a100, a101, a102, a103, a104, a105, a106, a107, a108, a109, a110, a111, a112, a113, a114, a115, a116, a117, a118, a119, a120, a121, a122, a123, a124, a125, a126, a127, a128, a129, a130, a131, a132, a133, a134, a135, a136, a137, a138, a139, a140, a141, a142, a143, a144, a145, a146, a147, a148, a149, a150, a151, a152, a153, a154, a155, a156, a157, a158, a159, a160, a161, a162, a163, a164, a165, a166, a167, a168, a169, a170, a171] := by rfl) : yai E md (o :: os) s h K := ybl hg hop hs hn
theorem yas {E : Env} {md : Go.FuncId → Sb.Mode} {o : ROp} {os : List ROp} {s : List V} {h g : Heap} {v : V} {K : List V → Heap → Prop} {a0 a1 a2 a3 a4 a5 a6 a7 a8 a9 a10 a11 a12 a13 a14 a15 a16 a17 a18 a19 a20 a21 a22 a23 a24 a25 a26 a27 a28 a29 a30 a31 a32 a33 a34 a35 a36 a37 a38 a39 a40 a41 a42 a43 a44 a45 a46 a47 a48 a49 a50 a51 a52 a53 a54 a55 a56 a57 a58 a59 a60 a61 a62 a63 a64 a65 a66 a67 a68 a69 a70 a71 a72 a73 a74 a75 a76 a77 a78 a79 a80 a81 a82 a83 a84 a85 a86 a87 a88 a89 a90 a91 a92 a93 a94 a95 a96 a97 a98 a99 a100 a101 a102 a103 a104 a105 a106 a107 a108 a109 a110 a111 a112 a113 a114 a115 a116 a117 a118 a119 a120 a121 a122 a123 a124 a125 a126 a127 a128 a129 a130 a131 a132 a133 a134 a135 a136 a137 a138 a139 a140 a141 a142 a143 a144 a145 a146 a147 a148 a149 a150 a151 a152 a153 a154 a155 a156 a157 a158 a159 a160 a161 a162 a163 a164 a165 a166 a167 a168 a169 a170 a171 : V} {t : Go.Tmp} {w : Bool} (hn : yai E md os [a0, a1, a2, a3, a4, a5, a6, a7, a8, a9, a10, a11, a12, a13, a14, a15, a16, a17, a18, a19, a20, a21, a22, a23, a24, a25, a26, a27, a28, a29, a30, a31, a32, a33, a34, a35, a36, a37, a38, a39, a40, a41, a42, a43, a44, a45, a46, a47, a48, a49, a50, a51, a52, a53, a54, a55, a56, a57, a58, a59, a60, a61, a62, a63, a64, a65, a66, a67, a68, a69, a70, a71, a72, a73, a74, a75, a76, a77, a78, a79, a80, a81, a82, a83, a84, a85, a86, a87, a88, a89, a90, a91, a92, a93, a94, a95, a96, a97, a98, a99, a100, a101, a102, a103, a104, a105, a106, a107, a108, a109, a110, a111, a112, a113, a114, a115, a116, a117, a118, a119, a120, a121, a122, a123, a124, a125, a126, a127, a128, a129, a130, a131, a132, a133, a134, a135, a136, a137, a138, a139, a140, a141, a142, a143, a144, a145, a146, a147, a148, a149, a150, a151, a152, a153, a154, a155, a156, a157, a158, a159, a160, a161, a162, a163, a164, a165, a166, a167, a168, a169, a170, a171] g K) (hop : ∀ K : V → Heap → Prop, K v g → runOp E md o.op s h K := by exact fun _ => id) (hg : o.gd = some (t, w) := by rfl) (hb : getT s t = .bool w := by rfl) (hs : putT s o.dst v = [a0, a1, a2, a3, a4, a5, a6, a7, a8, a9, a10, a11, a12, a13, a14, a15, a16, a17, a18, a19, a20, a21, a22, a23, a24, a25, a26, a27, a28, a29, a30, a31, a32, a33, a34, a35, a36, a37, a38, a39, a40, a41, a42, a43, a44, a45, a46, a47, a48, a49, a50, a51, a52, a53, a54, a55, a56, a57, a58, a59, a60, a61, a62, a63, a64, a65, a66, a67, a68, a69, a70, a71, a72, a73, a74, a75, a76, a77, a78, a79, a80, a81, a82, a83, a84, a85, a86, a87, a88, a89, a90, a91, a92, a93, a94, a95, a96, a97, a98, a99, a100, a101, a102, a103, a104, a105, a106, a107, a108, a109, a110, a111, a112, a113, a114, a115, a116, a117, a118, a119, a120, a121, a122, a123, a124, a125, a126, a127, a128, a129, a130, a131, a132, a133, a134, a135, a136, a137, a138, a139, a140, a141, a142, a143, a144, a145, a146, a147, a148, a149, a150, a151, a152, a153, a154, a155, a156, a157, a158, a159, a160, a161, a162, a163, a164, a165, a166, a167, a168, a169, a170, a171] := by rfl) : yai E md (o :: os) s h K := yez hg hb hop hs hn
set_option maxHeartbeats 64000000 in
theorem rask_has (h : Heap) (c : Cod) (f : Fnc) (L : List Ins) (k : Nat) (op a b cc kd n : Int) (tx : List UInt8) (l : Option (List Int)) (hS : 0 ≤ f.s ∧ f.s ≤ 200) (hl : lenO f.cd ≤ 4000) (hc : lenO c ≤ 1000) (hx : lenO l ≤ 2 ^ 50) (hcd : f.cd = some L) (hk : k ≤ L.length) : Has envQ .own 75 [ckV c f, .agg (iC op a b cc kd n tx l), .int .i64 k] h (.val (.bool (decide (rAskP c f L k ⟨op, a, b, cc, kd, n, tx, l⟩))) h) := by
 have hcl : lenO f.cd = L.length := by rw [hcd]; rfl
 suffices hx : ∃ v, Has envQ .own 75 [ckV c f, .agg (iC op a b cc kd n tx l), .int .i64 k] h (.val v h) ∧ v = .bool (decide (rAskP c f L k ⟨op, a, b, cc, kd, n, tx, l⟩)) by
  obtain ⟨v, h1, rfl⟩ := hx; exact h1
 refine HasP.ownE (a := [ckV c f, .agg (iC op a b cc kd n tx l), .int .i64 k]) (d := fn75) (yaj (fz_ag (ych _ _)) (yaj (fz_ag (yec _ _ _ _ _ _ _ _)) (yaj rfl yax))) rfl rfl (jT rfl) ?_
 show ybc (initT _ [ckV c f, .agg (iC op a b cc kd n tx l), .int .i64 k]) _
 refine jW ?_
 refine jR _ ?_
 refine yac (v := .ptr 0 0 6) (g := [.cells 81 (ckC c f)]) ?_ (fun K hK => yco (ych _ _) hK)
 refine yac (v := .ptr 1 0 8) (g := [.cells 81 (ckC c f), .cells 68 (iC op a b cc kd n tx l)]) ?_ (fun K hK => yco (yec _ _ _ _ _ _ _ _) hK)
 refine yac ?_
 refine jW ?_
 refine jR _ ?_
 iterate 2 (refine yac ?_)
 refine jW ?_
 by_cases h5 : b = 5
 case pos =>
  have hR : rAskP c f L k ⟨op, a, b, cc, kd, n, tx, l⟩ ↔ fitP c f.s cc l := by
   unfold rAskP
   simp only
   rw [if_pos (by omega)]
  obtain ⟨bF, hbF⟩ : ∃ w, decide (fitP c f.s cc l) = w := ⟨_, rfl⟩
  have kbF := yrb [.cells 81 (ckC c f), .cells 68 (iC op a b cc kd n tx l)] c f cc l hS hl hc hx
  rw [hbF] at kbF
  refine jR _ ?_
  refine yac ?_ (fun K hK => jY (fun _ => hK) (by omega))
  refine yac ?_
  refine jW ?_
  refine jR _ ?_
  iterate 5 (refine yac ?_)
  cases bF
  ·refine yac ?_ (fun K hK => CallK.of kbF hK)
   refine yac ?_
   refine jW ?_
   apply jH
   exact ⟨rfl, _, rfl, jO _, vN (fun q => by have q1 := hR.1 q; obtain ⟨qx, qy⟩ := q1; have w := jU hbF; first | exact absurd (hR.1 q) w | omega)⟩
  ·refine yac ?_ (fun K hK => CallK.of kbF hK)
   refine yac ?_
   refine jW ?_
   apply jH
   exact ⟨rfl, _, rfl, jO _, vY (hR.2 (jT hbF))⟩
 refine jR _ ?_
 refine yac ?_ (fun K hK => jN (by omega) (fun _ => hK))
 refine yac ?_
 refine jW ?_
 by_cases h8 : b = 8
 case pos =>
  have hR : rAskP c f L k ⟨op, a, b, cc, kd, n, tx, l⟩ ↔ (0 ≤ cc ∧ cc ≤ 2) ∧ lenO l = 1 ∧ slsP f.s l := by
   unfold rAskP
   simp only
   rw [if_neg (by omega), if_pos (by omega)]
  obtain ⟨bA, hbA⟩ : ∃ w, decide (0 ≤ cc) = w := ⟨_, rfl⟩
  obtain ⟨bB, hbB⟩ : ∃ w, decide (cc ≤ 2) = w := ⟨_, rfl⟩
  obtain ⟨bC, hbC⟩ : ∃ w, decide ((lenO l : Int) = 1) = w := ⟨_, rfl⟩
  obtain ⟨bS, hbS⟩ : ∃ w, decide (slsP f.s l) = w := ⟨_, rfl⟩
  have kbS := yfn [.cells 81 (ckC c f), .cells 68 (iC op a b cc kd n tx l)] c f l hS hx
  rw [hbS] at kbS
  refine jR _ ?_
  refine yac ?_ (fun K hK => jY (fun _ => hK) (by omega))
  refine yac ?_
  refine jW ?_
  refine jR _ ?_
  iterate 2 (refine yac ?_)
  cases bA
  ·refine yac ?_ (fun K hK => cmp2 (R := 0 ≤ cc) (fun w => by omega) (fun w => by omega) (by rw [hbA]; exact hK))
   refine yac ?_
   iterate 3 (refine ybm ?_)
   iterate 2 (refine yac ?_)
   iterate 4 (refine ybm ?_)
   iterate 2 (refine yac ?_)
   iterate 4 (refine ybm ?_)
   iterate 2 (refine yac ?_)
   refine jW ?_
   apply jH
   exact ⟨rfl, _, rfl, jO _, vN (fun q => by have q1 := hR.1 q; obtain ⟨q0, q1, q2⟩ := q1; have w := jU hbA; first | exact absurd q0 w | omega)⟩
  ·refine yac ?_ (fun K hK => cmp2 (R := 0 ≤ cc) (fun w => by omega) (fun w => by omega) (by rw [hbA]; exact hK))
   refine yac ?_
   iterate 2 (refine yas ?_)
   cases bB
   ·refine yas ?_ (fun K hK => cmp2 (R := cc ≤ 2) (fun w => by omega) (fun w => by omega) (by rw [hbB]; exact hK))
    iterate 2 (refine yac ?_)
    iterate 4 (refine ybm ?_)
    iterate 2 (refine yac ?_)
    iterate 4 (refine ybm ?_)
    iterate 2 (refine yac ?_)
    refine jW ?_
    apply jH
    exact ⟨rfl, _, rfl, jO _, vN (fun q => by have q1 := hR.1 q; obtain ⟨q0, q1, q2⟩ := q1; have w := jU hbB; first | exact absurd q0 w | omega)⟩
   ·refine yas ?_ (fun K hK => cmp2 (R := cc ≤ 2) (fun w => by omega) (fun w => by omega) (by rw [hbB]; exact hK))
    iterate 2 (refine yac ?_)
    iterate 2 (refine yas ?_)
    refine yas ?_ (fun K hK => yan (E := envQ) (t := 66) (el := 3) (d := ty66) rfl rfl hK)
    cases bC
    ·refine yas ?_ (fun K hK => cmpK (by rw [hbC]; exact hK))
     iterate 2 (refine yac ?_)
     iterate 4 (refine ybm ?_)
     iterate 2 (refine yac ?_)
     refine jW ?_
     apply jH
     exact ⟨rfl, _, rfl, jO _, vN (fun q => by have q1 := hR.1 q; obtain ⟨q0, q1, q2⟩ := q1; have w := jU hbC; first | exact absurd q1 w | omega)⟩
    ·refine yas ?_ (fun K hK => cmpK (by rw [hbC]; exact hK))
     iterate 2 (refine yac ?_)
     iterate 3 (refine yas ?_)
     cases bS
     ·refine yas ?_ (fun K hK => CallK.of kbS hK)
      iterate 2 (refine yac ?_)
      refine jW ?_
      apply jH
      exact ⟨rfl, _, rfl, jO _, vN (fun q => by have q1 := hR.1 q; obtain ⟨q0, q1, q2⟩ := q1; have w := jU hbS; first | exact absurd q2 w | omega)⟩
     ·refine yas ?_ (fun K hK => CallK.of kbS hK)
      iterate 2 (refine yac ?_)
      refine jW ?_
      apply jH
      exact ⟨rfl, _, rfl, jO _, vY (hR.2 ⟨(by have := jT hbA; have := jT hbB; omega), (by have := jT hbC; omega), jT hbS⟩)⟩
 refine jR _ ?_
 refine yac ?_ (fun K hK => jN (by omega) (fun _ => hK))
 refine yac ?_
 refine jW ?_
 by_cases h15 : b = 15
 case pos =>
  have hR : rAskP c f L k ⟨op, a, b, cc, kd, n, tx, l⟩ ↔ (0 ≤ cc ∧ cc ≤ 1) ∧ lenO l = 1 ∧ slsP f.s l ∧ armsN L k ≤ 4 := by
   unfold rAskP
   simp only
   rw [if_neg (by omega), if_neg (by omega), if_pos (by omega)]
  obtain ⟨bA, hbA⟩ : ∃ w, decide (0 ≤ cc) = w := ⟨_, rfl⟩
  obtain ⟨bB, hbB⟩ : ∃ w, decide (cc ≤ 1) = w := ⟨_, rfl⟩
  obtain ⟨bC, hbC⟩ : ∃ w, decide ((lenO l : Int) = 1) = w := ⟨_, rfl⟩
  obtain ⟨bS, hbS⟩ : ∃ w, decide (slsP f.s l) = w := ⟨_, rfl⟩
  have kbS := yfn [.cells 81 (ckC c f), .cells 68 (iC op a b cc kd n tx l)] c f l hS hx
  rw [hbS] at kbS
  obtain ⟨bR, hbR⟩ : ∃ w, decide ((armsN L k : Int) ≤ 4) = w := ⟨_, rfl⟩
  refine jR _ ?_
  refine yac ?_ (fun K hK => jY (fun _ => hK) (by omega))
  refine yac ?_
  refine jW ?_
  refine jR _ ?_
  iterate 2 (refine yac ?_)
  cases bA
  ·refine yac ?_ (fun K hK => cmp2 (R := 0 ≤ cc) (fun w => by omega) (fun w => by omega) (by rw [hbA]; exact hK))
   refine yac ?_
   iterate 3 (refine ybm ?_)
   iterate 2 (refine yac ?_)
   iterate 4 (refine ybm ?_)
   iterate 2 (refine yac ?_)
   iterate 4 (refine ybm ?_)
   iterate 2 (refine yac ?_)
   iterate 5 (refine ybm ?_)
   iterate 2 (refine yac ?_)
   refine jW ?_
   apply jH
   exact ⟨rfl, _, rfl, jO _, vN (fun q => by have q1 := hR.1 q; obtain ⟨q0, q1, q2, q3⟩ := q1; have w := jU hbA; first | exact absurd q0 w | omega)⟩
  ·refine yac ?_ (fun K hK => cmp2 (R := 0 ≤ cc) (fun w => by omega) (fun w => by omega) (by rw [hbA]; exact hK))
   refine yac ?_
   iterate 2 (refine yas ?_)
   cases bB
   ·refine yas ?_ (fun K hK => cmp2 (R := cc ≤ 1) (fun w => by omega) (fun w => by omega) (by rw [hbB]; exact hK))
    iterate 2 (refine yac ?_)
    iterate 4 (refine ybm ?_)
    iterate 2 (refine yac ?_)
    iterate 4 (refine ybm ?_)
    iterate 2 (refine yac ?_)
    iterate 5 (refine ybm ?_)
    iterate 2 (refine yac ?_)
    refine jW ?_
    apply jH
    exact ⟨rfl, _, rfl, jO _, vN (fun q => by have q1 := hR.1 q; obtain ⟨q0, q1, q2, q3⟩ := q1; have w := jU hbB; first | exact absurd q0 w | omega)⟩
   ·refine yas ?_ (fun K hK => cmp2 (R := cc ≤ 1) (fun w => by omega) (fun w => by omega) (by rw [hbB]; exact hK))
    iterate 2 (refine yac ?_)
    iterate 2 (refine yas ?_)
    refine yas ?_ (fun K hK => yan (E := envQ) (t := 66) (el := 3) (d := ty66) rfl rfl hK)
    cases bC
    ·refine yas ?_ (fun K hK => cmpK (by rw [hbC]; exact hK))
     iterate 2 (refine yac ?_)
     iterate 4 (refine ybm ?_)
     iterate 2 (refine yac ?_)
     iterate 5 (refine ybm ?_)
     iterate 2 (refine yac ?_)
     refine jW ?_
     apply jH
     exact ⟨rfl, _, rfl, jO _, vN (fun q => by have q1 := hR.1 q; obtain ⟨q0, q1, q2, q3⟩ := q1; have w := jU hbC; first | exact absurd q1 w | omega)⟩
    ·refine yas ?_ (fun K hK => cmpK (by rw [hbC]; exact hK))
     iterate 2 (refine yac ?_)
     iterate 3 (refine yas ?_)
     cases bS
     ·refine yas ?_ (fun K hK => CallK.of kbS hK)
      iterate 2 (refine yac ?_)
      iterate 5 (refine ybm ?_)
      iterate 2 (refine yac ?_)
      refine jW ?_
      apply jH
      exact ⟨rfl, _, rfl, jO _, vN (fun q => by have q1 := hR.1 q; obtain ⟨q0, q1, q2, q3⟩ := q1; have w := jU hbS; first | exact absurd q2 w | omega)⟩
     ·refine yas ?_ (fun K hK => CallK.of kbS hK)
      iterate 2 (refine yac ?_)
      iterate 3 (refine yas ?_)
      refine yas ?_ (fun K hK => CallK.of (ywm [.cells 81 (ckC c f), .cells 68 (iC op a b cc kd n tx l)] f L hcd k hk (by omega)) hK)
      cases bR
      ·refine yas ?_ (fun K hK => cmp2 (R := (armsN L k : Int) ≤ 4) (fun w => by omega) (fun w => by omega) (by rw [hbR]; exact hK))
       iterate 2 (refine yac ?_)
       refine jW ?_
       apply jH
       exact ⟨rfl, _, rfl, jO _, vN (fun q => by have q1 := hR.1 q; obtain ⟨q0, q1, q2, q3⟩ := q1; have w := jU hbR; first | exact absurd q3 w | omega)⟩
      ·refine yas ?_ (fun K hK => cmp2 (R := (armsN L k : Int) ≤ 4) (fun w => by omega) (fun w => by omega) (by rw [hbR]; exact hK))
       iterate 2 (refine yac ?_)
       refine jW ?_
       apply jH
       exact ⟨rfl, _, rfl, jO _, vY (hR.2 ⟨(by have := jT hbA; have := jT hbB; omega), (by have := jT hbC; omega), jT hbS, (by have := jT hbR; omega)⟩)⟩
 refine jR _ ?_
 refine yac ?_ (fun K hK => jN (by omega) (fun _ => hK))
 refine yac ?_
 refine jW ?_
 by_cases h16 : b = 16
 case pos =>
  have hR : rAskP c f L k ⟨op, a, b, cc, kd, n, tx, l⟩ ↔ (0 ≤ cc ∧ cc ≤ 1) ∧ lenO l ≤ 1 ∧ slsP f.s l := by
   unfold rAskP
   simp only
   rw [if_neg (by omega), if_neg (by omega), if_neg (by omega), if_pos (by omega)]
  obtain ⟨bA, hbA⟩ : ∃ w, decide (0 ≤ cc) = w := ⟨_, rfl⟩
  obtain ⟨bB, hbB⟩ : ∃ w, decide (cc ≤ 1) = w := ⟨_, rfl⟩
  obtain ⟨bC, hbC⟩ : ∃ w, decide ((lenO l : Int) ≤ 1) = w := ⟨_, rfl⟩
  obtain ⟨bS, hbS⟩ : ∃ w, decide (slsP f.s l) = w := ⟨_, rfl⟩
  have kbS := yfn [.cells 81 (ckC c f), .cells 68 (iC op a b cc kd n tx l)] c f l hS hx
  rw [hbS] at kbS
  refine jR _ ?_
  refine yac ?_ (fun K hK => jY (fun _ => hK) (by omega))
  refine yac ?_
  refine jW ?_
  refine jR _ ?_
  iterate 2 (refine yac ?_)
  cases bA
  ·refine yac ?_ (fun K hK => cmp2 (R := 0 ≤ cc) (fun w => by omega) (fun w => by omega) (by rw [hbA]; exact hK))
   refine yac ?_
   iterate 3 (refine ybm ?_)
   iterate 2 (refine yac ?_)
   iterate 4 (refine ybm ?_)
   iterate 2 (refine yac ?_)
   iterate 4 (refine ybm ?_)
   iterate 2 (refine yac ?_)
   refine jW ?_
   apply jH
   exact ⟨rfl, _, rfl, jO _, vN (fun q => by have q1 := hR.1 q; obtain ⟨q0, q1, q2⟩ := q1; have w := jU hbA; first | exact absurd q0 w | omega)⟩
  ·refine yac ?_ (fun K hK => cmp2 (R := 0 ≤ cc) (fun w => by omega) (fun w => by omega) (by rw [hbA]; exact hK))
   refine yac ?_
   iterate 2 (refine yas ?_)
   cases bB
   ·refine yas ?_ (fun K hK => cmp2 (R := cc ≤ 1) (fun w => by omega) (fun w => by omega) (by rw [hbB]; exact hK))
    iterate 2 (refine yac ?_)
    iterate 4 (refine ybm ?_)
    iterate 2 (refine yac ?_)
    iterate 4 (refine ybm ?_)
    iterate 2 (refine yac ?_)
    refine jW ?_
    apply jH
    exact ⟨rfl, _, rfl, jO _, vN (fun q => by have q1 := hR.1 q; obtain ⟨q0, q1, q2⟩ := q1; have w := jU hbB; first | exact absurd q0 w | omega)⟩
   ·refine yas ?_ (fun K hK => cmp2 (R := cc ≤ 1) (fun w => by omega) (fun w => by omega) (by rw [hbB]; exact hK))
    iterate 2 (refine yac ?_)
    iterate 2 (refine yas ?_)
    refine yas ?_ (fun K hK => yan (E := envQ) (t := 66) (el := 3) (d := ty66) rfl rfl hK)
    cases bC
    ·refine yas ?_ (fun K hK => cmp2 (R := (lenO l : Int) ≤ 1) (fun w => by omega) (fun w => by omega) (by rw [hbC]; exact hK))
     iterate 2 (refine yac ?_)
     iterate 4 (refine ybm ?_)
     iterate 2 (refine yac ?_)
     refine jW ?_
     apply jH
     exact ⟨rfl, _, rfl, jO _, vN (fun q => by have q1 := hR.1 q; obtain ⟨q0, q1, q2⟩ := q1; have w := jU hbC; first | exact absurd q1 w | omega)⟩
    ·refine yas ?_ (fun K hK => cmp2 (R := (lenO l : Int) ≤ 1) (fun w => by omega) (fun w => by omega) (by rw [hbC]; exact hK))
     iterate 2 (refine yac ?_)
     iterate 3 (refine yas ?_)
     cases bS
     ·refine yas ?_ (fun K hK => CallK.of kbS hK)
      iterate 2 (refine yac ?_)
      refine jW ?_
      apply jH
      exact ⟨rfl, _, rfl, jO _, vN (fun q => by have q1 := hR.1 q; obtain ⟨q0, q1, q2⟩ := q1; have w := jU hbS; first | exact absurd q2 w | omega)⟩
     ·refine yas ?_ (fun K hK => CallK.of kbS hK)
      iterate 2 (refine yac ?_)
      refine jW ?_
      apply jH
      exact ⟨rfl, _, rfl, jO _, vY (hR.2 ⟨(by have := jT hbA; have := jT hbB; omega), (by have := jT hbC; omega), jT hbS⟩)⟩
 refine jR _ ?_
 refine yac ?_ (fun K hK => jN (by omega) (fun _ => hK))
 refine yac ?_
 refine jW ?_
 by_cases h17 : b = 17
 case pos =>
  have hR : rAskP c f L k ⟨op, a, b, cc, kd, n, tx, l⟩ ↔ cc = 0 ∧ (lenO l = 0 ∨ (lenO l = 1 ∧ slP f.s ((l.getD []).headD 0) 2)) := by
   unfold rAskP
   simp only
   rw [if_neg (by omega), if_neg (by omega), if_neg (by omega), if_neg (by omega), if_pos (by omega)]
  refine jR _ ?_
  refine yac ?_ (fun K hK => jY (fun _ => hK) (by omega))
  refine yac ?_
  refine jW ?_
  by_cases h0 : cc = 0
  case neg =>
   refine RunP.drawnR _ (by decide +kernel) (fun _ => rfl) ?_
   refine ycl rfl (fun _ => id) (by decide +kernel) rfl ?_
   refine yku rfl (fun _ => id) (by decide +kernel) rfl ?_
   refine ycl rfl (fun K hK => jI (fun q => absurd q h0) (fun _ => hK)) (by decide +kernel) rfl ?_
   refine ycl rfl (fun _ => id) (by decide +kernel) rfl ?_
   refine ycu rfl rfl rfl (by decide +kernel) rfl ?_
   refine ycu rfl rfl rfl (by decide +kernel) rfl ?_
   refine ycu rfl rfl rfl (by decide +kernel) rfl ?_
   refine ycu rfl rfl rfl (by decide +kernel) rfl ?_
   refine ycu rfl rfl rfl (by decide +kernel) rfl ?_
   refine ycv rfl rfl (by decide +kernel) rfl ?_
   refine ycv rfl rfl (by decide +kernel) rfl ?_
   refine ycv rfl rfl (by decide +kernel) rfl ?_
   refine ycv rfl rfl (by decide +kernel) rfl ?_
   refine ycv rfl rfl (by decide +kernel) rfl ?_
   refine ycv rfl rfl (by decide +kernel) rfl ?_
   refine ycv rfl rfl (by decide +kernel) rfl ?_
   refine ycv rfl rfl (by decide +kernel) rfl ?_
   refine ycv rfl rfl (by decide +kernel) rfl ?_
   refine ycv rfl rfl (by decide +kernel) rfl ?_
   refine ycv rfl rfl (by decide +kernel) rfl ?_
   refine ycv rfl rfl (by decide +kernel) rfl ?_
   refine ycu rfl rfl rfl (by decide +kernel) rfl ?_
   refine ycl rfl (fun _ => id) (by decide +kernel) rfl ?_
   refine ycl rfl (fun _ => id) (by decide +kernel) rfl ?_
   refine jW ?_
   apply jH
   exact ⟨rfl, _, rfl, jO _, vN (fun q => h0 (hR.1 q).1)⟩
  by_cases h1 : (lenO l : Int) = 0
  ·skip
   refine RunP.drawnR _ (by decide +kernel) (fun _ => rfl) ?_
   refine ycl rfl (fun _ => id) (by decide +kernel) rfl ?_
   refine yku rfl (fun _ => id) (by decide +kernel) rfl ?_
   refine ycl rfl (fun K hK => jI (fun _ => hK) (fun q => absurd h0 q)) (by decide +kernel) rfl ?_
   refine ycl rfl (fun _ => id) (by decide +kernel) rfl ?_
   refine yce rfl rfl (fun _ => id) (by decide +kernel) rfl ?_
   refine ydo rfl rfl (fun _ => id) (by decide +kernel) rfl ?_
   refine ydo rfl rfl (fun K hK => yan (E := envQ) (t := 66) (el := 3) (d := ty66) rfl rfl hK) (by decide +kernel) rfl ?_
   refine yce rfl rfl (fun K hK => jI (fun _ => hK) (fun q => absurd h1 q)) (by decide +kernel) rfl ?_
   refine yce rfl rfl (fun _ => id) (by decide +kernel) rfl ?_
   refine ycu rfl rfl rfl (by decide +kernel) rfl ?_
   refine ycu rfl rfl rfl (by decide +kernel) rfl ?_
   refine ycu rfl rfl rfl (by decide +kernel) rfl ?_
   refine ycu rfl rfl rfl (by decide +kernel) rfl ?_
   refine ycu rfl rfl rfl (by decide +kernel) rfl ?_
   refine ycv rfl rfl (by decide +kernel) rfl ?_
   refine ycv rfl rfl (by decide +kernel) rfl ?_
   refine ycv rfl rfl (by decide +kernel) rfl ?_
   refine ycv rfl rfl (by decide +kernel) rfl ?_
   refine ycv rfl rfl (by decide +kernel) rfl ?_
   refine ycv rfl rfl (by decide +kernel) rfl ?_
   refine ycu rfl rfl rfl (by decide +kernel) rfl ?_
   refine yce rfl rfl (fun _ => id) (by decide +kernel) rfl ?_
   refine ycl rfl (fun _ => id) (by decide +kernel) rfl ?_
   refine ycl rfl (fun _ => id) (by decide +kernel) rfl ?_
   refine jW ?_
   apply jH
   exact ⟨rfl, _, rfl, jO _, vY (hR.2 ⟨h0, .inl (by omega)⟩)⟩
  by_cases h2 : (lenO l : Int) = 1
  case neg =>
   refine RunP.drawnR _ (by decide +kernel) (fun _ => rfl) ?_
   refine ycl rfl (fun _ => id) (by decide +kernel) rfl ?_
   refine yku rfl (fun _ => id) (by decide +kernel) rfl ?_
   refine ycl rfl (fun K hK => jI (fun _ => hK) (fun q => absurd h0 q)) (by decide +kernel) rfl ?_
   refine ycl rfl (fun _ => id) (by decide +kernel) rfl ?_
   refine yce rfl rfl (fun _ => id) (by decide +kernel) rfl ?_
   refine ydo rfl rfl (fun _ => id) (by decide +kernel) rfl ?_
   refine ydo rfl rfl (fun K hK => yan (E := envQ) (t := 66) (el := 3) (d := ty66) rfl rfl hK) (by decide +kernel) rfl ?_
   refine yce rfl rfl (fun K hK => jI (fun q => absurd q h1) (fun _ => hK)) (by decide +kernel) rfl ?_
   refine yce rfl rfl (fun _ => id) (by decide +kernel) rfl ?_
   refine yce rfl rfl (fun _ => id) (by decide +kernel) rfl ?_
   refine ydo rfl rfl (fun _ => id) (by decide +kernel) rfl ?_
   refine ydo rfl rfl (fun K hK => yan (E := envQ) (t := 66) (el := 3) (d := ty66) rfl rfl hK) (by decide +kernel) rfl ?_
   refine yce rfl rfl (fun K hK => jI (fun q => absurd q h2) (fun _ => hK)) (by decide +kernel) rfl ?_
   refine yce rfl rfl (fun _ => id) (by decide +kernel) rfl ?_
   refine ycu rfl rfl rfl (by decide +kernel) rfl ?_
   refine ycu rfl rfl rfl (by decide +kernel) rfl ?_
   refine ycu rfl rfl rfl (by decide +kernel) rfl ?_
   refine ycu rfl rfl rfl (by decide +kernel) rfl ?_
   refine ycu rfl rfl rfl (by decide +kernel) rfl ?_
   refine ycu rfl rfl rfl (by decide +kernel) rfl ?_
   refine yce rfl rfl (fun _ => id) (by decide +kernel) rfl ?_
   refine yce rfl rfl (fun _ => id) (by decide +kernel) rfl ?_
   refine ycl rfl (fun _ => id) (by decide +kernel) rfl ?_
   refine ycl rfl (fun _ => id) (by decide +kernel) rfl ?_
   refine jW ?_
   apply jH
   exact ⟨rfl, _, rfl, jO _, vN (fun q => by have := (hR.1 q).2; omega)⟩
  obtain ⟨z, rfl⟩ : ∃ z, l = some [z] := by
   cases l with
   | none => simp [lenO] at h2
   | some l =>
    match l, h2 with
    | [z], _ => exact ⟨z, rfl⟩
    | [], h2 => simp [lenO] at h2
    | a :: b :: r, h2 => simp [lenO] at h2; omega
  have hq := yct [.cells 81 (ckC c f), .cells 68 (iC op a b cc kd n tx (some [z]))] c f z 2 hS (by omega)
  refine RunP.drawnR _ (by decide +kernel) (fun _ => rfl) ?_
  refine ycl rfl (fun _ => id) (by decide +kernel) rfl ?_
  refine yku rfl (fun _ => id) (by decide +kernel) rfl ?_
  refine ycl rfl (fun K hK => jI (fun _ => hK) (fun q => absurd h0 q)) (by decide +kernel) rfl ?_
  refine ycl rfl (fun _ => id) (by decide +kernel) rfl ?_
  refine yce rfl rfl (fun _ => id) (by decide +kernel) rfl ?_
  refine ydo rfl rfl (fun _ => id) (by decide +kernel) rfl ?_
  refine ydo rfl rfl (fun _ => id) (by decide +kernel) rfl ?_
  refine yce rfl rfl (fun K hK => jI (fun q => absurd q h1) (fun _ => hK)) (by decide +kernel) rfl ?_
  refine yce rfl rfl (fun _ => id) (by decide +kernel) rfl ?_
  refine yce rfl rfl (fun _ => id) (by decide +kernel) rfl ?_
  refine ydo rfl rfl (fun _ => id) (by decide +kernel) rfl ?_
  refine ydo rfl rfl (fun _ => id) (by decide +kernel) rfl ?_
  refine yce rfl rfl (fun K hK => jI (fun _ => hK) (fun q => absurd h2 q)) (by decide +kernel) rfl ?_
  refine yce rfl rfl (fun _ => id) (by decide +kernel) rfl ?_
  refine ydo rfl rfl (fun _ => id) (by decide +kernel) rfl ?_
  refine yce rfl rfl (fun _ => id) (by decide +kernel) rfl ?_
  refine ydo rfl rfl (fun _ => id) (by decide +kernel) rfl ?_
  refine yce rfl rfl (fun K hK => jI (by omega) (jI rfl (Exists.intro (intV z) (jI rfl hK)))) (by decide +kernel) rfl ?_
  refine ydo rfl rfl (fun _ => id) (by decide +kernel) rfl ?_
  refine ydo rfl rfl (fun K hK => CallK.of hq hK) (by decide +kernel) rfl ?_
  refine yce rfl rfl (fun _ => id) (by decide +kernel) rfl ?_
  refine yce rfl rfl (fun _ => id) (by decide +kernel) rfl ?_
  refine ycl rfl (fun _ => id) (by decide +kernel) rfl ?_
  refine ycl rfl (fun _ => id) (by decide +kernel) rfl ?_
  refine jW ?_
  apply jH
  exact ⟨rfl, _, rfl, jO _, boolV ⟨fun w => hR.2 ⟨h0, .inr ⟨rfl, jT w⟩⟩, fun q => decide_eq_true (by
   rcases (hR.1 q).2 with q | q
   ·cases q
   ·exact q.2)⟩⟩
 refine jR _ ?_
 refine yac ?_ (fun K hK => jN (by omega) (fun _ => hK))
 refine yac ?_
 refine jW ?_
 by_cases h1 : b = 1
 case pos =>
  have hR : rAskP c f L k ⟨op, a, b, cc, kd, n, tx, l⟩ ↔ cc = 0 ∧ lenO l = 0 := by
   unfold rAskP
   simp only
   rw [if_neg (by omega), if_neg (by omega), if_neg (by omega), if_neg (by omega), if_neg (by omega), if_pos (by omega)]
  obtain ⟨bA, hbA⟩ : ∃ w, decide (cc = 0) = w := ⟨_, rfl⟩
  obtain ⟨bC, hbC⟩ : ∃ w, decide ((lenO l : Int) = 0) = w := ⟨_, rfl⟩
  refine jR _ ?_
  refine yac ?_ (fun K hK => jY (fun _ => hK) (by omega))
  refine yac ?_
  refine jW ?_
  refine jR _ ?_
  iterate 2 (refine yac ?_)
  cases bA
  ·refine yac ?_ (fun K hK => cmpK (by rw [hbA]; exact hK))
   refine yac ?_
   iterate 4 (refine ybm ?_)
   iterate 2 (refine yac ?_)
   refine jW ?_
   apply jH
   exact ⟨rfl, _, rfl, jO _, vN (fun q => by have q1 := hR.1 q; obtain ⟨q0, q1⟩ := q1; have w := jU hbA; first | exact absurd q0 w | omega)⟩
  ·refine yac ?_ (fun K hK => cmpK (by rw [hbA]; exact hK))
   refine yac ?_
   iterate 2 (refine yas ?_)
   refine yas ?_ (fun K hK => yan (E := envQ) (t := 66) (el := 3) (d := ty66) rfl rfl hK)
   cases bC
   ·refine yas ?_ (fun K hK => cmpK (by rw [hbC]; exact hK))
    iterate 2 (refine yac ?_)
    refine jW ?_
    apply jH
    exact ⟨rfl, _, rfl, jO _, vN (fun q => by have q1 := hR.1 q; obtain ⟨q0, q1⟩ := q1; have w := jU hbC; first | exact absurd q1 w | omega)⟩
   ·refine yas ?_ (fun K hK => cmpK (by rw [hbC]; exact hK))
    iterate 2 (refine yac ?_)
    refine jW ?_
    apply jH
    exact ⟨rfl, _, rfl, jO _, vY (hR.2 ⟨(by have := jT hbA; omega), (by have := jT hbC; omega)⟩)⟩
 refine jR _ ?_
 refine yac ?_ (fun K hK => jN (by omega) (fun _ => hK))
 refine yac ?_
 refine jW ?_
 by_cases h4 : b = 4
 case pos =>
  have hR : rAskP c f L k ⟨op, a, b, cc, kd, n, tx, l⟩ ↔ cc = 0 ∧ lenO l = 0 := by
   unfold rAskP
   simp only
   rw [if_neg (by omega), if_neg (by omega), if_neg (by omega), if_neg (by omega), if_neg (by omega), if_pos (by omega)]
  obtain ⟨bA, hbA⟩ : ∃ w, decide (cc = 0) = w := ⟨_, rfl⟩
  obtain ⟨bC, hbC⟩ : ∃ w, decide ((lenO l : Int) = 0) = w := ⟨_, rfl⟩
  refine jR _ ?_
  refine yac ?_ (fun K hK => jY (fun _ => hK) (by omega))
  refine yac ?_
  refine jW ?_
  refine jR _ ?_
  iterate 2 (refine yac ?_)
  cases bA
  ·refine yac ?_ (fun K hK => cmpK (by rw [hbA]; exact hK))
   refine yac ?_
   iterate 4 (refine ybm ?_)
   iterate 2 (refine yac ?_)
   refine jW ?_
   apply jH
   exact ⟨rfl, _, rfl, jO _, vN (fun q => by have q1 := hR.1 q; obtain ⟨q0, q1⟩ := q1; have w := jU hbA; first | exact absurd q0 w | omega)⟩
  ·refine yac ?_ (fun K hK => cmpK (by rw [hbA]; exact hK))
   refine yac ?_
   iterate 2 (refine yas ?_)
   refine yas ?_ (fun K hK => yan (E := envQ) (t := 66) (el := 3) (d := ty66) rfl rfl hK)
   cases bC
   ·refine yas ?_ (fun K hK => cmpK (by rw [hbC]; exact hK))
    iterate 2 (refine yac ?_)
    refine jW ?_
    apply jH
    exact ⟨rfl, _, rfl, jO _, vN (fun q => by have q1 := hR.1 q; obtain ⟨q0, q1⟩ := q1; have w := jU hbC; first | exact absurd q1 w | omega)⟩
   ·refine yas ?_ (fun K hK => cmpK (by rw [hbC]; exact hK))
    iterate 2 (refine yac ?_)
    refine jW ?_
    apply jH
    exact ⟨rfl, _, rfl, jO _, vY (hR.2 ⟨(by have := jT hbA; omega), (by have := jT hbC; omega)⟩)⟩
 refine jR _ ?_
 refine yac ?_ (fun K hK => jN (by omega) (fun _ => hK))
 refine yac ?_
 refine jW ?_
 by_cases h18 : b = 18
 case pos =>
  have hR : rAskP c f L k ⟨op, a, b, cc, kd, n, tx, l⟩ ↔ cc = 0 ∧ lenO l = 0 := by
   unfold rAskP
   simp only
   rw [if_neg (by omega), if_neg (by omega), if_neg (by omega), if_neg (by omega), if_neg (by omega), if_pos (by omega)]
  obtain ⟨bA, hbA⟩ : ∃ w, decide (cc = 0) = w := ⟨_, rfl⟩
  obtain ⟨bC, hbC⟩ : ∃ w, decide ((lenO l : Int) = 0) = w := ⟨_, rfl⟩
  refine jR _ ?_
  refine yac ?_ (fun K hK => jY (fun _ => hK) (by omega))
  refine yac ?_
  refine jW ?_
  refine jR _ ?_
  iterate 2 (refine yac ?_)
  cases bA
  ·refine yac ?_ (fun K hK => cmpK (by rw [hbA]; exact hK))
   refine yac ?_
   iterate 4 (refine ybm ?_)
   iterate 2 (refine yac ?_)
   refine jW ?_
   apply jH
   exact ⟨rfl, _, rfl, jO _, vN (fun q => by have q1 := hR.1 q; obtain ⟨q0, q1⟩ := q1; have w := jU hbA; first | exact absurd q0 w | omega)⟩
  ·refine yac ?_ (fun K hK => cmpK (by rw [hbA]; exact hK))
   refine yac ?_
   iterate 2 (refine yas ?_)
   refine yas ?_ (fun K hK => yan (E := envQ) (t := 66) (el := 3) (d := ty66) rfl rfl hK)
   cases bC
   ·refine yas ?_ (fun K hK => cmpK (by rw [hbC]; exact hK))
    iterate 2 (refine yac ?_)
    refine jW ?_
    apply jH
    exact ⟨rfl, _, rfl, jO _, vN (fun q => by have q1 := hR.1 q; obtain ⟨q0, q1⟩ := q1; have w := jU hbC; first | exact absurd q1 w | omega)⟩
   ·refine yas ?_ (fun K hK => cmpK (by rw [hbC]; exact hK))
    iterate 2 (refine yac ?_)
    refine jW ?_
    apply jH
    exact ⟨rfl, _, rfl, jO _, vY (hR.2 ⟨(by have := jT hbA; omega), (by have := jT hbC; omega)⟩)⟩
 refine jR _ ?_
 refine yac ?_ (fun K hK => jN (by omega) (fun _ => hK))
 refine yac ?_
 refine jW ?_
 by_cases h19 : b = 19
 case pos =>
  have hR : rAskP c f L k ⟨op, a, b, cc, kd, n, tx, l⟩ ↔ cc = 0 ∧ lenO l = 0 := by
   unfold rAskP
   simp only
   rw [if_neg (by omega), if_neg (by omega), if_neg (by omega), if_neg (by omega), if_neg (by omega), if_pos (by omega)]
  obtain ⟨bA, hbA⟩ : ∃ w, decide (cc = 0) = w := ⟨_, rfl⟩
  obtain ⟨bC, hbC⟩ : ∃ w, decide ((lenO l : Int) = 0) = w := ⟨_, rfl⟩
  refine jR _ ?_
  refine yac ?_ (fun K hK => jY (fun _ => hK) (by omega))
  refine yac ?_
  refine jW ?_
  refine jR _ ?_
  iterate 2 (refine yac ?_)
  cases bA
  ·refine yac ?_ (fun K hK => cmpK (by rw [hbA]; exact hK))
   refine yac ?_
   iterate 4 (refine ybm ?_)
   iterate 2 (refine yac ?_)
   refine jW ?_
   apply jH
   exact ⟨rfl, _, rfl, jO _, vN (fun q => by have q1 := hR.1 q; obtain ⟨q0, q1⟩ := q1; have w := jU hbA; first | exact absurd q0 w | omega)⟩
  ·refine yac ?_ (fun K hK => cmpK (by rw [hbA]; exact hK))
   refine yac ?_
   iterate 2 (refine yas ?_)
   refine yas ?_ (fun K hK => yan (E := envQ) (t := 66) (el := 3) (d := ty66) rfl rfl hK)
   cases bC
   ·refine yas ?_ (fun K hK => cmpK (by rw [hbC]; exact hK))
    iterate 2 (refine yac ?_)
    refine jW ?_
    apply jH
    exact ⟨rfl, _, rfl, jO _, vN (fun q => by have q1 := hR.1 q; obtain ⟨q0, q1⟩ := q1; have w := jU hbC; first | exact absurd q1 w | omega)⟩
   ·refine yas ?_ (fun K hK => cmpK (by rw [hbC]; exact hK))
    iterate 2 (refine yac ?_)
    refine jW ?_
    apply jH
    exact ⟨rfl, _, rfl, jO _, vY (hR.2 ⟨(by have := jT hbA; omega), (by have := jT hbC; omega)⟩)⟩
 refine jR _ ?_
 refine yac ?_ (fun K hK => jN (by omega) (fun _ => hK))
 refine yac ?_
 refine jW ?_
 by_cases h9 : b = 9
 case pos =>
  have hR : rAskP c f L k ⟨op, a, b, cc, kd, n, tx, l⟩ ↔ cc = 0 ∧ lenO l = 2 ∧ slsP f.s l := by
   unfold rAskP
   simp only
   rw [if_neg (by omega), if_neg (by omega), if_neg (by omega), if_neg (by omega), if_neg (by omega), if_neg (by omega), if_pos (by omega)]
  obtain ⟨bA, hbA⟩ : ∃ w, decide (cc = 0) = w := ⟨_, rfl⟩
  obtain ⟨bC, hbC⟩ : ∃ w, decide ((lenO l : Int) = 2) = w := ⟨_, rfl⟩
  obtain ⟨bS, hbS⟩ : ∃ w, decide (slsP f.s l) = w := ⟨_, rfl⟩
  have kbS := yfn [.cells 81 (ckC c f), .cells 68 (iC op a b cc kd n tx l)] c f l hS hx
  rw [hbS] at kbS
  refine jR _ ?_
  refine yac ?_ (fun K hK => jY (fun _ => hK) (by omega))
  refine yac ?_
  refine jW ?_
  refine jR _ ?_
  iterate 2 (refine yac ?_)
  cases bA
  ·refine yac ?_ (fun K hK => cmpK (by rw [hbA]; exact hK))
   refine yac ?_
   iterate 4 (refine ybm ?_)
   iterate 2 (refine yac ?_)
   iterate 4 (refine ybm ?_)
   iterate 2 (refine yac ?_)
   refine jW ?_
   apply jH
   exact ⟨rfl, _, rfl, jO _, vN (fun q => by have q1 := hR.1 q; obtain ⟨q0, q1, q2⟩ := q1; have w := jU hbA; first | exact absurd q0 w | omega)⟩
  ·refine yac ?_ (fun K hK => cmpK (by rw [hbA]; exact hK))
   refine yac ?_
   iterate 2 (refine yas ?_)
   refine yas ?_ (fun K hK => yan (E := envQ) (t := 66) (el := 3) (d := ty66) rfl rfl hK)
   cases bC
   ·refine yas ?_ (fun K hK => cmpK (by rw [hbC]; exact hK))
    iterate 2 (refine yac ?_)
    iterate 4 (refine ybm ?_)
    iterate 2 (refine yac ?_)
    refine jW ?_
    apply jH
    exact ⟨rfl, _, rfl, jO _, vN (fun q => by have q1 := hR.1 q; obtain ⟨q0, q1, q2⟩ := q1; have w := jU hbC; first | exact absurd q1 w | omega)⟩
   ·refine yas ?_ (fun K hK => cmpK (by rw [hbC]; exact hK))
    iterate 2 (refine yac ?_)
    iterate 3 (refine yas ?_)
    cases bS
    ·refine yas ?_ (fun K hK => CallK.of kbS hK)
     iterate 2 (refine yac ?_)
     refine jW ?_
     apply jH
     exact ⟨rfl, _, rfl, jO _, vN (fun q => by have q1 := hR.1 q; obtain ⟨q0, q1, q2⟩ := q1; have w := jU hbS; first | exact absurd q2 w | omega)⟩
    ·refine yas ?_ (fun K hK => CallK.of kbS hK)
     iterate 2 (refine yac ?_)
     refine jW ?_
     apply jH
     exact ⟨rfl, _, rfl, jO _, vY (hR.2 ⟨(by have := jT hbA; omega), (by have := jT hbC; omega), jT hbS⟩)⟩
 refine jR _ ?_
 refine yac ?_ (fun K hK => jN (by omega) (fun _ => hK))
 refine yac ?_
 refine jW ?_
 have hR : rAskP c f L k ⟨op, a, b, cc, kd, n, tx, l⟩ ↔ (1 ≤ b ∧ b ≤ 21) ∧ cc = 0 ∧ lenO l = 1 ∧ slsP f.s l := by
  unfold rAskP
  simp only
  rw [if_neg (by omega), if_neg (by omega), if_neg (by omega), if_neg (by omega), if_neg (by omega), if_neg (by omega), if_neg (by omega)]
 obtain ⟨bA, hbA⟩ : ∃ w, decide (1 ≤ b) = w := ⟨_, rfl⟩
 obtain ⟨bB, hbB⟩ : ∃ w, decide (b ≤ 21) = w := ⟨_, rfl⟩
 obtain ⟨bD, hbD⟩ : ∃ w, decide (cc = 0) = w := ⟨_, rfl⟩
 obtain ⟨bC, hbC⟩ : ∃ w, decide ((lenO l : Int) = 1) = w := ⟨_, rfl⟩
 obtain ⟨bS, hbS⟩ : ∃ w, decide (slsP f.s l) = w := ⟨_, rfl⟩
 have kbS := yfn [.cells 81 (ckC c f), .cells 68 (iC op a b cc kd n tx l)] c f l hS hx
 rw [hbS] at kbS
 refine jR _ ?_
 iterate 2 (refine yac ?_)
 cases bA
 ·refine yac ?_ (fun K hK => cmp2 (R := 1 ≤ b) (fun w => by omega) (fun w => by omega) (by rw [hbA]; exact hK))
  refine yac ?_
  iterate 3 (refine ybm ?_)
  iterate 2 (refine yac ?_)
  iterate 3 (refine ybm ?_)
  iterate 2 (refine yac ?_)
  iterate 4 (refine ybm ?_)
  iterate 2 (refine yac ?_)
  iterate 4 (refine ybm ?_)
  iterate 2 (refine yac ?_)
  refine jW ?_
  apply jH
  exact ⟨rfl, _, rfl, jO _, vN (fun q => by have q1 := hR.1 q; obtain ⟨q0, q1, q2, q3⟩ := q1; have w := jU hbA; first | exact absurd q0 w | omega)⟩
 ·refine yac ?_ (fun K hK => cmp2 (R := 1 ≤ b) (fun w => by omega) (fun w => by omega) (by rw [hbA]; exact hK))
  refine yac ?_
  iterate 2 (refine yas ?_)
  cases bB
  ·refine yas ?_ (fun K hK => cmp2 (R := b ≤ 21) (fun w => by omega) (fun w => by omega) (by rw [hbB]; exact hK))
   iterate 2 (refine yac ?_)
   iterate 3 (refine ybm ?_)
   iterate 2 (refine yac ?_)
   iterate 4 (refine ybm ?_)
   iterate 2 (refine yac ?_)
   iterate 4 (refine ybm ?_)
   iterate 2 (refine yac ?_)
   refine jW ?_
   apply jH
   exact ⟨rfl, _, rfl, jO _, vN (fun q => by have q1 := hR.1 q; obtain ⟨q0, q1, q2, q3⟩ := q1; have w := jU hbB; first | exact absurd q0 w | omega)⟩
  ·refine yas ?_ (fun K hK => cmp2 (R := b ≤ 21) (fun w => by omega) (fun w => by omega) (by rw [hbB]; exact hK))
   iterate 2 (refine yac ?_)
   iterate 2 (refine yas ?_)
   cases bD
   ·refine yas ?_ (fun K hK => cmpK (by rw [hbD]; exact hK))
    iterate 2 (refine yac ?_)
    iterate 4 (refine ybm ?_)
    iterate 2 (refine yac ?_)
    iterate 4 (refine ybm ?_)
    iterate 2 (refine yac ?_)
    refine jW ?_
    apply jH
    exact ⟨rfl, _, rfl, jO _, vN (fun q => by have q1 := hR.1 q; obtain ⟨q0, q1, q2, q3⟩ := q1; have w := jU hbD; first | exact absurd q1 w | omega)⟩
   ·refine yas ?_ (fun K hK => cmpK (by rw [hbD]; exact hK))
    iterate 2 (refine yac ?_)
    iterate 2 (refine yas ?_)
    refine yas ?_ (fun K hK => yan (E := envQ) (t := 66) (el := 3) (d := ty66) rfl rfl hK)
    cases bC
    ·refine yas ?_ (fun K hK => cmpK (by rw [hbC]; exact hK))
     iterate 2 (refine yac ?_)
     iterate 4 (refine ybm ?_)
     iterate 2 (refine yac ?_)
     refine jW ?_
     apply jH
     exact ⟨rfl, _, rfl, jO _, vN (fun q => by have q1 := hR.1 q; obtain ⟨q0, q1, q2, q3⟩ := q1; have w := jU hbC; first | exact absurd q2 w | omega)⟩
    ·refine yas ?_ (fun K hK => cmpK (by rw [hbC]; exact hK))
     iterate 2 (refine yac ?_)
     iterate 3 (refine yas ?_)
     cases bS
     ·refine yas ?_ (fun K hK => CallK.of kbS hK)
      iterate 2 (refine yac ?_)
      refine jW ?_
      apply jH
      exact ⟨rfl, _, rfl, jO _, vN (fun q => by have q1 := hR.1 q; obtain ⟨q0, q1, q2, q3⟩ := q1; have w := jU hbS; first | exact absurd q3 w | omega)⟩
     ·refine yas ?_ (fun K hK => CallK.of kbS hK)
      iterate 2 (refine yac ?_)
      refine jW ?_
      apply jH
      exact ⟨rfl, _, rfl, jO _, vY (hR.2 ⟨(by have := jT hbA; have := jT hbB; omega), (by have := jT hbD; omega), (by have := jT hbC; omega), jT hbS⟩)⟩
end Go.Proofs.YtekmafoicobphaaGreatDoor
