/- The law PackChanged. -/
import Derived.Test.YtekmafoicobphaaGreatDoorSbChg
import Derived.Test.YtekmafoicobphaaGreatDoorSbSm
set_option linter.unusedVariables false
set_option linter.unusedSimpArgs false
namespace Go.Proofs.YtekmafoicobphaaGreatDoor
open Go.Sb
set_option maxRecDepth 100000
theorem ytg {E : Env} {md : Go.FuncId → Sb.Mode} {A : List (List Nat)} {k : Nat} {o : ROp} {os : List ROp} {acc : List (Nat × Go.Op × List V × V)} {ws : List (Nat × Heap)} {s : List V} {h g : Heap} {v : V} {K : List V → Heap → Prop} {a0 a1 a2 a3 a4 a5 a6 a7 a8 a9 a10 a11 a12 a13 a14 a15 a16 a17 a18 a19 a20 a21 a22 a23 a24 a25 a26 a27 a28 a29 a30 a31 a32 a33 a34 a35 a36 a37 a38 a39 a40 a41 a42 a43 a44 a45 a46 a47 a48 a49 a50 a51 a52 a53 a54 a55 a56 a57 a58 a59 a60 a61 a62 a63 a64 a65 a66 a67 a68 a69 a70 a71 a72 a73 a74 a75 a76 a77 a78 a79 a80 a81 a82 a83 a84 a85 a86 a87 a88 a89 a90 a91 a92 a93 a94 a95 a96 a97 a98 a99 a100 a101 a102 a103 a104 a105 a106 a107 a108 a109 a110 a111 a112 a113 a114 a115 a116 a117 a118 a119 a120 a121 a122 a123 a124 a125 a126 a127 a128 a129 a130 a131 a132 a133 a134 a135 a136 a137 a138 a139 a140 : V} (hg : o.gd = none) (hop : ∀ K : V → Heap → Prop, K v g → runOp E md o.op s h K) (hk : yai E md o.op = 2) (ha : accK E md (A.getD k []) g acc True) (hs : putT s o.dst v = [a0, a1, a2, a3, a4, a5, a6, a7, a8, a9, a10, a11, a12, a13, a14, a15, a16, a17, a18, a19, a20, a21, a22, a23, a24, a25, a26, a27, a28, a29, a30, a31, a32, a33, a34, a35, a36, a37, a38, a39, a40, a41, a42, a43, a44, a45, a46, a47, a48, a49, a50, a51, a52, a53, a54, a55, a56, a57, a58, a59, a60, a61, a62, a63, a64, a65, a66, a67, a68, a69, a70, a71, a72, a73, a74, a75, a76, a77, a78, a79, a80, a81, a82, a83, a84, a85, a86, a87, a88, a89, a90, a91, a92, a93, a94, a95, a96, a97, a98, a99, a100, a101, a102, a103, a104, a105, a106, a107, a108, a109, a110, a111, a112, a113, a114, a115, a116, a117, a118, a119, a120, a121, a122, a123, a124, a125, a126, a127, a128, a129, a130, a131, a132, a133, a134, a135, a136, a137, a138, a139, a140]) (hn : yay E md A (k + 1) os acc ((k, h) :: ws) [a0, a1, a2, a3, a4, a5, a6, a7, a8, a9, a10, a11, a12, a13, a14, a15, a16, a17, a18, a19, a20, a21, a22, a23, a24, a25, a26, a27, a28, a29, a30, a31, a32, a33, a34, a35, a36, a37, a38, a39, a40, a41, a42, a43, a44, a45, a46, a47, a48, a49, a50, a51, a52, a53, a54, a55, a56, a57, a58, a59, a60, a61, a62, a63, a64, a65, a66, a67, a68, a69, a70, a71, a72, a73, a74, a75, a76, a77, a78, a79, a80, a81, a82, a83, a84, a85, a86, a87, a88, a89, a90, a91, a92, a93, a94, a95, a96, a97, a98, a99, a100, a101, a102, a103, a104, a105, a106, a107, a108, a109, a110, a111, a112, a113, a114, a115, a116, a117, a118, a119, a120, a121, a122, a123, a124, a125, a126, a127, a128, a129, a130, a131, a132, a133, a134, a135, a136, a137, a138, a139, a140] g K) : yay E md A k (o :: os) acc ws s h K := ynf hg hop hk ha hs hn
theorem yyz {E : Env} {md : Go.FuncId → Sb.Mode} {A : List (List Nat)} {k : Nat} {o : ROp} {os : List ROp} {acc : List (Nat × Go.Op × List V × V)} {ws : List (Nat × Heap)} {s : List V} {h g : Heap} {v : V} {K : List V → Heap → Prop} {a0 a1 a2 a3 a4 a5 a6 a7 a8 a9 a10 a11 a12 a13 a14 a15 a16 a17 a18 a19 a20 a21 a22 a23 a24 a25 a26 a27 a28 a29 a30 a31 a32 a33 a34 a35 a36 a37 a38 a39 a40 a41 a42 a43 a44 a45 a46 a47 a48 a49 a50 a51 a52 a53 a54 a55 a56 a57 a58 a59 a60 a61 a62 a63 a64 a65 a66 a67 a68 a69 a70 a71 a72 a73 a74 a75 a76 a77 a78 a79 a80 a81 a82 a83 a84 a85 a86 a87 a88 a89 a90 a91 a92 a93 a94 a95 a96 a97 a98 a99 a100 a101 a102 a103 a104 a105 a106 a107 a108 a109 a110 a111 a112 a113 a114 a115 a116 a117 a118 a119 a120 a121 a122 a123 a124 a125 a126 a127 a128 a129 a130 a131 a132 a133 a134 a135 a136 a137 a138 a139 a140 : V} (hg : o.gd = none) (hop : ∀ K : V → Heap → Prop, K v g → runOp E md o.op s h K) (hk : yai E md o.op = 1) (hw : wasK E md (A.getD k []) (k, o.op, s, v) ws True) (hs : putT s o.dst v = [a0, a1, a2, a3, a4, a5, a6, a7, a8, a9, a10, a11, a12, a13, a14, a15, a16, a17, a18, a19, a20, a21, a22, a23, a24, a25, a26, a27, a28, a29, a30, a31, a32, a33, a34, a35, a36, a37, a38, a39, a40, a41, a42, a43, a44, a45, a46, a47, a48, a49, a50, a51, a52, a53, a54, a55, a56, a57, a58, a59, a60, a61, a62, a63, a64, a65, a66, a67, a68, a69, a70, a71, a72, a73, a74, a75, a76, a77, a78, a79, a80, a81, a82, a83, a84, a85, a86, a87, a88, a89, a90, a91, a92, a93, a94, a95, a96, a97, a98, a99, a100, a101, a102, a103, a104, a105, a106, a107, a108, a109, a110, a111, a112, a113, a114, a115, a116, a117, a118, a119, a120, a121, a122, a123, a124, a125, a126, a127, a128, a129, a130, a131, a132, a133, a134, a135, a136, a137, a138, a139, a140]) (hn : yay E md A (k + 1) os ((k, o.op, s, v) :: acc) ws [a0, a1, a2, a3, a4, a5, a6, a7, a8, a9, a10, a11, a12, a13, a14, a15, a16, a17, a18, a19, a20, a21, a22, a23, a24, a25, a26, a27, a28, a29, a30, a31, a32, a33, a34, a35, a36, a37, a38, a39, a40, a41, a42, a43, a44, a45, a46, a47, a48, a49, a50, a51, a52, a53, a54, a55, a56, a57, a58, a59, a60, a61, a62, a63, a64, a65, a66, a67, a68, a69, a70, a71, a72, a73, a74, a75, a76, a77, a78, a79, a80, a81, a82, a83, a84, a85, a86, a87, a88, a89, a90, a91, a92, a93, a94, a95, a96, a97, a98, a99, a100, a101, a102, a103, a104, a105, a106, a107, a108, a109, a110, a111, a112, a113, a114, a115, a116, a117, a118, a119, a120, a121, a122, a123, a124, a125, a126, a127, a128, a129, a130, a131, a132, a133, a134, a135, a136, a137, a138, a139, a140] g K) : yay E md A k (o :: os) acc ws s h K := yne hg hop hk hw hs hn
theorem yza {E : Env} {md : Go.FuncId → Sb.Mode} {A : List (List Nat)} {k : Nat} {o : ROp} {os : List ROp} {ws : List (Nat × Heap)} {s : List V} {h g : Heap} {v : V} {K : List V → Heap → Prop} {a0 a1 a2 a3 a4 a5 a6 a7 a8 a9 a10 a11 a12 a13 a14 a15 a16 a17 a18 a19 a20 a21 a22 a23 a24 a25 a26 a27 a28 a29 a30 a31 a32 a33 a34 a35 a36 a37 a38 a39 a40 a41 a42 a43 a44 a45 a46 a47 a48 a49 a50 a51 a52 a53 a54 a55 a56 a57 a58 a59 a60 a61 a62 a63 a64 a65 a66 a67 a68 a69 a70 a71 a72 a73 a74 a75 a76 a77 a78 a79 a80 a81 a82 a83 a84 a85 a86 a87 a88 a89 a90 a91 a92 a93 a94 a95 a96 a97 a98 a99 a100 a101 a102 a103 a104 a105 a106 a107 a108 a109 a110 a111 a112 a113 a114 a115 a116 a117 a118 a119 a120 a121 a122 a123 a124 a125 a126 a127 a128 a129 a130 a131 a132 a133 a134 a135 a136 a137 a138 a139 a140 : V} (hg : o.gd = none) (hop : ∀ K : V → Heap → Prop, K v g → runOp E md o.op s h K) (hk : yai E md o.op = 2) (hs : putT s o.dst v = [a0, a1, a2, a3, a4, a5, a6, a7, a8, a9, a10, a11, a12, a13, a14, a15, a16, a17, a18, a19, a20, a21, a22, a23, a24, a25, a26, a27, a28, a29, a30, a31, a32, a33, a34, a35, a36, a37, a38, a39, a40, a41, a42, a43, a44, a45, a46, a47, a48, a49, a50, a51, a52, a53, a54, a55, a56, a57, a58, a59, a60, a61, a62, a63, a64, a65, a66, a67, a68, a69, a70, a71, a72, a73, a74, a75, a76, a77, a78, a79, a80, a81, a82, a83, a84, a85, a86, a87, a88, a89, a90, a91, a92, a93, a94, a95, a96, a97, a98, a99, a100, a101, a102, a103, a104, a105, a106, a107, a108, a109, a110, a111, a112, a113, a114, a115, a116, a117, a118, a119, a120, a121, a122, a123, a124, a125, a126, a127, a128, a129, a130, a131, a132, a133, a134, a135, a136, a137, a138, a139, a140]) (hn : yay E md A (k + 1) os [] ((k, h) :: ws) [a0, a1, a2, a3, a4, a5, a6, a7, a8, a9, a10, a11, a12, a13, a14, a15, a16, a17, a18, a19, a20, a21, a22, a23, a24, a25, a26, a27, a28, a29, a30, a31, a32, a33, a34, a35, a36, a37, a38, a39, a40, a41, a42, a43, a44, a45, a46, a47, a48, a49, a50, a51, a52, a53, a54, a55, a56, a57, a58, a59, a60, a61, a62, a63, a64, a65, a66, a67, a68, a69, a70, a71, a72, a73, a74, a75, a76, a77, a78, a79, a80, a81, a82, a83, a84, a85, a86, a87, a88, a89, a90, a91, a92, a93, a94, a95, a96, a97, a98, a99, a100, a101, a102, a103, a104, a105, a106, a107, a108, a109, a110, a111, a112, a113, a114, a115, a116, a117, a118, a119, a120, a121, a122, a123, a124, a125, a126, a127, a128, a129, a130, a131, a132, a133, a134, a135, a136, a137, a138, a139, a140] g K) : yay E md A k (o :: os) [] ws s h K := ync hg hop hk hs hn
theorem yfl {E : Env} {md : Go.FuncId → Sb.Mode} {A : List (List Nat)} {k : Nat} {o : ROp} {os : List ROp} {acc : List (Nat × Go.Op × List V × V)} {ws : List (Nat × Heap)} {s : List V} {h g : Heap} {v : V} {K : List V → Heap → Prop} {a0 a1 a2 a3 a4 a5 a6 a7 a8 a9 a10 a11 a12 a13 a14 a15 a16 a17 a18 a19 a20 a21 a22 a23 a24 a25 a26 a27 a28 a29 a30 a31 a32 a33 a34 a35 a36 a37 a38 a39 a40 a41 a42 a43 a44 a45 a46 a47 a48 a49 a50 a51 a52 a53 a54 a55 a56 a57 a58 a59 a60 a61 a62 a63 a64 a65 a66 a67 a68 a69 a70 a71 a72 a73 a74 a75 a76 a77 a78 a79 a80 a81 a82 a83 a84 a85 a86 a87 a88 a89 a90 a91 a92 a93 a94 a95 a96 a97 a98 a99 a100 a101 a102 a103 a104 a105 a106 a107 a108 a109 a110 a111 a112 a113 a114 a115 a116 a117 a118 a119 a120 a121 a122 a123 a124 a125 a126 a127 a128 a129 a130 a131 a132 a133 a134 a135 a136 a137 a138 a139 a140 : V} (hg : o.gd = none) (hop : ∀ K : V → Heap → Prop, K v g → runOp E md o.op s h K) (hk : yai E md o.op = 0) (hs : putT s o.dst v = [a0, a1, a2, a3, a4, a5, a6, a7, a8, a9, a10, a11, a12, a13, a14, a15, a16, a17, a18, a19, a20, a21, a22, a23, a24, a25, a26, a27, a28, a29, a30, a31, a32, a33, a34, a35, a36, a37, a38, a39, a40, a41, a42, a43, a44, a45, a46, a47, a48, a49, a50, a51, a52, a53, a54, a55, a56, a57, a58, a59, a60, a61, a62, a63, a64, a65, a66, a67, a68, a69, a70, a71, a72, a73, a74, a75, a76, a77, a78, a79, a80, a81, a82, a83, a84, a85, a86, a87, a88, a89, a90, a91, a92, a93, a94, a95, a96, a97, a98, a99, a100, a101, a102, a103, a104, a105, a106, a107, a108, a109, a110, a111, a112, a113, a114, a115, a116, a117, a118, a119, a120, a121, a122, a123, a124, a125, a126, a127, a128, a129, a130, a131, a132, a133, a134, a135, a136, a137, a138, a139, a140]) (hn : yay E md A (k + 1) os acc ws [a0, a1, a2, a3, a4, a5, a6, a7, a8, a9, a10, a11, a12, a13, a14, a15, a16, a17, a18, a19, a20, a21, a22, a23, a24, a25, a26, a27, a28, a29, a30, a31, a32, a33, a34, a35, a36, a37, a38, a39, a40, a41, a42, a43, a44, a45, a46, a47, a48, a49, a50, a51, a52, a53, a54, a55, a56, a57, a58, a59, a60, a61, a62, a63, a64, a65, a66, a67, a68, a69, a70, a71, a72, a73, a74, a75, a76, a77, a78, a79, a80, a81, a82, a83, a84, a85, a86, a87, a88, a89, a90, a91, a92, a93, a94, a95, a96, a97, a98, a99, a100, a101, a102, a103, a104, a105, a106, a107, a108, a109, a110, a111, a112, a113, a114, a115, a116, a117, a118, a119, a120, a121, a122, a123, a124, a125, a126, a127, a128, a129, a130, a131, a132, a133, a134, a135, a136, a137, a138, a139, a140] g K) : yay E md A k (o :: os) acc ws s h K := ynd hg hop hk hs hn
theorem yzb {E : Env} {md : Go.FuncId → Sb.Mode} {A : List (List Nat)} {k : Nat} {o : ROp} {os : List ROp} {acc : List (Nat × Go.Op × List V × V)} {s : List V} {h g : Heap} {v : V} {K : List V → Heap → Prop} {a0 a1 a2 a3 a4 a5 a6 a7 a8 a9 a10 a11 a12 a13 a14 a15 a16 a17 a18 a19 a20 a21 a22 a23 a24 a25 a26 a27 a28 a29 a30 a31 a32 a33 a34 a35 a36 a37 a38 a39 a40 a41 a42 a43 a44 a45 a46 a47 a48 a49 a50 a51 a52 a53 a54 a55 a56 a57 a58 a59 a60 a61 a62 a63 a64 a65 a66 a67 a68 a69 a70 a71 a72 a73 a74 a75 a76 a77 a78 a79 a80 a81 a82 a83 a84 a85 a86 a87 a88 a89 a90 a91 a92 a93 a94 a95 a96 a97 a98 a99 a100 a101 a102 a103 a104 a105 a106 a107 a108 a109 a110 a111 a112 a113 a114 a115 a116 a117 a118 a119 a120 a121 a122 a123 a124 a125 a126 a127 a128 a129 a130 a131 a132 a133 a134 a135 a136 a137 a138 a139 a140 : V} (hg : o.gd = none) (hop : ∀ K : V → Heap → Prop, K v g → runOp E md o.op s h K) (hk : yai E md o.op = 2) (ha : accK E md (A.getD k []) g acc True) (hs : putT s o.dst v = [a0, a1, a2, a3, a4, a5, a6, a7, a8, a9, a10, a11, a12, a13, a14, a15, a16, a17, a18, a19, a20, a21, a22, a23, a24, a25, a26, a27, a28, a29, a30, a31, a32, a33, a34, a35, a36, a37, a38, a39, a40, a41, a42, a43, a44, a45, a46, a47, a48, a49, a50, a51, a52, a53, a54, a55, a56, a57, a58, a59, a60, a61, a62, a63, a64, a65, a66, a67, a68, a69, a70, a71, a72, a73, a74, a75, a76, a77, a78, a79, a80, a81, a82, a83, a84, a85, a86, a87, a88, a89, a90, a91, a92, a93, a94, a95, a96, a97, a98, a99, a100, a101, a102, a103, a104, a105, a106, a107, a108, a109, a110, a111, a112, a113, a114, a115, a116, a117, a118, a119, a120, a121, a122, a123, a124, a125, a126, a127, a128, a129, a130, a131, a132, a133, a134, a135, a136, a137, a138, a139, a140]) (hn : yaq E md A (k + 1) os acc [a0, a1, a2, a3, a4, a5, a6, a7, a8, a9, a10, a11, a12, a13, a14, a15, a16, a17, a18, a19, a20, a21, a22, a23, a24, a25, a26, a27, a28, a29, a30, a31, a32, a33, a34, a35, a36, a37, a38, a39, a40, a41, a42, a43, a44, a45, a46, a47, a48, a49, a50, a51, a52, a53, a54, a55, a56, a57, a58, a59, a60, a61, a62, a63, a64, a65, a66, a67, a68, a69, a70, a71, a72, a73, a74, a75, a76, a77, a78, a79, a80, a81, a82, a83, a84, a85, a86, a87, a88, a89, a90, a91, a92, a93, a94, a95, a96, a97, a98, a99, a100, a101, a102, a103, a104, a105, a106, a107, a108, a109, a110, a111, a112, a113, a114, a115, a116, a117, a118, a119, a120, a121, a122, a123, a124, a125, a126, a127, a128, a129, a130, a131, a132, a133, a134, a135, a136, a137, a138, a139, a140] g K) : yaq E md A k (o :: os) acc s h K := draw_g hg hop hk ha hs hn
theorem yth {E : Env} {md : Go.FuncId → Sb.Mode} {A : List (List Nat)} {k : Nat} {o : ROp} {os : List ROp} {acc : List (Nat × Go.Op × List V × V)} {s : List V} {h g : Heap} {v : V} {K : List V → Heap → Prop} {a0 a1 a2 a3 a4 a5 a6 a7 a8 a9 a10 a11 a12 a13 a14 a15 a16 a17 a18 a19 a20 a21 a22 a23 a24 a25 a26 a27 a28 a29 a30 a31 a32 a33 a34 a35 a36 a37 a38 a39 a40 a41 a42 a43 a44 a45 a46 a47 a48 a49 a50 a51 a52 a53 a54 a55 a56 a57 a58 a59 a60 a61 a62 a63 a64 a65 a66 a67 a68 a69 a70 a71 a72 a73 a74 a75 a76 a77 a78 a79 a80 a81 a82 a83 a84 a85 a86 a87 a88 a89 a90 a91 a92 a93 a94 a95 a96 a97 a98 a99 a100 a101 a102 a103 a104 a105 a106 a107 a108 a109 a110 a111 a112 a113 a114 a115 a116 a117 a118 a119 a120 a121 a122 a123 a124 a125 a126 a127 a128 a129 a130 a131 a132 a133 a134 a135 a136 a137 a138 a139 a140 : V} (hg : o.gd = none) (hop : ∀ K : V → Heap → Prop, K v g → runOp E md o.op s h K) (hk : yai E md o.op = 1) (hs : putT s o.dst v = [a0, a1, a2, a3, a4, a5, a6, a7, a8, a9, a10, a11, a12, a13, a14, a15, a16, a17, a18, a19, a20, a21, a22, a23, a24, a25, a26, a27, a28, a29, a30, a31, a32, a33, a34, a35, a36, a37, a38, a39, a40, a41, a42, a43, a44, a45, a46, a47, a48, a49, a50, a51, a52, a53, a54, a55, a56, a57, a58, a59, a60, a61, a62, a63, a64, a65, a66, a67, a68, a69, a70, a71, a72, a73, a74, a75, a76, a77, a78, a79, a80, a81, a82, a83, a84, a85, a86, a87, a88, a89, a90, a91, a92, a93, a94, a95, a96, a97, a98, a99, a100, a101, a102, a103, a104, a105, a106, a107, a108, a109, a110, a111, a112, a113, a114, a115, a116, a117, a118, a119, a120, a121, a122, a123, a124, a125, a126, a127, a128, a129, a130, a131, a132, a133, a134, a135, a136, a137, a138, a139, a140]) (hn : yaq E md A (k + 1) os ((k, o.op, s, v) :: acc) [a0, a1, a2, a3, a4, a5, a6, a7, a8, a9, a10, a11, a12, a13, a14, a15, a16, a17, a18, a19, a20, a21, a22, a23, a24, a25, a26, a27, a28, a29, a30, a31, a32, a33, a34, a35, a36, a37, a38, a39, a40, a41, a42, a43, a44, a45, a46, a47, a48, a49, a50, a51, a52, a53, a54, a55, a56, a57, a58, a59, a60, a61, a62, a63, a64, a65, a66, a67, a68, a69, a70, a71, a72, a73, a74, a75, a76, a77, a78, a79, a80, a81, a82, a83, a84, a85, a86, a87, a88, a89, a90, a91, a92, a93, a94, a95, a96, a97, a98, a99, a100, a101, a102, a103, a104, a105, a106, a107, a108, a109, a110, a111, a112, a113, a114, a115, a116, a117, a118, a119, a120, a121, a122, a123, a124, a125, a126, a127, a128, a129, a130, a131, a132, a133, a134, a135, a136, a137, a138, a139, a140] g K) : yaq E md A k (o :: os) acc s h K := ykh hg hop hk hs hn
theorem ycg {E : Env} {md : Go.FuncId → Sb.Mode} {A : List (List Nat)} {k : Nat} {o : ROp} {os : List ROp} {acc : List (Nat × Go.Op × List V × V)} {s : List V} {h g : Heap} {v : V} {K : List V → Heap → Prop} {a0 a1 a2 a3 a4 a5 a6 a7 a8 a9 a10 a11 a12 a13 a14 a15 a16 a17 a18 a19 a20 a21 a22 a23 a24 a25 a26 a27 a28 a29 a30 a31 a32 a33 a34 a35 a36 a37 a38 a39 a40 a41 a42 a43 a44 a45 a46 a47 a48 a49 a50 a51 a52 a53 a54 a55 a56 a57 a58 a59 a60 a61 a62 a63 a64 a65 a66 a67 a68 a69 a70 a71 a72 a73 a74 a75 a76 a77 a78 a79 a80 a81 a82 a83 a84 a85 a86 a87 a88 a89 a90 a91 a92 a93 a94 a95 a96 a97 a98 a99 a100 a101 a102 a103 a104 a105 a106 a107 a108 a109 a110 a111 a112 a113 a114 a115 a116 a117 a118 a119 a120 a121 a122 a123 a124 a125 a126 a127 a128 a129 a130 a131 a132 a133 a134 a135 a136 a137 a138 a139 a140 : V} (hg : o.gd = none) (hop : ∀ K : V → Heap → Prop, K v g → runOp E md o.op s h K) (hk : yai E md o.op = 0) (hs : putT s o.dst v = [a0, a1, a2, a3, a4, a5, a6, a7, a8, a9, a10, a11, a12, a13, a14, a15, a16, a17, a18, a19, a20, a21, a22, a23, a24, a25, a26, a27, a28, a29, a30, a31, a32, a33, a34, a35, a36, a37, a38, a39, a40, a41, a42, a43, a44, a45, a46, a47, a48, a49, a50, a51, a52, a53, a54, a55, a56, a57, a58, a59, a60, a61, a62, a63, a64, a65, a66, a67, a68, a69, a70, a71, a72, a73, a74, a75, a76, a77, a78, a79, a80, a81, a82, a83, a84, a85, a86, a87, a88, a89, a90, a91, a92, a93, a94, a95, a96, a97, a98, a99, a100, a101, a102, a103, a104, a105, a106, a107, a108, a109, a110, a111, a112, a113, a114, a115, a116, a117, a118, a119, a120, a121, a122, a123, a124, a125, a126, a127, a128, a129, a130, a131, a132, a133, a134, a135, a136, a137, a138, a139, a140]) (hn : yaq E md A (k + 1) os acc [a0, a1, a2, a3, a4, a5, a6, a7, a8, a9, a10, a11, a12, a13, a14, a15, a16, a17, a18, a19, a20, a21, a22, a23, a24, a25, a26, a27, a28, a29, a30, a31, a32, a33, a34, a35, a36, a37, a38, a39, a40, a41, a42, a43, a44, a45, a46, a47, a48, a49, a50, a51, a52, a53, a54, a55, a56, a57, a58, a59, a60, a61, a62, a63, a64, a65, a66, a67, a68, a69, a70, a71, a72, a73, a74, a75, a76, a77, a78, a79, a80, a81, a82, a83, a84, a85, a86, a87, a88, a89, a90, a91, a92, a93, a94, a95, a96, a97, a98, a99, a100, a101, a102, a103, a104, a105, a106, a107, a108, a109, a110, a111, a112, a113, a114, a115, a116, a117, a118, a119, a120, a121, a122, a123, a124, a125, a126, a127, a128, a129, a130, a131, a132, a133, a134, a135, a136, a137, a138, a139, a140] g K) : yaq E md A k (o :: os) acc s h K := ykg hg hop hk hs hn
theorem yhi {E : Env} {md : Go.FuncId → Sb.Mode} {o : ROp} {os : List ROp} {s : List V} {h : Heap} {K : List V → Heap → Prop} {a0 a1 a2 a3 a4 a5 a6 a7 a8 a9 a10 a11 a12 a13 a14 a15 a16 a17 a18 a19 a20 a21 a22 a23 a24 a25 a26 a27 a28 a29 a30 a31 a32 a33 a34 a35 a36 a37 a38 a39 a40 a41 a42 a43 a44 a45 a46 a47 a48 a49 a50 a51 a52 a53 a54 a55 a56 a57 a58 a59 a60 a61 a62 a63 a64 a65 a66 a67 a68 a69 a70 a71 a72 a73 a74 a75 a76 a77 a78 a79 a80 a81 a82 a83 a84 a85 a86 a87 a88 a89 a90 a91 a92 a93 a94 a95 a96 a97 a98 a99 a100 a101 a102 a103 a104 a105 a106 a107 a108 a109 a110 a111 a112 a113 a114 a115 a116 a117 a118 a119 a120 a121 a122 a123 a124 a125 a126 a127 a128 a129 a130 a131 a132 a133 a134 a135 a136 a137 a138 a139 a140 : V} {t : Go.Tmp} {w b : Bool} (hn : yag E md os [a0, a1, a2, a3, a4, a5, a6, a7, a8, a9, a10, a11, a12, a13, a14, a15, a16, a17, a18, a19, a20, a21, a22, a23, a24, a25, a26, a27, a28, a29, a30, a31, a32, a33, a34, a35, a36, a37, a38, a39, a40, a41, a42, a43, a44, a45, a46, a47, a48, a49, a50, a51, a52, a53, a54, a55, a56, a57, a58, a59, a60, a61, a62, a63, a64, a65, a66, a67, a68, a69, a70, a71, a72, a73, a74, a75, a76, a77, a78, a79, a80, a81, a82, a83, a84, a85, a86, a87, a88, a89, a90, a91, a92, a93, a94, a95, a96, a97, a98, a99, a100, a101, a102, a103, a104, a105, a106, a107, a108, a109, a110, a111, a112, a113, a114, a115, a116, a117, a118, a119, a120, a121, a122, a123, a124, a125, a126, a127, a128, a129, a130, a131, a132, a133, a134, a135, a136, a137, a138, a139, a140] h K) (hg : o.gd = some (t, w) := by rfl) (hb : getT s t = .bool b := by rfl) (hw : b = !w := by rfl) (hs : putT s o.dst und = [a0, a1, a2, a3, a4, a5, a6, a7, a8, a9, a10, a11, a12, a13, a14, a15, a16, a17, a18, a19, a20, a21, a22, a23, a24, a25, a26, a27, a28, a29, a30, a31, a32, a33, a34, a35, a36, a37, a38, a39, a40, a41, a42, a43, a44, a45, a46, a47, a48, a49, a50, a51, a52, a53, a54, a55, a56, a57, a58, a59, a60, a61, a62, a63, a64, a65, a66, a67, a68, a69, a70, a71, a72, a73, a74, a75, a76, a77, a78, a79, a80, a81, a82, a83, a84, a85, a86, a87, a88, a89, a90, a91, a92, a93, a94, a95, a96, a97, a98, a99, a100, a101, a102, a103, a104, a105, a106, a107, a108, a109, a110, a111, a112, a113, a114, a115, a116, a117, a118, a119, a120, a121, a122, a123, a124, a125, a126, a127, a128, a129, a130, a131, a132, a133, a134, a135, a136, a137, a138, a139, a140] := by rfl) : yag E md (o :: os) s h K := yet hg hb hw hs hn
theorem yad {E : Env} {md : Go.FuncId → Sb.Mode} {o : ROp} {os : List ROp} {s : List V} {h g : Heap} {v : V} {K : List V → Heap → Prop} {a0 a1 a2 a3 a4 a5 a6 a7 a8 a9 a10 a11 a12 a13 a14 a15 a16 a17 a18 a19 a20 a21 a22 a23 a24 a25 a26 a27 a28 a29 a30 a31 a32 a33 a34 a35 a36 a37 a38 a39 a40 a41 a42 a43 a44 a45 a46 a47 a48 a49 a50 a51 a52 a53 a54 a55 a56 a57 a58 a59 a60 a61 a62 a63 a64 a65 a66 a67 a68 a69 a70 a71 a72 a73 a74 a75 a76 a77 a78 a79 a80 a81 a82 a83 a84 a85 a86 a87 a88 a89 a90 a91 a92 a93 a94 a95 a96 a97 a98 a99 a100 a101 a102 a103 a104 a105 a106 a107 a108 a109 a110 a111 a112 a113 a114 a115 a116 a117 a118 a119 a120 a121 a122 a123 a124 a125 a126 a127 a128 a129 a130 a131 a132 a133 a134 a135 a136 a137 a138 a139 a140 : V} (hn : yag E md os [a0, a1, a2, a3, a4, a5, a6, a7, a8, a9, a10, a11, a12, a13, a14, a15, a16, a17, a18, a19, a20, a21, a22, a23, a24, a25, a26, a27, a28, a29, a30, a31, a32, a33, a34, a35, a36, a37, a38, a39, a40, a41, a42, a43, a44, a45, a46, a47, a48, a49, a50, a51, a52, a53, a54, a55, a56, a57, a58, a59, a60, a61, a62, a63, a64, a65, a66, a67, a68, a69, a70, a71, a72, a73, a74, a75, a76, a77, a78, a79, a80, a81, a82, a83, a84, a85, a86, a87, a88, a89, a90, a91, a92, a93, a94, a95, a96, a97, a98, a99, a100, a101, a102, a103, a104, a105, a106, a107, a108, a109, a110, a111, a112, a113, a114, a115, a116, a117, a118, a119, a120, a121, a122, a123, a124, a125, a126, a127, a128, a129, a130, a131, a132, a133, a134, a135, a136, a137, a138, a139, a140] g K) (hop : ∀ K : V → Heap → Prop, K v g → runOp E md o.op s h K := by exact fun _ => id) (hg : o.gd = none := by rfl) (hs : putT s o.dst v = [a0, a1, a2, a3, a4, a5, a6, a7, a8, a9, a10, a11, a12, a13, a14, a15, a16, a17, a18, a19, a20, a21, a22, a23, a24, a25, a26, a27, a28, a29, a30, a31, a32, a33, a34, a35, a36, a37, a38, a39, a40, a41, a42, a43, a44, a45, a46, a47, a48, a49, a50, a51, a52, a53, a54, a55, a56, a57, a58, a59, a60, a61, a62, a63, a64, a65, a66, a67, a68, a69, a70, a71, a72, a73, a74, a75, a76, a77, a78, a79, a80, a81, a82, a83, a84, a85, a86, a87, a88, a89, a90, a91, a92, a93, a94, a95, a96, a97, a98, a99, a100, a101, a102, a103, a104, a105, a106, a107, a108, a109, a110, a111, a112, a113, a114, a115, a116, a117, a118, a119, a120, a121, a122, a123, a124, a125, a126, a127, a128, a129, a130, a131, a132, a133, a134, a135, a136, a137, a138, a139, a140] := by rfl) : yag E md (o :: os) s h K := ybe hg hop hs hn
theorem yav {E : Env} {md : Go.FuncId → Sb.Mode} {o : ROp} {os : List ROp} {s : List V} {h g : Heap} {v : V} {K : List V → Heap → Prop} {a0 a1 a2 a3 a4 a5 a6 a7 a8 a9 a10 a11 a12 a13 a14 a15 a16 a17 a18 a19 a20 a21 a22 a23 a24 a25 a26 a27 a28 a29 a30 a31 a32 a33 a34 a35 a36 a37 a38 a39 a40 a41 a42 a43 a44 a45 a46 a47 a48 a49 a50 a51 a52 a53 a54 a55 a56 a57 a58 a59 a60 a61 a62 a63 a64 a65 a66 a67 a68 a69 a70 a71 a72 a73 a74 a75 a76 a77 a78 a79 a80 a81 a82 a83 a84 a85 a86 a87 a88 a89 a90 a91 a92 a93 a94 a95 a96 a97 a98 a99 a100 a101 a102 a103 a104 a105 a106 a107 a108 a109 a110 a111 a112 a113 a114 a115 a116 a117 a118 a119 a120 a121 a122 a123 a124 a125 a126 a127 a128 a129 a130 a131 a132 a133 a134 a135 a136 a137 a138 a139 a140 : V} {t : Go.Tmp} {w : Bool} (hn : yag E md os [a0, a1, a2, a3, a4, a5, a6, a7, a8, a9, a10, a11, a12, a13, a14, a15, a16, a17, a18, a19, a20, a21, a22, a23, a24, a25, a26, a27, a28, a29, a30, a31, a32, a33, a34, a35, a36, a37, a38, a39, a40, a41, a42, a43, a44, a45, a46, a47, a48, a49, a50, a51, a52, a53, a54, a55, a56, a57, a58, a59, a60, a61, a62, a63, a64, a65, a66, a67, a68, a69, a70, a71, a72, a73, a74, a75, a76, a77, a78, a79, a80, a81, a82, a83, a84, a85, a86, a87, a88, a89, a90, a91, a92, a93, a94, a95, a96, a97, a98, a99, a100, a101, a102, a103, a104, a105, a106, a107, a108, a109, a110, a111, a112, a113, a114, a115, a116, a117, a118, a119, a120, a121, a122, a123, a124, a125, a126, a127, a128, a129, a130, a131, a132, a133, a134, a135, a136, a137, a138, a139, a140] g K) (hop : ∀ K : V → Heap → Prop, K v g → runOp E md o.op s h K := by exact fun _ => id) (hg : o.gd = some (t, w) := by rfl) (hb : getT s t = .bool w := by rfl) (hs : putT s o.dst v = [a0, a1, a2, a3, a4, a5, a6, a7, a8, a9, a10, a11, a12, a13, a14, a15, a16, a17, a18, a19, a20, a21, a22, a23, a24, a25, a26, a27, a28, a29, a30, a31, a32, a33, a34, a35, a36, a37, a38, a39, a40, a41, a42, a43, a44, a45, a46, a47, a48, a49, a50, a51, a52, a53, a54, a55, a56, a57, a58, a59, a60, a61, a62, a63, a64, a65, a66, a67, a68, a69, a70, a71, a72, a73, a74, a75, a76, a77, a78, a79, a80, a81, a82, a83, a84, a85, a86, a87, a88, a89, a90, a91, a92, a93, a94, a95, a96, a97, a98, a99, a100, a101, a102, a103, a104, a105, a106, a107, a108, a109, a110, a111, a112, a113, a114, a115, a116, a117, a118, a119, a120, a121, a122, a123, a124, a125, a126, a127, a128, a129, a130, a131, a132, a133, a134, a135, a136, a137, a138, a139, a140] := by rfl) : yag E md (o :: os) s h K := yes hg hb hop hs hn
def pchI (k0 : Nat) (t w1 w2 : List UInt8) (k : Nat) (s : List V) (h : Heap) : Prop :=
 ∃ (i : Nat) (z : Int), ((i + k = 3 ∧ z = i) ∧ h[3]? = some (.cells 50 [.str t, .str w1, .str w2])) ∧ s.length = 141 ∧ s.getD 0 und = und ∧ s.getD 2 und = .int .i64 k0 ∧ s.getD 7 und = .bool false ∧ s.getD 11 und = .str t ∧ s.getD 12 und = .ptr 3 0 3 ∧ s.getD 13 und = .int .i64 z
theorem pchI_lit {k0 : Nat} {t w1 w2 : List UInt8} {k : Nat} {s : List V} {h : Heap} (hI : pchI k0 t w1 w2 k s h) : ∃ (i : Nat) (z : Int) (x : Nat → V), ((i + k = 3 ∧ z = i) ∧ h[3]? = some (.cells 50 [.str t, .str w1, .str w2])) ∧
  s = [und, x 1, .int .i64 k0, x 3, x 4, x 5, x 6, .bool false, x 8, x 9, x 10, .str t, .ptr 3 0 3, .int .i64 z, x 14, x 15, x 16, x 17, x 18, x 19, x 20, x 21, x 22, x 23, x 24, x 25, x 26, x 27, x 28, x 29, x 30, x 31, x 32, x 33, x 34, x 35, x 36, x 37, x 38, x 39, x 40, x 41, x 42, x 43, x 44, x 45, x 46, x 47, x 48, x 49, x 50, x 51, x 52, x 53, x 54, x 55, x 56, x 57, x 58, x 59, x 60, x 61, x 62, x 63, x 64, x 65, x 66, x 67, x 68, x 69, x 70, x 71, x 72, x 73, x 74, x 75, x 76, x 77, x 78, x 79, x 80, x 81, x 82, x 83, x 84, x 85, x 86, x 87, x 88, x 89, x 90, x 91, x 92, x 93, x 94, x 95, x 96, x 97, x 98, x 99, x 100, x 101, x 102, x 103, x 104, x 105, x 106, x 107, x 108, x 109, x 110, x 111, x 112, x 113, x 114, x 115, x 116, x 117, x 118, x 119, x 120, x 121, x 122, x 123, x 124, x 125, x 126, x 127, x 128, x 129, x 130, x 131, x 132, x 133, x 134, x 135, x 136, x 137, x 138, x 139, x 140] := by
 obtain ⟨i, z, hF, hl, e0, e2, e7, e11, e12, e13⟩ := hI
 refine ⟨i, z, fun n => s.getD n und, hF, (ybd hl).trans ?_⟩
 simp only [List.range, List.range.loop, List.map_cons, List.map_nil]
 rw [e0, e2, e7, e11, e12, e13]
theorem yti (h : Heap) (z : Int) (hz : -9223372036854775808 ≤ z ∧ z ≤ 9223372036854775807) (d : Nat) (hd : 0 < d) (hd2 : d ≤ 2 ^ 40) : ∃ m : Nat, m < d ∧ Has envQ .own 26 [.int .i64 z, .int .i64 d] h (.val (.int .i64 m) h) := by
 have h1 : IntKind.u64.wrap z = z % 18446744073709551616 := by simp [IntKind.wrap, IntKind.signed, IntKind.bits]
 have h2 : IntKind.u64.wrap (d : Int) = d := by simp [IntKind.wrap, IntKind.signed, IntKind.bits]; omega
 obtain ⟨m, hm⟩ : ∃ m : Nat, (z % 18446744073709551616) % (d : Int) = m := ⟨((z % 18446744073709551616) % (d : Int)).toNat, by rw [Int.toNat_of_nonneg (Int.emod_nonneg _ (by omega))]⟩
 have hlt : (z % 18446744073709551616) % (d : Int) < d := Int.emod_lt_of_pos _ (by omega)
 refine ⟨m, by omega, ?_⟩
 refine HasP.own (a := [.int .i64 z, .int .i64 d]) (d := fn26) rfl rfl rfl (jT rfl) ?_
 refine jV ?_
 refine jI rfl (jI (by rw [h2]; omega) ?_)
 refine jV ?_
 have e : IntKind.i64.wrap ((IntKind.u64.wrap z).tmod (IntKind.u64.wrap (d : Int))) = (m : Int) := by
  rw [h1, h2, Int.tmod_eq_emod_of_nonneg (by omega), hm, wrapS (by omega) (by omega)]
 exact ⟨rfl, congrArg (fun z => some (V.int IntKind.i64 z)) e, rfl⟩
set_option maxHeartbeats 16000000 in
theorem yzc (v0 : V) (hv0 : ∃ c, v0 = codV c ∧ CodL reachBytes c) (v1 : V) (hv1 : ∃ z, v1 = .int .i64 z ∧ (Lit.int .i64 z).wf = true) (v2 : V) (hv2 : ∃ z, v2 = .int .i64 z ∧ (Lit.int .i64 z).wf = true) : Has envQ .own 6 [v0, v1, v2] [] (.val (.bool true) []) := by
 obtain ⟨c, rfl, hL⟩ := hv0
 obtain ⟨z1, rfl, hz1⟩ := hv1
 obtain ⟨z2, rfl, hz2⟩ := hv2
 have hz1 := wf_i64 hz1
 have hz2 := wf_i64 hz2
 obtain ⟨hok, hcd⟩ := hL.ok
 obtain ⟨b, hsm, hb⟩ := yyy [.cells 25 [optL 5 fncV c]] c ⟨hok, hcd⟩
 refine HasP.own (a := [codV c, .int .i64 z1, .int .i64 z2]) (d := fn6) (yaf (fz_ag (ydx c)) (yaf rfl (yaf rfl yan))) rfl rfl (jT rfl) ?_
 show yas (initT _ [.agg [optL 5 fncV c], .int .i64 z1, .int .i64 z2]) _
 refine jW ?_
 refine jR _ ?_
 refine yad (v := .ptr 0 0 1) (g := [.cells 25 [optL 5 fncV c]]) ?_ (fun K hK => ydu (ydx c) hK)
 refine yad ?_
 refine jW ?_
 refine jR _ ?_
 refine yad (v := codV c) (g := [.cells 25 [optL 5 fncV c]]) ?_
 refine yad ?_ (fun K hK => CallK.of hsm hK)
 cases b with
 | false =>
  refine yad ?_
  refine jW ?_
  refine jR _ ?_
  refine yad ?_ (fun K hK => CallK.of (ygx _) hK)
  refine yad ?_
  refine jW ?_
  apply jH
  exact ⟨rfl, rfl, jO _⟩
 | true =>
 have hp := hb rfl
 have hpk := Pack_has [.cells 25 [optL 5 fncV c]] c hok (fun hv => by
  have := ynr (yge hv) (fun f hf x hx => by have := yir hok f hf x hx; omega)
  omega)
 unfold packV at hpk
 refine yad ?_
 refine jW ?_
 refine jR _ ?_
 refine yad (v := codV c) (g := [.cells 25 [optL 5 fncV c]]) ?_
 by_cases hv : ycy c = true
 case neg =>
  rw [if_neg hv] at hpk
  refine yad ?_ (fun K hK => CallK.of hpk hK)
  iterate 5 (refine yad ?_)
  refine jW ?_
  refine jR _ ?_
  refine yad ?_
  refine yad ?_ (fun K hK => jI (fun q => absurd q (by decide)) (fun _ => hK))
  refine yad ?_
  iterate 3 (refine yhi ?_)
  iterate 2 (refine yad ?_)
  iterate 3 (refine yhi ?_)
  refine yad ?_
  refine jW ?_
  refine jR _ ?_
  refine yad ?_
  refine yad ?_ (fun K hK => jI (fun q => absurd q (by decide)) (fun _ => hK))
  refine yad ?_
  iterate 3 (refine yhi ?_)
  iterate 2 (refine yad ?_)
  refine yav ?_ (fun K hK => CallK.of (ygx _) hK)
  iterate 2 (refine yad ?_)
  refine jW ?_
  apply jH
  exact ⟨rfl, rfl, jO _⟩
 rw [if_pos hv] at hpk
 by_cases hlen : 60000 < (sealB (codPB c)).length
 ·rw [if_pos hlen] at hpk
  refine yad ?_ (fun K hK => CallK.of hpk hK)
  iterate 5 (refine yad ?_)
  refine jW ?_
  refine jR _ ?_
  refine yad ?_
  refine yad ?_ (fun K hK => jI (fun q => absurd q (by decide)) (fun _ => hK))
  refine yad ?_
  iterate 3 (refine yhi ?_)
  iterate 2 (refine yad ?_)
  iterate 3 (refine yhi ?_)
  refine yad ?_
  refine jW ?_
  refine jR _ ?_
  refine yad ?_
  refine yad ?_ (fun K hK => jI (fun q => absurd q (by decide)) (fun _ => hK))
  refine yad ?_
  iterate 3 (refine yhi ?_)
  iterate 2 (refine yad ?_)
  refine yav ?_ (fun K hK => CallK.of (ygx _) hK)
  iterate 2 (refine yad ?_)
  refine jW ?_
  apply jH
  exact ⟨rfl, rfl, jO _⟩
 rw [if_neg hlen] at hpk
 refine yad ?_ (fun K hK => CallK.of hpk hK)
 iterate 5 (refine yad ?_)
 have hcl : 4 ≤ (codPB c).length := by
  unfold codPB lstB
  have := yni (lenO c)
  simp only [List.length_append, List.length_cons, List.length_nil]
  omega
 have hsl := ylc (codPB c)
 obtain ⟨s, hs⟩ : ∃ s, sealB (codPB c) = s := ⟨_, rfl⟩
 have h3c : (codPB c).take 3 = [115, 98, 49] := rfl
 have hchg := fun (k : Nat) (o : UInt8) => dam_chg (k := k) (o := o) h3c hcl
 have hoth := fun (w r r' : List UInt8) => yyx (w := w) (r := r) (r' := r') hok hv
 rw [hs] at hsl hlen ⊢
 simp only [hs] at hchg hoth
 refine jW ?_
 refine jR _ ?_
 refine yad ?_
 refine yad ?_ (fun K hK => jI (fun _ => hK) (fun q => absurd rfl q))
 refine yad ?_
 iterate 2 (refine yav ?_)
 refine yav ?_ (fun K hK => jI (fun q => absurd q (by omega)) (fun _ => hK))
 iterate 2 (refine yad ?_)
 iterate 2 (refine yav ?_)
 by_cases h6 : 60000 ≤ s.length
 ·refine yav ?_ (fun K hK => jI (fun _ => hK) (fun q => absurd q (by omega)))
  refine yad ?_
  refine jW ?_
  refine jR _ ?_
  refine yad ?_
  refine yad ?_ (fun K hK => jI (fun _ => hK) (fun q => absurd rfl q))
  refine yad ?_
  iterate 2 (refine yav ?_)
  refine yav ?_ (fun K hK => jI (fun _ => hK) (fun q => absurd q (by omega)))
  iterate 2 (refine yad ?_)
  refine yav ?_ (fun K hK => CallK.of (ygx _) hK)
  iterate 2 (refine yad ?_)
  refine jW ?_
  apply jH
  exact ⟨rfl, rfl, jO _⟩
 refine yav ?_ (fun K hK => jI (fun q => absurd q (by omega)) (fun _ => hK))
 refine yad ?_
 obtain ⟨k0, hk0, hmod⟩ := yti [.cells 25 [optL 5 fncV c]] z1 hz1 s.length (by omega) (by omega)
 obtain ⟨r, hr, hmod2⟩ := yti [.cells 25 [optL 5 fncV c]] z2 hz2 255 (by omega) (by omega)
 obtain ⟨x, hx⟩ : ∃ x, s[k0]? = some x := ⟨_, List.getElem?_eq_getElem hk0⟩
 have hxl := x.toNat_lt
 obtain ⟨ch, hch⟩ : ∃ ch : UInt8, ch = UInt8.ofNat ((x.toNat + 1 + r) % 256) := ⟨_, rfl⟩
 have hcn : ch.toNat = (x.toNat + 1 + r) % 256 := by rw [hch]; simp
 have he : IntKind.u8.wrap (IntKind.i64.wrap (IntKind.i64.wrap (IntKind.i64.wrap (x.toNat : Int) + 1) + (r : Int))) = (ch.toNat : Int) := by
  rw [wrapS (x := (x.toNat : Int)) (by omega) (by omega), wrapS (x := (x.toNat : Int) + 1) (by omega) (by omega), wrapS (by omega) (by omega), hcn]
  simp [IntKind.wrap, IntKind.signed, IntKind.bits]
 have hxo : s[k0]? ≠ some ch := fun q => by
  rw [hx] at q
  have := congrArg UInt8.toNat (Option.some.inj q)
  omega
 refine jW ?_
 refine jR _ ?_
 iterate 3 (refine yad ?_)
 refine yad ?_ (fun K hK => CallK.of hmod hK)
 refine yad ?_
 refine jW ?_
 refine RunP.drawnR _ (by decide +kernel) (fun _ => rfl) ?_
 refine ycg rfl (fun _ => id) (by decide +kernel) rfl ?_
 refine ycg rfl (fun _ => id) (by decide +kernel) rfl ?_
 refine ycg rfl (fun K hK => jI (by omega) (Exists.intro x (jI (by simpa using hx) hK))) (by decide +kernel) rfl ?_
 refine ycg rfl (fun _ => id) (by decide +kernel) rfl ?_
 refine ycg rfl (fun _ => id) (by decide +kernel) rfl ?_
 refine ycg rfl (fun _ => id) (by decide +kernel) rfl ?_
 refine yth rfl (fun K hK => CallK.of hmod2 hK) (by decide +kernel) rfl ?_
 refine ycg rfl (fun _ => id) (by decide +kernel) rfl ?_
 refine ycg rfl (fun K hK => (show K (V.int .u8 (IntKind.u8.wrap (IntKind.i64.wrap (IntKind.i64.wrap (IntKind.i64.wrap (x.toNat : Int) + 1) + (r : Int))))) _ from by rw [he]; exact hK)) (by decide +kernel) rfl ?_
 refine ycg rfl (fun _ => id) (by decide +kernel) rfl ?_
 obtain ⟨t, ht⟩ : ∃ t, s.set k0 ch = t := ⟨_, rfl⟩
 have hdam : damP t = if k0 < 3 then 1 else 2 := by rw [← ht]; exact hchg k0 ch hk0 hxo
 obtain ⟨w1, hw1⟩ : ∃ w1, w1 = s.take k0 := ⟨_, rfl⟩
 obtain ⟨w2, hw2⟩ : ∃ w2, w2 = s ++ [ch] := ⟨_, rfl⟩
 have hl_t : t.length ≤ 60000 := by rw [← ht, List.length_set]; omega
 have hl_w1 : w1.length ≤ 60000 := by rw [hw1, List.length_take]; omega
 have hl_w2 : w2.length ≤ 60000 := by rw [hw2, List.length_append, List.length_singleton]; omega
 have hd_t : damP t ≠ 0 := by rw [hdam]; split <;> omega
 have hd_w1 : damP w1 ≠ 0 := hoth w1 [] (s.drop k0) (by omega) (by rw [hw1, List.append_nil, List.take_append_drop]) (by rw [hw1, List.length_take]; omega)
 have hd_w2 : damP w2 ≠ 0 := hoth w2 [ch] [] (by omega) (by rw [hw2, List.append_nil]) (by rw [hw2, List.length_append, List.length_singleton]; omega)
 have hts : ((s.take (k0 : Int).toNat).drop 0 ++ [ch]) ++ (s.take s.length).drop (IntKind.i64.wrap ((k0 : Int) + 1)).toNat = t := by
  rw [ycp k0 (by omega), Int.toNat_natCast, Int.toNat_natCast, List.drop_zero, List.take_length, ← ht, ytc hk0, List.append_assoc]; rfl
 have hek : (IntKind.i64.wrap ((k0 : Int) + 1)).toNat = k0 + 1 := by rw [ycp k0 (by omega), Int.toNat_natCast]
 have hrw1 : InRow [.cells 25 [optL 5 fncV c], .cells 5 [.int .u8 ch.toNat]] 5 1 (.sl 1 0 1 1 1 1) (bv [ch]) := .inr ⟨1, rfl, rfl, by simp [bv]⟩
 have hrw2 : InRow [.cells 25 [optL 5 fncV c], .cells 5 [.int .u8 ch.toNat], .cells 5 [.int .u8 ch.toNat]] 5 1 (.sl 2 0 1 1 1 1) (bv [ch]) := .inr ⟨2, rfl, rfl, by simp [bv]⟩
 have hrw3 := hrw2.push (.cells 50 [.str [], .str [], .str []])
 refine jW ?_
 refine RunP.drawnR _ (by decide +kernel) (fun _ => rfl) ?_
 refine ycg rfl (fun _ => id) (by decide +kernel) rfl ?_
 refine ycg rfl (fun _ => id) (by decide +kernel) rfl ?_
 refine ycg rfl (fun K hK => jI (by omega) (jI (jI (Nat.zero_le _) (by omega)) hK)) (by decide +kernel) rfl ?_
 refine ycg rfl (fun _ => id) (by decide +kernel) rfl ?_
 refine yzb rfl (fun K hK => (show K (.sl 1 0 1 1 1 1) [.cells 25 [optL 5 fncV c], .cells 5 [.int .u8 ch.toNat]] from hK)) (by decide +kernel) (trivial) rfl ?_
 refine yth rfl (fun K hK => ykf (E := envQ) (T := 5) (t := 49) (st := 9) (bs := [ch]) rfl rfl rfl rfl rfl rfl rfl hrw1 hK) (by decide +kernel) rfl ?_
 refine ycg rfl (fun K hK => jI (by simp; omega) hK) (by decide +kernel) rfl ?_
 refine ycg rfl (fun _ => id) (by decide +kernel) rfl ?_
 refine ycg rfl (fun _ => id) (by decide +kernel) rfl ?_
 refine ycg rfl (fun _ => id) (by decide +kernel) rfl ?_
 refine ycg rfl (fun K hK => jI (by rw [ycp k0 (by omega)]; omega) (jI (jI (by rw [hek]; omega) (Nat.le_refl _)) hK)) (by decide +kernel) rfl ?_
 refine ycg rfl (fun K hK => jI (by simp; omega) (show K (V.str (((s.take (k0 : Int).toNat).drop 0 ++ [ch]) ++ (s.take s.length).drop (IntKind.i64.wrap ((k0 : Int) + 1)).toNat)) _ from by rw [hts]; exact hK)) (by decide +kernel) rfl ?_
 refine ycg rfl (fun _ => id) (by decide +kernel) rfl ?_
 refine jW ?_
 have hw1' : (s.take (k0 : Int).toNat).drop 0 = w1 := by rw [hw1]; rfl
 refine RunP.drawn2R _ (by decide +kernel) (by decide +kernel) (fun _ => rfl) ?_
 refine yfl rfl (fun _ => id) (by decide +kernel) rfl ?_
 refine yfl rfl (fun _ => id) (by decide +kernel) rfl ?_
 refine yfl rfl (fun _ => id) (by decide +kernel) rfl ?_
 refine yfl rfl (fun K hK => jI (by omega) (jI (jI (Nat.zero_le _) (by omega)) (show K (V.str ((s.take (k0 : Int).toNat).drop 0)) _ from by rw [hw1']; exact hK))) (by decide +kernel) rfl ?_
 refine yfl rfl (fun _ => id) (by decide +kernel) rfl ?_
 refine yfl rfl (fun _ => id) (by decide +kernel) rfl ?_
 refine yza rfl (fun K hK => (show K (.sl 2 0 1 1 1 1) [.cells 25 [optL 5 fncV c], .cells 5 [.int .u8 ch.toNat], .cells 5 [.int .u8 ch.toNat]] from hK)) (by decide +kernel) rfl ?_
 refine yyz rfl (fun K hK => ykf (E := envQ) (T := 5) (t := 49) (st := 9) (bs := [ch]) rfl rfl rfl rfl rfl rfl rfl hrw2 hK) (by decide +kernel) (yna (by decide +kernel) (yie trivial)) rfl ?_
 refine yfl rfl (fun K hK => jI (by simp; omega) (show K (V.str (s ++ [ch])) _ from by rw [← hw2]; exact hK)) (by decide +kernel) rfl ?_
 refine yfl rfl (fun K hK => (show K (.agg [.str t, .str w1, .str w2]) _ from hK)) (by decide +kernel) rfl ?_
 refine ytg rfl (fun K hK => (show K (.ptr 3 0 3) [.cells 25 [optL 5 fncV c], .cells 5 [.int .u8 ch.toNat], .cells 5 [.int .u8 ch.toNat], .cells 50 [.str [], .str [], .str []]] from hK)) (by decide +kernel) (yig (StillK.of (show bindP (ydn envQ 49 9 (.sl 2 0 1 1 1 1) (Sb.push [.cells 25 [optL 5 fncV c], .cells 5 [.int .u8 ch.toNat], .cells 5 [.int .u8 ch.toNat]] (.cells 50 [.str [], .str [], .str []]))) (fun v _ => v = V.str [ch]) from ykf (E := envQ) (T := 5) (t := 49) (st := 9) (bs := [ch]) rfl rfl rfl rfl rfl rfl rfl hrw3 rfl)) trivial) rfl ?_
 refine ytg rfl (fun K hK => (show K und [.cells 25 [optL 5 fncV c], .cells 5 [.int .u8 ch.toNat], .cells 5 [.int .u8 ch.toNat], .cells 50 [.str t, .str w1, .str w2]] from hK)) (by decide +kernel) (yif (by decide +kernel) trivial) rfl ?_
 refine jW ?_
 refine jR _ ?_
 refine yad ?_
 refine jW ?_
 refine RunP.loop (pchI k0 t w1 w2) ?_ 3 ⟨0, _, ⟨⟨rfl, rfl⟩, rfl⟩, rfl, rfl, rfl, rfl, rfl, rfl, rfl⟩
 intro kk st hh hI
 obtain ⟨i, z, x, ⟨⟨hik, hz⟩, h3⟩, rfl⟩ := pchI_lit hI
 clear hI
 subst hz
 refine jW ?_
 apply jB
 refine jI (fun hlt => ?_) (fun hge => ?_)
 case' refine_2 =>
  by_cases hk3 : k0 < 3
  ·have hdt : damP t = 1 := by rw [hdam, if_pos hk3]
   have hdg := (yfj hl_t hd_t hh).2
   rw [hdt] at hdg
   refine jW ?_
   refine jR _ ?_
   refine yad ?_
   refine yad ?_ (fun K hK => CallK.of hdg hK)
   iterate 5 (refine yad ?_)
   refine jW ?_
   refine jR _ ?_
   refine yad ?_
   refine yad ?_ (fun K hK => jI (fun _ => hK) (fun q => absurd q (by omega)))
   refine yad ?_
   refine yad ?_ (fun K hK => jI (fun _ => hK) (fun q => absurd rfl q))
   iterate 2 (refine yad ?_)
   refine yav ?_
   refine yav ?_ (fun K hK => jI (fun q => absurd q (by decide)) (fun _ => hK))
   iterate 2 (refine yad ?_)
   refine yav ?_ (fun K hK => CallK.of (ygx _) hK)
   iterate 2 (refine yad ?_)
   refine jW ?_
   apply jH
   exact ⟨rfl, rfl, jO _⟩
  ·have hdt : damP t = 2 := by rw [hdam, if_neg hk3]
   have hdg := (yfj hl_t hd_t hh).2
   rw [hdt] at hdg
   refine jW ?_
   refine jR _ ?_
   refine yad ?_
   refine yad ?_ (fun K hK => CallK.of hdg hK)
   iterate 5 (refine yad ?_)
   refine jW ?_
   refine jR _ ?_
   refine yad ?_
   refine yad ?_ (fun K hK => jI (fun q => absurd q (by omega)) (fun _ => hK))
   refine yad ?_
   refine yad ?_ (fun K hK => jI (fun q => absurd q (by decide)) (fun _ => hK))
   iterate 2 (refine yad ?_)
   refine yav ?_
   refine yav ?_ (fun K hK => jI (fun q => absurd q (by decide)) (fun _ => hK))
   iterate 2 (refine yad ?_)
   refine yav ?_ (fun K hK => CallK.of (ygx _) hK)
   iterate 2 (refine yad ?_)
   refine jW ?_
   apply jH
   exact ⟨rfl, rfl, jO _⟩
 refine jW ?_
 refine jR _ ?_
 have hi3 : i = 0 ∨ i = 1 ∨ i = 2 := by omega
 rcases hi3 with rfl | rfl | rfl
 ·have hle := ynw t
  refine yad ?_
  refine yad ?_ (fun K hK => jI (jI (by decide) (by decide)) hK)
  refine yad ?_ (fun K hK => yab (yae h3 rfl) hK)
  refine yad ?_ (fun K hK => CallK.of (yfj hl_t hd_t hh).1 hK)
  refine yad ?_
  refine yad (v := codV none) (g := hh) ?_
  refine yad ?_
  refine yad (v := .ptr hh.length 0 1) (g := Sb.push hh (.cells 25 [.nils])) ?_
  refine yad ?_ (fun K hK => yab (ycw (E := envQ) (t := 25) (n := 1) (v := codV none) rfl rfl rfl rfl rfl) hK)
  refine yad ?_
  refine jW ?_
  refine jR _ ?_
  refine yad ?_
  refine yad ?_ (fun K hK => jI (jI (by decide) (by decide)) hK)
  refine yad ?_ (fun K hK => yab (yae (yam h3) rfl) hK)
  refine yad ?_ (fun K hK => CallK.of (yfj hl_t hd_t _).2 hK)
  iterate 5 (refine yad ?_)
  refine jW ?_
  refine jR _ ?_
  refine yad ?_
  refine yad ?_ (fun K hK => jI (fun _ => hK) (fun q => absurd rfl q))
  refine yad ?_
  refine yav ?_
  refine yav ?_ (fun K hK => yab (yfz rfl) hK)
  refine yav ?_
  refine yav ?_ (fun K hK => jI (fun _ => hK) (fun q => absurd rfl q))
  iterate 2 (refine yad ?_)
  refine yav ?_
  refine yav ?_ (fun K hK => jI (fun _ => hK) (fun q => absurd rfl q))
  iterate 2 (refine yad ?_)
  refine yav ?_
  refine yav ?_ (fun K hK => jI (fun q => absurd q (by omega)) (fun _ => hK))
  iterate 2 (refine yad ?_)
  refine yav ?_
  refine yav ?_ (fun K hK => jI (fun q => absurd q (by omega)) (fun _ => hK))
  refine yad ?_
  refine jW ?_
  refine jR _ ?_
  iterate 3 (refine yad ?_)
  exact ⟨kk - 1, by omega, 1, _, ⟨⟨by omega, rfl⟩, yam h3⟩, rfl, rfl, rfl, rfl, rfl, rfl, rfl⟩
 ·have hle := ynw w1
  refine yad ?_
  refine yad ?_ (fun K hK => jI (jI (by decide) (by decide)) hK)
  refine yad ?_ (fun K hK => yab (yae h3 rfl) hK)
  refine yad ?_ (fun K hK => CallK.of (yfj hl_w1 hd_w1 hh).1 hK)
  refine yad ?_
  refine yad (v := codV none) (g := hh) ?_
  refine yad ?_
  refine yad (v := .ptr hh.length 0 1) (g := Sb.push hh (.cells 25 [.nils])) ?_
  refine yad ?_ (fun K hK => yab (ycw (E := envQ) (t := 25) (n := 1) (v := codV none) rfl rfl rfl rfl rfl) hK)
  refine yad ?_
  refine jW ?_
  refine jR _ ?_
  refine yad ?_
  refine yad ?_ (fun K hK => jI (jI (by decide) (by decide)) hK)
  refine yad ?_ (fun K hK => yab (yae (yam h3) rfl) hK)
  refine yad ?_ (fun K hK => CallK.of (yfj hl_w1 hd_w1 _).2 hK)
  iterate 5 (refine yad ?_)
  refine jW ?_
  refine jR _ ?_
  refine yad ?_
  refine yad ?_ (fun K hK => jI (fun _ => hK) (fun q => absurd rfl q))
  refine yad ?_
  refine yav ?_
  refine yav ?_ (fun K hK => yab (yfz rfl) hK)
  refine yav ?_
  refine yav ?_ (fun K hK => jI (fun _ => hK) (fun q => absurd rfl q))
  iterate 2 (refine yad ?_)
  refine yav ?_
  refine yav ?_ (fun K hK => jI (fun _ => hK) (fun q => absurd rfl q))
  iterate 2 (refine yad ?_)
  refine yav ?_
  refine yav ?_ (fun K hK => jI (fun q => absurd q (by omega)) (fun _ => hK))
  iterate 2 (refine yad ?_)
  refine yav ?_
  refine yav ?_ (fun K hK => jI (fun q => absurd q (by omega)) (fun _ => hK))
  refine yad ?_
  refine jW ?_
  refine jR _ ?_
  iterate 3 (refine yad ?_)
  exact ⟨kk - 1, by omega, 2, _, ⟨⟨by omega, rfl⟩, yam h3⟩, rfl, rfl, rfl, rfl, rfl, rfl, rfl⟩
 ·have hle := ynw w2
  refine yad ?_
  refine yad ?_ (fun K hK => jI (jI (by decide) (by decide)) hK)
  refine yad ?_ (fun K hK => yab (yae h3 rfl) hK)
  refine yad ?_ (fun K hK => CallK.of (yfj hl_w2 hd_w2 hh).1 hK)
  refine yad ?_
  refine yad (v := codV none) (g := hh) ?_
  refine yad ?_
  refine yad (v := .ptr hh.length 0 1) (g := Sb.push hh (.cells 25 [.nils])) ?_
  refine yad ?_ (fun K hK => yab (ycw (E := envQ) (t := 25) (n := 1) (v := codV none) rfl rfl rfl rfl rfl) hK)
  refine yad ?_
  refine jW ?_
  refine jR _ ?_
  refine yad ?_
  refine yad ?_ (fun K hK => jI (jI (by decide) (by decide)) hK)
  refine yad ?_ (fun K hK => yab (yae (yam h3) rfl) hK)
  refine yad ?_ (fun K hK => CallK.of (yfj hl_w2 hd_w2 _).2 hK)
  iterate 5 (refine yad ?_)
  refine jW ?_
  refine jR _ ?_
  refine yad ?_
  refine yad ?_ (fun K hK => jI (fun _ => hK) (fun q => absurd rfl q))
  refine yad ?_
  refine yav ?_
  refine yav ?_ (fun K hK => yab (yfz rfl) hK)
  refine yav ?_
  refine yav ?_ (fun K hK => jI (fun _ => hK) (fun q => absurd rfl q))
  iterate 2 (refine yad ?_)
  refine yav ?_
  refine yav ?_ (fun K hK => jI (fun _ => hK) (fun q => absurd rfl q))
  iterate 2 (refine yad ?_)
  refine yav ?_
  refine yav ?_ (fun K hK => jI (fun q => absurd q (by omega)) (fun _ => hK))
  iterate 2 (refine yad ?_)
  refine yav ?_
  refine yav ?_ (fun K hK => jI (fun q => absurd q (by omega)) (fun _ => hK))
  refine yad ?_
  refine jW ?_
  refine jR _ ?_
  iterate 3 (refine yad ?_)
  exact ⟨kk - 1, by omega, 3, _, ⟨⟨by omega, rfl⟩, yam h3⟩, rfl, rfl, rfl, rfl, rfl, rfl, rfl⟩
end Go.Proofs.YtekmafoicobphaaGreatDoor
