/- Codes: the program's words: an instruction. -/
import Derived.Test.YtekmafoicobphaaGreatDoorSb10Chk3
set_option linter.unusedVariables false
set_option linter.unusedSimpArgs false
namespace Go.Proofs.YtekmafoicobphaaGreatDoor
open Go.Sb
set_option maxRecDepth 100000
theorem yrr {E : Env} {md : Go.FuncId → Sb.Mode} {A : List (List Nat)} {k : Nat} {o : ROp} {os : List ROp} {acc : List (Nat × Go.Op × List V × V)} {ws : List (Nat × Heap)} {s : List V} {h g : Heap} {v : V} {K : List V → Heap → Prop} {a0 a1 a2 a3 a4 a5 a6 a7 a8 a9 a10 a11 a12 a13 a14 a15 a16 a17 a18 a19 a20 a21 a22 a23 a24 a25 a26 a27 a28 a29 a30 a31 a32 a33 a34 a35 a36 a37 a38 a39 a40 a41 a42 a43 a44 a45 a46 a47 a48 a49 a50 a51 a52 a53 a54 a55 a56 a57 a58 a59 a60 a61 a62 a63 a64 a65 a66 a67 a68 a69 a70 a71 a72 a73 a74 a75 a76 a77 a78 a79 a80 a81 a82 a83 a84 a85 a86 a87 a88 a89 a90 a91 a92 a93 a94 a95 a96 a97 a98 a99 a100 a101 a102 a103 a104 a105 a106 a107 a108 a109 a110 a111 a112 a113 a114 a115 a116 a117 a118 a119 a120 a121 a122 a123 a124 a125 a126 a127 a128 a129 a130 a131 a132 a133 a134 a135 a136 a137 a138 : V} (hg : o.gd = none) (hop : ∀ K : V → Heap → Prop, K v g → runOp E md o.op s h K) (hk : yai E md o.op = 2) (ha : accK E md (A.getD k []) g acc True) (hs : putT s o.dst v = [a0, a1, a2, a3, a4, a5, a6, a7, a8, a9, a10, a11, a12, a13, a14, a15, a16, a17, a18, a19, a20, a21, a22, a23, a24, a25, a26, a27, a28, a29, a30, a31, a32, a33, a34, a35, a36, a37, a38, a39, a40, a41, a42, a43, a44, a45, a46, a47, a48, a49, a50, a51, a52, a53, a54, a55, a56, a57, a58, a59, a60, a61, a62, a63, a64, a65, a66, a67, a68, a69, a70, a71, a72, a73, a74, a75, a76, a77, a78, a79, a80, a81, a82, a83, a84, a85, a86, a87, a88, a89, a90, a91, a92, a93, a94, a95, a96, a97, a98, a99, a100, a101, a102, a103, a104, a105, a106, a107, a108, a109, a110, a111, a112, a113, a114, a115, a116, a117, a118, a119, a120, a121, a122, a123, a124, a125, a126, a127, a128, a129, a130, a131, a132, a133, a134, a135, a136, a137, a138]) (hn : yay E md A (k + 1) os acc ((k, h) :: ws) [a0, a1, a2, a3, a4, a5, a6, a7, a8, a9, a10, a11, a12, a13, a14, a15, a16, a17, a18, a19, a20, a21, a22, a23, a24, a25, a26, a27, a28, a29, a30, a31, a32, a33, a34, a35, a36, a37, a38, a39, a40, a41, a42, a43, a44, a45, a46, a47, a48, a49, a50, a51, a52, a53, a54, a55, a56, a57, a58, a59, a60, a61, a62, a63, a64, a65, a66, a67, a68, a69, a70, a71, a72, a73, a74, a75, a76, a77, a78, a79, a80, a81, a82, a83, a84, a85, a86, a87, a88, a89, a90, a91, a92, a93, a94, a95, a96, a97, a98, a99, a100, a101, a102, a103, a104, a105, a106, a107, a108, a109, a110, a111, a112, a113, a114, a115, a116, a117, a118, a119, a120, a121, a122, a123, a124, a125, a126, a127, a128, a129, a130, a131, a132, a133, a134, a135, a136, a137, a138] g K) : yay E md A k (o :: os) acc ws s h K := ynf hg hop hk ha hs hn
theorem yrs {E : Env} {md : Go.FuncId → Sb.Mode} {A : List (List Nat)} {k : Nat} {o : ROp} {os : List ROp} {acc : List (Nat × Go.Op × List V × V)} {ws : List (Nat × Heap)} {s : List V} {h g : Heap} {v : V} {K : List V → Heap → Prop} {a0 a1 a2 a3 a4 a5 a6 a7 a8 a9 a10 a11 a12 a13 a14 a15 a16 a17 a18 a19 a20 a21 a22 a23 a24 a25 a26 a27 a28 a29 a30 a31 a32 a33 a34 a35 a36 a37 a38 a39 a40 a41 a42 a43 a44 a45 a46 a47 a48 a49 a50 a51 a52 a53 a54 a55 a56 a57 a58 a59 a60 a61 a62 a63 a64 a65 a66 a67 a68 a69 a70 a71 a72 a73 a74 a75 a76 a77 a78 a79 a80 a81 a82 a83 a84 a85 a86 a87 a88 a89 a90 a91 a92 a93 a94 a95 a96 a97 a98 a99 a100 a101 a102 a103 a104 a105 a106 a107 a108 a109 a110 a111 a112 a113 a114 a115 a116 a117 a118 a119 a120 a121 a122 a123 a124 a125 a126 a127 a128 a129 a130 a131 a132 a133 a134 a135 a136 a137 a138 : V} (hg : o.gd = none) (hop : ∀ K : V → Heap → Prop, K v g → runOp E md o.op s h K) (hk : yai E md o.op = 1) (hw : wasK E md (A.getD k []) (k, o.op, s, v) ws True) (hs : putT s o.dst v = [a0, a1, a2, a3, a4, a5, a6, a7, a8, a9, a10, a11, a12, a13, a14, a15, a16, a17, a18, a19, a20, a21, a22, a23, a24, a25, a26, a27, a28, a29, a30, a31, a32, a33, a34, a35, a36, a37, a38, a39, a40, a41, a42, a43, a44, a45, a46, a47, a48, a49, a50, a51, a52, a53, a54, a55, a56, a57, a58, a59, a60, a61, a62, a63, a64, a65, a66, a67, a68, a69, a70, a71, a72, a73, a74, a75, a76, a77, a78, a79, a80, a81, a82, a83, a84, a85, a86, a87, a88, a89, a90, a91, a92, a93, a94, a95, a96, a97, a98, a99, a100, a101, a102, a103, a104, a105, a106, a107, a108, a109, a110, a111, a112, a113, a114, a115, a116, a117, a118, a119, a120, a121, a122, a123, a124, a125, a126, a127, a128, a129, a130, a131, a132, a133, a134, a135, a136, a137, a138]) (hn : yay E md A (k + 1) os ((k, o.op, s, v) :: acc) ws [a0, a1, a2, a3, a4, a5, a6, a7, a8, a9, a10, a11, a12, a13, a14, a15, a16, a17, a18, a19, a20, a21, a22, a23, a24, a25, a26, a27, a28, a29, a30, a31, a32, a33, a34, a35, a36, a37, a38, a39, a40, a41, a42, a43, a44, a45, a46, a47, a48, a49, a50, a51, a52, a53, a54, a55, a56, a57, a58, a59, a60, a61, a62, a63, a64, a65, a66, a67, a68, a69, a70, a71, a72, a73, a74, a75, a76, a77, a78, a79, a80, a81, a82, a83, a84, a85, a86, a87, a88, a89, a90, a91, a92, a93, a94, a95, a96, a97, a98, a99, a100, a101, a102, a103, a104, a105, a106, a107, a108, a109, a110, a111, a112, a113, a114, a115, a116, a117, a118, a119, a120, a121, a122, a123, a124, a125, a126, a127, a128, a129, a130, a131, a132, a133, a134, a135, a136, a137, a138] g K) : yay E md A k (o :: os) acc ws s h K := yne hg hop hk hw hs hn
theorem yxi {E : Env} {md : Go.FuncId → Sb.Mode} {A : List (List Nat)} {k : Nat} {o : ROp} {os : List ROp} {ws : List (Nat × Heap)} {s : List V} {h g : Heap} {v : V} {K : List V → Heap → Prop} {a0 a1 a2 a3 a4 a5 a6 a7 a8 a9 a10 a11 a12 a13 a14 a15 a16 a17 a18 a19 a20 a21 a22 a23 a24 a25 a26 a27 a28 a29 a30 a31 a32 a33 a34 a35 a36 a37 a38 a39 a40 a41 a42 a43 a44 a45 a46 a47 a48 a49 a50 a51 a52 a53 a54 a55 a56 a57 a58 a59 a60 a61 a62 a63 a64 a65 a66 a67 a68 a69 a70 a71 a72 a73 a74 a75 a76 a77 a78 a79 a80 a81 a82 a83 a84 a85 a86 a87 a88 a89 a90 a91 a92 a93 a94 a95 a96 a97 a98 a99 a100 a101 a102 a103 a104 a105 a106 a107 a108 a109 a110 a111 a112 a113 a114 a115 a116 a117 a118 a119 a120 a121 a122 a123 a124 a125 a126 a127 a128 a129 a130 a131 a132 a133 a134 a135 a136 a137 a138 : V} (hg : o.gd = none) (hop : ∀ K : V → Heap → Prop, K v g → runOp E md o.op s h K) (hk : yai E md o.op = 2) (hs : putT s o.dst v = [a0, a1, a2, a3, a4, a5, a6, a7, a8, a9, a10, a11, a12, a13, a14, a15, a16, a17, a18, a19, a20, a21, a22, a23, a24, a25, a26, a27, a28, a29, a30, a31, a32, a33, a34, a35, a36, a37, a38, a39, a40, a41, a42, a43, a44, a45, a46, a47, a48, a49, a50, a51, a52, a53, a54, a55, a56, a57, a58, a59, a60, a61, a62, a63, a64, a65, a66, a67, a68, a69, a70, a71, a72, a73, a74, a75, a76, a77, a78, a79, a80, a81, a82, a83, a84, a85, a86, a87, a88, a89, a90, a91, a92, a93, a94, a95, a96, a97, a98, a99, a100, a101, a102, a103, a104, a105, a106, a107, a108, a109, a110, a111, a112, a113, a114, a115, a116, a117, a118, a119, a120, a121, a122, a123, a124, a125, a126, a127, a128, a129, a130, a131, a132, a133, a134, a135, a136, a137, a138]) (hn : yay E md A (k + 1) os [] ((k, h) :: ws) [a0, a1, a2, a3, a4, a5, a6, a7, a8, a9, a10, a11, a12, a13, a14, a15, a16, a17, a18, a19, a20, a21, a22, a23, a24, a25, a26, a27, a28, a29, a30, a31, a32, a33, a34, a35, a36, a37, a38, a39, a40, a41, a42, a43, a44, a45, a46, a47, a48, a49, a50, a51, a52, a53, a54, a55, a56, a57, a58, a59, a60, a61, a62, a63, a64, a65, a66, a67, a68, a69, a70, a71, a72, a73, a74, a75, a76, a77, a78, a79, a80, a81, a82, a83, a84, a85, a86, a87, a88, a89, a90, a91, a92, a93, a94, a95, a96, a97, a98, a99, a100, a101, a102, a103, a104, a105, a106, a107, a108, a109, a110, a111, a112, a113, a114, a115, a116, a117, a118, a119, a120, a121, a122, a123, a124, a125, a126, a127, a128, a129, a130, a131, a132, a133, a134, a135, a136, a137, a138] g K) : yay E md A k (o :: os) [] ws s h K := ync hg hop hk hs hn
theorem yij {E : Env} {md : Go.FuncId → Sb.Mode} {A : List (List Nat)} {k : Nat} {o : ROp} {os : List ROp} {acc : List (Nat × Go.Op × List V × V)} {ws : List (Nat × Heap)} {s : List V} {h g : Heap} {v : V} {K : List V → Heap → Prop} {a0 a1 a2 a3 a4 a5 a6 a7 a8 a9 a10 a11 a12 a13 a14 a15 a16 a17 a18 a19 a20 a21 a22 a23 a24 a25 a26 a27 a28 a29 a30 a31 a32 a33 a34 a35 a36 a37 a38 a39 a40 a41 a42 a43 a44 a45 a46 a47 a48 a49 a50 a51 a52 a53 a54 a55 a56 a57 a58 a59 a60 a61 a62 a63 a64 a65 a66 a67 a68 a69 a70 a71 a72 a73 a74 a75 a76 a77 a78 a79 a80 a81 a82 a83 a84 a85 a86 a87 a88 a89 a90 a91 a92 a93 a94 a95 a96 a97 a98 a99 a100 a101 a102 a103 a104 a105 a106 a107 a108 a109 a110 a111 a112 a113 a114 a115 a116 a117 a118 a119 a120 a121 a122 a123 a124 a125 a126 a127 a128 a129 a130 a131 a132 a133 a134 a135 a136 a137 a138 : V} (hg : o.gd = none) (hop : ∀ K : V → Heap → Prop, K v g → runOp E md o.op s h K) (hk : yai E md o.op = 0) (hs : putT s o.dst v = [a0, a1, a2, a3, a4, a5, a6, a7, a8, a9, a10, a11, a12, a13, a14, a15, a16, a17, a18, a19, a20, a21, a22, a23, a24, a25, a26, a27, a28, a29, a30, a31, a32, a33, a34, a35, a36, a37, a38, a39, a40, a41, a42, a43, a44, a45, a46, a47, a48, a49, a50, a51, a52, a53, a54, a55, a56, a57, a58, a59, a60, a61, a62, a63, a64, a65, a66, a67, a68, a69, a70, a71, a72, a73, a74, a75, a76, a77, a78, a79, a80, a81, a82, a83, a84, a85, a86, a87, a88, a89, a90, a91, a92, a93, a94, a95, a96, a97, a98, a99, a100, a101, a102, a103, a104, a105, a106, a107, a108, a109, a110, a111, a112, a113, a114, a115, a116, a117, a118, a119, a120, a121, a122, a123, a124, a125, a126, a127, a128, a129, a130, a131, a132, a133, a134, a135, a136, a137, a138]) (hn : yay E md A (k + 1) os acc ws [a0, a1, a2, a3, a4, a5, a6, a7, a8, a9, a10, a11, a12, a13, a14, a15, a16, a17, a18, a19, a20, a21, a22, a23, a24, a25, a26, a27, a28, a29, a30, a31, a32, a33, a34, a35, a36, a37, a38, a39, a40, a41, a42, a43, a44, a45, a46, a47, a48, a49, a50, a51, a52, a53, a54, a55, a56, a57, a58, a59, a60, a61, a62, a63, a64, a65, a66, a67, a68, a69, a70, a71, a72, a73, a74, a75, a76, a77, a78, a79, a80, a81, a82, a83, a84, a85, a86, a87, a88, a89, a90, a91, a92, a93, a94, a95, a96, a97, a98, a99, a100, a101, a102, a103, a104, a105, a106, a107, a108, a109, a110, a111, a112, a113, a114, a115, a116, a117, a118, a119, a120, a121, a122, a123, a124, a125, a126, a127, a128, a129, a130, a131, a132, a133, a134, a135, a136, a137, a138] g K) : yay E md A k (o :: os) acc ws s h K := ynd hg hop hk hs hn
theorem ybg {E : Env} {md : Go.FuncId → Sb.Mode} {o : ROp} {os : List ROp} {s : List V} {h : Heap} {K : List V → Heap → Prop} {a0 a1 a2 a3 a4 a5 a6 a7 a8 a9 a10 a11 a12 a13 a14 a15 a16 a17 a18 a19 a20 a21 a22 a23 a24 a25 a26 a27 a28 a29 a30 a31 a32 a33 a34 a35 a36 a37 a38 a39 a40 a41 a42 a43 a44 a45 a46 a47 a48 a49 a50 a51 a52 a53 a54 a55 a56 a57 a58 a59 a60 a61 a62 a63 a64 a65 a66 a67 a68 a69 a70 a71 a72 a73 a74 a75 a76 a77 a78 a79 a80 a81 a82 a83 a84 a85 a86 a87 a88 a89 a90 a91 a92 a93 a94 a95 a96 a97 a98 a99 a100 a101 a102 a103 a104 a105 a106 a107 a108 a109 a110 a111 a112 a113 a114 a115 a116 a117 a118 a119 a120 a121 a122 a123 a124 a125 a126 a127 a128 a129 a130 a131 a132 a133 a134 a135 a136 a137 a138 : V} {t : Go.Tmp} {w b : Bool} (hn : yag E md os [a0, a1, a2, a3, a4, a5, a6, a7, a8, a9, a10, a11, a12, a13, a14, a15, a16, a17, a18, a19, a20, a21, a22, a23, a24, a25, a26, a27, a28, a29, a30, a31, a32, a33, a34, a35, a36, a37, a38, a39, a40, a41, a42, a43, a44, a45, a46, a47, a48, a49, a50, a51, a52, a53, a54, a55, a56, a57, a58, a59, a60, a61, a62, a63, a64, a65, a66, a67, a68, a69, a70, a71, a72, a73, a74, a75, a76, a77, a78, a79, a80, a81, a82, a83, a84, a85, a86, a87, a88, a89, a90, a91, a92, a93, a94, a95, a96, a97, a98, a99, a100, a101, a102, a103, a104, a105, a106, a107, a108, a109, a110, a111, a112, a113, a114, a115, a116, a117, a118, a119, a120, a121, a122, a123, a124, a125, a126, a127, a128, a129, a130, a131, a132, a133, a134, a135, a136, a137, a138] h K) (hg : o.gd = some (t, w) := by rfl) (hb : getT s t = .bool b := by rfl) (hw : b = !w := by rfl) (hs : putT s o.dst und = [a0, a1, a2, a3, a4, a5, a6, a7, a8, a9, a10, a11, a12, a13, a14, a15, a16, a17, a18, a19, a20, a21, a22, a23, a24, a25, a26, a27, a28, a29, a30, a31, a32, a33, a34, a35, a36, a37, a38, a39, a40, a41, a42, a43, a44, a45, a46, a47, a48, a49, a50, a51, a52, a53, a54, a55, a56, a57, a58, a59, a60, a61, a62, a63, a64, a65, a66, a67, a68, a69, a70, a71, a72, a73, a74, a75, a76, a77, a78, a79, a80, a81, a82, a83, a84, a85, a86, a87, a88, a89, a90, a91, a92, a93, a94, a95, a96, a97, a98, a99, a100, a101, a102, a103, a104, a105, a106, a107, a108, a109, a110, a111, a112, a113, a114, a115, a116, a117, a118, a119, a120, a121, a122, a123, a124, a125, a126, a127, a128, a129, a130, a131, a132, a133, a134, a135, a136, a137, a138] := by rfl) : yag E md (o :: os) s h K := yet hg hb hw hs hn
theorem yac {E : Env} {md : Go.FuncId → Sb.Mode} {o : ROp} {os : List ROp} {s : List V} {h g : Heap} {v : V} {K : List V → Heap → Prop} {a0 a1 a2 a3 a4 a5 a6 a7 a8 a9 a10 a11 a12 a13 a14 a15 a16 a17 a18 a19 a20 a21 a22 a23 a24 a25 a26 a27 a28 a29 a30 a31 a32 a33 a34 a35 a36 a37 a38 a39 a40 a41 a42 a43 a44 a45 a46 a47 a48 a49 a50 a51 a52 a53 a54 a55 a56 a57 a58 a59 a60 a61 a62 a63 a64 a65 a66 a67 a68 a69 a70 a71 a72 a73 a74 a75 a76 a77 a78 a79 a80 a81 a82 a83 a84 a85 a86 a87 a88 a89 a90 a91 a92 a93 a94 a95 a96 a97 a98 a99 a100 a101 a102 a103 a104 a105 a106 a107 a108 a109 a110 a111 a112 a113 a114 a115 a116 a117 a118 a119 a120 a121 a122 a123 a124 a125 a126 a127 a128 a129 a130 a131 a132 a133 a134 a135 a136 a137 a138 : V} (hn : yag E md os [a0, a1, a2, a3, a4, a5, a6, a7, a8, a9, a10, a11, a12, a13, a14, a15, a16, a17, a18, a19, a20, a21, a22, a23, a24, a25, a26, a27, a28, a29, a30, a31, a32, a33, a34, a35, a36, a37, a38, a39, a40, a41, a42, a43, a44, a45, a46, a47, a48, a49, a50, a51, a52, a53, a54, a55, a56, a57, a58, a59, a60, a61, a62, a63, a64, a65, a66, a67, a68, a69, a70, a71, a72, a73, a74, a75, a76, a77, a78, a79, a80, a81, a82, a83, a84, a85, a86, a87, a88, a89, a90, a91, a92, a93, a94, a95, a96, a97, a98, a99, a100, a101, a102, a103, a104, a105, a106, a107, a108, a109, a110, a111, a112, a113, a114, a115, a116, a117, a118, a119, a120, a121, a122, a123, a124, a125, a126, a127, a128, a129, a130, a131, a132, a133, a134, a135, a136, a137, a138] g K) (hop : ∀ K : V → Heap → Prop, K v g → runOp E md o.op s h K := by exact fun _ => id) (hg : o.gd = none := by rfl) (hs : putT s o.dst v = [a0, a1, a2, a3, a4, a5, a6, a7, a8, a9, a10, a11, a12, a13, a14, a15, a16, a17, a18, a19, a20, a21, a22, a23, a24, a25, a26, a27, a28, a29, a30, a31, a32, a33, a34, a35, a36, a37, a38, a39, a40, a41, a42, a43, a44, a45, a46, a47, a48, a49, a50, a51, a52, a53, a54, a55, a56, a57, a58, a59, a60, a61, a62, a63, a64, a65, a66, a67, a68, a69, a70, a71, a72, a73, a74, a75, a76, a77, a78, a79, a80, a81, a82, a83, a84, a85, a86, a87, a88, a89, a90, a91, a92, a93, a94, a95, a96, a97, a98, a99, a100, a101, a102, a103, a104, a105, a106, a107, a108, a109, a110, a111, a112, a113, a114, a115, a116, a117, a118, a119, a120, a121, a122, a123, a124, a125, a126, a127, a128, a129, a130, a131, a132, a133, a134, a135, a136, a137, a138] := by rfl) : yag E md (o :: os) s h K := ybe hg hop hs hn
theorem ygd {E : Env} {md : Go.FuncId → Sb.Mode} {o : ROp} {os : List ROp} {s : List V} {h : Heap} {K : List V → Heap → Prop} {a0 a1 a2 a3 a4 a5 a6 a7 a8 a9 a10 a11 a12 a13 a14 a15 a16 a17 a18 a19 a20 a21 a22 a23 a24 a25 a26 a27 a28 a29 a30 a31 a32 a33 a34 a35 a36 a37 a38 a39 a40 a41 a42 a43 a44 a45 a46 a47 a48 a49 a50 a51 a52 a53 a54 a55 a56 a57 a58 a59 a60 a61 a62 a63 a64 a65 a66 a67 a68 a69 a70 a71 a72 a73 a74 a75 a76 a77 a78 a79 a80 a81 a82 a83 a84 a85 a86 a87 a88 a89 a90 a91 a92 a93 a94 a95 a96 a97 a98 a99 a100 a101 a102 a103 a104 a105 a106 a107 a108 a109 a110 a111 a112 a113 a114 a115 a116 a117 a118 a119 a120 a121 a122 a123 a124 a125 a126 a127 a128 a129 a130 a131 a132 a133 a134 a135 a136 a137 a138 : V} {t : Go.Tmp} {w : Bool} (hn : yag E md os [a0, a1, a2, a3, a4, a5, a6, a7, a8, a9, a10, a11, a12, a13, a14, a15, a16, a17, a18, a19, a20, a21, a22, a23, a24, a25, a26, a27, a28, a29, a30, a31, a32, a33, a34, a35, a36, a37, a38, a39, a40, a41, a42, a43, a44, a45, a46, a47, a48, a49, a50, a51, a52, a53, a54, a55, a56, a57, a58, a59, a60, a61, a62, a63, a64, a65, a66, a67, a68, a69, a70, a71, a72, a73, a74, a75, a76, a77, a78, a79, a80, a81, a82, a83, a84, a85, a86, a87, a88, a89, a90, a91, a92, a93, a94, a95, a96, a97, a98, a99, a100, a101, a102, a103, a104, a105, a106, a107, a108, a109, a110, a111, a112, a113, a114, a115, a116, a117, a118, a119, a120, a121, a122, a123, a124, a125, a126, a127, a128, a129, a130, a131, a132, a133, a134, a135, a136, a137, a138] h K) (hg : o.gd = some (t, w) := by rfl) (hb : getT s t = .tup [] := by rfl) (hs : putT s o.dst und = [a0, a1, a2, a3, a4, a5, a6, a7, a8, a9, a10, a11, a12, a13, a14, a15, a16, a17, a18, a19, a20, a21, a22, a23, a24, a25, a26, a27, a28, a29, a30, a31, a32, a33, a34, a35, a36, a37, a38, a39, a40, a41, a42, a43, a44, a45, a46, a47, a48, a49, a50, a51, a52, a53, a54, a55, a56, a57, a58, a59, a60, a61, a62, a63, a64, a65, a66, a67, a68, a69, a70, a71, a72, a73, a74, a75, a76, a77, a78, a79, a80, a81, a82, a83, a84, a85, a86, a87, a88, a89, a90, a91, a92, a93, a94, a95, a96, a97, a98, a99, a100, a101, a102, a103, a104, a105, a106, a107, a108, a109, a110, a111, a112, a113, a114, a115, a116, a117, a118, a119, a120, a121, a122, a123, a124, a125, a126, a127, a128, a129, a130, a131, a132, a133, a134, a135, a136, a137, a138] := by rfl) : yag E md (o :: os) s h K := ops_ul hg hb hs hn
theorem yah {E : Env} {md : Go.FuncId → Sb.Mode} {o : ROp} {os : List ROp} {s : List V} {h g : Heap} {v : V} {K : List V → Heap → Prop} {a0 a1 a2 a3 a4 a5 a6 a7 a8 a9 a10 a11 a12 a13 a14 a15 a16 a17 a18 a19 a20 a21 a22 a23 a24 a25 a26 a27 a28 a29 a30 a31 a32 a33 a34 a35 a36 a37 a38 a39 a40 a41 a42 a43 a44 a45 a46 a47 a48 a49 a50 a51 a52 a53 a54 a55 a56 a57 a58 a59 a60 a61 a62 a63 a64 a65 a66 a67 a68 a69 a70 a71 a72 a73 a74 a75 a76 a77 a78 a79 a80 a81 a82 a83 a84 a85 a86 a87 a88 a89 a90 a91 a92 a93 a94 a95 a96 a97 a98 a99 a100 a101 a102 a103 a104 a105 a106 a107 a108 a109 a110 a111 a112 a113 a114 a115 a116 a117 a118 a119 a120 a121 a122 a123 a124 a125 a126 a127 a128 a129 a130 a131 a132 a133 a134 a135 a136 a137 a138 : V} {t : Go.Tmp} {w : Bool} (hn : yag E md os [a0, a1, a2, a3, a4, a5, a6, a7, a8, a9, a10, a11, a12, a13, a14, a15, a16, a17, a18, a19, a20, a21, a22, a23, a24, a25, a26, a27, a28, a29, a30, a31, a32, a33, a34, a35, a36, a37, a38, a39, a40, a41, a42, a43, a44, a45, a46, a47, a48, a49, a50, a51, a52, a53, a54, a55, a56, a57, a58, a59, a60, a61, a62, a63, a64, a65, a66, a67, a68, a69, a70, a71, a72, a73, a74, a75, a76, a77, a78, a79, a80, a81, a82, a83, a84, a85, a86, a87, a88, a89, a90, a91, a92, a93, a94, a95, a96, a97, a98, a99, a100, a101, a102, a103, a104, a105, a106, a107, a108, a109, a110, a111, a112, a113, a114, a115, a116, a117, a118, a119, a120, a121, a122, a123, a124, a125, a126, a127, a128, a129, a130, a131, a132, a133, a134, a135, a136, a137, a138] g K) (hop : ∀ K : V → Heap → Prop, K v g → runOp E md o.op s h K := by exact fun _ => id) (hg : o.gd = some (t, w) := by rfl) (hb : getT s t = .bool w := by rfl) (hs : putT s o.dst v = [a0, a1, a2, a3, a4, a5, a6, a7, a8, a9, a10, a11, a12, a13, a14, a15, a16, a17, a18, a19, a20, a21, a22, a23, a24, a25, a26, a27, a28, a29, a30, a31, a32, a33, a34, a35, a36, a37, a38, a39, a40, a41, a42, a43, a44, a45, a46, a47, a48, a49, a50, a51, a52, a53, a54, a55, a56, a57, a58, a59, a60, a61, a62, a63, a64, a65, a66, a67, a68, a69, a70, a71, a72, a73, a74, a75, a76, a77, a78, a79, a80, a81, a82, a83, a84, a85, a86, a87, a88, a89, a90, a91, a92, a93, a94, a95, a96, a97, a98, a99, a100, a101, a102, a103, a104, a105, a106, a107, a108, a109, a110, a111, a112, a113, a114, a115, a116, a117, a118, a119, a120, a121, a122, a123, a124, a125, a126, a127, a128, a129, a130, a131, a132, a133, a134, a135, a136, a137, a138] := by rfl) : yag E md (o :: os) s h K := yes hg hb hop hs hn
def iaM (c : Cod) (f : Fnc) (op a b cc kd n : Int) (tx : Bs) (l : Option LInt) (fnm : Bs) (vA vB vC vLo vHi : Int) (pl va go ra ok : Bool) (k : Nat) (s : List V) (h : Heap) : Prop :=
 ∃ (u : Nat), (u = 0 ∧ h = [.cells 97 (ckC c f), .cells 68 (iC op a b cc kd n tx l), .map formsL, .cells 133 [.str fnm, .int .i64 vA, .int .i64 vB, .int .i64 vC, .int .i64 vLo, .int .i64 vHi, .bool pl, .bool va, .bool go, .bool ra]]) ∧ s.length = 139 ∧ s.getD 0 und = und ∧ s.getD 1 und = ckV c f ∧ s.getD 2 und = .agg (iC op a b cc kd n tx l) ∧ s.getD 3 und = .ptr 0 0 6 ∧ s.getD 4 und = .ptr 1 0 8 ∧ s.getD 5 und = .bool false ∧ s.getD 6 und = .ptr 3 0 10 ∧ s.getD 7 und = .bool ok
theorem iaM_lit {c : Cod} {f : Fnc} {op a b cc kd n : Int} {tx : Bs} {l : Option LInt} {fnm : Bs} {vA vB vC vLo vHi : Int} {pl va go ra ok : Bool} {k : Nat} {s : List V} {h : Heap} (hI : iaM c f op a b cc kd n tx l fnm vA vB vC vLo vHi pl va go ra ok k s h) : ∃ (u : Nat) (x : Nat → V), (u = 0 ∧ h = [.cells 97 (ckC c f), .cells 68 (iC op a b cc kd n tx l), .map formsL, .cells 133 [.str fnm, .int .i64 vA, .int .i64 vB, .int .i64 vC, .int .i64 vLo, .int .i64 vHi, .bool pl, .bool va, .bool go, .bool ra]]) ∧
  s = [und, ckV c f, .agg (iC op a b cc kd n tx l), .ptr 0 0 6, .ptr 1 0 8, .bool false, .ptr 3 0 10, .bool ok, x 8, x 9, x 10, x 11, x 12, x 13, x 14, x 15, x 16, x 17, x 18, x 19, x 20, x 21, x 22, x 23, x 24, x 25, x 26, x 27, x 28, x 29, x 30, x 31, x 32, x 33, x 34, x 35, x 36, x 37, x 38, x 39, x 40, x 41, x 42, x 43, x 44, x 45, x 46, x 47, x 48, x 49, x 50, x 51, x 52, x 53, x 54, x 55, x 56, x 57, x 58, x 59, x 60, x 61, x 62, x 63, x 64, x 65, x 66, x 67, x 68, x 69, x 70, x 71, x 72, x 73, x 74, x 75, x 76, x 77, x 78, x 79, x 80, x 81, x 82, x 83, x 84, x 85, x 86, x 87, x 88, x 89, x 90, x 91, x 92, x 93, x 94, x 95, x 96, x 97, x 98, x 99, x 100, x 101, x 102, x 103, x 104, x 105, x 106, x 107, x 108, x 109, x 110, x 111, x 112, x 113, x 114, x 115, x 116, x 117, x 118, x 119, x 120, x 121, x 122, x 123, x 124, x 125, x 126, x 127, x 128, x 129, x 130, x 131, x 132, x 133, x 134, x 135, x 136, x 137, x 138] := by
 obtain ⟨u, hF, hl, e0, e1, e2, e3, e4, e5, e6, e7⟩ := hI
 refine ⟨u, fun n => s.getD n und, hF, (ybd hl).trans ?_⟩
 simp only [List.range, List.range.loop, List.map_cons, List.map_nil]
 rw [e0, e1, e2, e3, e4, e5, e6, e7]
def ibM (c : Cod) (f : Fnc) (op a b cc kd n : Int) (tx : Bs) (l : Option LInt) (fnm : Bs) (vA vB vC vLo vHi : Int) (pl va go ra ok : Bool) (G : Bool) (k : Nat) (s : List V) (h : Heap) : Prop :=
 ∃ (u : Nat), (u = 0 ∧ h = [.cells 97 (ckC c f), .cells 68 (iC op a b cc kd n tx l), .map formsL, .cells 133 [.str fnm, .int .i64 vA, .int .i64 vB, .int .i64 vC, .int .i64 vLo, .int .i64 vHi, .bool pl, .bool va, .bool go, .bool ra]]) ∧ s.length = 139 ∧ s.getD 0 und = und ∧ s.getD 1 und = ckV c f ∧ s.getD 2 und = .agg (iC op a b cc kd n tx l) ∧ s.getD 3 und = .ptr 0 0 6 ∧ s.getD 4 und = .ptr 1 0 8 ∧ s.getD 5 und = .bool false ∧ s.getD 6 und = .ptr 3 0 10 ∧ s.getD 7 und = .bool ok ∧ s.getD 72 und = .bool !G
theorem ibM_lit {c : Cod} {f : Fnc} {op a b cc kd n : Int} {tx : Bs} {l : Option LInt} {fnm : Bs} {vA vB vC vLo vHi : Int} {pl va go ra ok : Bool} {G : Bool} {k : Nat} {s : List V} {h : Heap} (hI : ibM c f op a b cc kd n tx l fnm vA vB vC vLo vHi pl va go ra ok G k s h) : ∃ (u : Nat) (x : Nat → V), (u = 0 ∧ h = [.cells 97 (ckC c f), .cells 68 (iC op a b cc kd n tx l), .map formsL, .cells 133 [.str fnm, .int .i64 vA, .int .i64 vB, .int .i64 vC, .int .i64 vLo, .int .i64 vHi, .bool pl, .bool va, .bool go, .bool ra]]) ∧
  s = [und, ckV c f, .agg (iC op a b cc kd n tx l), .ptr 0 0 6, .ptr 1 0 8, .bool false, .ptr 3 0 10, .bool ok, x 8, x 9, x 10, x 11, x 12, x 13, x 14, x 15, x 16, x 17, x 18, x 19, x 20, x 21, x 22, x 23, x 24, x 25, x 26, x 27, x 28, x 29, x 30, x 31, x 32, x 33, x 34, x 35, x 36, x 37, x 38, x 39, x 40, x 41, x 42, x 43, x 44, x 45, x 46, x 47, x 48, x 49, x 50, x 51, x 52, x 53, x 54, x 55, x 56, x 57, x 58, x 59, x 60, x 61, x 62, x 63, x 64, x 65, x 66, x 67, x 68, x 69, x 70, x 71, .bool !G, x 73, x 74, x 75, x 76, x 77, x 78, x 79, x 80, x 81, x 82, x 83, x 84, x 85, x 86, x 87, x 88, x 89, x 90, x 91, x 92, x 93, x 94, x 95, x 96, x 97, x 98, x 99, x 100, x 101, x 102, x 103, x 104, x 105, x 106, x 107, x 108, x 109, x 110, x 111, x 112, x 113, x 114, x 115, x 116, x 117, x 118, x 119, x 120, x 121, x 122, x 123, x 124, x 125, x 126, x 127, x 128, x 129, x 130, x 131, x 132, x 133, x 134, x 135, x 136, x 137, x 138] := by
 obtain ⟨u, hF, hl, e0, e1, e2, e3, e4, e5, e6, e7, e72⟩ := hI
 refine ⟨u, fun n => s.getD n und, hF, (ybd hl).trans ?_⟩
 simp only [List.range, List.range.loop, List.map_cons, List.map_nil]
 rw [e0, e1, e2, e3, e4, e5, e6, e7, e72]
def icM (c : Cod) (f : Fnc) (op a b cc kd n : Int) (tx : Bs) (l : Option LInt) (fnm : Bs) (vA vB vC vLo vHi : Int) (pl va go ra ok : Bool) (k : Nat) (s : List V) (h : Heap) : Prop :=
 ∃ (w : Int), (w = (if pl = true then 3 else 1) ∧ h = [.cells 97 (ckC c f), .cells 68 (iC op a b cc kd n tx l), .map formsL, .cells 133 [.str fnm, .int .i64 vA, .int .i64 vB, .int .i64 vC, .int .i64 vLo, .int .i64 vHi, .bool pl, .bool va, .bool go, .bool ra], .cells 3 [.int .i64 w]]) ∧ s.length = 139 ∧ s.getD 0 und = und ∧ s.getD 1 und = ckV c f ∧ s.getD 2 und = .agg (iC op a b cc kd n tx l) ∧ s.getD 3 und = .ptr 0 0 6 ∧ s.getD 4 und = .ptr 1 0 8 ∧ s.getD 5 und = .bool false ∧ s.getD 6 und = .ptr 3 0 10 ∧ s.getD 7 und = .bool ok ∧ s.getD 8 und = .ptr 4 0 1
theorem icM_lit {c : Cod} {f : Fnc} {op a b cc kd n : Int} {tx : Bs} {l : Option LInt} {fnm : Bs} {vA vB vC vLo vHi : Int} {pl va go ra ok : Bool} {k : Nat} {s : List V} {h : Heap} (hI : icM c f op a b cc kd n tx l fnm vA vB vC vLo vHi pl va go ra ok k s h) : ∃ (w : Int) (x : Nat → V), (w = (if pl = true then 3 else 1) ∧ h = [.cells 97 (ckC c f), .cells 68 (iC op a b cc kd n tx l), .map formsL, .cells 133 [.str fnm, .int .i64 vA, .int .i64 vB, .int .i64 vC, .int .i64 vLo, .int .i64 vHi, .bool pl, .bool va, .bool go, .bool ra], .cells 3 [.int .i64 w]]) ∧
  s = [und, ckV c f, .agg (iC op a b cc kd n tx l), .ptr 0 0 6, .ptr 1 0 8, .bool false, .ptr 3 0 10, .bool ok, .ptr 4 0 1, x 9, x 10, x 11, x 12, x 13, x 14, x 15, x 16, x 17, x 18, x 19, x 20, x 21, x 22, x 23, x 24, x 25, x 26, x 27, x 28, x 29, x 30, x 31, x 32, x 33, x 34, x 35, x 36, x 37, x 38, x 39, x 40, x 41, x 42, x 43, x 44, x 45, x 46, x 47, x 48, x 49, x 50, x 51, x 52, x 53, x 54, x 55, x 56, x 57, x 58, x 59, x 60, x 61, x 62, x 63, x 64, x 65, x 66, x 67, x 68, x 69, x 70, x 71, x 72, x 73, x 74, x 75, x 76, x 77, x 78, x 79, x 80, x 81, x 82, x 83, x 84, x 85, x 86, x 87, x 88, x 89, x 90, x 91, x 92, x 93, x 94, x 95, x 96, x 97, x 98, x 99, x 100, x 101, x 102, x 103, x 104, x 105, x 106, x 107, x 108, x 109, x 110, x 111, x 112, x 113, x 114, x 115, x 116, x 117, x 118, x 119, x 120, x 121, x 122, x 123, x 124, x 125, x 126, x 127, x 128, x 129, x 130, x 131, x 132, x 133, x 134, x 135, x 136, x 137, x 138] := by
 obtain ⟨w, hF, hl, e0, e1, e2, e3, e4, e5, e6, e7, e8⟩ := hI
 refine ⟨w, fun n => s.getD n und, hF, (ybd hl).trans ?_⟩
 simp only [List.range, List.range.loop, List.map_cons, List.map_nil]
 rw [e0, e1, e2, e3, e4, e5, e6, e7, e8]
theorem ask_hasI (h : Heap) (c : Cod) (f : Fnc) (op a b cc kd n : Int) (tx : Bs) (l : Option LInt) (hS : 0 ≤ f.s ∧ f.s ≤ 200) (hl : lenO f.cd ≤ 4000) (hc : lenO c ≤ 1000) (hx : lenO l ≤ 2 ^ 50) : Has envQ .own 121 [ckV c f, .agg (iC op a b cc kd n tx l)] h (.val (.bool (askB c f ⟨op, a, b, cc, kd, n, tx, l⟩)) h) := ask_has h c f ⟨op, a, b, cc, kd, n, tx, l⟩ hS hl hc hx
noncomputable def spB (c : Cod) (f : Fnc) (x : Ins) : Bool := if x.op = 3 then decide (5 ≤ x.b ∧ x.b ≤ 6) else if x.op = 4 then decide (9 ≤ x.b ∧ x.b ≤ 19) else if x.op = 7 then decide (yhc c x.b (lenO x.l)) else if x.op = 10 then askB c f x else if x.op = 11 then decide ((x.a = 2 ∧ (lenO x.l : Int) = 2) ∨ ((x.a = 1 ∨ x.a = 3) ∧ (lenO x.l : Int) = 1)) else if x.op = 14 then decide (ybi f.s (lenO f.cd) (IntKind.i64.wrap (x.a + 1)) 1) else true
def flB (f : Fnc) (x : Ins) : Bool := decide (1 ≤ x.op ∧ x.op ≤ 14) && decide (ybi f.s (lenO f.cd) x.a (fA x.op)) && decide (ybi f.s (lenO f.cd) x.b (fB x.op)) && decide (ybi f.s (lenO f.cd) x.c (fC x.op)) && decide (fLo x.op ≤ (lenO x.l : Int) ∧ (lenO x.l : Int) ≤ fHi x.op) && (fVa x.op || !(!(x.k == 0 && x.n == 0 && x.s == []))) && decide (ybm x.k x.n x.s)
noncomputable def insB (c : Cod) (f : Fnc) (x : Ins) : Bool := flB f x && !decide (¬ ∀ n ∈ x.l.getD [], ybi f.s (lenO f.cd) n (if fPl x.op = true then 3 else 1)) && spB c f x
set_option maxHeartbeats 16000000 in
theorem yxj (h : Heap) (c : Cod) (f : Fnc) (x : Ins) (hS : 0 ≤ f.s ∧ f.s ≤ 200) (hl : lenO f.cd ≤ 4000) (hc : lenO c ≤ 1000) (hx : lenO x.l ≤ 2 ^ 50) (hs : x.s.length ≤ 2 ^ 50) : Has envQ .own 92 [ckV c f, insV x] h (.val (.bool (insB c f x)) h) := by
 obtain ⟨op, a, b, cc, kd, n, tx, l⟩ := x
 simp only at hx hs
 show Has envQ .own 92 [ckV c f, .agg (iC op a b cc kd n tx l)] h _
 obtain ⟨ok, hok⟩ : ∃ w, decide (1 ≤ op ∧ op ≤ 14) = w := ⟨_, rfl⟩
 obtain ⟨bA, hbA⟩ : ∃ w, decide (ybi f.s (lenO f.cd) a (fA op)) = w := ⟨_, rfl⟩
 obtain ⟨bB, hbB⟩ : ∃ w, decide (ybi f.s (lenO f.cd) b (fB op)) = w := ⟨_, rfl⟩
 obtain ⟨bC, hbC⟩ : ∃ w, decide (ybi f.s (lenO f.cd) cc (fC op)) = w := ⟨_, rfl⟩
 obtain ⟨bW, hbW⟩ : ∃ w, decide (fLo op ≤ (lenO l : Int) ∧ (lenO l : Int) ≤ fHi op) = w := ⟨_, rfl⟩
 obtain ⟨bZ, hbZ⟩ : ∃ w, (!(kd == 0 && n == 0 && tx == [])) = w := ⟨_, rfl⟩
 obtain ⟨bV, hbV⟩ : ∃ w, decide (ybm kd n tx) = w := ⟨_, rfl⟩
 obtain ⟨bL, hbL⟩ : ∃ w, decide (¬ ∀ n ∈ l.getD [], ybi f.s (lenO f.cd) n (if fPl op = true then 3 else 1)) = w := ⟨_, rfl⟩
 obtain ⟨sp, hsp⟩ : ∃ w, spB c f ⟨op, a, b, cc, kd, n, tx, l⟩ = w := ⟨_, rfl⟩
 obtain ⟨G, hG⟩ : ∃ w, (ok && bA && bB && bC && bW && (fVa op || !bZ) && bV) = w := ⟨_, rfl⟩
 have hA := fun g => yev g c f a (fA op) hS hl
 have hB := fun g => yev g c f b (fB op) hS hl
 have hC := fun g => yev g c f cc (fC op) hS hl
 have hW := fun g => ydd g (lenO l) (fLo op) (fHi op)
 have hVal := fun g => yww g kd n tx (by omega)
 have hZ := neV kd n 0 0 tx []
 have hCF := yxc [] c f (if fPl op = true then 3 else 1) l hS hl hx
 have hlook := fun (G : Heap) (M : Nat) (hm : G[M]? = some (.map formsL)) => yxe hm op
 simp only [hok, formV] at hlook
 simp only [hbA] at hA
 simp only [hbB] at hB
 simp only [hbC] at hC
 simp only [hbW] at hW
 simp only [hbV] at hVal
 rw [hbZ] at hZ
 rw [hbL] at hCF
 rw [show insB c f ⟨op, a, b, cc, kd, n, tx, l⟩ = (G && !bL && sp) from by unfold insB flB; simp only; rw [hok, hbA, hbB, hbC, hbW, hbZ, hbV, hbL, hsp, hG]]
 clear hok hbA hbB hbC hbW hbZ hbV hbL
 generalize fN op = fnm at *
 generalize fA op = vA at *
 generalize fB op = vB at *
 generalize fC op = vC at *
 generalize fLo op = vLo at *
 generalize fHi op = vHi at *
 generalize fPl op = pl at *
 generalize fVa op = va at *
 generalize fGo op = go at *
 generalize fRa op = ra at *
 suffices hz : ∃ v, Has envQ .own 92 [ckV c f, .agg (iC op a b cc kd n tx l)] h (.val v h) ∧ v = .bool (G && !bL && sp) by
  obtain ⟨v, h1, rfl⟩ := hz; exact h1
 refine HasP.ownE (a := [ckV c f, .agg (iC op a b cc kd n tx l)]) (d := fn92) (yaf (fz_ag (ydt _ _)) (yaf (fz_ag (ygb _ _ _ _ _ _ _ _)) yan)) rfl rfl (jT rfl) ?_
 refine jK ?_
 refine RunP.midS (iaM c f op a b cc kd n tx l fnm vA vB vC vLo vHi pl va go ra ok 0) ?_ ?_
 ·refine RunP.drawn2R _ (by decide +kernel) (by decide +kernel) (fun _ => rfl) ?_
  refine yxi rfl (fun K hK => CallK.of (yrn _) hK) (by decide +kernel) rfl ?_
  refine yij rfl (fun _ => id) (by decide +kernel) rfl ?_
  refine yrs rfl (fun _ => id) (by decide +kernel) (yrb (StillK.of (by exact rfl)) (yie trivial)) rfl ?_
  refine yrs rfl (fun K hK => ycn (congrArg (fun x => val x [.cells 97 (ckC c f), .cells 68 (iC op a b cc kd n tx l), .map formsL]) (hlook [.cells 97 (ckC c f), .cells 68 (iC op a b cc kd n tx l), .map formsL] 2 rfl)) hK) (by decide +kernel) (yna (by decide +kernel) (yie trivial)) rfl ?_
  refine yij rfl (fun _ => id) (by decide +kernel) rfl ?_
  refine yij rfl (fun _ => id) (by decide +kernel) rfl ?_
  refine yij rfl (fun _ => id) (by decide +kernel) rfl ?_
  refine yrr rfl (fun _ => id) (by decide +kernel) (yig (StillK.of (ycn (congrArg (fun x => val x [.cells 97 (ckC c f), .cells 68 (iC op a b cc kd n tx l), .map formsL, .cells 133 ty133.zero]) (hlook [.cells 97 (ckC c f), .cells 68 (iC op a b cc kd n tx l), .map formsL, .cells 133 ty133.zero] 2 rfl)) rfl)) (yig (StillK.of (by exact rfl)) trivial)) rfl ?_
  refine yrr rfl (fun _ => id) (by decide +kernel) (yif (by decide +kernel) (yif (by decide +kernel) trivial)) rfl ?_
  refine yij rfl (fun _ => id) (by decide +kernel) rfl ?_
  exact ⟨rfl, 0, ⟨rfl, rfl⟩, rfl, rfl, rfl, rfl, rfl, rfl, rfl, rfl, rfl⟩
 intro s1 g1 hM
 obtain ⟨u, y, ⟨_, rfl⟩, rfl⟩ := iaM_lit hM
 clear hM hlook
 apply jA
 apply jA
 refine RunP.midS (ibM c f op a b cc kd n tx l fnm vA vB vC vLo vHi pl va go ra ok G 0) ?_ ?_
 ·skip
  refine jR _ ?_
  cases ok
  ·refine yac ?_
   iterate 2 (refine yac ?_)
   iterate 7 (refine ybg ?_)
   iterate 2 (refine yac ?_)
   iterate 7 (refine ybg ?_)
   iterate 2 (refine yac ?_)
   iterate 7 (refine ybg ?_)
   iterate 2 (refine yac ?_)
   iterate 9 (refine ybg ?_)
   iterate 2 (refine yac ?_)
   iterate 4 (refine ybg ?_)
   iterate 4 (refine ygd ?_)
   refine ybg ?_
   iterate 2 (refine yac ?_)
   iterate 4 (refine ybg ?_)
   refine yac ?_
   have hg : G = false := by rw [← hG]; rfl
   subst hg
   exact ⟨rfl, 0, ⟨rfl, rfl⟩, rfl, rfl, rfl, rfl, rfl, rfl, rfl, rfl, rfl, rfl⟩
  ·refine yac ?_
   iterate 2 (refine yac ?_)
   iterate 5 (refine yah ?_)
   cases bA
   ·refine yah ?_ (fun K hK => CallK.of (hA _) hK)
    refine yah ?_
    iterate 2 (refine yac ?_)
    iterate 7 (refine ybg ?_)
    iterate 2 (refine yac ?_)
    iterate 7 (refine ybg ?_)
    iterate 2 (refine yac ?_)
    iterate 9 (refine ybg ?_)
    iterate 2 (refine yac ?_)
    iterate 4 (refine ybg ?_)
    iterate 4 (refine ygd ?_)
    refine ybg ?_
    iterate 2 (refine yac ?_)
    iterate 4 (refine ybg ?_)
    refine yac ?_
    have hg : G = false := by rw [← hG]; rfl
    subst hg
    exact ⟨rfl, 0, ⟨rfl, rfl⟩, rfl, rfl, rfl, rfl, rfl, rfl, rfl, rfl, rfl, rfl⟩
   ·refine yah ?_ (fun K hK => CallK.of (hA _) hK)
    refine yah ?_
    iterate 2 (refine yac ?_)
    iterate 5 (refine yah ?_)
    cases bB
    ·refine yah ?_ (fun K hK => CallK.of (hB _) hK)
     refine yah ?_
     iterate 2 (refine yac ?_)
     iterate 7 (refine ybg ?_)
     iterate 2 (refine yac ?_)
     iterate 9 (refine ybg ?_)
     iterate 2 (refine yac ?_)
     iterate 4 (refine ybg ?_)
     iterate 4 (refine ygd ?_)
     refine ybg ?_
     iterate 2 (refine yac ?_)
     iterate 4 (refine ybg ?_)
     refine yac ?_
     have hg : G = false := by rw [← hG]; rfl
     subst hg
     exact ⟨rfl, 0, ⟨rfl, rfl⟩, rfl, rfl, rfl, rfl, rfl, rfl, rfl, rfl, rfl, rfl⟩
    ·refine yah ?_ (fun K hK => CallK.of (hB _) hK)
     refine yah ?_
     iterate 2 (refine yac ?_)
     iterate 5 (refine yah ?_)
     cases bC
     ·refine yah ?_ (fun K hK => CallK.of (hC _) hK)
      refine yah ?_
      iterate 2 (refine yac ?_)
      iterate 9 (refine ybg ?_)
      iterate 2 (refine yac ?_)
      iterate 4 (refine ybg ?_)
      iterate 4 (refine ygd ?_)
      refine ybg ?_
      iterate 2 (refine yac ?_)
      iterate 4 (refine ybg ?_)
      refine yac ?_
      have hg : G = false := by rw [← hG]; rfl
      subst hg
      exact ⟨rfl, 0, ⟨rfl, rfl⟩, rfl, rfl, rfl, rfl, rfl, rfl, rfl, rfl, rfl, rfl⟩
     ·refine yah ?_ (fun K hK => CallK.of (hC _) hK)
      refine yah ?_
      iterate 2 (refine yac ?_)
      iterate 2 (refine yah ?_)
      refine yah ?_ (fun K hK => ybh (E := envQ) (t := 66) (el := 3) (d := ty66) rfl rfl hK)
      iterate 4 (refine yah ?_)
      cases bW
      ·refine yah ?_ (fun K hK => CallK.of (hW _) hK)
       refine yah ?_
       iterate 2 (refine yac ?_)
       iterate 4 (refine ybg ?_)
       iterate 4 (refine ygd ?_)
       refine ybg ?_
       iterate 2 (refine yac ?_)
       iterate 4 (refine ybg ?_)
       refine yac ?_
       have hg : G = false := by rw [← hG]; rfl
       subst hg
       exact ⟨rfl, 0, ⟨rfl, rfl⟩, rfl, rfl, rfl, rfl, rfl, rfl, rfl, rfl, rfl, rfl⟩
      ·refine yah ?_ (fun K hK => CallK.of (hW _) hK)
       refine yah ?_
       iterate 2 (refine yac ?_)
       refine yah ?_
       cases va
       ·refine yah ?_
        iterate 5 (refine yah ?_)
        cases bZ
        ·refine yah ?_ (fun K hK => yab (K := fun v => K v _) hZ hK)
         refine yah ?_
         iterate 2 (refine yac ?_)
         iterate 2 (refine yah ?_)
         cases bV
         ·refine yah ?_ (fun K hK => CallK.of (hVal _) hK)
          refine yah ?_
          refine yac ?_
          have hg : G = false := by rw [← hG]; rfl
          subst hg
          exact ⟨rfl, 0, ⟨rfl, rfl⟩, rfl, rfl, rfl, rfl, rfl, rfl, rfl, rfl, rfl, rfl⟩
         ·refine yah ?_ (fun K hK => CallK.of (hVal _) hK)
          refine yah ?_
          refine yac ?_
          have hg : G = true := by rw [← hG]; rfl
          subst hg
          exact ⟨rfl, 0, ⟨rfl, rfl⟩, rfl, rfl, rfl, rfl, rfl, rfl, rfl, rfl, rfl, rfl⟩
        ·refine yah ?_ (fun K hK => yab (K := fun v => K v _) hZ hK)
         refine yah ?_
         iterate 2 (refine yac ?_)
         iterate 4 (refine ybg ?_)
         refine yac ?_
         have hg : G = false := by rw [← hG]; rfl
         subst hg
         exact ⟨rfl, 0, ⟨rfl, rfl⟩, rfl, rfl, rfl, rfl, rfl, rfl, rfl, rfl, rfl, rfl⟩
       ·refine yah ?_
        iterate 2 (refine yah ?_)
        iterate 4 (refine ybg ?_)
        refine yah ?_
        iterate 2 (refine yac ?_)
        iterate 2 (refine yah ?_)
        cases bV
        ·refine yah ?_ (fun K hK => CallK.of (hVal _) hK)
         refine yah ?_
         refine yac ?_
         have hg : G = false := by rw [← hG]; rfl
         subst hg
         exact ⟨rfl, 0, ⟨rfl, rfl⟩, rfl, rfl, rfl, rfl, rfl, rfl, rfl, rfl, rfl, rfl⟩
        ·refine yah ?_ (fun K hK => CallK.of (hVal _) hK)
         refine yah ?_
         refine yac ?_
         have hg : G = true := by rw [← hG]; rfl
         subst hg
         exact ⟨rfl, 0, ⟨rfl, rfl⟩, rfl, rfl, rfl, rfl, rfl, rfl, rfl, rfl, rfl, rfl⟩
 intro s2 g2 hM
 obtain ⟨u, y2, ⟨_, rfl⟩, rfl⟩ := ibM_lit hM
 clear hM hA hB hC hW hVal hZ hG
 cases G
 ·repeat first|apply jZ|apply jA|apply jB|apply jH
  exact ⟨rfl, _, rfl, jO _, rfl⟩
 repeat first|apply jA|apply jC rfl|apply jD rfl|apply jE|apply jF
 refine jR _ ?_
 iterate 2 (refine yac ?_)
 apply jA
 refine RunP.midS (icM c f op a b cc kd n tx l fnm vA vB vC vLo vHi pl va go ra ok 0) ?_ ?_
 ·cases pl
  ·repeat first|apply jA|apply jC rfl|apply jD rfl|apply jE|apply jF
   refine jR _ ?_
   iterate 2 (refine yac ?_)
   repeat first|apply jA|apply jC rfl|apply jD rfl|apply jE|apply jF
   exact ⟨rfl, _, ⟨rfl, rfl⟩, rfl, rfl, rfl, rfl, rfl, rfl, rfl, rfl, rfl, rfl⟩
  ·repeat first|apply jA|apply jC rfl|apply jD rfl|apply jE|apply jF
   refine jR _ ?_
   iterate 2 (refine yac ?_)
   repeat first|apply jA|apply jC rfl|apply jD rfl|apply jE|apply jF
   refine jR _ ?_
   refine yac ?_
   repeat first|apply jA|apply jC rfl|apply jD rfl|apply jE|apply jF
   exact ⟨rfl, _, ⟨rfl, rfl⟩, rfl, rfl, rfl, rfl, rfl, rfl, rfl, rfl, rfl, rfl⟩
 intro s3 g3 hM
 obtain ⟨w, y3, ⟨hw, rfl⟩, rfl⟩ := icM_lit hM
 clear hM
 rw [← hw] at hCF
 have hCF2 : ∀ H5 : Heap, H5 = [.cells 97 (ckC c f), .cells 68 (iC op a b cc kd n tx l), .map formsL, .cells 133 [.str fnm, .int .i64 vA, .int .i64 vB, .int .i64 vC, .int .i64 vLo, .int .i64 vHi, .bool pl, .bool va, .bool go, .bool ra], .cells 3 [.int .i64 w]] → Has envQ .own 118 [optL 1 intV l, .fn (.func 119) [.ptr 0 0 6, .ptr 4 0 1]] H5 (.val (.bool bL) H5) := fun H5 hH5 => by
  subst hH5
  exact Has.thaw (a := [optL 1 intV l, .fn (.func 119) [.rop (ckC c f), .rop [.int .i64 w]]]) (yaf (fz_lf (yck _ _ _)) (yaf (ydv (yaf (ykj rfl rfl (ydt _ _)) (yaf (ykj rfl rfl rfl) yan))) yan)) (yaf (fz_lf (yck _ _ _)) (yaf (ydv (yaf rfl (yaf rfl yan))) yan)) rfl hCF
 repeat first|apply jA|apply jC rfl|apply jD rfl|apply jE|apply jF
 refine jR _ ?_
 iterate 3 (refine yac ?_)
 refine yac ?_ (fun K hK => CallK.of (hCF2 _ rfl) hK)
 clear hCF hCF2
 cases bL
 rotate_left
 ·repeat first|apply jZ|apply jA|apply jB|apply jH
  exact ⟨rfl, _, rfl, jO _, rfl⟩
 repeat first|apply jA|apply jC rfl|apply jD rfl|apply jE|apply jF
 by_cases h3 : op = 3
 ·refine jR _ ?_
  iterate 2 (refine yac ?_)
  repeat first|apply jA|apply jC rfl|apply jD rfl|apply jE|apply jF
  refine jR _ ?_
  refine yac ?_ (fun K hK => jY (fun _ => hK) (by omega))
  refine yac ?_
  repeat first|apply jA|apply jC rfl|apply jD rfl|apply jE|apply jF
  refine jR _ ?_
  iterate 2 (refine yac ?_)
  refine yac ?_ (fun K hK => CallK.of (ydd _ _ _ _) hK)
  refine yac ?_
  refine jV ?_
  exact ⟨rfl, _, rfl, jO _, by rw [← hsp]; unfold spB; simp only; rw [if_pos h3]; rfl⟩
 by_cases h4 : op = 4
 ·refine jR _ ?_
  iterate 2 (refine yac ?_)
  repeat first|apply jA|apply jC rfl|apply jD rfl|apply jE|apply jF
  refine jR _ ?_
  refine yac ?_ (fun K hK => jN (by omega) (fun _ => hK))
  refine yac ?_
  repeat first|apply jA|apply jC rfl|apply jD rfl|apply jE|apply jF
  refine jR _ ?_
  refine yac ?_ (fun K hK => jY (fun _ => hK) (by omega))
  refine yac ?_
  repeat first|apply jA|apply jC rfl|apply jD rfl|apply jE|apply jF
  refine jR _ ?_
  iterate 2 (refine yac ?_)
  refine yac ?_ (fun K hK => CallK.of (ydd _ _ _ _) hK)
  refine yac ?_
  refine jV ?_
  exact ⟨rfl, _, rfl, jO _, by rw [← hsp]; unfold spB; simp only; rw [if_neg h3, if_pos h4]; rfl⟩
 by_cases h7 : op = 7
 ·refine jR _ ?_
  iterate 2 (refine yac ?_)
  repeat first|apply jA|apply jC rfl|apply jD rfl|apply jE|apply jF
  refine jR _ ?_
  refine yac ?_ (fun K hK => jN (by omega) (fun _ => hK))
  refine yac ?_
  repeat first|apply jA|apply jC rfl|apply jD rfl|apply jE|apply jF
  refine jR _ ?_
  refine yac ?_ (fun K hK => jN (by omega) (fun _ => hK))
  refine yac ?_
  repeat first|apply jA|apply jC rfl|apply jD rfl|apply jE|apply jF
  refine jR _ ?_
  refine yac ?_ (fun K hK => jY (fun _ => hK) (by omega))
  refine yac ?_
  repeat first|apply jA|apply jC rfl|apply jD rfl|apply jE|apply jF
  refine jR _ ?_
  iterate 5 (refine yac ?_)
  refine yac ?_ (fun K hK => ybh (E := envQ) (t := 66) (el := 3) (d := ty66) rfl rfl hK)
  refine yac ?_ (fun K hK => CallK.of (yrm _ c f _ _ hc) hK)
  refine yac ?_
  refine jV ?_
  exact ⟨rfl, _, rfl, jO _, by rw [← hsp]; unfold spB; simp only; rw [if_neg h3, if_neg h4, if_pos h7]; rfl⟩
 by_cases h10 : op = 10
 ·refine jR _ ?_
  iterate 2 (refine yac ?_)
  repeat first|apply jA|apply jC rfl|apply jD rfl|apply jE|apply jF
  refine jR _ ?_
  refine yac ?_ (fun K hK => jN (by omega) (fun _ => hK))
  refine yac ?_
  repeat first|apply jA|apply jC rfl|apply jD rfl|apply jE|apply jF
  refine jR _ ?_
  refine yac ?_ (fun K hK => jN (by omega) (fun _ => hK))
  refine yac ?_
  repeat first|apply jA|apply jC rfl|apply jD rfl|apply jE|apply jF
  refine jR _ ?_
  refine yac ?_ (fun K hK => jN (by omega) (fun _ => hK))
  refine yac ?_
  repeat first|apply jA|apply jC rfl|apply jD rfl|apply jE|apply jF
  refine jR _ ?_
  refine yac ?_ (fun K hK => jY (fun _ => hK) (by omega))
  refine yac ?_
  repeat first|apply jA|apply jC rfl|apply jD rfl|apply jE|apply jF
  refine jR _ ?_
  iterate 2 (refine yac ?_)
  refine yac ?_ (fun K hK => CallK.of (ask_hasI _ c f op a b cc kd n tx l hS hl hc hx) hK)
  refine yac ?_
  refine jV ?_
  exact ⟨rfl, _, rfl, jO _, by rw [← hsp]; unfold spB; simp only; rw [if_neg h3, if_neg h4, if_neg h7, if_pos h10]; rfl⟩
 by_cases h11 : op = 11
 ·have hsp11 : spB c f ⟨op, a, b, cc, kd, n, tx, l⟩ = decide ((a = 2 ∧ (lenO l : Int) = 2) ∨ ((a = 1 ∨ a = 3) ∧ (lenO l : Int) = 1)) := by unfold spB; simp only; rw [if_neg h3, if_neg h4, if_neg h7, if_neg h10, if_pos h11]
  refine jR _ ?_
  iterate 2 (refine yac ?_)
  repeat first|apply jA|apply jC rfl|apply jD rfl|apply jE|apply jF
  refine jR _ ?_
  refine yac ?_ (fun K hK => jN (by omega) (fun _ => hK))
  refine yac ?_
  repeat first|apply jA|apply jC rfl|apply jD rfl|apply jE|apply jF
  refine jR _ ?_
  refine yac ?_ (fun K hK => jN (by omega) (fun _ => hK))
  refine yac ?_
  repeat first|apply jA|apply jC rfl|apply jD rfl|apply jE|apply jF
  refine jR _ ?_
  refine yac ?_ (fun K hK => jN (by omega) (fun _ => hK))
  refine yac ?_
  repeat first|apply jA|apply jC rfl|apply jD rfl|apply jE|apply jF
  refine jR _ ?_
  refine yac ?_ (fun K hK => jN (by omega) (fun _ => hK))
  refine yac ?_
  repeat first|apply jA|apply jC rfl|apply jD rfl|apply jE|apply jF
  refine jR _ ?_
  refine yac ?_ (fun K hK => jY (fun _ => hK) (by omega))
  refine yac ?_
  repeat first|apply jA|apply jC rfl|apply jD rfl|apply jE|apply jF
  by_cases a2 : a = 2
  ·by_cases l2 : (lenO l : Int) = 2
   ·refine jR _ ?_
    iterate 2 (refine yac ?_)
    refine yac ?_ (fun K hK => jY (fun _ => hK) (by omega))
    refine yac ?_
    iterate 2 (refine yah ?_)
    refine yah ?_ (fun K hK => ybh (E := envQ) (t := 66) (el := 3) (d := ty66) rfl rfl hK)
    refine yah ?_ (fun K hK => jY (fun _ => hK) (by omega))
    iterate 2 (refine yac ?_)
    iterate 4 (refine ybg ?_)
    iterate 3 (refine ygd ?_)
    iterate 2 (refine ybg ?_)
    iterate 4 (refine ygd ?_)
    refine ybg ?_
    iterate 2 (refine yac ?_)
    refine jV ?_
    exact ⟨rfl, _, rfl, jO _, by rw [← hsp, hsp11]; exact (congrArg V.bool (decide_eq_true (by omega))).symm⟩
   ·refine jR _ ?_
    iterate 2 (refine yac ?_)
    refine yac ?_ (fun K hK => jY (fun _ => hK) (by omega))
    refine yac ?_
    iterate 2 (refine yah ?_)
    refine yah ?_ (fun K hK => ybh (E := envQ) (t := 66) (el := 3) (d := ty66) rfl rfl hK)
    refine yah ?_ (fun K hK => jN (by omega) (fun _ => hK))
    iterate 2 (refine yac ?_)
    iterate 2 (refine yah ?_)
    refine yah ?_ (fun K hK => jN (by omega) (fun _ => hK))
    iterate 3 (refine yah ?_)
    refine yah ?_ (fun K hK => jN (by omega) (fun _ => hK))
    iterate 2 (refine yah ?_)
    iterate 4 (refine ybg ?_)
    refine yah ?_
    iterate 2 (refine yac ?_)
    refine jV ?_
    exact ⟨rfl, _, rfl, jO _, by rw [← hsp, hsp11]; exact (congrArg V.bool (decide_eq_false (by omega))).symm⟩
  ·by_cases a1 : a = 1
   ·by_cases l1 : (lenO l : Int) = 1
    ·refine jR _ ?_
     iterate 2 (refine yac ?_)
     refine yac ?_ (fun K hK => jN (by omega) (fun _ => hK))
     refine yac ?_
     iterate 4 (refine ybg ?_)
     iterate 2 (refine yac ?_)
     iterate 2 (refine yah ?_)
     refine yah ?_ (fun K hK => jY (fun _ => hK) (by omega))
     refine yah ?_
     iterate 3 (refine ybg ?_)
     iterate 4 (refine yah ?_)
     refine yah ?_ (fun K hK => ybh (E := envQ) (t := 66) (el := 3) (d := ty66) rfl rfl hK)
     refine yah ?_ (fun K hK => jY (fun _ => hK) (by omega))
     refine yah ?_
     iterate 2 (refine yac ?_)
     refine jV ?_
     exact ⟨rfl, _, rfl, jO _, by rw [← hsp, hsp11]; exact (congrArg V.bool (decide_eq_true (by omega))).symm⟩
    ·refine jR _ ?_
     iterate 2 (refine yac ?_)
     refine yac ?_ (fun K hK => jN (by omega) (fun _ => hK))
     refine yac ?_
     iterate 4 (refine ybg ?_)
     iterate 2 (refine yac ?_)
     iterate 2 (refine yah ?_)
     refine yah ?_ (fun K hK => jY (fun _ => hK) (by omega))
     refine yah ?_
     iterate 3 (refine ybg ?_)
     iterate 4 (refine yah ?_)
     refine yah ?_ (fun K hK => ybh (E := envQ) (t := 66) (el := 3) (d := ty66) rfl rfl hK)
     refine yah ?_ (fun K hK => jN (by omega) (fun _ => hK))
     refine yah ?_
     iterate 2 (refine yac ?_)
     refine jV ?_
     exact ⟨rfl, _, rfl, jO _, by rw [← hsp, hsp11]; exact (congrArg V.bool (decide_eq_false (by omega))).symm⟩
   ·by_cases a3 : a = 3
    ·by_cases l1 : (lenO l : Int) = 1
     ·refine jR _ ?_
      iterate 2 (refine yac ?_)
      refine yac ?_ (fun K hK => jN (by omega) (fun _ => hK))
      refine yac ?_
      iterate 4 (refine ybg ?_)
      iterate 2 (refine yac ?_)
      iterate 2 (refine yah ?_)
      refine yah ?_ (fun K hK => jN (by omega) (fun _ => hK))
      iterate 3 (refine yah ?_)
      refine yah ?_ (fun K hK => jY (fun _ => hK) (by omega))
      iterate 4 (refine yah ?_)
      refine yah ?_ (fun K hK => ybh (E := envQ) (t := 66) (el := 3) (d := ty66) rfl rfl hK)
      refine yah ?_ (fun K hK => jY (fun _ => hK) (by omega))
      refine yah ?_
      iterate 2 (refine yac ?_)
      refine jV ?_
      exact ⟨rfl, _, rfl, jO _, by rw [← hsp, hsp11]; exact (congrArg V.bool (decide_eq_true (by omega))).symm⟩
     ·refine jR _ ?_
      iterate 2 (refine yac ?_)
      refine yac ?_ (fun K hK => jN (by omega) (fun _ => hK))
      refine yac ?_
      iterate 4 (refine ybg ?_)
      iterate 2 (refine yac ?_)
      iterate 2 (refine yah ?_)
      refine yah ?_ (fun K hK => jN (by omega) (fun _ => hK))
      iterate 3 (refine yah ?_)
      refine yah ?_ (fun K hK => jY (fun _ => hK) (by omega))
      iterate 4 (refine yah ?_)
      refine yah ?_ (fun K hK => ybh (E := envQ) (t := 66) (el := 3) (d := ty66) rfl rfl hK)
      refine yah ?_ (fun K hK => jN (by omega) (fun _ => hK))
      refine yah ?_
      iterate 2 (refine yac ?_)
      refine jV ?_
      exact ⟨rfl, _, rfl, jO _, by rw [← hsp, hsp11]; exact (congrArg V.bool (decide_eq_false (by omega))).symm⟩
    ·refine jR _ ?_
     iterate 2 (refine yac ?_)
     refine yac ?_ (fun K hK => jN (by omega) (fun _ => hK))
     refine yac ?_
     iterate 4 (refine ybg ?_)
     iterate 2 (refine yac ?_)
     iterate 2 (refine yah ?_)
     refine yah ?_ (fun K hK => jN (by omega) (fun _ => hK))
     iterate 3 (refine yah ?_)
     refine yah ?_ (fun K hK => jN (by omega) (fun _ => hK))
     iterate 2 (refine yah ?_)
     iterate 4 (refine ybg ?_)
     refine yah ?_
     iterate 2 (refine yac ?_)
     refine jV ?_
     exact ⟨rfl, _, rfl, jO _, by rw [← hsp, hsp11]; exact (congrArg V.bool (decide_eq_false (by omega))).symm⟩
 by_cases h14 : op = 14
 ·refine jR _ ?_
  iterate 2 (refine yac ?_)
  repeat first|apply jA|apply jC rfl|apply jD rfl|apply jE|apply jF
  refine jR _ ?_
  refine yac ?_ (fun K hK => jN (by omega) (fun _ => hK))
  refine yac ?_
  repeat first|apply jA|apply jC rfl|apply jD rfl|apply jE|apply jF
  refine jR _ ?_
  refine yac ?_ (fun K hK => jN (by omega) (fun _ => hK))
  refine yac ?_
  repeat first|apply jA|apply jC rfl|apply jD rfl|apply jE|apply jF
  refine jR _ ?_
  refine yac ?_ (fun K hK => jN (by omega) (fun _ => hK))
  refine yac ?_
  repeat first|apply jA|apply jC rfl|apply jD rfl|apply jE|apply jF
  refine jR _ ?_
  refine yac ?_ (fun K hK => jN (by omega) (fun _ => hK))
  refine yac ?_
  repeat first|apply jA|apply jC rfl|apply jD rfl|apply jE|apply jF
  refine jR _ ?_
  refine yac ?_ (fun K hK => jN (by omega) (fun _ => hK))
  refine yac ?_
  repeat first|apply jA|apply jC rfl|apply jD rfl|apply jE|apply jF
  refine jR _ ?_
  refine yac ?_ (fun K hK => jY (fun _ => hK) (by omega))
  refine yac ?_
  repeat first|apply jA|apply jC rfl|apply jD rfl|apply jE|apply jF
  refine jR _ ?_
  iterate 4 (refine yac ?_)
  refine yac ?_ (fun K hK => CallK.of (yev _ c f _ _ hS hl) hK)
  refine yac ?_
  refine jV ?_
  exact ⟨rfl, _, rfl, jO _, by rw [← hsp]; unfold spB; simp only; rw [if_neg h3, if_neg h4, if_neg h7, if_neg h10, if_neg h11, if_pos h14]; rfl⟩
 refine jR _ ?_
 iterate 2 (refine yac ?_)
 repeat first|apply jA|apply jC rfl|apply jD rfl|apply jE|apply jF
 refine jR _ ?_
 refine yac ?_ (fun K hK => jN (by omega) (fun _ => hK))
 refine yac ?_
 repeat first|apply jA|apply jC rfl|apply jD rfl|apply jE|apply jF
 refine jR _ ?_
 refine yac ?_ (fun K hK => jN (by omega) (fun _ => hK))
 refine yac ?_
 repeat first|apply jA|apply jC rfl|apply jD rfl|apply jE|apply jF
 refine jR _ ?_
 refine yac ?_ (fun K hK => jN (by omega) (fun _ => hK))
 refine yac ?_
 repeat first|apply jA|apply jC rfl|apply jD rfl|apply jE|apply jF
 refine jR _ ?_
 refine yac ?_ (fun K hK => jN (by omega) (fun _ => hK))
 refine yac ?_
 repeat first|apply jA|apply jC rfl|apply jD rfl|apply jE|apply jF
 refine jR _ ?_
 refine yac ?_ (fun K hK => jN (by omega) (fun _ => hK))
 refine yac ?_
 repeat first|apply jA|apply jC rfl|apply jD rfl|apply jE|apply jF
 refine jR _ ?_
 refine yac ?_ (fun K hK => jN (by omega) (fun _ => hK))
 refine yac ?_
 repeat first|apply jA|apply jC rfl|apply jD rfl|apply jE|apply jF
 refine jV ?_
 exact ⟨rfl, _, rfl, jO _, by rw [← hsp]; unfold spB; simp only; rw [if_neg h3, if_neg h4, if_neg h7, if_neg h10, if_neg h11, if_neg h14]; rfl⟩
end Go.Proofs.YtekmafoicobphaaGreatDoor
