/- Codes: the program's words: an ask. -/
import Derived.Test.YtekmafoicobphaaGreatDoorSb10Forms
set_option linter.unusedVariables false
set_option linter.unusedSimpArgs false
namespace Go.Proofs.YtekmafoicobphaaGreatDoor
open Go.Sb
set_option maxRecDepth 100000
theorem yrp {E : Env} {md : Go.FuncId → Sb.Mode} {A : List (List Nat)} {k : Nat} {o : ROp} {os : List ROp} {acc : List (Nat × Go.Op × List V × V)} {ws : List (Nat × Heap)} {s : List V} {h g : Heap} {v : V} {K : List V → Heap → Prop} {a0 a1 a2 a3 a4 a5 a6 a7 a8 a9 a10 a11 a12 a13 a14 a15 a16 a17 a18 a19 a20 a21 a22 a23 a24 a25 a26 a27 a28 a29 a30 a31 a32 a33 a34 a35 a36 a37 a38 a39 a40 a41 a42 a43 a44 a45 a46 a47 a48 a49 a50 a51 a52 a53 a54 a55 a56 a57 a58 a59 a60 a61 : V} (hg : o.gd = none) (hop : ∀ K : V → Heap → Prop, K v g → runOp E md o.op s h K) (hk : yai E md o.op = 2) (ha : accK E md (A.getD k []) g acc True) (hs : putT s o.dst v = [a0, a1, a2, a3, a4, a5, a6, a7, a8, a9, a10, a11, a12, a13, a14, a15, a16, a17, a18, a19, a20, a21, a22, a23, a24, a25, a26, a27, a28, a29, a30, a31, a32, a33, a34, a35, a36, a37, a38, a39, a40, a41, a42, a43, a44, a45, a46, a47, a48, a49, a50, a51, a52, a53, a54, a55, a56, a57, a58, a59, a60, a61]) (hn : yay E md A (k + 1) os acc ((k, h) :: ws) [a0, a1, a2, a3, a4, a5, a6, a7, a8, a9, a10, a11, a12, a13, a14, a15, a16, a17, a18, a19, a20, a21, a22, a23, a24, a25, a26, a27, a28, a29, a30, a31, a32, a33, a34, a35, a36, a37, a38, a39, a40, a41, a42, a43, a44, a45, a46, a47, a48, a49, a50, a51, a52, a53, a54, a55, a56, a57, a58, a59, a60, a61] g K) : yay E md A k (o :: os) acc ws s h K := ynf hg hop hk ha hs hn
theorem yrq {E : Env} {md : Go.FuncId → Sb.Mode} {A : List (List Nat)} {k : Nat} {o : ROp} {os : List ROp} {acc : List (Nat × Go.Op × List V × V)} {ws : List (Nat × Heap)} {s : List V} {h g : Heap} {v : V} {K : List V → Heap → Prop} {a0 a1 a2 a3 a4 a5 a6 a7 a8 a9 a10 a11 a12 a13 a14 a15 a16 a17 a18 a19 a20 a21 a22 a23 a24 a25 a26 a27 a28 a29 a30 a31 a32 a33 a34 a35 a36 a37 a38 a39 a40 a41 a42 a43 a44 a45 a46 a47 a48 a49 a50 a51 a52 a53 a54 a55 a56 a57 a58 a59 a60 a61 : V} (hg : o.gd = none) (hop : ∀ K : V → Heap → Prop, K v g → runOp E md o.op s h K) (hk : yai E md o.op = 1) (hw : wasK E md (A.getD k []) (k, o.op, s, v) ws True) (hs : putT s o.dst v = [a0, a1, a2, a3, a4, a5, a6, a7, a8, a9, a10, a11, a12, a13, a14, a15, a16, a17, a18, a19, a20, a21, a22, a23, a24, a25, a26, a27, a28, a29, a30, a31, a32, a33, a34, a35, a36, a37, a38, a39, a40, a41, a42, a43, a44, a45, a46, a47, a48, a49, a50, a51, a52, a53, a54, a55, a56, a57, a58, a59, a60, a61]) (hn : yay E md A (k + 1) os ((k, o.op, s, v) :: acc) ws [a0, a1, a2, a3, a4, a5, a6, a7, a8, a9, a10, a11, a12, a13, a14, a15, a16, a17, a18, a19, a20, a21, a22, a23, a24, a25, a26, a27, a28, a29, a30, a31, a32, a33, a34, a35, a36, a37, a38, a39, a40, a41, a42, a43, a44, a45, a46, a47, a48, a49, a50, a51, a52, a53, a54, a55, a56, a57, a58, a59, a60, a61] g K) : yay E md A k (o :: os) acc ws s h K := yne hg hop hk hw hs hn
theorem yxh {E : Env} {md : Go.FuncId → Sb.Mode} {A : List (List Nat)} {k : Nat} {o : ROp} {os : List ROp} {ws : List (Nat × Heap)} {s : List V} {h g : Heap} {v : V} {K : List V → Heap → Prop} {a0 a1 a2 a3 a4 a5 a6 a7 a8 a9 a10 a11 a12 a13 a14 a15 a16 a17 a18 a19 a20 a21 a22 a23 a24 a25 a26 a27 a28 a29 a30 a31 a32 a33 a34 a35 a36 a37 a38 a39 a40 a41 a42 a43 a44 a45 a46 a47 a48 a49 a50 a51 a52 a53 a54 a55 a56 a57 a58 a59 a60 a61 : V} (hg : o.gd = none) (hop : ∀ K : V → Heap → Prop, K v g → runOp E md o.op s h K) (hk : yai E md o.op = 2) (hs : putT s o.dst v = [a0, a1, a2, a3, a4, a5, a6, a7, a8, a9, a10, a11, a12, a13, a14, a15, a16, a17, a18, a19, a20, a21, a22, a23, a24, a25, a26, a27, a28, a29, a30, a31, a32, a33, a34, a35, a36, a37, a38, a39, a40, a41, a42, a43, a44, a45, a46, a47, a48, a49, a50, a51, a52, a53, a54, a55, a56, a57, a58, a59, a60, a61]) (hn : yay E md A (k + 1) os [] ((k, h) :: ws) [a0, a1, a2, a3, a4, a5, a6, a7, a8, a9, a10, a11, a12, a13, a14, a15, a16, a17, a18, a19, a20, a21, a22, a23, a24, a25, a26, a27, a28, a29, a30, a31, a32, a33, a34, a35, a36, a37, a38, a39, a40, a41, a42, a43, a44, a45, a46, a47, a48, a49, a50, a51, a52, a53, a54, a55, a56, a57, a58, a59, a60, a61] g K) : yay E md A k (o :: os) [] ws s h K := ync hg hop hk hs hn
theorem yii {E : Env} {md : Go.FuncId → Sb.Mode} {A : List (List Nat)} {k : Nat} {o : ROp} {os : List ROp} {acc : List (Nat × Go.Op × List V × V)} {ws : List (Nat × Heap)} {s : List V} {h g : Heap} {v : V} {K : List V → Heap → Prop} {a0 a1 a2 a3 a4 a5 a6 a7 a8 a9 a10 a11 a12 a13 a14 a15 a16 a17 a18 a19 a20 a21 a22 a23 a24 a25 a26 a27 a28 a29 a30 a31 a32 a33 a34 a35 a36 a37 a38 a39 a40 a41 a42 a43 a44 a45 a46 a47 a48 a49 a50 a51 a52 a53 a54 a55 a56 a57 a58 a59 a60 a61 : V} (hg : o.gd = none) (hop : ∀ K : V → Heap → Prop, K v g → runOp E md o.op s h K) (hk : yai E md o.op = 0) (hs : putT s o.dst v = [a0, a1, a2, a3, a4, a5, a6, a7, a8, a9, a10, a11, a12, a13, a14, a15, a16, a17, a18, a19, a20, a21, a22, a23, a24, a25, a26, a27, a28, a29, a30, a31, a32, a33, a34, a35, a36, a37, a38, a39, a40, a41, a42, a43, a44, a45, a46, a47, a48, a49, a50, a51, a52, a53, a54, a55, a56, a57, a58, a59, a60, a61]) (hn : yay E md A (k + 1) os acc ws [a0, a1, a2, a3, a4, a5, a6, a7, a8, a9, a10, a11, a12, a13, a14, a15, a16, a17, a18, a19, a20, a21, a22, a23, a24, a25, a26, a27, a28, a29, a30, a31, a32, a33, a34, a35, a36, a37, a38, a39, a40, a41, a42, a43, a44, a45, a46, a47, a48, a49, a50, a51, a52, a53, a54, a55, a56, a57, a58, a59, a60, a61] g K) : yay E md A k (o :: os) acc ws s h K := ynd hg hop hk hs hn
theorem ycf {E : Env} {md : Go.FuncId → Sb.Mode} {A : List (List Nat)} {k : Nat} {o : ROp} {os : List ROp} {acc : List (Nat × Go.Op × List V × V)} {s : List V} {h : Heap} {K : List V → Heap → Prop} {a0 a1 a2 a3 a4 a5 a6 a7 a8 a9 a10 a11 a12 a13 a14 a15 a16 a17 a18 a19 a20 a21 a22 a23 a24 a25 a26 a27 a28 a29 a30 a31 a32 a33 a34 a35 a36 a37 a38 a39 a40 a41 a42 a43 a44 a45 a46 a47 a48 a49 a50 a51 a52 a53 a54 a55 a56 a57 a58 a59 a60 a61 : V} {t : Go.Tmp} {w b : Bool} (hg : o.gd = some (t, w)) (hb : getT s t = .bool b) (hw : b = !w) (hk : yai E md o.op ≠ 2) (hs : putT s o.dst und = [a0, a1, a2, a3, a4, a5, a6, a7, a8, a9, a10, a11, a12, a13, a14, a15, a16, a17, a18, a19, a20, a21, a22, a23, a24, a25, a26, a27, a28, a29, a30, a31, a32, a33, a34, a35, a36, a37, a38, a39, a40, a41, a42, a43, a44, a45, a46, a47, a48, a49, a50, a51, a52, a53, a54, a55, a56, a57, a58, a59, a60, a61]) (hn : yaq E md A (k + 1) os acc [a0, a1, a2, a3, a4, a5, a6, a7, a8, a9, a10, a11, a12, a13, a14, a15, a16, a17, a18, a19, a20, a21, a22, a23, a24, a25, a26, a27, a28, a29, a30, a31, a32, a33, a34, a35, a36, a37, a38, a39, a40, a41, a42, a43, a44, a45, a46, a47, a48, a49, a50, a51, a52, a53, a54, a55, a56, a57, a58, a59, a60, a61] h K) : yaq E md A k (o :: os) acc s h K := draw_n hg hb hw hk hs hn
theorem yno {E : Env} {md : Go.FuncId → Sb.Mode} {A : List (List Nat)} {k : Nat} {o : ROp} {os : List ROp} {acc : List (Nat × Go.Op × List V × V)} {s : List V} {h g : Heap} {v : V} {K : List V → Heap → Prop} {a0 a1 a2 a3 a4 a5 a6 a7 a8 a9 a10 a11 a12 a13 a14 a15 a16 a17 a18 a19 a20 a21 a22 a23 a24 a25 a26 a27 a28 a29 a30 a31 a32 a33 a34 a35 a36 a37 a38 a39 a40 a41 a42 a43 a44 a45 a46 a47 a48 a49 a50 a51 a52 a53 a54 a55 a56 a57 a58 a59 a60 a61 : V} (hg : o.gd = none) (hop : ∀ K : V → Heap → Prop, K v g → runOp E md o.op s h K) (hk : yai E md o.op = 1) (hs : putT s o.dst v = [a0, a1, a2, a3, a4, a5, a6, a7, a8, a9, a10, a11, a12, a13, a14, a15, a16, a17, a18, a19, a20, a21, a22, a23, a24, a25, a26, a27, a28, a29, a30, a31, a32, a33, a34, a35, a36, a37, a38, a39, a40, a41, a42, a43, a44, a45, a46, a47, a48, a49, a50, a51, a52, a53, a54, a55, a56, a57, a58, a59, a60, a61]) (hn : yaq E md A (k + 1) os ((k, o.op, s, v) :: acc) [a0, a1, a2, a3, a4, a5, a6, a7, a8, a9, a10, a11, a12, a13, a14, a15, a16, a17, a18, a19, a20, a21, a22, a23, a24, a25, a26, a27, a28, a29, a30, a31, a32, a33, a34, a35, a36, a37, a38, a39, a40, a41, a42, a43, a44, a45, a46, a47, a48, a49, a50, a51, a52, a53, a54, a55, a56, a57, a58, a59, a60, a61] g K) : yaq E md A k (o :: os) acc s h K := ykh hg hop hk hs hn
theorem yfc {E : Env} {md : Go.FuncId → Sb.Mode} {A : List (List Nat)} {k : Nat} {o : ROp} {os : List ROp} {acc : List (Nat × Go.Op × List V × V)} {s : List V} {h g : Heap} {v : V} {K : List V → Heap → Prop} {a0 a1 a2 a3 a4 a5 a6 a7 a8 a9 a10 a11 a12 a13 a14 a15 a16 a17 a18 a19 a20 a21 a22 a23 a24 a25 a26 a27 a28 a29 a30 a31 a32 a33 a34 a35 a36 a37 a38 a39 a40 a41 a42 a43 a44 a45 a46 a47 a48 a49 a50 a51 a52 a53 a54 a55 a56 a57 a58 a59 a60 a61 : V} {t : Go.Tmp} {w : Bool} (hg : o.gd = some (t, w)) (hb : getT s t = .bool w) (hop : ∀ K : V → Heap → Prop, K v g → runOp E md o.op s h K) (hk : yai E md o.op = 1) (hs : putT s o.dst v = [a0, a1, a2, a3, a4, a5, a6, a7, a8, a9, a10, a11, a12, a13, a14, a15, a16, a17, a18, a19, a20, a21, a22, a23, a24, a25, a26, a27, a28, a29, a30, a31, a32, a33, a34, a35, a36, a37, a38, a39, a40, a41, a42, a43, a44, a45, a46, a47, a48, a49, a50, a51, a52, a53, a54, a55, a56, a57, a58, a59, a60, a61]) (hn : yaq E md A (k + 1) os ((k, o.op, s, v) :: acc) [a0, a1, a2, a3, a4, a5, a6, a7, a8, a9, a10, a11, a12, a13, a14, a15, a16, a17, a18, a19, a20, a21, a22, a23, a24, a25, a26, a27, a28, a29, a30, a31, a32, a33, a34, a35, a36, a37, a38, a39, a40, a41, a42, a43, a44, a45, a46, a47, a48, a49, a50, a51, a52, a53, a54, a55, a56, a57, a58, a59, a60, a61] g K) : yaq E md A k (o :: os) acc s h K := draw_yr hg hb hop hk hs hn
theorem yfd {E : Env} {md : Go.FuncId → Sb.Mode} {A : List (List Nat)} {k : Nat} {o : ROp} {os : List ROp} {acc : List (Nat × Go.Op × List V × V)} {s : List V} {h g : Heap} {v : V} {K : List V → Heap → Prop} {a0 a1 a2 a3 a4 a5 a6 a7 a8 a9 a10 a11 a12 a13 a14 a15 a16 a17 a18 a19 a20 a21 a22 a23 a24 a25 a26 a27 a28 a29 a30 a31 a32 a33 a34 a35 a36 a37 a38 a39 a40 a41 a42 a43 a44 a45 a46 a47 a48 a49 a50 a51 a52 a53 a54 a55 a56 a57 a58 a59 a60 a61 : V} {t : Go.Tmp} {w : Bool} (hg : o.gd = some (t, w)) (hb : getT s t = .bool w) (hop : ∀ K : V → Heap → Prop, K v g → runOp E md o.op s h K) (hk : yai E md o.op = 0) (hs : putT s o.dst v = [a0, a1, a2, a3, a4, a5, a6, a7, a8, a9, a10, a11, a12, a13, a14, a15, a16, a17, a18, a19, a20, a21, a22, a23, a24, a25, a26, a27, a28, a29, a30, a31, a32, a33, a34, a35, a36, a37, a38, a39, a40, a41, a42, a43, a44, a45, a46, a47, a48, a49, a50, a51, a52, a53, a54, a55, a56, a57, a58, a59, a60, a61]) (hn : yaq E md A (k + 1) os acc [a0, a1, a2, a3, a4, a5, a6, a7, a8, a9, a10, a11, a12, a13, a14, a15, a16, a17, a18, a19, a20, a21, a22, a23, a24, a25, a26, a27, a28, a29, a30, a31, a32, a33, a34, a35, a36, a37, a38, a39, a40, a41, a42, a43, a44, a45, a46, a47, a48, a49, a50, a51, a52, a53, a54, a55, a56, a57, a58, a59, a60, a61] g K) : yaq E md A k (o :: os) acc s h K := draw_yz hg hb hop hk hs hn
theorem ycl {E : Env} {md : Go.FuncId → Sb.Mode} {A : List (List Nat)} {k : Nat} {o : ROp} {os : List ROp} {acc : List (Nat × Go.Op × List V × V)} {s : List V} {h g : Heap} {v : V} {K : List V → Heap → Prop} {a0 a1 a2 a3 a4 a5 a6 a7 a8 a9 a10 a11 a12 a13 a14 a15 a16 a17 a18 a19 a20 a21 a22 a23 a24 a25 a26 a27 a28 a29 a30 a31 a32 a33 a34 a35 a36 a37 a38 a39 a40 a41 a42 a43 a44 a45 a46 a47 a48 a49 a50 a51 a52 a53 a54 a55 a56 a57 a58 a59 a60 a61 : V} (hg : o.gd = none) (hop : ∀ K : V → Heap → Prop, K v g → runOp E md o.op s h K) (hk : yai E md o.op = 0) (hs : putT s o.dst v = [a0, a1, a2, a3, a4, a5, a6, a7, a8, a9, a10, a11, a12, a13, a14, a15, a16, a17, a18, a19, a20, a21, a22, a23, a24, a25, a26, a27, a28, a29, a30, a31, a32, a33, a34, a35, a36, a37, a38, a39, a40, a41, a42, a43, a44, a45, a46, a47, a48, a49, a50, a51, a52, a53, a54, a55, a56, a57, a58, a59, a60, a61]) (hn : yaq E md A (k + 1) os acc [a0, a1, a2, a3, a4, a5, a6, a7, a8, a9, a10, a11, a12, a13, a14, a15, a16, a17, a18, a19, a20, a21, a22, a23, a24, a25, a26, a27, a28, a29, a30, a31, a32, a33, a34, a35, a36, a37, a38, a39, a40, a41, a42, a43, a44, a45, a46, a47, a48, a49, a50, a51, a52, a53, a54, a55, a56, a57, a58, a59, a60, a61] g K) : yaq E md A k (o :: os) acc s h K := ykg hg hop hk hs hn
theorem ynp {E : Env} {md : Go.FuncId → Sb.Mode} {o : ROp} {os : List ROp} {s : List V} {h : Heap} {K : List V → Heap → Prop} {a0 a1 a2 a3 a4 a5 a6 a7 a8 a9 a10 a11 a12 a13 a14 a15 a16 a17 a18 a19 a20 a21 a22 a23 a24 a25 a26 a27 a28 a29 a30 a31 a32 a33 a34 a35 a36 a37 a38 a39 a40 a41 a42 a43 a44 a45 a46 a47 a48 a49 a50 a51 a52 a53 a54 a55 a56 a57 a58 a59 a60 a61 : V} {t : Go.Tmp} {w b : Bool} (hn : yag E md os [a0, a1, a2, a3, a4, a5, a6, a7, a8, a9, a10, a11, a12, a13, a14, a15, a16, a17, a18, a19, a20, a21, a22, a23, a24, a25, a26, a27, a28, a29, a30, a31, a32, a33, a34, a35, a36, a37, a38, a39, a40, a41, a42, a43, a44, a45, a46, a47, a48, a49, a50, a51, a52, a53, a54, a55, a56, a57, a58, a59, a60, a61] h K) (hg : o.gd = some (t, w) := by rfl) (hb : getT s t = .bool b := by rfl) (hw : b = !w := by rfl) (hs : putT s o.dst und = [a0, a1, a2, a3, a4, a5, a6, a7, a8, a9, a10, a11, a12, a13, a14, a15, a16, a17, a18, a19, a20, a21, a22, a23, a24, a25, a26, a27, a28, a29, a30, a31, a32, a33, a34, a35, a36, a37, a38, a39, a40, a41, a42, a43, a44, a45, a46, a47, a48, a49, a50, a51, a52, a53, a54, a55, a56, a57, a58, a59, a60, a61] := by rfl) : yag E md (o :: os) s h K := yet hg hb hw hs hn
theorem yeg {E : Env} {md : Go.FuncId → Sb.Mode} {o : ROp} {os : List ROp} {s : List V} {h g : Heap} {v : V} {K : List V → Heap → Prop} {a0 a1 a2 a3 a4 a5 a6 a7 a8 a9 a10 a11 a12 a13 a14 a15 a16 a17 a18 a19 a20 a21 a22 a23 a24 a25 a26 a27 a28 a29 a30 a31 a32 a33 a34 a35 a36 a37 a38 a39 a40 a41 a42 a43 a44 a45 a46 a47 a48 a49 a50 a51 a52 a53 a54 a55 a56 a57 a58 a59 a60 a61 : V} (hn : yag E md os [a0, a1, a2, a3, a4, a5, a6, a7, a8, a9, a10, a11, a12, a13, a14, a15, a16, a17, a18, a19, a20, a21, a22, a23, a24, a25, a26, a27, a28, a29, a30, a31, a32, a33, a34, a35, a36, a37, a38, a39, a40, a41, a42, a43, a44, a45, a46, a47, a48, a49, a50, a51, a52, a53, a54, a55, a56, a57, a58, a59, a60, a61] g K) (hop : ∀ K : V → Heap → Prop, K v g → runOp E md o.op s h K := by exact fun _ => id) (hg : o.gd = none := by rfl) (hs : putT s o.dst v = [a0, a1, a2, a3, a4, a5, a6, a7, a8, a9, a10, a11, a12, a13, a14, a15, a16, a17, a18, a19, a20, a21, a22, a23, a24, a25, a26, a27, a28, a29, a30, a31, a32, a33, a34, a35, a36, a37, a38, a39, a40, a41, a42, a43, a44, a45, a46, a47, a48, a49, a50, a51, a52, a53, a54, a55, a56, a57, a58, a59, a60, a61] := by rfl) : yag E md (o :: os) s h K := ybe hg hop hs hn
theorem yfe {E : Env} {md : Go.FuncId → Sb.Mode} {o : ROp} {os : List ROp} {s : List V} {h g : Heap} {v : V} {K : List V → Heap → Prop} {a0 a1 a2 a3 a4 a5 a6 a7 a8 a9 a10 a11 a12 a13 a14 a15 a16 a17 a18 a19 a20 a21 a22 a23 a24 a25 a26 a27 a28 a29 a30 a31 a32 a33 a34 a35 a36 a37 a38 a39 a40 a41 a42 a43 a44 a45 a46 a47 a48 a49 a50 a51 a52 a53 a54 a55 a56 a57 a58 a59 a60 a61 : V} {t : Go.Tmp} {w : Bool} (hn : yag E md os [a0, a1, a2, a3, a4, a5, a6, a7, a8, a9, a10, a11, a12, a13, a14, a15, a16, a17, a18, a19, a20, a21, a22, a23, a24, a25, a26, a27, a28, a29, a30, a31, a32, a33, a34, a35, a36, a37, a38, a39, a40, a41, a42, a43, a44, a45, a46, a47, a48, a49, a50, a51, a52, a53, a54, a55, a56, a57, a58, a59, a60, a61] g K) (hop : ∀ K : V → Heap → Prop, K v g → runOp E md o.op s h K := by exact fun _ => id) (hg : o.gd = some (t, w) := by rfl) (hb : getT s t = .bool w := by rfl) (hs : putT s o.dst v = [a0, a1, a2, a3, a4, a5, a6, a7, a8, a9, a10, a11, a12, a13, a14, a15, a16, a17, a18, a19, a20, a21, a22, a23, a24, a25, a26, a27, a28, a29, a30, a31, a32, a33, a34, a35, a36, a37, a38, a39, a40, a41, a42, a43, a44, a45, a46, a47, a48, a49, a50, a51, a52, a53, a54, a55, a56, a57, a58, a59, a60, a61] := by rfl) : yag E md (o :: os) s h K := yes hg hb hop hs hn
abbrev LInt := List Int
def kaM (c : Cod) (f : Fnc) (op a b cc kd n : Int) (tx : Bs) (l : Option LInt) (kl kh kc : Int) (ok : Bool) (k : Nat) (s : List V) (h : Heap) : Prop :=
 ∃ (u : Nat), (u = 0 ∧ h = [.cells 97 (ckC c f), .cells 68 (iC op a b cc kd n tx l), .map asksL, .cells 152 [.int .i64 kl, .int .i64 kh, .int .i64 kc]]) ∧ s.length = 62 ∧ s.getD 0 und = und ∧ s.getD 1 und = ckV c f ∧ s.getD 2 und = .agg (iC op a b cc kd n tx l) ∧ s.getD 3 und = .ptr 0 0 6 ∧ s.getD 4 und = .ptr 1 0 8 ∧ s.getD 5 und = .bool false ∧ s.getD 6 und = .ptr 3 0 3 ∧ s.getD 7 und = .bool ok
theorem kaM_lit {c : Cod} {f : Fnc} {op a b cc kd n : Int} {tx : Bs} {l : Option LInt} {kl kh kc : Int} {ok : Bool} {k : Nat} {s : List V} {h : Heap} (hI : kaM c f op a b cc kd n tx l kl kh kc ok k s h) : ∃ (u : Nat) (x : Nat → V), (u = 0 ∧ h = [.cells 97 (ckC c f), .cells 68 (iC op a b cc kd n tx l), .map asksL, .cells 152 [.int .i64 kl, .int .i64 kh, .int .i64 kc]]) ∧
  s = [und, ckV c f, .agg (iC op a b cc kd n tx l), .ptr 0 0 6, .ptr 1 0 8, .bool false, .ptr 3 0 3, .bool ok, x 8, x 9, x 10, x 11, x 12, x 13, x 14, x 15, x 16, x 17, x 18, x 19, x 20, x 21, x 22, x 23, x 24, x 25, x 26, x 27, x 28, x 29, x 30, x 31, x 32, x 33, x 34, x 35, x 36, x 37, x 38, x 39, x 40, x 41, x 42, x 43, x 44, x 45, x 46, x 47, x 48, x 49, x 50, x 51, x 52, x 53, x 54, x 55, x 56, x 57, x 58, x 59, x 60, x 61] := by
 obtain ⟨u, hF, hl, e0, e1, e2, e3, e4, e5, e6, e7⟩ := hI
 refine ⟨u, fun n => s.getD n und, hF, (ybd hl).trans ?_⟩
 simp only [List.range, List.range.loop, List.map_cons, List.map_nil]
 rw [e0, e1, e2, e3, e4, e5, e6, e7]
def kbM (c : Cod) (f : Fnc) (op a b cc kd n : Int) (tx : Bs) (l : Option LInt) (kl kh kc : Int) (ok : Bool) (q : Bool) (k : Nat) (s : List V) (h : Heap) : Prop :=
 ∃ (u : Nat), (u = 0 ∧ h = [.cells 97 (ckC c f), .cells 68 (iC op a b cc kd n tx l), .map asksL, .cells 152 [.int .i64 kl, .int .i64 kh, .int .i64 kc]]) ∧ s.length = 62 ∧ s.getD 0 und = und ∧ s.getD 1 und = ckV c f ∧ s.getD 2 und = .agg (iC op a b cc kd n tx l) ∧ s.getD 3 und = .ptr 0 0 6 ∧ s.getD 4 und = .ptr 1 0 8 ∧ s.getD 5 und = .bool false ∧ s.getD 6 und = .ptr 3 0 3 ∧ s.getD 7 und = .bool ok ∧ s.getD 43 und = .bool q
theorem kbM_lit {c : Cod} {f : Fnc} {op a b cc kd n : Int} {tx : Bs} {l : Option LInt} {kl kh kc : Int} {ok : Bool} {q : Bool} {k : Nat} {s : List V} {h : Heap} (hI : kbM c f op a b cc kd n tx l kl kh kc ok q k s h) : ∃ (u : Nat) (x : Nat → V), (u = 0 ∧ h = [.cells 97 (ckC c f), .cells 68 (iC op a b cc kd n tx l), .map asksL, .cells 152 [.int .i64 kl, .int .i64 kh, .int .i64 kc]]) ∧
  s = [und, ckV c f, .agg (iC op a b cc kd n tx l), .ptr 0 0 6, .ptr 1 0 8, .bool false, .ptr 3 0 3, .bool ok, x 8, x 9, x 10, x 11, x 12, x 13, x 14, x 15, x 16, x 17, x 18, x 19, x 20, x 21, x 22, x 23, x 24, x 25, x 26, x 27, x 28, x 29, x 30, x 31, x 32, x 33, x 34, x 35, x 36, x 37, x 38, x 39, x 40, x 41, x 42, .bool q, x 44, x 45, x 46, x 47, x 48, x 49, x 50, x 51, x 52, x 53, x 54, x 55, x 56, x 57, x 58, x 59, x 60, x 61] := by
 obtain ⟨u, hF, hl, e0, e1, e2, e3, e4, e5, e6, e7, e43⟩ := hI
 refine ⟨u, fun n => s.getD n und, hF, (ybd hl).trans ?_⟩
 simp only [List.range, List.range.loop, List.map_cons, List.map_nil]
 rw [e0, e1, e2, e3, e4, e5, e6, e7, e43]
noncomputable def askB (c : Cod) (f : Fnc) (x : Ins) : Bool := if x.b = 5 then decide (yhc c x.c (lenO x.l)) else !(decide (x.b = 17 ∧ lenO x.l = 1 ∧ ¬ ybi f.s (lenO f.cd) (IntKind.i64.wrap ((x.l.getD []).headD 0 + 1)) 1)) && decide (1 ≤ x.b ∧ x.b ≤ 21 ∧ x.b ≠ 5) && decide (kLo x.b ≤ (lenO x.l : Int) ∧ (lenO x.l : Int) ≤ kHi x.b) && decide (0 ≤ x.c ∧ x.c ≤ kC x.b)
set_option maxHeartbeats 8000000 in
theorem ask_has (h : Heap) (c : Cod) (f : Fnc) (x : Ins) (hS : 0 ≤ f.s ∧ f.s ≤ 200) (hl : lenO f.cd ≤ 4000) (hc : lenO c ≤ 1000) (hx : lenO x.l ≤ 2 ^ 50) : Has envQ .own 121 [ckV c f, insV x] h (.val (.bool (askB c f x)) h) := by
 obtain ⟨op, a, b, cc, kd, n, tx, l⟩ := x
 simp only at hx
 show Has envQ .own 121 [ckV c f, .agg (iC op a b cc kd n tx l)] h _
 by_cases hb5 : b = 5
 ·suffices hz : ∃ v, Has envQ .own 121 [ckV c f, .agg (iC op a b cc kd n tx l)] h (.val v h) ∧ v = .bool (askB c f ⟨op, a, b, cc, kd, n, tx, l⟩) by
   obtain ⟨v, h1, rfl⟩ := hz; exact h1
  refine HasP.ownE (a := [ckV c f, .agg (iC op a b cc kd n tx l)]) (d := fn121) (yaf (fz_ag (ydt _ _)) (yaf (fz_ag (ygb _ _ _ _ _ _ _ _)) yan)) rfl rfl (jT rfl) ?_
  refine jJ ?_
  refine CallK.of (yrm _ c f cc (lenO l) hc) ?_
  refine jJ ?_
  exact ⟨rfl, _, rfl, jO _, by unfold askB; simp only; rw [if_pos hb5]; rfl⟩
 obtain ⟨q, hq⟩ : ∃ q, decide (b = 17 ∧ lenO l = 1 ∧ ¬ ybi f.s (lenO f.cd) (IntKind.i64.wrap ((l.getD []).headD 0 + 1)) 1) = q := ⟨_, rfl⟩
 obtain ⟨ok, hok⟩ : ∃ w, decide (1 ≤ b ∧ b ≤ 21 ∧ b ≠ 5) = w := ⟨_, rfl⟩
 obtain ⟨w1, hw1⟩ : ∃ w, decide (kLo b ≤ (lenO l : Int) ∧ (lenO l : Int) ≤ kHi b) = w := ⟨_, rfl⟩
 obtain ⟨w2, hw2⟩ : ∃ w, decide (0 ≤ cc ∧ cc ≤ kC b) = w := ⟨_, rfl⟩
 have hW1 := fun g => ydd g (lenO l) (kLo b) (kHi b)
 have hW2 := fun g => ydd g cc 0 (kC b)
 simp only [hw1] at hW1
 simp only [hw2] at hW2
 have hlook := fun (G : Heap) (M : Nat) (hm : G[M]? = some (.map asksL)) => yxg hm b
 simp only [hok, askV] at hlook
 rw [show askB c f ⟨op, a, b, cc, kd, n, tx, l⟩ = (!q && ok && w1 && w2) from by unfold askB; simp only; rw [if_neg hb5, hq, hok, hw1, hw2]]
 clear hok hw1 hw2
 suffices hz : ∃ v, Has envQ .own 121 [ckV c f, .agg (iC op a b cc kd n tx l)] h (.val v h) ∧ v = .bool (!q && ok && w1 && w2) by
  obtain ⟨v, h1, rfl⟩ := hz; exact h1
 refine HasP.ownE (a := [ckV c f, .agg (iC op a b cc kd n tx l)]) (d := fn121) (yaf (fz_ag (ydt _ _)) (yaf (fz_ag (ygb _ _ _ _ _ _ _ _)) yan)) rfl rfl (jT rfl) ?_
 refine jJ ?_
 generalize kLo b = kl at *
 generalize kHi b = kh at *
 generalize kC b = kc at *
 refine RunP.midS (kaM c f op a b cc kd n tx l kl kh kc ok 0) ?_ ?_
 ·refine RunP.drawn2R _ (by decide +kernel) (by decide +kernel) (fun _ => rfl) ?_
  refine yxh rfl (fun K hK => CallK.of (asks_has _) hK) (by decide +kernel) rfl ?_
  refine yii rfl (fun _ => id) (by decide +kernel) rfl ?_
  refine yrq rfl (fun _ => id) (by decide +kernel) (yrb (StillK.of (by exact rfl)) (yie trivial)) rfl ?_
  refine yrq rfl (fun K hK => ycn (congrArg (fun x => val x [.cells 97 (ckC c f), .cells 68 (iC op a b cc kd n tx l), .map asksL]) (hlook [.cells 97 (ckC c f), .cells 68 (iC op a b cc kd n tx l), .map asksL] 2 rfl)) hK) (by decide +kernel) (yna (by decide +kernel) (yie trivial)) rfl ?_
  refine yii rfl (fun _ => id) (by decide +kernel) rfl ?_
  refine yii rfl (fun _ => id) (by decide +kernel) rfl ?_
  refine yii rfl (fun _ => id) (by decide +kernel) rfl ?_
  refine yrp rfl (fun _ => id) (by decide +kernel) (yig (StillK.of (ycn (congrArg (fun x => val x [.cells 97 (ckC c f), .cells 68 (iC op a b cc kd n tx l), .map asksL, .cells 152 [.int .i64 0, .int .i64 0, .int .i64 0]]) (hlook [.cells 97 (ckC c f), .cells 68 (iC op a b cc kd n tx l), .map asksL, .cells 152 [.int .i64 0, .int .i64 0, .int .i64 0]] 2 rfl)) rfl)) (yig (StillK.of (by exact rfl)) trivial)) rfl ?_
  refine yrp rfl (fun _ => id) (by decide +kernel) (yif (by decide +kernel) (yif (by decide +kernel) trivial)) rfl ?_
  refine yii rfl (fun _ => id) (by decide +kernel) rfl ?_
  exact ⟨rfl, 0, ⟨rfl, rfl⟩, rfl, rfl, rfl, rfl, rfl, rfl, rfl, rfl, rfl⟩
 intro s1 g1 hM
 obtain ⟨u, y, ⟨_, rfl⟩, rfl⟩ := kaM_lit hM
 clear hM hlook
 apply jA
 apply jA
 refine RunP.midS (kbM c f op a b cc kd n tx l kl kh kc ok q 0) ?_ ?_
 ·by_cases hb : b = 17
  ·by_cases h1 : lenO l = 1
   ·obtain ⟨n0, rfl⟩ : ∃ n0, l = some [n0] := by
     cases l with
     | none => simp [lenO] at h1
     | some l =>
      match l, h1 with
      | [n0], _ => exact ⟨n0, rfl⟩
    have hF := fun g => yev g c f (IntKind.i64.wrap (n0 + 1)) 1 hS hl
    have hqe : q = !(decide (ybi f.s (lenO f.cd) (IntKind.i64.wrap (n0 + 1)) 1)) := by
     rw [← hq]; simp [hb, lenO]
    generalize decide (ybi f.s (lenO f.cd) (IntKind.i64.wrap (n0 + 1)) 1) = bF at hF hqe
    subst hqe
    refine RunP.drawnR _ (by decide +kernel) (fun _ => rfl) ?_
    refine ycl rfl (fun _ => id) (by decide +kernel) rfl ?_
    refine yno rfl (fun _ => id) (by decide +kernel) rfl ?_
    refine ycl rfl (fun K hK => jY (fun _ => hK) (by omega)) (by decide +kernel) rfl ?_
    refine ycl rfl (fun _ => id) (by decide +kernel) rfl ?_
    refine yfd rfl rfl (fun _ => id) (by decide +kernel) rfl ?_
    refine yfc rfl rfl (fun _ => id) (by decide +kernel) rfl ?_
    refine yfc rfl rfl (fun _ => id) (by decide +kernel) rfl ?_
    refine yfd rfl rfl (fun K hK => jI (fun _ => hK) (fun w => absurd rfl w)) (by decide +kernel) rfl ?_
    refine ycl rfl (fun _ => id) (by decide +kernel) rfl ?_
    refine ycl rfl (fun _ => id) (by decide +kernel) rfl ?_
    refine yfc rfl rfl (fun _ => id) (by decide +kernel) rfl ?_
    refine yfd rfl rfl (fun _ => id) (by decide +kernel) rfl ?_
    refine yfc rfl rfl (fun _ => id) (by decide +kernel) rfl ?_
    refine yfd rfl rfl (fun K hK => jI (by omega) (jI rfl (Exists.intro _ (jI rfl hK)))) (by decide +kernel) rfl ?_
    refine yfc rfl rfl (fun _ => id) (by decide +kernel) rfl ?_
    refine yfd rfl rfl (fun _ => id) (by decide +kernel) rfl ?_
    refine yfc rfl rfl (fun K hK => CallK.of (hF _) hK) (by decide +kernel) rfl ?_
    refine yfd rfl rfl (fun _ => id) (by decide +kernel) rfl ?_
    refine ycl rfl (fun _ => id) (by decide +kernel) rfl ?_
    exact ⟨rfl, 0, ⟨rfl, rfl⟩, rfl, rfl, rfl, rfl, rfl, rfl, rfl, rfl, rfl, rfl⟩
   ·have hqe : q = false := by rw [← hq]; simp [h1]
    subst hqe
    refine RunP.drawnR _ (by decide +kernel) (fun _ => rfl) ?_
    refine ycl rfl (fun _ => id) (by decide +kernel) rfl ?_
    refine yno rfl (fun _ => id) (by decide +kernel) rfl ?_
    refine ycl rfl (fun K hK => jY (fun _ => hK) (by omega)) (by decide +kernel) rfl ?_
    refine ycl rfl (fun _ => id) (by decide +kernel) rfl ?_
    refine yfd rfl rfl (fun _ => id) (by decide +kernel) rfl ?_
    refine yfc rfl rfl (fun _ => id) (by decide +kernel) rfl ?_
    refine yfc rfl rfl (fun K hK => ybh (E := envQ) (t := 66) (el := 3) (d := ty66) rfl rfl hK) (by decide +kernel) rfl ?_
    refine yfd rfl rfl (fun K hK => jN (by omega) (fun _ => hK)) (by decide +kernel) rfl ?_
    refine ycl rfl (fun _ => id) (by decide +kernel) rfl ?_
    refine ycl rfl (fun _ => id) (by decide +kernel) rfl ?_
    refine ycf rfl rfl rfl (by decide +kernel) rfl ?_
    refine ycf rfl rfl rfl (by decide +kernel) rfl ?_
    refine ycf rfl rfl rfl (by decide +kernel) rfl ?_
    refine ycf rfl rfl rfl (by decide +kernel) rfl ?_
    refine ycf rfl rfl rfl (by decide +kernel) rfl ?_
    refine ycf rfl rfl rfl (by decide +kernel) rfl ?_
    refine ycf rfl rfl rfl (by decide +kernel) rfl ?_
    refine ycf rfl rfl rfl (by decide +kernel) rfl ?_
    refine ycl rfl (fun _ => id) (by decide +kernel) rfl ?_
    exact ⟨rfl, 0, ⟨rfl, rfl⟩, rfl, rfl, rfl, rfl, rfl, rfl, rfl, rfl, rfl, rfl⟩
  ·have hqe : q = false := by rw [← hq]; simp [hb]
   subst hqe
   refine RunP.drawnR _ (by decide +kernel) (fun _ => rfl) ?_
   refine ycl rfl (fun _ => id) (by decide +kernel) rfl ?_
   refine yno rfl (fun _ => id) (by decide +kernel) rfl ?_
   refine ycl rfl (fun K hK => jN (by omega) (fun _ => hK)) (by decide +kernel) rfl ?_
   refine ycl rfl (fun _ => id) (by decide +kernel) rfl ?_
   refine ycf rfl rfl rfl (by decide +kernel) rfl ?_
   refine ycf rfl rfl rfl (by decide +kernel) rfl ?_
   refine ycf rfl rfl rfl (by decide +kernel) rfl ?_
   refine ycf rfl rfl rfl (by decide +kernel) rfl ?_
   refine ycl rfl (fun _ => id) (by decide +kernel) rfl ?_
   refine ycl rfl (fun _ => id) (by decide +kernel) rfl ?_
   refine ycf rfl rfl rfl (by decide +kernel) rfl ?_
   refine ycf rfl rfl rfl (by decide +kernel) rfl ?_
   refine ycf rfl rfl rfl (by decide +kernel) rfl ?_
   refine ycf rfl rfl rfl (by decide +kernel) rfl ?_
   refine ycf rfl rfl rfl (by decide +kernel) rfl ?_
   refine ycf rfl rfl rfl (by decide +kernel) rfl ?_
   refine ycf rfl rfl rfl (by decide +kernel) rfl ?_
   refine ycf rfl rfl rfl (by decide +kernel) rfl ?_
   refine ycl rfl (fun _ => id) (by decide +kernel) rfl ?_
   exact ⟨rfl, 0, ⟨rfl, rfl⟩, rfl, rfl, rfl, rfl, rfl, rfl, rfl, rfl, rfl, rfl⟩
 intro s2 g2 hM
 obtain ⟨u, y2, ⟨_, rfl⟩, rfl⟩ := kbM_lit hM
 clear hM hq
 cases q
 rotate_left
 ·repeat first|apply jZ|apply jA|apply jB|apply jH
  exact ⟨rfl, _, rfl, jO _, rfl⟩
 repeat first|apply jA|apply jC rfl|apply jD rfl|apply jE|apply jF
 refine jR _ ?_
 cases ok
 ·refine yeg ?_
  refine yeg ?_
  iterate 8 (refine ynp ?_)
  iterate 2 (refine yeg ?_)
  iterate 5 (refine ynp ?_)
  iterate 2 (refine yeg ?_)
  refine jV ?_
  exact ⟨rfl, _, rfl, jO _, rfl⟩
 ·refine yeg ?_
  refine yeg ?_
  iterate 2 (refine yfe ?_)
  refine yfe ?_ (fun K hK => ybh (E := envQ) (t := 66) (el := 3) (d := ty66) rfl rfl hK)
  iterate 4 (refine yfe ?_)
  cases w1
  ·refine yfe ?_ (fun K hK => CallK.of (hW1 _) hK)
   iterate 2 (refine yeg ?_)
   iterate 5 (refine ynp ?_)
   iterate 2 (refine yeg ?_)
   refine jV ?_
   exact ⟨rfl, _, rfl, jO _, rfl⟩
  ·refine yfe ?_ (fun K hK => CallK.of (hW1 _) hK)
   iterate 2 (refine yeg ?_)
   iterate 4 (refine yfe ?_)
   cases w2
   ·refine yfe ?_ (fun K hK => CallK.of (hW2 _) hK)
    iterate 2 (refine yeg ?_)
    refine jV ?_
    exact ⟨rfl, _, rfl, jO _, rfl⟩
   ·refine yfe ?_ (fun K hK => CallK.of (hW2 _) hK)
    iterate 2 (refine yeg ?_)
    refine jV ?_
    exact ⟨rfl, _, rfl, jO _, rfl⟩
end Go.Proofs.YtekmafoicobphaaGreatDoor
