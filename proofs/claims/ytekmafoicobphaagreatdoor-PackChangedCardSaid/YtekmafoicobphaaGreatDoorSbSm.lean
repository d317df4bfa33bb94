/- The law's word small. -/
import Derived.Test.YtekmafoicobphaaGreatDoorSbRt
set_option linter.unusedVariables false
set_option linter.unusedSimpArgs false
namespace Go.Proofs.YtekmafoicobphaaGreatDoor
open Go.Sb
set_option maxRecDepth 100000
def sm1I (c : Cod) (L : List Fnc) (k : Nat) (s : List V) (h : Heap) : Prop :=
 ∃ (i : Nat) (z n : Int), ((i + k = L.length ∧ z = i) ∧ (n ≤ 20000 → n = (((L.take i).map partF).sum : Nat)) ∧ (0 ≤ n ∧ n ≤ 2 ^ 53) ∧ h = [.cells 25 [optL 5 fncV c]]) ∧ s.length = 66 ∧ s.getD 0 und = und ∧ s.getD 2 und = .ptr 0 0 1 ∧ s.getD 3 und = .bool false ∧ s.getD 4 und = .int .i64 n ∧ s.getD 5 und = .int .i64 z
theorem sm1I_lit {c : Cod} {L : List Fnc} {k : Nat} {s : List V} {h : Heap} (hI : sm1I c L k s h) : ∃ (i : Nat) (z n : Int) (x : Nat → V), ((i + k = L.length ∧ z = i) ∧ (n ≤ 20000 → n = (((L.take i).map partF).sum : Nat)) ∧ (0 ≤ n ∧ n ≤ 2 ^ 53) ∧ h = [.cells 25 [optL 5 fncV c]]) ∧
  s = [und, x 1, .ptr 0 0 1, .bool false, .int .i64 n, .int .i64 z, x 6, x 7, x 8, x 9, x 10, x 11, x 12, x 13, x 14, x 15, x 16, x 17, x 18, x 19, x 20, x 21, x 22, x 23, x 24, x 25, x 26, x 27, x 28, x 29, x 30, x 31, x 32, x 33, x 34, x 35, x 36, x 37, x 38, x 39, x 40, x 41, x 42, x 43, x 44, x 45, x 46, x 47, x 48, x 49, x 50, x 51, x 52, x 53, x 54, x 55, x 56, x 57, x 58, x 59, x 60, x 61, x 62, x 63, x 64, x 65] := by
 obtain ⟨i, z, n, hF, hl, e0, e2, e3, e4, e5⟩ := hI
 refine ⟨i, z, n, fun n => s.getD n und, hF, (ybd hl).trans ?_⟩
 simp only [List.range, List.range.loop, List.map_cons, List.map_nil]
 rw [e0, e2, e3, e4, e5]
def sm2I (c : Cod) (l : List Ins) (w : Int) (s0 : Nat) (k : Nat) (s : List V) (h : Heap) : Prop :=
 ∃ (i : Nat) (z n : Int), ((i + k = l.length ∧ z = i) ∧ (n ≤ 20000 → n = ((s0 + ((l.take i).map fun x => lenO x.l).sum : Nat) : Int)) ∧ (0 ≤ n ∧ n ≤ 2 ^ 53) ∧ h = [.cells 25 [optL 5 fncV c]]) ∧ s.length = 66 ∧ s.getD 0 und = und ∧ s.getD 2 und = .ptr 0 0 1 ∧ s.getD 3 und = .bool false ∧ s.getD 4 und = .int .i64 n ∧ s.getD 5 und = .int .i64 w ∧ s.getD 6 und = .int .i64 z
theorem sm2I_lit {c : Cod} {l : List Ins} {w : Int} {s0 : Nat} {k : Nat} {s : List V} {h : Heap} (hI : sm2I c l w s0 k s h) : ∃ (i : Nat) (z n : Int) (x : Nat → V), ((i + k = l.length ∧ z = i) ∧ (n ≤ 20000 → n = ((s0 + ((l.take i).map fun x => lenO x.l).sum : Nat) : Int)) ∧ (0 ≤ n ∧ n ≤ 2 ^ 53) ∧ h = [.cells 25 [optL 5 fncV c]]) ∧
  s = [und, x 1, .ptr 0 0 1, .bool false, .int .i64 n, .int .i64 w, .int .i64 z, x 7, x 8, x 9, x 10, x 11, x 12, x 13, x 14, x 15, x 16, x 17, x 18, x 19, x 20, x 21, x 22, x 23, x 24, x 25, x 26, x 27, x 28, x 29, x 30, x 31, x 32, x 33, x 34, x 35, x 36, x 37, x 38, x 39, x 40, x 41, x 42, x 43, x 44, x 45, x 46, x 47, x 48, x 49, x 50, x 51, x 52, x 53, x 54, x 55, x 56, x 57, x 58, x 59, x 60, x 61, x 62, x 63, x 64, x 65] := by
 obtain ⟨i, z, n, hF, hl, e0, e2, e3, e4, e5, e6⟩ := hI
 refine ⟨i, z, n, fun n => s.getD n und, hF, (ybd hl).trans ?_⟩
 simp only [List.range, List.range.loop, List.map_cons, List.map_nil]
 rw [e0, e2, e3, e4, e5, e6]
theorem cmp2' {P Q R : Prop} [Decidable R] {K : V → Heap → Prop} {g : Heap} (h1 : P → R) (h2 : Q → ¬ R) (hK : K (.bool (decide R)) g) : (P → K (.bool true) g) ∧ (Q → K (.bool false) g) :=
 ⟨fun h => by rwa [decide_eq_true (h1 h)] at hK, fun h => by rwa [decide_eq_false (h2 h)] at hK⟩
theorem yte {α : Type} {l : List α} {i : Nat} {x : α} (hx : l[i]? = some x) (f : α → Nat) : ((l.take (i + 1)).map f).sum = ((l.take i).map f).sum + f x := by
 rw [List.take_add_one, hx]; simp
def OkL (c : Cod) : Prop := CodOk c ∧ ∀ f ∈ c.getD [], lenO f.cd ≤ 2 ^ 50
theorem yhh {E : Env} {md : Go.FuncId → Sb.Mode} {A : List (List Nat)} {k : Nat} {o : ROp} {os : List ROp} {acc : List (Nat × Go.Op × List V × V)} {s : List V} {h g : Heap} {v : V} {K : List V → Heap → Prop} {a0 a1 a2 a3 a4 a5 a6 a7 a8 a9 a10 a11 a12 a13 a14 a15 a16 a17 a18 a19 a20 a21 a22 a23 a24 a25 a26 a27 a28 a29 a30 a31 a32 a33 a34 a35 a36 a37 a38 a39 a40 a41 a42 a43 a44 a45 a46 a47 a48 a49 a50 a51 a52 a53 a54 a55 a56 a57 a58 a59 a60 a61 a62 a63 a64 a65 : V} (hg : o.gd = none) (hop : ∀ K : V → Heap → Prop, K v g → runOp E md o.op s h K) (hk : yai E md o.op = 1) (hs : putT s o.dst v = [a0, a1, a2, a3, a4, a5, a6, a7, a8, a9, a10, a11, a12, a13, a14, a15, a16, a17, a18, a19, a20, a21, a22, a23, a24, a25, a26, a27, a28, a29, a30, a31, a32, a33, a34, a35, a36, a37, a38, a39, a40, a41, a42, a43, a44, a45, a46, a47, a48, a49, a50, a51, a52, a53, a54, a55, a56, a57, a58, a59, a60, a61, a62, a63, a64, a65]) (hn : yaq E md A (k + 1) os ((k, o.op, s, v) :: acc) [a0, a1, a2, a3, a4, a5, a6, a7, a8, a9, a10, a11, a12, a13, a14, a15, a16, a17, a18, a19, a20, a21, a22, a23, a24, a25, a26, a27, a28, a29, a30, a31, a32, a33, a34, a35, a36, a37, a38, a39, a40, a41, a42, a43, a44, a45, a46, a47, a48, a49, a50, a51, a52, a53, a54, a55, a56, a57, a58, a59, a60, a61, a62, a63, a64, a65] g K) : yaq E md A k (o :: os) acc s h K := ykh hg hop hk hs hn
theorem ydm {E : Env} {md : Go.FuncId → Sb.Mode} {A : List (List Nat)} {k : Nat} {o : ROp} {os : List ROp} {acc : List (Nat × Go.Op × List V × V)} {s : List V} {h g : Heap} {v : V} {K : List V → Heap → Prop} {a0 a1 a2 a3 a4 a5 a6 a7 a8 a9 a10 a11 a12 a13 a14 a15 a16 a17 a18 a19 a20 a21 a22 a23 a24 a25 a26 a27 a28 a29 a30 a31 a32 a33 a34 a35 a36 a37 a38 a39 a40 a41 a42 a43 a44 a45 a46 a47 a48 a49 a50 a51 a52 a53 a54 a55 a56 a57 a58 a59 a60 a61 a62 a63 a64 a65 : V} (hg : o.gd = none) (hop : ∀ K : V → Heap → Prop, K v g → runOp E md o.op s h K) (hk : yai E md o.op = 0) (hs : putT s o.dst v = [a0, a1, a2, a3, a4, a5, a6, a7, a8, a9, a10, a11, a12, a13, a14, a15, a16, a17, a18, a19, a20, a21, a22, a23, a24, a25, a26, a27, a28, a29, a30, a31, a32, a33, a34, a35, a36, a37, a38, a39, a40, a41, a42, a43, a44, a45, a46, a47, a48, a49, a50, a51, a52, a53, a54, a55, a56, a57, a58, a59, a60, a61, a62, a63, a64, a65]) (hn : yaq E md A (k + 1) os acc [a0, a1, a2, a3, a4, a5, a6, a7, a8, a9, a10, a11, a12, a13, a14, a15, a16, a17, a18, a19, a20, a21, a22, a23, a24, a25, a26, a27, a28, a29, a30, a31, a32, a33, a34, a35, a36, a37, a38, a39, a40, a41, a42, a43, a44, a45, a46, a47, a48, a49, a50, a51, a52, a53, a54, a55, a56, a57, a58, a59, a60, a61, a62, a63, a64, a65] g K) : yaq E md A k (o :: os) acc s h K := ykg hg hop hk hs hn
theorem ytf {E : Env} {md : Go.FuncId → Sb.Mode} {o : ROp} {os : List ROp} {s : List V} {h : Heap} {K : List V → Heap → Prop} {a0 a1 a2 a3 a4 a5 a6 a7 a8 a9 a10 a11 a12 a13 a14 a15 a16 a17 a18 a19 a20 a21 a22 a23 a24 a25 a26 a27 a28 a29 a30 a31 a32 a33 a34 a35 a36 a37 a38 a39 a40 a41 a42 a43 a44 a45 a46 a47 a48 a49 a50 a51 a52 a53 a54 a55 a56 a57 a58 a59 a60 a61 a62 a63 a64 a65 : V} {t : Go.Tmp} {w b : Bool} (hn : yag E md os [a0, a1, a2, a3, a4, a5, a6, a7, a8, a9, a10, a11, a12, a13, a14, a15, a16, a17, a18, a19, a20, a21, a22, a23, a24, a25, a26, a27, a28, a29, a30, a31, a32, a33, a34, a35, a36, a37, a38, a39, a40, a41, a42, a43, a44, a45, a46, a47, a48, a49, a50, a51, a52, a53, a54, a55, a56, a57, a58, a59, a60, a61, a62, a63, a64, a65] h K) (hg : o.gd = some (t, w) := by rfl) (hb : getT s t = .bool b := by rfl) (hw : b = !w := by rfl) (hs : putT s o.dst und = [a0, a1, a2, a3, a4, a5, a6, a7, a8, a9, a10, a11, a12, a13, a14, a15, a16, a17, a18, a19, a20, a21, a22, a23, a24, a25, a26, a27, a28, a29, a30, a31, a32, a33, a34, a35, a36, a37, a38, a39, a40, a41, a42, a43, a44, a45, a46, a47, a48, a49, a50, a51, a52, a53, a54, a55, a56, a57, a58, a59, a60, a61, a62, a63, a64, a65] := by rfl) : yag E md (o :: os) s h K := yet hg hb hw hs hn
theorem yao {E : Env} {md : Go.FuncId → Sb.Mode} {o : ROp} {os : List ROp} {s : List V} {h g : Heap} {v : V} {K : List V → Heap → Prop} {a0 a1 a2 a3 a4 a5 a6 a7 a8 a9 a10 a11 a12 a13 a14 a15 a16 a17 a18 a19 a20 a21 a22 a23 a24 a25 a26 a27 a28 a29 a30 a31 a32 a33 a34 a35 a36 a37 a38 a39 a40 a41 a42 a43 a44 a45 a46 a47 a48 a49 a50 a51 a52 a53 a54 a55 a56 a57 a58 a59 a60 a61 a62 a63 a64 a65 : V} (hn : yag E md os [a0, a1, a2, a3, a4, a5, a6, a7, a8, a9, a10, a11, a12, a13, a14, a15, a16, a17, a18, a19, a20, a21, a22, a23, a24, a25, a26, a27, a28, a29, a30, a31, a32, a33, a34, a35, a36, a37, a38, a39, a40, a41, a42, a43, a44, a45, a46, a47, a48, a49, a50, a51, a52, a53, a54, a55, a56, a57, a58, a59, a60, a61, a62, a63, a64, a65] g K) (hop : ∀ K : V → Heap → Prop, K v g → runOp E md o.op s h K := by exact fun _ => id) (hg : o.gd = none := by rfl) (hs : putT s o.dst v = [a0, a1, a2, a3, a4, a5, a6, a7, a8, a9, a10, a11, a12, a13, a14, a15, a16, a17, a18, a19, a20, a21, a22, a23, a24, a25, a26, a27, a28, a29, a30, a31, a32, a33, a34, a35, a36, a37, a38, a39, a40, a41, a42, a43, a44, a45, a46, a47, a48, a49, a50, a51, a52, a53, a54, a55, a56, a57, a58, a59, a60, a61, a62, a63, a64, a65] := by rfl) : yag E md (o :: os) s h K := ybe hg hop hs hn
theorem yfk {E : Env} {md : Go.FuncId → Sb.Mode} {o : ROp} {os : List ROp} {s : List V} {h g : Heap} {v : V} {K : List V → Heap → Prop} {a0 a1 a2 a3 a4 a5 a6 a7 a8 a9 a10 a11 a12 a13 a14 a15 a16 a17 a18 a19 a20 a21 a22 a23 a24 a25 a26 a27 a28 a29 a30 a31 a32 a33 a34 a35 a36 a37 a38 a39 a40 a41 a42 a43 a44 a45 a46 a47 a48 a49 a50 a51 a52 a53 a54 a55 a56 a57 a58 a59 a60 a61 a62 a63 a64 a65 : V} {t : Go.Tmp} {w : Bool} (hn : yag E md os [a0, a1, a2, a3, a4, a5, a6, a7, a8, a9, a10, a11, a12, a13, a14, a15, a16, a17, a18, a19, a20, a21, a22, a23, a24, a25, a26, a27, a28, a29, a30, a31, a32, a33, a34, a35, a36, a37, a38, a39, a40, a41, a42, a43, a44, a45, a46, a47, a48, a49, a50, a51, a52, a53, a54, a55, a56, a57, a58, a59, a60, a61, a62, a63, a64, a65] g K) (hop : ∀ K : V → Heap → Prop, K v g → runOp E md o.op s h K := by exact fun _ => id) (hg : o.gd = some (t, w) := by rfl) (hb : getT s t = .bool w := by rfl) (hs : putT s o.dst v = [a0, a1, a2, a3, a4, a5, a6, a7, a8, a9, a10, a11, a12, a13, a14, a15, a16, a17, a18, a19, a20, a21, a22, a23, a24, a25, a26, a27, a28, a29, a30, a31, a32, a33, a34, a35, a36, a37, a38, a39, a40, a41, a42, a43, a44, a45, a46, a47, a48, a49, a50, a51, a52, a53, a54, a55, a56, a57, a58, a59, a60, a61, a62, a63, a64, a65] := by rfl) : yag E md (o :: os) s h K := yes hg hb hop hs hn
set_option maxHeartbeats 8000000 in
theorem yyy (h : Heap) (c : Cod) (hok : OkL c) : ∃ b, Has envQ .own 22 [codV c] h (.val (.bool b) h) ∧ (b = true → partC c ≤ 20000) := by
 suffices hz : ∃ v, Has envQ .own 22 [codV c] h (.val v h) ∧ ∃ b, v = .bool b ∧ (b = true → partC c ≤ 20000) by
  obtain ⟨v, h1, b, rfl, h2⟩ := hz; exact ⟨b, h1, h2⟩
 refine HasP.ownE (a := [codV c]) (d := fn22) (yaf (fz_ag (by simp only [List.all_cons, List.all_nil, yck]; rfl)) yan) rfl rfl (jT rfl) ?_
 show yas (initT _ [.agg [optL 5 fncV c]]) _
 refine jW ?_
 refine jR _ ?_
 refine yao (v := .ptr 0 0 1) (g := [.cells 25 [optL 5 fncV c]]) ?_ (fun K hK => ydu (by simp only [List.all_cons, List.all_nil, yck]; rfl) hK)
 refine yao ?_
 refine jW ?_
 refine jR _ ?_
 refine yao ?_
 refine jW ?_
 refine jR _ ?_
 refine yao ?_
 refine jW ?_
 have hll : lenO c = (c.getD []).length := rfl
 have hc50 := hok.1.1
 refine RunP.loop (sm1I c (c.getD [])) ?_ (c.getD []).length ⟨0, _, _, ⟨⟨Nat.zero_add _, rfl⟩, fun _ => by simp, by omega, rfl⟩, rfl, rfl, rfl, rfl, rfl, rfl⟩
 intro k1 st1 g hI
 obtain ⟨i, z, n, x, ⟨⟨hik, hz⟩, hn, hnb, rfl⟩, rfl⟩ := sm1I_lit hI
 clear hI
 subst hz
 by_cases hi : i < (c.getD []).length
 case neg =>
  have hi : i = (c.getD []).length := by omega
  rw [hi, List.take_length] at hn
  refine jW ?_
  refine jR _ ?_
  iterate 3 (refine yao ?_)
  refine yao ?_ (fun K hK => ybh (f := fncV) rfl rfl hK)
  refine yao ?_ (fun K hK => jI (fun q => absurd q (by rw [hll]; omega)) (fun _ => hK))
  refine yao ?_
  iterate 2 (refine ytf ?_)
  refine yao ?_
  refine jW ?_
  refine jR _ ?_
  refine yao ?_
  refine yao ?_ (fun K hK => cmp2' (R := n ≤ 20000) (fun w => by omega) (fun w => by omega) hK)
  refine yao ?_
  refine jW ?_
  apply jH
  exact ⟨rfl, _, rfl, jO _, _, rfl, fun q => by have := hn (jT q); have := jT q; unfold partC; omega⟩
 by_cases h2 : n ≤ 20000
 case neg =>
  refine jW ?_
  refine jR _ ?_
  iterate 3 (refine yao ?_)
  refine yao ?_ (fun K hK => ybh (f := fncV) rfl rfl hK)
  refine yao ?_ (fun K hK => jI (fun _ => hK) (fun q => absurd q (by rw [hll]; omega)))
  refine yao ?_
  refine yfk ?_
  refine yfk ?_ (fun K hK => jI (fun q => absurd q (by omega)) (fun _ => hK))
  refine yao ?_
  refine jW ?_
  refine jR _ ?_
  refine yao ?_
  refine yao ?_ (fun K hK => jI (fun q => absurd q (by omega)) (fun _ => hK))
  refine yao ?_
  refine jW ?_
  apply jH
  exact ⟨rfl, _, rfl, jO _, _, rfl, fun q => by cases q⟩
 have hn := hn h2
 refine jW ?_
 refine jR _ ?_
 iterate 3 (refine yao ?_)
 refine yao ?_ (fun K hK => ybh (f := fncV) rfl rfl hK)
 refine yao ?_ (fun K hK => jI (fun _ => hK) (fun q => absurd q (by rw [hll]; omega)))
 refine yao ?_
 refine yfk ?_
 refine yfk ?_ (fun K hK => jI (fun _ => hK) (fun q => absurd q (by omega)))
 refine yao ?_
 obtain ⟨L, rfl⟩ : ∃ l', c = some l' := by
  cases c with
  | none => simp at hi
  | some l => exact ⟨l, rfl⟩
 simp only [Option.getD_some] at *
 obtain ⟨f0, hf0⟩ : ∃ y, L[i]? = some y := ⟨_, List.getElem?_eq_getElem hi⟩
 have hmem := List.mem_of_getElem? hf0
 obtain ⟨_, hgl, hII⟩ := hok.1.2 f0 (by simp only [Option.getD_some]; exact hmem)
 have hcl := hok.2 f0 (by simp only [Option.getD_some]; exact hmem)
 have hst := yte hf0 partF
 obtain ⟨nm, q, s, cd, gd⟩ := f0
 simp only at hgl hII hcl
 have hget : (L.map fncV)[((i : Nat) : Int).toNat]? = some (fncV ⟨nm, q, s, cd, gd⟩) := by rw [List.getElem?_map]; simp [hf0]
 refine jW ?_
 refine RunP.drawnR _ (by decide +kernel) (fun _ => rfl) ?_
 refine ydm rfl (fun _ => id) (by decide +kernel) rfl ?_
 refine ydm rfl (fun _ => id) (by decide +kernel) rfl ?_
 refine ydm rfl (fun _ => id) (by decide +kernel) rfl ?_
 refine yhh rfl (fun _ => id) (by decide +kernel) rfl ?_
 refine ydm rfl (fun _ => id) (by decide +kernel) rfl ?_
 refine ydm rfl (fun K hK => jI (by omega) (jI rfl (Exists.intro (fncV ⟨nm, q, s, cd, gd⟩) (jI hget hK)))) (by decide +kernel) rfl ?_
 refine ydm rfl (fun _ => id) (by decide +kernel) rfl ?_
 refine yhh rfl (fun _ => id) (by decide +kernel) rfl ?_
 refine yhh rfl (fun K hK => ybh (f := insV) rfl rfl hK) (by decide +kernel) rfl ?_
 refine ydm rfl (fun _ => id) (by decide +kernel) rfl ?_
 refine ydm rfl (fun _ => id) (by decide +kernel) rfl ?_
 refine yhh rfl (fun _ => id) (by decide +kernel) rfl ?_
 refine ydm rfl (fun _ => id) (by decide +kernel) rfl ?_
 refine ydm rfl (fun K hK => jI (by omega) (jI rfl (Exists.intro (fncV ⟨nm, q, s, cd, gd⟩) (jI hget hK)))) (by decide +kernel) rfl ?_
 refine ydm rfl (fun _ => id) (by decide +kernel) rfl ?_
 refine yhh rfl (fun _ => id) (by decide +kernel) rfl ?_
 refine yhh rfl (fun K hK => ybh (f := grdV) rfl rfl hK) (by decide +kernel) rfl ?_
 refine ydm rfl (fun _ => id) (by decide +kernel) rfl ?_
 refine ydm rfl (fun _ => id) (by decide +kernel) rfl ?_
 have e3 : IntKind.i64.wrap (IntKind.i64.wrap (IntKind.i64.wrap (n + 1) + (lenO cd : Int)) + (lenO gd : Int)) = n + 1 + lenO cd + lenO gd := by
  rw [wrapS (x := n + 1) (by omega) (by omega), wrapS (x := n + 1 + (lenO cd : Int)) (by omega) (by omega), wrapS (by omega) (by omega)]
 refine jW ?_
 refine jR _ ?_
 refine yao ?_
 refine jW ?_
 refine RunP.loop (sm2I (some L) (cd.getD []) i ((((L.take i).map partF).sum) + 1 + lenO cd + lenO gd)) ?_ (cd.getD []).length ⟨0, _, _, ⟨⟨Nat.zero_add _, rfl⟩, fun _ => by rw [e3, hn]; simp only [List.take_zero, List.map_nil, List.sum_nil]; omega, by rw [e3]; omega, rfl⟩, rfl, rfl, rfl, rfl, rfl, rfl, rfl⟩
 intro k2 st2 g2 hI
 obtain ⟨j, z, m, x2, ⟨⟨hjk, hz⟩, hm, hmb, rfl⟩, rfl⟩ := sm2I_lit hI
 clear hI
 subst hz
 have hcll : lenO cd = (cd.getD []).length := rfl
 have hget : (L.map fncV)[((i : Nat) : Int).toNat]? = some (fncV ⟨nm, q, s, cd, gd⟩) := by rw [List.getElem?_map]; simp [hf0]
 by_cases hj : j < (cd.getD []).length ∧ m ≤ 20000
 case neg =>
  have hfin : ∀ (b : Bool), b = false → True := fun _ _ => trivial
  have hout : m ≤ 20000 → m = ((((L.take (i + 1)).map partF).sum : Nat) : Int) := fun w => by
   have hj' : j = (cd.getD []).length := by omega
   have := hm w
   rw [hj', List.take_length] at this
   rw [this, hst]
   unfold partF
   simp only
   omega
  by_cases hj1 : j < (cd.getD []).length
  ·repeat first|apply jZ|apply jA
   refine jR _ ?_
   iterate 4 (refine yao ?_)
   refine yao ?_ (fun K hK => jI (by omega) (jI rfl (Exists.intro (fncV ⟨nm, q, s, cd, gd⟩) (jI hget hK))))
   iterate 2 (refine yao ?_)
   refine yao ?_ (fun K hK => ybh (f := insV) rfl rfl hK)
   refine yao ?_ (fun K hK => jI (fun _ => hK) (fun q => absurd q (by rw [hcll]; omega)))
   refine yao ?_
   refine yfk ?_
   refine yfk ?_ (fun K hK => jI (fun q => absurd q (by omega)) (fun _ => hK))
   refine yao ?_
   refine jW ?_
   refine jR _ ?_
   iterate 3 (refine yao ?_)
   exact ⟨k1 - 1, by omega, i + 1, _, _, ⟨⟨by (try simp only [Option.getD_some]); omega, ycp i (by omega)⟩, hout, hmb, rfl⟩, rfl, rfl, rfl, rfl, rfl, rfl⟩
  ·repeat first|apply jZ|apply jA
   refine jR _ ?_
   iterate 4 (refine yao ?_)
   refine yao ?_ (fun K hK => jI (by omega) (jI rfl (Exists.intro (fncV ⟨nm, q, s, cd, gd⟩) (jI hget hK))))
   iterate 2 (refine yao ?_)
   refine yao ?_ (fun K hK => ybh (f := insV) rfl rfl hK)
   refine yao ?_ (fun K hK => jI (fun q => absurd q (by rw [hcll]; omega)) (fun _ => hK))
   refine yao ?_
   iterate 2 (refine ytf ?_)
   refine yao ?_
   refine jW ?_
   refine jR _ ?_
   iterate 3 (refine yao ?_)
   exact ⟨k1 - 1, by omega, i + 1, _, _, ⟨⟨by (try simp only [Option.getD_some]); omega, ycp i (by omega)⟩, hout, hmb, rfl⟩, rfl, rfl, rfl, rfl, rfl, rfl⟩
 obtain ⟨hj, hm2⟩ := hj
 have hm := hm hm2
 refine jW ?_
 refine jR _ ?_
 iterate 4 (refine yao ?_)
 refine yao ?_ (fun K hK => jI (by omega) (jI rfl (Exists.intro (fncV ⟨nm, q, s, cd, gd⟩) (jI hget hK))))
 iterate 2 (refine yao ?_)
 refine yao ?_ (fun K hK => ybh (f := insV) rfl rfl hK)
 refine yao ?_ (fun K hK => jI (fun _ => hK) (fun q => absurd q (by rw [hcll]; omega)))
 refine yao ?_
 refine yfk ?_
 refine yfk ?_ (fun K hK => jI (fun _ => hK) (fun q => absurd q (by omega)))
 refine yao ?_
 obtain ⟨cdl, rfl⟩ : ∃ l', cd = some l' := by
  cases cd with
  | none => simp at hj
  | some l => exact ⟨l, rfl⟩
 simp only [Option.getD_some] at *
 obtain ⟨x0, hx0⟩ : ∃ y, cdl[j]? = some y := ⟨_, List.getElem?_eq_getElem hj⟩
 have hxl := (hII x0 (List.mem_of_getElem? hx0)).1
 have hst2 := yte hx0 (fun x => lenO x.l)
 obtain ⟨op, a, b, cc, kd, nn, tx, l⟩ := x0
 simp only at hxl hst2
 refine jW ?_
 refine jR _ ?_
 iterate 4 (refine yao ?_)
 refine yao ?_ (fun K hK => jI (by omega) (jI rfl (Exists.intro (fncV ⟨nm, q, s, some cdl, gd⟩) (jI hget hK))))
 iterate 3 (refine yao ?_)
 refine yao ?_ (fun K hK => jI (by omega) (jI rfl (Exists.intro (insV ⟨op, a, b, cc, kd, nn, tx, l⟩) (jI (by rw [List.getElem?_map]; simp [hx0]) hK))))
 iterate 2 (refine yao ?_)
 refine yao ?_ (fun K hK => ybh (f := intV) rfl rfl hK)
 iterate 2 (refine yao ?_)
 refine jW ?_
 refine jR _ ?_
 iterate 3 (refine yao ?_)
 have e4 : IntKind.i64.wrap (m + (lenO l : Int)) = m + lenO l := wrapS (by omega) (by omega)
 exact ⟨k2 - 1, by omega, j + 1, _, _, ⟨⟨by omega, ycp j (by omega)⟩, fun _ => by rw [e4, hm, hst2]; omega, by rw [e4]; omega, rfl⟩, rfl, rfl, rfl, rfl, rfl, rfl, rfl⟩
end Go.Proofs.YtekmafoicobphaaGreatDoor
