/- The reference's Number: what it answers of the text of a number. -/
import Derived.Test.YtkjhnpmgieplgaaGreatDoorSbRead3
import Derived.Test.YtkjhnpmgieplgaaGreatDoorSbEvalShows
set_option linter.unusedVariables false
set_option linter.unusedSimpArgs false
namespace Go.Proofs.YtkjhnpmgieplgaaGreatDoor
open Go.Sb
set_option maxRecDepth 100000

theorem ops_nlNa {E : Env} {md : Go.FuncId → Sb.Mode} {o : ROp} {os : List ROp} {s : List V} {h : Heap} {K : List V → Heap → Prop} {a0 a1 a2 a3 a4 a5 a6 a7 a8 a9 a10 a11 a12 a13 a14 a15 a16 a17 a18 a19 a20 a21 a22 a23 a24 a25 a26 a27 a28 a29 a30 a31 a32 a33 a34 a35 a36 a37 a38 a39 a40 a41 a42 a43 a44 a45 a46 a47 a48 a49 a50 a51 a52 a53 a54 a55 a56 a57 a58 a59 a60 a61 a62 a63 a64 a65 a66 a67 a68 a69 a70 a71 a72 a73 : V} {t : Go.Tmp} {w b : Bool} (hg : o.gd = some (t, w)) (hb : getT s t = .bool b) (hw : b = !w) (hs : putT s o.dst und = [a0, a1, a2, a3, a4, a5, a6, a7, a8, a9, a10, a11, a12, a13, a14, a15, a16, a17, a18, a19, a20, a21, a22, a23, a24, a25, a26, a27, a28, a29, a30, a31, a32, a33, a34, a35, a36, a37, a38, a39, a40, a41, a42, a43, a44, a45, a46, a47, a48, a49, a50, a51, a52, a53, a54, a55, a56, a57, a58, a59, a60, a61, a62, a63, a64, a65, a66, a67, a68, a69, a70, a71, a72, a73]) (hn : runOps E md os [a0, a1, a2, a3, a4, a5, a6, a7, a8, a9, a10, a11, a12, a13, a14, a15, a16, a17, a18, a19, a20, a21, a22, a23, a24, a25, a26, a27, a28, a29, a30, a31, a32, a33, a34, a35, a36, a37, a38, a39, a40, a41, a42, a43, a44, a45, a46, a47, a48, a49, a50, a51, a52, a53, a54, a55, a56, a57, a58, a59, a60, a61, a62, a63, a64, a65, a66, a67, a68, a69, a70, a71, a72, a73] h K) : runOps E md (o :: os) s h K := ops_nl hg hb hw hs hn
theorem ops_slNa {E : Env} {md : Go.FuncId → Sb.Mode} {o : ROp} {os : List ROp} {s : List V} {h g : Heap} {v : V} {K : List V → Heap → Prop} {a0 a1 a2 a3 a4 a5 a6 a7 a8 a9 a10 a11 a12 a13 a14 a15 a16 a17 a18 a19 a20 a21 a22 a23 a24 a25 a26 a27 a28 a29 a30 a31 a32 a33 a34 a35 a36 a37 a38 a39 a40 a41 a42 a43 a44 a45 a46 a47 a48 a49 a50 a51 a52 a53 a54 a55 a56 a57 a58 a59 a60 a61 a62 a63 a64 a65 a66 a67 a68 a69 a70 a71 a72 a73 : V} (hg : o.gd = none) (hop : ∀ K : V → Heap → Prop, K v g → runOp E md o.op s h K) (hs : putT s o.dst v = [a0, a1, a2, a3, a4, a5, a6, a7, a8, a9, a10, a11, a12, a13, a14, a15, a16, a17, a18, a19, a20, a21, a22, a23, a24, a25, a26, a27, a28, a29, a30, a31, a32, a33, a34, a35, a36, a37, a38, a39, a40, a41, a42, a43, a44, a45, a46, a47, a48, a49, a50, a51, a52, a53, a54, a55, a56, a57, a58, a59, a60, a61, a62, a63, a64, a65, a66, a67, a68, a69, a70, a71, a72, a73]) (hn : runOps E md os [a0, a1, a2, a3, a4, a5, a6, a7, a8, a9, a10, a11, a12, a13, a14, a15, a16, a17, a18, a19, a20, a21, a22, a23, a24, a25, a26, a27, a28, a29, a30, a31, a32, a33, a34, a35, a36, a37, a38, a39, a40, a41, a42, a43, a44, a45, a46, a47, a48, a49, a50, a51, a52, a53, a54, a55, a56, a57, a58, a59, a60, a61, a62, a63, a64, a65, a66, a67, a68, a69, a70, a71, a72, a73] g K) : runOps E md (o :: os) s h K := ops_sl hg hop hs hn
theorem ops_ulNa {E : Env} {md : Go.FuncId → Sb.Mode} {o : ROp} {os : List ROp} {s : List V} {h : Heap} {K : List V → Heap → Prop} {a0 a1 a2 a3 a4 a5 a6 a7 a8 a9 a10 a11 a12 a13 a14 a15 a16 a17 a18 a19 a20 a21 a22 a23 a24 a25 a26 a27 a28 a29 a30 a31 a32 a33 a34 a35 a36 a37 a38 a39 a40 a41 a42 a43 a44 a45 a46 a47 a48 a49 a50 a51 a52 a53 a54 a55 a56 a57 a58 a59 a60 a61 a62 a63 a64 a65 a66 a67 a68 a69 a70 a71 a72 a73 : V} {t : Go.Tmp} {w : Bool} (hg : o.gd = some (t, w)) (hb : getT s t = .tup []) (hs : putT s o.dst und = [a0, a1, a2, a3, a4, a5, a6, a7, a8, a9, a10, a11, a12, a13, a14, a15, a16, a17, a18, a19, a20, a21, a22, a23, a24, a25, a26, a27, a28, a29, a30, a31, a32, a33, a34, a35, a36, a37, a38, a39, a40, a41, a42, a43, a44, a45, a46, a47, a48, a49, a50, a51, a52, a53, a54, a55, a56, a57, a58, a59, a60, a61, a62, a63, a64, a65, a66, a67, a68, a69, a70, a71, a72, a73]) (hn : runOps E md os [a0, a1, a2, a3, a4, a5, a6, a7, a8, a9, a10, a11, a12, a13, a14, a15, a16, a17, a18, a19, a20, a21, a22, a23, a24, a25, a26, a27, a28, a29, a30, a31, a32, a33, a34, a35, a36, a37, a38, a39, a40, a41, a42, a43, a44, a45, a46, a47, a48, a49, a50, a51, a52, a53, a54, a55, a56, a57, a58, a59, a60, a61, a62, a63, a64, a65, a66, a67, a68, a69, a70, a71, a72, a73] h K) : runOps E md (o :: os) s h K := ops_ul hg hb hs hn
theorem ops_ylNa {E : Env} {md : Go.FuncId → Sb.Mode} {o : ROp} {os : List ROp} {s : List V} {h g : Heap} {v : V} {K : List V → Heap → Prop} {a0 a1 a2 a3 a4 a5 a6 a7 a8 a9 a10 a11 a12 a13 a14 a15 a16 a17 a18 a19 a20 a21 a22 a23 a24 a25 a26 a27 a28 a29 a30 a31 a32 a33 a34 a35 a36 a37 a38 a39 a40 a41 a42 a43 a44 a45 a46 a47 a48 a49 a50 a51 a52 a53 a54 a55 a56 a57 a58 a59 a60 a61 a62 a63 a64 a65 a66 a67 a68 a69 a70 a71 a72 a73 : V} {t : Go.Tmp} {w : Bool} (hg : o.gd = some (t, w)) (hb : getT s t = .bool w) (hop : ∀ K : V → Heap → Prop, K v g → runOp E md o.op s h K) (hs : putT s o.dst v = [a0, a1, a2, a3, a4, a5, a6, a7, a8, a9, a10, a11, a12, a13, a14, a15, a16, a17, a18, a19, a20, a21, a22, a23, a24, a25, a26, a27, a28, a29, a30, a31, a32, a33, a34, a35, a36, a37, a38, a39, a40, a41, a42, a43, a44, a45, a46, a47, a48, a49, a50, a51, a52, a53, a54, a55, a56, a57, a58, a59, a60, a61, a62, a63, a64, a65, a66, a67, a68, a69, a70, a71, a72, a73]) (hn : runOps E md os [a0, a1, a2, a3, a4, a5, a6, a7, a8, a9, a10, a11, a12, a13, a14, a15, a16, a17, a18, a19, a20, a21, a22, a23, a24, a25, a26, a27, a28, a29, a30, a31, a32, a33, a34, a35, a36, a37, a38, a39, a40, a41, a42, a43, a44, a45, a46, a47, a48, a49, a50, a51, a52, a53, a54, a55, a56, a57, a58, a59, a60, a61, a62, a63, a64, a65, a66, a67, a68, a69, a70, a71, a72, a73] g K) : runOps E md (o :: os) s h K := ops_yl hg hb hop hs hn

/-- What is asked of Number. -/
def NumOk (S : List UInt8) (n : Int) (ok : Bool) : Prop := ∀ m : Int, -9223372036854775808 ≤ m → m ≤ 9223372036854775807 → S = Lib.itoa m → ok = true ∧ n = m
/-- A sign, and digits. -/
def SplitN (S : List UInt8) (neg : Bool) (w : List UInt8) : Prop := S = (if neg = true then 45 :: w else w) ∧ (neg = false → w.head? ≠ some 45)
theorem splitN {S w : List UInt8} {neg : Bool} (h : SplitN S neg w) {m : Int} (hm : S = Lib.itoa m) : w = Lib.decDigits m.natAbs ∧ (neg = true ↔ m < 0) := by
  obtain ⟨h1, h2⟩ := h
  rw [hm] at h1
  unfold Lib.itoa at h1
  have hb : ∀ k, (45 : UInt8) ∉ Lib.decDigits k := fun k hk => by
    have := dec_bytes k 45 hk
    exact absurd this (by decide)
  by_cases h0 : m < 0
  · rw [if_pos h0] at h1
    cases neg with
    | true =>
      rw [if_pos rfl] at h1
      exact ⟨(List.cons.inj h1).2.symm, by simp [h0]⟩
    | false =>
      rw [if_neg (by decide)] at h1
      exact absurd (by rw [← h1]; rfl) (h2 rfl)
  · rw [if_neg h0] at h1
    have e : m.toNat = m.natAbs := by omega
    rw [e] at h1
    cases neg with
    | true =>
      rw [if_pos rfl] at h1
      exact absurd (by rw [h1]; exact List.mem_cons_self ..) (hb m.natAbs)
    | false =>
      rw [if_neg (by decide)] at h1
      exact ⟨h1.symm, by simp; omega⟩
theorem digs {w : List UInt8} {k : Nat} (h : w = Lib.decDigits k) (hk : k ≤ 9223372036854775808) : 1 ≤ w.length ∧ w.length ≤ 19 ∧ decPre w = k ∧ (∀ c ∈ w, 48 ≤ c.toNat ∧ c.toNat ≤ 57) ∧ (w.head? = some 48 → k = 0 ∧ w.length = 1) := by
  subst h
  refine ⟨?_, dec_len 18 k (by omega), decPre_dec k, dec_bytes k, fun h => ?_⟩
  · have := dec_ne k
    cases hd : Lib.decDigits k with
    | nil => exact absurd hd this
    | cons a t => simp
  · by_cases h1 : 1 ≤ k
    · exact absurd h (Lex.dec_head k h1)
    · have : k = 0 := by omega
      subst this
      have q1 := dec_len 0 0 (by omega)
      have q2 := dec_ne 0
      refine ⟨rfl, ?_⟩
      cases hd : Lib.decDigits 0 with
      | nil => exact absurd hd q2
      | cons a t => rw [hd] at q1; simp only [List.length_cons] at q1 ⊢; omega
theorem no_num {S w : List UInt8} {neg : Bool} {n : Int} {ok : Bool} (h : SplitN S neg w) (hno : ∀ k : Nat, k ≤ 9223372036854775808 → (neg = true → 1 ≤ k) → w = Lib.decDigits k → False) : NumOk S n ok := fun m h1 h2 h3 => by
  obtain ⟨e1, e2⟩ := splitN h h3
  exact (hno m.natAbs (by omega) (fun q => by have := e2.1 q; omega) e1).elim
theorem is_num {S w : List UInt8} {neg : Bool} {n : Int} {ok : Bool} (h : SplitN S neg w) (hy : (decPre w ≤ 9223372036854775808 → neg = true → ok = true ∧ n = -(decPre w : Int)) ∧ (decPre w ≤ 9223372036854775807 → neg = false → ok = true ∧ n = (decPre w : Int))) : NumOk S n ok := fun m h1 h2 h3 => by
  obtain ⟨e1, e2⟩ := splitN h h3
  have hp := (digs e1 (by omega)).2.2.1
  cases neg with
  | true =>
    have := e2.1 rfl
    obtain ⟨q1, q2⟩ := hy.1 (by omega) rfl
    exact ⟨q1, by omega⟩
  | false =>
    have : ¬ m < 0 := fun q => by have := e2.2 q; cases this
    obtain ⟨q1, q2⟩ := hy.2 (by omega) rfl
    exact ⟨q1, by omega⟩
theorem dec_lt10 : ∀ (n : Nat) (l : List UInt8), l.length = n → (∀ c ∈ l, 48 ≤ c.toNat ∧ c.toNat ≤ 57) → decPre l < 10 ^ n
  | 0, l, hl, _ => by rw [List.length_eq_zero_iff.1 hl]; decide
  | n + 1, l, hl, h => by
    have hne : l ≠ [] := fun e => by rw [e] at hl; cases hl
    have e := List.dropLast_concat_getLast hne
    have h1 := dec_lt10 n l.dropLast (by rw [List.length_dropLast, hl]; rfl) fun c hc => h c ((List.dropLast_sublist l).subset hc)
    have h2 := h _ (List.getLast_mem hne)
    rw [← e, decPre_snoc, Nat.pow_succ]
    omega
def nuA (S : Bs) (k : Nat) (s : List V) (h : Heap) : Prop :=
  ∃ (w : Bs) (neg : Bool), (SplitN S neg w ∧ w.length ≤ 9223372036854775807 ∧ h = []) ∧ s.length = 74 ∧ s.getD 0 und = und ∧ s.getD 1 und = .str w ∧ s.getD 5 und = .bool neg
theorem nuA_lit {S : Bs} {k : Nat} {s : List V} {h : Heap} (hI : nuA S k s h) : ∃ (w : Bs) (neg : Bool) (x : Nat → V), (SplitN S neg w ∧ w.length ≤ 9223372036854775807 ∧ h = []) ∧
    s = [und, .str w, x 2, x 3, x 4, .bool neg, x 6, x 7, x 8, x 9, x 10, x 11, x 12, x 13, x 14, x 15, x 16, x 17, x 18, x 19, x 20, x 21, x 22, x 23, x 24, x 25, x 26, x 27, x 28, x 29, x 30, x 31, x 32, x 33, x 34, x 35, x 36, x 37, x 38, x 39, x 40, x 41, x 42, x 43, x 44, x 45, x 46, x 47, x 48, x 49, x 50, x 51, x 52, x 53, x 54, x 55, x 56, x 57, x 58, x 59, x 60, x 61, x 62, x 63, x 64, x 65, x 66, x 67, x 68, x 69, x 70, x 71, x 72, x 73] := by
  obtain ⟨w, neg, hF, hl, e0, e1, e5⟩ := hI
  refine ⟨w, neg, fun n => s.getD n und, hF, (lit_of hl).trans ?_⟩
  show [s.getD 0 und, s.getD 1 und, s.getD 2 und, s.getD 3 und, s.getD 4 und, s.getD 5 und, s.getD 6 und, s.getD 7 und, s.getD 8 und, s.getD 9 und, s.getD 10 und, s.getD 11 und, s.getD 12 und, s.getD 13 und, s.getD 14 und, s.getD 15 und, s.getD 16 und, s.getD 17 und, s.getD 18 und, s.getD 19 und, s.getD 20 und, s.getD 21 und, s.getD 22 und, s.getD 23 und, s.getD 24 und, s.getD 25 und, s.getD 26 und, s.getD 27 und, s.getD 28 und, s.getD 29 und, s.getD 30 und, s.getD 31 und, s.getD 32 und, s.getD 33 und, s.getD 34 und, s.getD 35 und, s.getD 36 und, s.getD 37 und, s.getD 38 und, s.getD 39 und, s.getD 40 und, s.getD 41 und, s.getD 42 und, s.getD 43 und, s.getD 44 und, s.getD 45 und, s.getD 46 und, s.getD 47 und, s.getD 48 und, s.getD 49 und, s.getD 50 und, s.getD 51 und, s.getD 52 und, s.getD 53 und, s.getD 54 und, s.getD 55 und, s.getD 56 und, s.getD 57 und, s.getD 58 und, s.getD 59 und, s.getD 60 und, s.getD 61 und, s.getD 62 und, s.getD 63 und, s.getD 64 und, s.getD 65 und, s.getD 66 und, s.getD 67 und, s.getD 68 und, s.getD 69 und, s.getD 70 und, s.getD 71 und, s.getD 72 und, s.getD 73 und] = _
  rw [e0, e1, e5]
def nuB (S : Bs) (k : Nat) (s : List V) (h : Heap) : Prop :=
  ∃ (w : Bs) (neg : Bool), (SplitN S neg w ∧ w.length ≤ 19 ∧ h = []) ∧ s.length = 74 ∧ s.getD 0 und = und ∧ s.getD 1 und = .str w ∧ s.getD 5 und = .bool neg
theorem nuB_lit {S : Bs} {k : Nat} {s : List V} {h : Heap} (hI : nuB S k s h) : ∃ (w : Bs) (neg : Bool) (x : Nat → V), (SplitN S neg w ∧ w.length ≤ 19 ∧ h = []) ∧
    s = [und, .str w, x 2, x 3, x 4, .bool neg, x 6, x 7, x 8, x 9, x 10, x 11, x 12, x 13, x 14, x 15, x 16, x 17, x 18, x 19, x 20, x 21, x 22, x 23, x 24, x 25, x 26, x 27, x 28, x 29, x 30, x 31, x 32, x 33, x 34, x 35, x 36, x 37, x 38, x 39, x 40, x 41, x 42, x 43, x 44, x 45, x 46, x 47, x 48, x 49, x 50, x 51, x 52, x 53, x 54, x 55, x 56, x 57, x 58, x 59, x 60, x 61, x 62, x 63, x 64, x 65, x 66, x 67, x 68, x 69, x 70, x 71, x 72, x 73] := by
  obtain ⟨w, neg, hF, hl, e0, e1, e5⟩ := hI
  refine ⟨w, neg, fun n => s.getD n und, hF, (lit_of hl).trans ?_⟩
  show [s.getD 0 und, s.getD 1 und, s.getD 2 und, s.getD 3 und, s.getD 4 und, s.getD 5 und, s.getD 6 und, s.getD 7 und, s.getD 8 und, s.getD 9 und, s.getD 10 und, s.getD 11 und, s.getD 12 und, s.getD 13 und, s.getD 14 und, s.getD 15 und, s.getD 16 und, s.getD 17 und, s.getD 18 und, s.getD 19 und, s.getD 20 und, s.getD 21 und, s.getD 22 und, s.getD 23 und, s.getD 24 und, s.getD 25 und, s.getD 26 und, s.getD 27 und, s.getD 28 und, s.getD 29 und, s.getD 30 und, s.getD 31 und, s.getD 32 und, s.getD 33 und, s.getD 34 und, s.getD 35 und, s.getD 36 und, s.getD 37 und, s.getD 38 und, s.getD 39 und, s.getD 40 und, s.getD 41 und, s.getD 42 und, s.getD 43 und, s.getD 44 und, s.getD 45 und, s.getD 46 und, s.getD 47 und, s.getD 48 und, s.getD 49 und, s.getD 50 und, s.getD 51 und, s.getD 52 und, s.getD 53 und, s.getD 54 und, s.getD 55 und, s.getD 56 und, s.getD 57 und, s.getD 58 und, s.getD 59 und, s.getD 60 und, s.getD 61 und, s.getD 62 und, s.getD 63 und, s.getD 64 und, s.getD 65 und, s.getD 66 und, s.getD 67 und, s.getD 68 und, s.getD 69 und, s.getD 70 und, s.getD 71 und, s.getD 72 und, s.getD 73 und] = _
  rw [e0, e1, e5]
def nuL (w : Bs) (neg : Bool) (k : Nat) (s : List V) (h : Heap) : Prop :=
  ∃ (i : Nat) (z u : Int), (i + k = w.length ∧ z = i ∧ u = decPre (w.take i) ∧ (∀ c ∈ w.take i, 48 ≤ c.toNat ∧ c.toNat ≤ 57) ∧ h = []) ∧ s.length = 74 ∧ s.getD 0 und = und ∧ s.getD 1 und = .str w ∧ s.getD 5 und = .bool neg ∧ s.getD 6 und = .int .u64 u ∧ s.getD 7 und = .int .i64 z
theorem nuL_lit {w : Bs} {neg : Bool} {k : Nat} {s : List V} {h : Heap} (hI : nuL w neg k s h) : ∃ (i : Nat) (z u : Int) (x : Nat → V), (i + k = w.length ∧ z = i ∧ u = decPre (w.take i) ∧ (∀ c ∈ w.take i, 48 ≤ c.toNat ∧ c.toNat ≤ 57) ∧ h = []) ∧
    s = [und, .str w, x 2, x 3, x 4, .bool neg, .int .u64 u, .int .i64 z, x 8, x 9, x 10, x 11, x 12, x 13, x 14, x 15, x 16, x 17, x 18, x 19, x 20, x 21, x 22, x 23, x 24, x 25, x 26, x 27, x 28, x 29, x 30, x 31, x 32, x 33, x 34, x 35, x 36, x 37, x 38, x 39, x 40, x 41, x 42, x 43, x 44, x 45, x 46, x 47, x 48, x 49, x 50, x 51, x 52, x 53, x 54, x 55, x 56, x 57, x 58, x 59, x 60, x 61, x 62, x 63, x 64, x 65, x 66, x 67, x 68, x 69, x 70, x 71, x 72, x 73] := by
  obtain ⟨i, z, u, hF, hl, e0, e1, e5, e6, e7⟩ := hI
  refine ⟨i, z, u, fun n => s.getD n und, hF, (lit_of hl).trans ?_⟩
  show [s.getD 0 und, s.getD 1 und, s.getD 2 und, s.getD 3 und, s.getD 4 und, s.getD 5 und, s.getD 6 und, s.getD 7 und, s.getD 8 und, s.getD 9 und, s.getD 10 und, s.getD 11 und, s.getD 12 und, s.getD 13 und, s.getD 14 und, s.getD 15 und, s.getD 16 und, s.getD 17 und, s.getD 18 und, s.getD 19 und, s.getD 20 und, s.getD 21 und, s.getD 22 und, s.getD 23 und, s.getD 24 und, s.getD 25 und, s.getD 26 und, s.getD 27 und, s.getD 28 und, s.getD 29 und, s.getD 30 und, s.getD 31 und, s.getD 32 und, s.getD 33 und, s.getD 34 und, s.getD 35 und, s.getD 36 und, s.getD 37 und, s.getD 38 und, s.getD 39 und, s.getD 40 und, s.getD 41 und, s.getD 42 und, s.getD 43 und, s.getD 44 und, s.getD 45 und, s.getD 46 und, s.getD 47 und, s.getD 48 und, s.getD 49 und, s.getD 50 und, s.getD 51 und, s.getD 52 und, s.getD 53 und, s.getD 54 und, s.getD 55 und, s.getD 56 und, s.getD 57 und, s.getD 58 und, s.getD 59 und, s.getD 60 und, s.getD 61 und, s.getD 62 und, s.getD 63 und, s.getD 64 und, s.getD 65 und, s.getD 66 und, s.getD 67 und, s.getD 68 und, s.getD 69 und, s.getD 70 und, s.getD 71 und, s.getD 72 und, s.getD 73 und] = _
  rw [e0, e1, e5, e6, e7]

theorem wrapN {u : Nat} (h : u ≤ 9223372036854775808) : IntKind.i64.wrap (IntKind.u64.wrap (0 - (u : Int))) = -(u : Int) := by
  simp [IntKind.wrap, IntKind.signed, IntKind.bits]; omega
theorem wrapP {u : Nat} (h : u ≤ 9223372036854775807) : IntKind.i64.wrap (u : Int) = (u : Int) := by
  simp [IntKind.wrap, IntKind.signed, IntKind.bits]; omega
abbrev NumQ (S : List UInt8) : Ex → List V → Heap → Prop := (endK envQ fn54 fun v' h' => ∃ v, fz envQ h' depthF v' = some v ∧ (V.norefs [.str S] || v.flat) = true ∧ ∃ n ok, v = .tup [.int .i64 n, .bool ok] ∧ NumOk S n ok)
set_option maxHeartbeats 4000000 in
theorem num_loop {S : List UInt8} {st : List V} {h : Heap} (hI : nuB S 0 st h) : RunP envQ fn54.md (sndC (sndC (sndC (sndC fn54.body)))) st h (NumQ S) := by
  obtain ⟨w, neg, x, ⟨hsp, hwl, rfl⟩, rfl⟩ := nuB_lit hI
  clear hI
  apply RunP.seq
  refine RunP.regionR _ (fun K => rfl) ?_
  refine ops_slNa rfl (fun K hK => hK) rfl ?_
  apply RunP.seq
  apply RunP.seq
  refine RunP.regionR _ (fun K => rfl) ?_
  refine ops_slNa rfl (fun K hK => hK) rfl ?_
  apply RunP.block
  refine RunP.loop (nuL w neg) ?_ w.length ⟨0, 0, 0, ⟨by omega, rfl, rfl, by simp, rfl⟩, rfl, rfl, rfl, rfl, rfl, rfl⟩
  intro k st h hI
  obtain ⟨i, z, u, x, ⟨hik, rfl, rfl, hall, rfl⟩, rfl⟩ := nuL_lit hI
  clear hI
  repeat (first | apply RunP.seq | apply RunP.condT rfl | apply RunP.condF rfl | apply RunP.skip | apply RunP.block | apply RunP.exit | apply RunP.ret)
  by_cases hi : (i : Int) < (w.length : Int)
  · obtain ⟨c, hc⟩ : ∃ c, w[(i : Int).toNat]? = some c := ⟨_, List.getElem?_eq_getElem (by show i < w.length; omega)⟩
    have hc' : w[i]? = some c := hc
    have hcl : c.toNat < 256 := c.toNat_lt
    refine RunP.regionR _ (fun K => rfl) ?_
    refine ops_slNa rfl (fun K hK => hK) rfl ?_
    refine ops_slNa rfl (fun K hK => hK) rfl ?_
    refine ops_slNa rfl (fun K hK => hK) rfl ?_
    refine ops_slNa rfl (fun K hK => And.intro (fun _ => hK) (fun q => absurd hi (Int.not_lt.2 q))) rfl ?_
    repeat (first | apply RunP.seq | apply RunP.condT rfl | apply RunP.condF rfl | apply RunP.skip | apply RunP.block | apply RunP.exit | apply RunP.ret)
    by_cases hlo : (c.toNat : Int) < 48
    · have hno : NumOk S 0 false := no_num hsp fun k hk _ he => by have := (digs he hk).2.2.2.1 c (List.mem_of_getElem? hc'); omega
      refine RunP.regionR _ (fun K => rfl) ?_
      refine ops_slNa rfl (fun K hK => hK) rfl ?_
      refine ops_slNa rfl (fun K hK => hK) rfl ?_
      refine ops_slNa rfl (fun K hK => And.intro (Int.natCast_nonneg i) ⟨c, hc, hK⟩) rfl ?_
      refine ops_slNa rfl (fun K hK => And.intro (fun _ => hK) (fun q => absurd hlo (Int.not_lt.2 q))) rfl ?_
      refine ops_slNa rfl (fun K hK => hK) rfl ?_
      refine ops_nlNa rfl rfl rfl rfl ?_
      refine ops_nlNa rfl rfl rfl rfl ?_
      refine ops_nlNa rfl rfl rfl rfl ?_
      refine ops_nlNa rfl rfl rfl rfl ?_
      refine ops_slNa rfl (fun K hK => hK) rfl ?_
      repeat (first | apply RunP.seq | apply RunP.condT rfl | apply RunP.condF rfl | apply RunP.skip | apply RunP.block | apply RunP.exit | apply RunP.ret)
      refine RunP.regionR _ (fun K => rfl) ?_
      refine ops_slNa rfl (fun K hK => hK) rfl ?_
      refine ops_slNa rfl (fun K hK => hK) rfl ?_
      repeat (first | apply RunP.seq | apply RunP.condT rfl | apply RunP.condF rfl | apply RunP.skip | apply RunP.block | apply RunP.exit | apply RunP.ret)
      exact ⟨rfl, _, rfl, rfl, 0, false, rfl, hno⟩
    · by_cases hhi : (57 : Int) < (c.toNat : Int)
      · have hno : NumOk S 0 false := no_num hsp fun k hk _ he => by have := (digs he hk).2.2.2.1 c (List.mem_of_getElem? hc'); omega
        refine RunP.regionR _ (fun K => rfl) ?_
        refine ops_slNa rfl (fun K hK => hK) rfl ?_
        refine ops_slNa rfl (fun K hK => hK) rfl ?_
        refine ops_slNa rfl (fun K hK => And.intro (Int.natCast_nonneg i) ⟨c, hc, hK⟩) rfl ?_
        refine ops_slNa rfl (fun K hK => And.intro (fun q => absurd q hlo) (fun _ => hK)) rfl ?_
        refine ops_slNa rfl (fun K hK => hK) rfl ?_
        refine ops_ylNa rfl rfl (fun K hK => hK) rfl ?_
        refine ops_ylNa rfl rfl (fun K hK => hK) rfl ?_
        refine ops_ylNa rfl rfl (fun K hK => And.intro (Int.natCast_nonneg i) ⟨c, hc, hK⟩) rfl ?_
        refine ops_ylNa rfl rfl (fun K hK => And.intro (fun _ => hK) (fun q => absurd hhi (Int.not_lt.2 q))) rfl ?_
        refine ops_slNa rfl (fun K hK => hK) rfl ?_
        repeat (first | apply RunP.seq | apply RunP.condT rfl | apply RunP.condF rfl | apply RunP.skip | apply RunP.block | apply RunP.exit | apply RunP.ret)
        refine RunP.regionR _ (fun K => rfl) ?_
        refine ops_slNa rfl (fun K hK => hK) rfl ?_
        refine ops_slNa rfl (fun K hK => hK) rfl ?_
        repeat (first | apply RunP.seq | apply RunP.condT rfl | apply RunP.condF rfl | apply RunP.skip | apply RunP.block | apply RunP.exit | apply RunP.ret)
        exact ⟨rfl, _, rfl, rfl, 0, false, rfl, hno⟩
      · have hpre : decPre (w.take (i + 1)) = 10 * decPre (w.take i) + (c.toNat - 48) := by rw [take_snoc hc', decPre_snoc]
        have hb := dec_lt10 i (w.take i) (by rw [List.length_take]; omega) hall
        have hp : 10 ^ i ≤ 10 ^ 18 := Nat.pow_le_pow_right (by omega) (by omega)
        have hsub : IntKind.u8.wrap ((c.toNat : Int) - 48) = ((c.toNat - 48 : Nat) : Int) := by simp [IntKind.wrap, IntKind.signed, IntKind.bits]; omega
        have hev : IntKind.u64.wrap (IntKind.u64.wrap (10 * (decPre (w.take i) : Int)) + IntKind.u64.wrap (IntKind.u8.wrap ((c.toNat : Int) - 48))) = ((decPre (w.take (i + 1)) : Nat) : Int) := by
          rw [hsub, hpre, wrapU (x := 10 * (decPre (w.take i) : Int)) (by omega) (by omega), wrapU (x := ((c.toNat - 48 : Nat) : Int)) (by omega) (by omega), wrapU (by omega) (by omega)]; omega
        refine RunP.regionR _ (fun K => rfl) ?_
        refine ops_slNa rfl (fun K hK => hK) rfl ?_
        refine ops_slNa rfl (fun K hK => hK) rfl ?_
        refine ops_slNa rfl (fun K hK => And.intro (Int.natCast_nonneg i) ⟨c, hc, hK⟩) rfl ?_
        refine ops_slNa rfl (fun K hK => And.intro (fun q => absurd q hlo) (fun _ => hK)) rfl ?_
        refine ops_slNa rfl (fun K hK => hK) rfl ?_
        refine ops_ylNa rfl rfl (fun K hK => hK) rfl ?_
        refine ops_ylNa rfl rfl (fun K hK => hK) rfl ?_
        refine ops_ylNa rfl rfl (fun K hK => And.intro (Int.natCast_nonneg i) ⟨c, hc, hK⟩) rfl ?_
        refine ops_ylNa rfl rfl (fun K hK => And.intro (fun q => absurd q hhi) (fun _ => hK)) rfl ?_
        refine ops_slNa rfl (fun K hK => hK) rfl ?_
        repeat (first | apply RunP.seq | apply RunP.condT rfl | apply RunP.condF rfl | apply RunP.skip | apply RunP.block | apply RunP.exit | apply RunP.ret)
        refine RunP.regionR _ (fun K => rfl) ?_
        refine ops_slNa rfl (fun K hK => hK) rfl ?_
        refine ops_slNa rfl (fun K hK => hK) rfl ?_
        refine ops_slNa rfl (fun K hK => hK) rfl ?_
        refine ops_slNa rfl (fun K hK => hK) rfl ?_
        refine ops_slNa rfl (fun K hK => And.intro (Int.natCast_nonneg i) ⟨c, hc, hK⟩) rfl ?_
        refine ops_slNa rfl (fun K hK => hK) rfl ?_
        refine ops_slNa rfl (fun K hK => hK) rfl ?_
        refine ops_slNa rfl (fun K hK => hK) rfl ?_
        refine ops_slNa rfl (fun K hK => hK) rfl ?_
        repeat (first | apply RunP.seq | apply RunP.condT rfl | apply RunP.condF rfl | apply RunP.skip | apply RunP.block | apply RunP.exit | apply RunP.ret)
        refine RunP.regionR _ (fun K => rfl) ?_
        refine ops_slNa rfl (fun K hK => hK) rfl ?_
        refine ops_slNa rfl (fun K hK => hK) rfl ?_
        refine ops_slNa rfl (fun K hK => hK) rfl ?_
        refine ⟨k - 1, by omega, i + 1, _, _, ⟨by omega, wrap1 (by omega), hev, fun c' hc2 => ?_, rfl⟩, rfl, rfl, rfl, rfl, rfl, rfl⟩
        rw [take_snoc hc'] at hc2
        rcases List.mem_append.1 hc2 with q | q
        · exact hall c' q
        · rw [List.mem_singleton.1 q]; omega
  · have hti : w.take i = w := List.take_of_length_le (by omega)
    rw [hti] at hall ⊢
    refine RunP.regionR _ (fun K => rfl) ?_
    refine ops_slNa rfl (fun K hK => hK) rfl ?_
    refine ops_slNa rfl (fun K hK => hK) rfl ?_
    refine ops_slNa rfl (fun K hK => hK) rfl ?_
    refine ops_slNa rfl (fun K hK => And.intro (fun q => absurd q hi) (fun _ => hK)) rfl ?_
    repeat (first | apply RunP.seq | apply RunP.condT rfl | apply RunP.condF rfl | apply RunP.skip | apply RunP.block | apply RunP.exit | apply RunP.ret)
    refine RunP.regionR _ (fun K => rfl) ?_
    refine ops_slNa rfl (fun K hK => hK) rfl ?_
    cases neg with
    | true =>
      repeat (first | apply RunP.seq | apply RunP.condT rfl | apply RunP.condF rfl | apply RunP.skip | apply RunP.block | apply RunP.exit | apply RunP.ret)
      by_cases hu : (decPre w : Int) ≤ 9223372036854775808
      · refine RunP.regionR _ (fun K => rfl) ?_
        refine ops_slNa rfl (fun K hK => hK) rfl ?_
        refine ops_slNa rfl (fun K hK => hK) rfl ?_
        refine ops_slNa rfl (fun K hK => hK) rfl ?_
        refine ops_slNa rfl (fun K hK => hK) rfl ?_
        refine ops_slNa rfl (fun K hK => And.intro (fun _ => hK) (fun q => absurd hu (Int.not_le.2 q))) rfl ?_
        refine ops_slNa rfl (fun K hK => hK) rfl ?_
        refine ops_slNa rfl (fun K hK => hK) rfl ?_
        repeat (first | apply RunP.seq | apply RunP.condT rfl | apply RunP.condF rfl | apply RunP.skip | apply RunP.block | apply RunP.exit | apply RunP.ret)
        exact ⟨rfl, _, rfl, rfl, _, true, rfl, is_num hsp ⟨fun _ _ => ⟨rfl, wrapN (by omega)⟩, fun _ q => (by cases q)⟩⟩
      · refine RunP.regionR _ (fun K => rfl) ?_
        refine ops_slNa rfl (fun K hK => hK) rfl ?_
        refine ops_slNa rfl (fun K hK => hK) rfl ?_
        refine ops_slNa rfl (fun K hK => hK) rfl ?_
        refine ops_slNa rfl (fun K hK => hK) rfl ?_
        refine ops_slNa rfl (fun K hK => And.intro (fun q => absurd q hu) (fun _ => hK)) rfl ?_
        refine ops_slNa rfl (fun K hK => hK) rfl ?_
        refine ops_slNa rfl (fun K hK => hK) rfl ?_
        repeat (first | apply RunP.seq | apply RunP.condT rfl | apply RunP.condF rfl | apply RunP.skip | apply RunP.block | apply RunP.exit | apply RunP.ret)
        exact ⟨rfl, _, rfl, rfl, _, false, rfl, is_num hsp ⟨fun q => by omega, fun _ q => (by cases q)⟩⟩
    | false =>
      repeat (first | apply RunP.seq | apply RunP.condT rfl | apply RunP.condF rfl | apply RunP.skip | apply RunP.block | apply RunP.exit | apply RunP.ret)
      by_cases hu : (decPre w : Int) < 9223372036854775808
      · refine RunP.regionR _ (fun K => rfl) ?_
        refine ops_slNa rfl (fun K hK => hK) rfl ?_
        refine ops_slNa rfl (fun K hK => hK) rfl ?_
        refine ops_slNa rfl (fun K hK => hK) rfl ?_
        refine ops_slNa rfl (fun K hK => And.intro (fun _ => hK) (fun q => absurd hu (Int.not_lt.2 q))) rfl ?_
        refine ops_slNa rfl (fun K hK => hK) rfl ?_
        refine ops_slNa rfl (fun K hK => hK) rfl ?_
        repeat (first | apply RunP.seq | apply RunP.condT rfl | apply RunP.condF rfl | apply RunP.skip | apply RunP.block | apply RunP.exit | apply RunP.ret)
        exact ⟨rfl, _, rfl, rfl, _, true, rfl, is_num hsp ⟨fun _ q => (by cases q), fun _ _ => ⟨rfl, wrapP (by omega)⟩⟩⟩
      · refine RunP.regionR _ (fun K => rfl) ?_
        refine ops_slNa rfl (fun K hK => hK) rfl ?_
        refine ops_slNa rfl (fun K hK => hK) rfl ?_
        refine ops_slNa rfl (fun K hK => hK) rfl ?_
        refine ops_slNa rfl (fun K hK => And.intro (fun q => absurd q hu) (fun _ => hK)) rfl ?_
        refine ops_slNa rfl (fun K hK => hK) rfl ?_
        refine ops_slNa rfl (fun K hK => hK) rfl ?_
        repeat (first | apply RunP.seq | apply RunP.condT rfl | apply RunP.condF rfl | apply RunP.skip | apply RunP.block | apply RunP.exit | apply RunP.ret)
        exact ⟨rfl, _, rfl, rfl, _, false, rfl, is_num hsp ⟨fun _ q => (by cases q), fun q => by omega⟩⟩
set_option maxHeartbeats 4000000 in
theorem num_rest {S : List UInt8} {st : List V} {h : Heap} (hI : nuA S 0 st h) : RunP envQ fn54.md (sndC (sndC (sndC fn54.body))) st h (NumQ S) := by
  obtain ⟨w, neg, x, ⟨hsp, hwl, rfl⟩, rfl⟩ := nuA_lit hI
  clear hI
  repeat (first | apply RunP.seq | apply RunP.condT rfl | apply RunP.condF rfl | apply RunP.skip | apply RunP.block | apply RunP.exit | apply RunP.ret)
  by_cases h1 : (w.length : Int) < 1
  · have hno : NumOk S 0 false := no_num hsp fun k hk _ he => by have := (digs he hk).1; omega
    refine RunP.regionR _ (fun K => rfl) ?_
    refine ops_slNa rfl (fun K hK => hK) rfl ?_
    refine ops_slNa rfl (fun K hK => hK) rfl ?_
    refine ops_slNa rfl (fun K hK => And.intro (fun _ => hK) (fun q => absurd q (by omega))) rfl ?_
    refine ops_slNa rfl (fun K hK => hK) rfl ?_
    refine ops_nlNa rfl rfl rfl rfl ?_
    refine ops_nlNa rfl rfl rfl rfl ?_
    refine ops_nlNa rfl rfl rfl rfl ?_
    refine ops_slNa rfl (fun K hK => hK) rfl ?_
    refine ops_slNa rfl (fun K hK => hK) rfl ?_
    refine ops_nlNa rfl rfl rfl rfl ?_
    refine ops_nlNa rfl rfl rfl rfl ?_
    refine ops_nlNa rfl rfl rfl rfl ?_
    refine ops_nlNa rfl rfl rfl rfl ?_
    refine ops_ulNa rfl rfl rfl ?_
    refine ops_ulNa rfl rfl rfl ?_
    refine ops_ulNa rfl rfl rfl ?_
    refine ops_ulNa rfl rfl rfl ?_
    refine ops_ulNa rfl rfl rfl ?_
    refine ops_ulNa rfl rfl rfl ?_
    refine ops_nlNa rfl rfl rfl rfl ?_
    refine ops_slNa rfl (fun K hK => hK) rfl ?_
    repeat (first | apply RunP.seq | apply RunP.condT rfl | apply RunP.condF rfl | apply RunP.skip | apply RunP.block | apply RunP.exit | apply RunP.ret)
    refine RunP.regionR _ (fun K => rfl) ?_
    refine ops_slNa rfl (fun K hK => hK) rfl ?_
    refine ops_slNa rfl (fun K hK => hK) rfl ?_
    repeat (first | apply RunP.seq | apply RunP.condT rfl | apply RunP.condF rfl | apply RunP.skip | apply RunP.block | apply RunP.exit | apply RunP.ret)
    exact ⟨rfl, _, rfl, rfl, 0, false, rfl, hno⟩
  · by_cases h2 : (19 : Int) < (w.length : Int)
    · have hno : NumOk S 0 false := no_num hsp fun k hk _ he => by have := (digs he hk).2.1; omega
      refine RunP.regionR _ (fun K => rfl) ?_
      refine ops_slNa rfl (fun K hK => hK) rfl ?_
      refine ops_slNa rfl (fun K hK => hK) rfl ?_
      refine ops_slNa rfl (fun K hK => And.intro (fun q => absurd q h1) (fun _ => hK)) rfl ?_
      refine ops_slNa rfl (fun K hK => hK) rfl ?_
      refine ops_ylNa rfl rfl (fun K hK => hK) rfl ?_
      refine ops_ylNa rfl rfl (fun K hK => hK) rfl ?_
      refine ops_ylNa rfl rfl (fun K hK => And.intro (fun _ => hK) (fun q => absurd q (by omega))) rfl ?_
      refine ops_slNa rfl (fun K hK => hK) rfl ?_
      refine ops_slNa rfl (fun K hK => hK) rfl ?_
      refine ops_nlNa rfl rfl rfl rfl ?_
      refine ops_nlNa rfl rfl rfl rfl ?_
      refine ops_nlNa rfl rfl rfl rfl ?_
      refine ops_nlNa rfl rfl rfl rfl ?_
      refine ops_ulNa rfl rfl rfl ?_
      refine ops_ulNa rfl rfl rfl ?_
      refine ops_ulNa rfl rfl rfl ?_
      refine ops_ulNa rfl rfl rfl ?_
      refine ops_ulNa rfl rfl rfl ?_
      refine ops_ulNa rfl rfl rfl ?_
      refine ops_nlNa rfl rfl rfl rfl ?_
      refine ops_slNa rfl (fun K hK => hK) rfl ?_
      repeat (first | apply RunP.seq | apply RunP.condT rfl | apply RunP.condF rfl | apply RunP.skip | apply RunP.block | apply RunP.exit | apply RunP.ret)
      refine RunP.regionR _ (fun K => rfl) ?_
      refine ops_slNa rfl (fun K hK => hK) rfl ?_
      refine ops_slNa rfl (fun K hK => hK) rfl ?_
      repeat (first | apply RunP.seq | apply RunP.condT rfl | apply RunP.condF rfl | apply RunP.skip | apply RunP.block | apply RunP.exit | apply RunP.ret)
      exact ⟨rfl, _, rfl, rfl, 0, false, rfl, hno⟩
    · obtain ⟨c, hc⟩ : ∃ c, w[(0 : Int).toNat]? = some c := ⟨_, List.getElem?_eq_getElem (by show 0 < w.length; omega)⟩
      have hhead : w.head? = some c := by rw [List.head?_eq_getElem?]; exact hc
      by_cases h48 : (c.toNat : Int) = 48
      · have hc48 : c = 48 := UInt8.toNat_inj.1 (by show c.toNat = 48; omega)
        by_cases hl1 : (1 : Int) < (w.length : Int)
        · have hno : NumOk S 0 false := no_num hsp fun k hk _ he => by have := ((digs he hk).2.2.2.2 (by rw [hhead, hc48])).2; omega
          refine RunP.regionR _ (fun K => rfl) ?_
          refine ops_slNa rfl (fun K hK => hK) rfl ?_
          refine ops_slNa rfl (fun K hK => hK) rfl ?_
          refine ops_slNa rfl (fun K hK => And.intro (fun q => absurd q h1) (fun _ => hK)) rfl ?_
          refine ops_slNa rfl (fun K hK => hK) rfl ?_
          refine ops_ylNa rfl rfl (fun K hK => hK) rfl ?_
          refine ops_ylNa rfl rfl (fun K hK => hK) rfl ?_
          refine ops_ylNa rfl rfl (fun K hK => And.intro (fun q => absurd q h2) (fun _ => hK)) rfl ?_
          refine ops_slNa rfl (fun K hK => hK) rfl ?_
          refine ops_slNa rfl (fun K hK => hK) rfl ?_
          refine ops_ylNa rfl rfl (fun K hK => hK) rfl ?_
          refine ops_ylNa rfl rfl (fun K hK => And.intro (Int.le_refl _) ⟨c, hc, hK⟩) rfl ?_
          refine ops_ylNa rfl rfl (fun K hK => And.intro (fun _ => hK) (fun q => absurd h48 q)) rfl ?_
          refine ops_ylNa rfl rfl (fun K hK => hK) rfl ?_
          refine ops_ylNa rfl rfl (fun K hK => hK) rfl ?_
          refine ops_ylNa rfl rfl (fun K hK => hK) rfl ?_
          refine ops_ylNa rfl rfl (fun K hK => And.intro (fun _ => hK) (fun q => absurd q (by omega))) rfl ?_
          refine ops_ylNa rfl rfl (fun K hK => hK) rfl ?_
          refine ops_nlNa rfl rfl rfl rfl ?_
          refine ops_ylNa rfl rfl (fun K hK => hK) rfl ?_
          refine ops_ylNa rfl rfl (fun K hK => hK) rfl ?_
          refine ops_slNa rfl (fun K hK => hK) rfl ?_
          repeat (first | apply RunP.seq | apply RunP.condT rfl | apply RunP.condF rfl | apply RunP.skip | apply RunP.block | apply RunP.exit | apply RunP.ret)
          refine RunP.regionR _ (fun K => rfl) ?_
          refine ops_slNa rfl (fun K hK => hK) rfl ?_
          refine ops_slNa rfl (fun K hK => hK) rfl ?_
          repeat (first | apply RunP.seq | apply RunP.condT rfl | apply RunP.condF rfl | apply RunP.skip | apply RunP.block | apply RunP.exit | apply RunP.ret)
          exact ⟨rfl, _, rfl, rfl, 0, false, rfl, hno⟩
        · cases neg with
          | true =>
            have hno : NumOk S 0 false := no_num hsp fun k hk hn he => by have := ((digs he hk).2.2.2.2 (by rw [hhead, hc48])).1; have := hn rfl; omega
            refine RunP.regionR _ (fun K => rfl) ?_
            refine ops_slNa rfl (fun K hK => hK) rfl ?_
            refine ops_slNa rfl (fun K hK => hK) rfl ?_
            refine ops_slNa rfl (fun K hK => And.intro (fun q => absurd q h1) (fun _ => hK)) rfl ?_
            refine ops_slNa rfl (fun K hK => hK) rfl ?_
            refine ops_ylNa rfl rfl (fun K hK => hK) rfl ?_
            refine ops_ylNa rfl rfl (fun K hK => hK) rfl ?_
            refine ops_ylNa rfl rfl (fun K hK => And.intro (fun q => absurd q h2) (fun _ => hK)) rfl ?_
            refine ops_slNa rfl (fun K hK => hK) rfl ?_
            refine ops_slNa rfl (fun K hK => hK) rfl ?_
            refine ops_ylNa rfl rfl (fun K hK => hK) rfl ?_
            refine ops_ylNa rfl rfl (fun K hK => And.intro (Int.le_refl _) ⟨c, hc, hK⟩) rfl ?_
            refine ops_ylNa rfl rfl (fun K hK => And.intro (fun _ => hK) (fun q => absurd h48 q)) rfl ?_
            refine ops_ylNa rfl rfl (fun K hK => hK) rfl ?_
            refine ops_ylNa rfl rfl (fun K hK => hK) rfl ?_
            refine ops_ylNa rfl rfl (fun K hK => hK) rfl ?_
            refine ops_ylNa rfl rfl (fun K hK => And.intro (fun q => absurd q hl1) (fun _ => hK)) rfl ?_
            refine ops_ylNa rfl rfl (fun K hK => hK) rfl ?_
            refine ops_ylNa rfl rfl (fun K hK => hK) rfl ?_
            refine ops_ylNa rfl rfl (fun K hK => hK) rfl ?_
            refine ops_ylNa rfl rfl (fun K hK => hK) rfl ?_
            refine ops_slNa rfl (fun K hK => hK) rfl ?_
            repeat (first | apply RunP.seq | apply RunP.condT rfl | apply RunP.condF rfl | apply RunP.skip | apply RunP.block | apply RunP.exit | apply RunP.ret)
            refine RunP.regionR _ (fun K => rfl) ?_
            refine ops_slNa rfl (fun K hK => hK) rfl ?_
            refine ops_slNa rfl (fun K hK => hK) rfl ?_
            repeat (first | apply RunP.seq | apply RunP.condT rfl | apply RunP.condF rfl | apply RunP.skip | apply RunP.block | apply RunP.exit | apply RunP.ret)
            exact ⟨rfl, _, rfl, rfl, 0, false, rfl, hno⟩
          | false =>
            refine RunP.regionR _ (fun K => rfl) ?_
            refine ops_slNa rfl (fun K hK => hK) rfl ?_
            refine ops_slNa rfl (fun K hK => hK) rfl ?_
            refine ops_slNa rfl (fun K hK => And.intro (fun q => absurd q h1) (fun _ => hK)) rfl ?_
            refine ops_slNa rfl (fun K hK => hK) rfl ?_
            refine ops_ylNa rfl rfl (fun K hK => hK) rfl ?_
            refine ops_ylNa rfl rfl (fun K hK => hK) rfl ?_
            refine ops_ylNa rfl rfl (fun K hK => And.intro (fun q => absurd q h2) (fun _ => hK)) rfl ?_
            refine ops_slNa rfl (fun K hK => hK) rfl ?_
            refine ops_slNa rfl (fun K hK => hK) rfl ?_
            refine ops_ylNa rfl rfl (fun K hK => hK) rfl ?_
            refine ops_ylNa rfl rfl (fun K hK => And.intro (Int.le_refl _) ⟨c, hc, hK⟩) rfl ?_
            refine ops_ylNa rfl rfl (fun K hK => And.intro (fun _ => hK) (fun q => absurd h48 q)) rfl ?_
            refine ops_ylNa rfl rfl (fun K hK => hK) rfl ?_
            refine ops_ylNa rfl rfl (fun K hK => hK) rfl ?_
            refine ops_ylNa rfl rfl (fun K hK => hK) rfl ?_
            refine ops_ylNa rfl rfl (fun K hK => And.intro (fun q => absurd q hl1) (fun _ => hK)) rfl ?_
            refine ops_ylNa rfl rfl (fun K hK => hK) rfl ?_
            refine ops_ylNa rfl rfl (fun K hK => hK) rfl ?_
            refine ops_ylNa rfl rfl (fun K hK => hK) rfl ?_
            refine ops_ylNa rfl rfl (fun K hK => hK) rfl ?_
            refine ops_slNa rfl (fun K hK => hK) rfl ?_
            apply RunP.condF rfl
            apply RunP.skip
            exact num_loop ⟨w, false, ⟨hsp, by omega, rfl⟩, rfl, rfl, rfl, rfl⟩
      · refine RunP.regionR _ (fun K => rfl) ?_
        refine ops_slNa rfl (fun K hK => hK) rfl ?_
        refine ops_slNa rfl (fun K hK => hK) rfl ?_
        refine ops_slNa rfl (fun K hK => And.intro (fun q => absurd q h1) (fun _ => hK)) rfl ?_
        refine ops_slNa rfl (fun K hK => hK) rfl ?_
        refine ops_ylNa rfl rfl (fun K hK => hK) rfl ?_
        refine ops_ylNa rfl rfl (fun K hK => hK) rfl ?_
        refine ops_ylNa rfl rfl (fun K hK => And.intro (fun q => absurd q h2) (fun _ => hK)) rfl ?_
        refine ops_slNa rfl (fun K hK => hK) rfl ?_
        refine ops_slNa rfl (fun K hK => hK) rfl ?_
        refine ops_ylNa rfl rfl (fun K hK => hK) rfl ?_
        refine ops_ylNa rfl rfl (fun K hK => And.intro (Int.le_refl _) ⟨c, hc, hK⟩) rfl ?_
        refine ops_ylNa rfl rfl (fun K hK => And.intro (fun q => absurd q h48) (fun _ => hK)) rfl ?_
        refine ops_ylNa rfl rfl (fun K hK => hK) rfl ?_
        refine ops_nlNa rfl rfl rfl rfl ?_
        refine ops_nlNa rfl rfl rfl rfl ?_
        refine ops_nlNa rfl rfl rfl rfl ?_
        refine ops_nlNa rfl rfl rfl rfl ?_
        refine ops_ulNa rfl rfl rfl ?_
        refine ops_nlNa rfl rfl rfl rfl ?_
        refine ops_ylNa rfl rfl (fun K hK => hK) rfl ?_
        refine ops_slNa rfl (fun K hK => hK) rfl ?_
        apply RunP.condF rfl
        apply RunP.skip
        exact num_loop ⟨w, neg, ⟨hsp, by omega, rfl⟩, rfl, rfl, rfl, rfl⟩
set_option maxHeartbeats 4000000 in
theorem Number_has (h : Heap) (S : List UInt8) (hS : S.length ≤ 1000) : ∃ n ok, Has envQ .own 54 [.str S] h (.val (.tup [.int .i64 n, .bool ok]) h) ∧ NumOk S n ok := by
  suffices hx : ∃ v, Has envQ .own 54 [.str S] h (.val v h) ∧ ∃ n ok, v = .tup [.int .i64 n, .bool ok] ∧ NumOk S n ok by
    obtain ⟨v, h1, n, ok, rfl, h2⟩ := hx; exact ⟨n, ok, h1, h2⟩
  refine HasP.ownE (a := [.str S]) (d := fn54) rfl rfl rfl (of_decide_eq_true rfl) ?_
  apply RunP.seq
  refine RunP.regionR _ (fun K => rfl) ?_
  refine ops_slNa rfl (fun K hK => hK) rfl ?_
  refine ops_slNa rfl (fun K hK => hK) rfl ?_
  by_cases h0 : (0 : Int) < (S.length : Int)
  · obtain ⟨c, hc⟩ : ∃ c, S[(0 : Int).toNat]? = some c := ⟨_, List.getElem?_eq_getElem (by show 0 < S.length; omega)⟩
    have hcons : S = c :: S.drop 1 := by
      have := List.drop_eq_getElem_cons (l := S) (i := 0) (by omega)
      rw [List.drop_zero] at this
      rw [this]
      congr 1
      exact (List.getElem?_eq_some_iff.1 hc).2
    by_cases h45 : (c.toNat : Int) = 45
    · have hc45 : c = 45 := UInt8.toNat_inj.1 (by show c.toNat = 45; omega)
      apply RunP.seq
      refine RunP.regionR _ (fun K => rfl) ?_
      refine ops_slNa rfl (fun K hK => hK) rfl ?_
      refine ops_slNa rfl (fun K hK => hK) rfl ?_
      refine ops_slNa rfl (fun K hK => And.intro (fun _ => hK) (fun q => absurd q (by omega))) rfl ?_
      refine ops_slNa rfl (fun K hK => hK) rfl ?_
      refine ops_ylNa rfl rfl (fun K hK => hK) rfl ?_
      refine ops_ylNa rfl rfl (fun K hK => And.intro (Int.le_refl _) ⟨c, hc, hK⟩) rfl ?_
      refine ops_ylNa rfl rfl (fun K hK => And.intro (fun _ => hK) (fun q => absurd h45 q)) rfl ?_
      refine ops_slNa rfl (fun K hK => hK) rfl ?_
      refine ops_slNa rfl (fun K hK => hK) rfl ?_
      refine RunP.mid (M := nuA S 0) ?_ fun st h hI => num_rest hI
      repeat (first | apply RunP.seq | apply RunP.condT rfl | apply RunP.condF rfl | apply RunP.skip | apply RunP.block | apply RunP.exit | apply RunP.ret)
      refine RunP.regionR _ (fun K => rfl) ?_
      refine ops_slNa rfl (fun K hK => hK) rfl ?_
      repeat (first | apply RunP.seq | apply RunP.condT rfl | apply RunP.condF rfl | apply RunP.skip | apply RunP.block | apply RunP.exit | apply RunP.ret)
      refine RunP.regionR _ (fun K => rfl) ?_
      refine ops_slNa rfl (fun K hK => hK) rfl ?_
      refine ops_slNa rfl (fun K hK => And.intro (show (0 : Int) ≤ 1 by omega) (And.intro (show (1 : Int).toNat ≤ S.length ∧ S.length ≤ S.length by omega) hK)) rfl ?_
      refine ops_slNa rfl (fun K hK => hK) rfl ?_
      refine ⟨rfl, (S.take S.length).drop 1, true, ⟨⟨?_, fun q => by cases q⟩, by rw [List.length_drop, List.length_take]; omega, rfl⟩, rfl, rfl, rfl, rfl⟩
      rw [if_pos rfl, List.take_length, ← hc45]; exact hcons
    · apply RunP.seq
      refine RunP.regionR _ (fun K => rfl) ?_
      refine ops_slNa rfl (fun K hK => hK) rfl ?_
      refine ops_slNa rfl (fun K hK => hK) rfl ?_
      refine ops_slNa rfl (fun K hK => And.intro (fun _ => hK) (fun q => absurd q (by omega))) rfl ?_
      refine ops_slNa rfl (fun K hK => hK) rfl ?_
      refine ops_ylNa rfl rfl (fun K hK => hK) rfl ?_
      refine ops_ylNa rfl rfl (fun K hK => And.intro (Int.le_refl _) ⟨c, hc, hK⟩) rfl ?_
      refine ops_ylNa rfl rfl (fun K hK => And.intro (fun q => absurd q h45) (fun _ => hK)) rfl ?_
      refine ops_slNa rfl (fun K hK => hK) rfl ?_
      refine ops_slNa rfl (fun K hK => hK) rfl ?_
      refine RunP.mid (M := nuA S 0) ?_ fun st h hI => num_rest hI
      repeat (first | apply RunP.seq | apply RunP.condT rfl | apply RunP.condF rfl | apply RunP.skip | apply RunP.block | apply RunP.exit | apply RunP.ret)
      refine RunP.regionR _ (fun K => rfl) ?_
      refine ops_slNa rfl (fun K hK => hK) rfl ?_
      repeat (first | apply RunP.seq | apply RunP.condT rfl | apply RunP.condF rfl | apply RunP.skip | apply RunP.block | apply RunP.exit | apply RunP.ret)
      refine ⟨rfl, S, false, ⟨⟨rfl, fun _ q => ?_⟩, by omega, rfl⟩, rfl, rfl, rfl, rfl⟩
      rw [List.head?_eq_getElem?, show S[0]? = some c from hc] at q
      cases q
      exact h45 rfl
  · apply RunP.seq
    refine RunP.regionR _ (fun K => rfl) ?_
    refine ops_slNa rfl (fun K hK => hK) rfl ?_
    refine ops_slNa rfl (fun K hK => hK) rfl ?_
    refine ops_slNa rfl (fun K hK => And.intro (fun q => absurd q h0) (fun _ => hK)) rfl ?_
    refine ops_slNa rfl (fun K hK => hK) rfl ?_
    refine ops_nlNa rfl rfl rfl rfl ?_
    refine ops_nlNa rfl rfl rfl rfl ?_
    refine ops_nlNa rfl rfl rfl rfl ?_
    refine ops_slNa rfl (fun K hK => hK) rfl ?_
    refine ops_slNa rfl (fun K hK => hK) rfl ?_
    refine RunP.mid (M := nuA S 0) ?_ fun st h hI => num_rest hI
    repeat (first | apply RunP.seq | apply RunP.condT rfl | apply RunP.condF rfl | apply RunP.skip | apply RunP.block | apply RunP.exit | apply RunP.ret)
    refine RunP.regionR _ (fun K => rfl) ?_
    refine ops_slNa rfl (fun K hK => hK) rfl ?_
    repeat (first | apply RunP.seq | apply RunP.condT rfl | apply RunP.condF rfl | apply RunP.skip | apply RunP.block | apply RunP.exit | apply RunP.ret)
    refine ⟨rfl, S, false, ⟨⟨rfl, fun _ q => ?_⟩, by omega, rfl⟩, rfl, rfl, rfl, rfl⟩
    have : S = [] := List.length_eq_zero_iff.1 (by omega)
    rw [this] at q; cases q
end Go.Proofs.YtkjhnpmgieplgaaGreatDoor

/- The reference's Read. -/

namespace Go.Proofs.YtkjhnpmgieplgaaGreatDoor
open Go.Sb
set_option maxRecDepth 100000

theorem draw_gNb {E : Env} {md : Go.FuncId → Sb.Mode} {A : List (List Nat)} {k : Nat} {o : ROp} {os : List ROp} {acc : List (Nat × Go.Op × List V × V)} {s : List V} {h g : Heap} {v : V} {K : List V → Heap → Prop} {a0 a1 a2 a3 a4 a5 a6 a7 a8 a9 a10 a11 a12 a13 a14 a15 a16 a17 a18 a19 a20 a21 a22 a23 a24 a25 a26 a27 a28 a29 a30 a31 a32 a33 a34 a35 a36 a37 a38 a39 a40 a41 a42 a43 a44 a45 a46 a47 a48 a49 a50 a51 a52 a53 a54 a55 a56 a57 a58 a59 a60 a61 a62 a63 a64 a65 a66 a67 a68 a69 a70 a71 a72 a73 a74 a75 a76 a77 a78 a79 a80 a81 a82 a83 a84 a85 a86 a87 a88 a89 a90 a91 a92 a93 a94 a95 a96 a97 a98 a99 a100 a101 a102 a103 a104 a105 a106 a107 a108 a109 a110 a111 a112 : V} (hg : o.gd = none) (hop : ∀ K : V → Heap → Prop, K v g → runOp E md o.op s h K) (hk : opKind E md o.op = 2) (ha : accK E md (A.getD k []) g acc True) (hs : putT s o.dst v = [a0, a1, a2, a3, a4, a5, a6, a7, a8, a9, a10, a11, a12, a13, a14, a15, a16, a17, a18, a19, a20, a21, a22, a23, a24, a25, a26, a27, a28, a29, a30, a31, a32, a33, a34, a35, a36, a37, a38, a39, a40, a41, a42, a43, a44, a45, a46, a47, a48, a49, a50, a51, a52, a53, a54, a55, a56, a57, a58, a59, a60, a61, a62, a63, a64, a65, a66, a67, a68, a69, a70, a71, a72, a73, a74, a75, a76, a77, a78, a79, a80, a81, a82, a83, a84, a85, a86, a87, a88, a89, a90, a91, a92, a93, a94, a95, a96, a97, a98, a99, a100, a101, a102, a103, a104, a105, a106, a107, a108, a109, a110, a111, a112]) (hn : runDraw E md A (k + 1) os acc [a0, a1, a2, a3, a4, a5, a6, a7, a8, a9, a10, a11, a12, a13, a14, a15, a16, a17, a18, a19, a20, a21, a22, a23, a24, a25, a26, a27, a28, a29, a30, a31, a32, a33, a34, a35, a36, a37, a38, a39, a40, a41, a42, a43, a44, a45, a46, a47, a48, a49, a50, a51, a52, a53, a54, a55, a56, a57, a58, a59, a60, a61, a62, a63, a64, a65, a66, a67, a68, a69, a70, a71, a72, a73, a74, a75, a76, a77, a78, a79, a80, a81, a82, a83, a84, a85, a86, a87, a88, a89, a90, a91, a92, a93, a94, a95, a96, a97, a98, a99, a100, a101, a102, a103, a104, a105, a106, a107, a108, a109, a110, a111, a112] g K) : runDraw E md A k (o :: os) acc s h K := draw_g hg hop hk ha hs hn
theorem draw_nNb {E : Env} {md : Go.FuncId → Sb.Mode} {A : List (List Nat)} {k : Nat} {o : ROp} {os : List ROp} {acc : List (Nat × Go.Op × List V × V)} {s : List V} {h : Heap} {K : List V → Heap → Prop} {a0 a1 a2 a3 a4 a5 a6 a7 a8 a9 a10 a11 a12 a13 a14 a15 a16 a17 a18 a19 a20 a21 a22 a23 a24 a25 a26 a27 a28 a29 a30 a31 a32 a33 a34 a35 a36 a37 a38 a39 a40 a41 a42 a43 a44 a45 a46 a47 a48 a49 a50 a51 a52 a53 a54 a55 a56 a57 a58 a59 a60 a61 a62 a63 a64 a65 a66 a67 a68 a69 a70 a71 a72 a73 a74 a75 a76 a77 a78 a79 a80 a81 a82 a83 a84 a85 a86 a87 a88 a89 a90 a91 a92 a93 a94 a95 a96 a97 a98 a99 a100 a101 a102 a103 a104 a105 a106 a107 a108 a109 a110 a111 a112 : V} {t : Go.Tmp} {w b : Bool} (hg : o.gd = some (t, w)) (hb : getT s t = .bool b) (hw : b = !w) (hk : opKind E md o.op ≠ 2) (hs : putT s o.dst und = [a0, a1, a2, a3, a4, a5, a6, a7, a8, a9, a10, a11, a12, a13, a14, a15, a16, a17, a18, a19, a20, a21, a22, a23, a24, a25, a26, a27, a28, a29, a30, a31, a32, a33, a34, a35, a36, a37, a38, a39, a40, a41, a42, a43, a44, a45, a46, a47, a48, a49, a50, a51, a52, a53, a54, a55, a56, a57, a58, a59, a60, a61, a62, a63, a64, a65, a66, a67, a68, a69, a70, a71, a72, a73, a74, a75, a76, a77, a78, a79, a80, a81, a82, a83, a84, a85, a86, a87, a88, a89, a90, a91, a92, a93, a94, a95, a96, a97, a98, a99, a100, a101, a102, a103, a104, a105, a106, a107, a108, a109, a110, a111, a112]) (hn : runDraw E md A (k + 1) os acc [a0, a1, a2, a3, a4, a5, a6, a7, a8, a9, a10, a11, a12, a13, a14, a15, a16, a17, a18, a19, a20, a21, a22, a23, a24, a25, a26, a27, a28, a29, a30, a31, a32, a33, a34, a35, a36, a37, a38, a39, a40, a41, a42, a43, a44, a45, a46, a47, a48, a49, a50, a51, a52, a53, a54, a55, a56, a57, a58, a59, a60, a61, a62, a63, a64, a65, a66, a67, a68, a69, a70, a71, a72, a73, a74, a75, a76, a77, a78, a79, a80, a81, a82, a83, a84, a85, a86, a87, a88, a89, a90, a91, a92, a93, a94, a95, a96, a97, a98, a99, a100, a101, a102, a103, a104, a105, a106, a107, a108, a109, a110, a111, a112] h K) : runDraw E md A k (o :: os) acc s h K := draw_n hg hb hw hk hs hn
theorem draw_rlNb {E : Env} {md : Go.FuncId → Sb.Mode} {A : List (List Nat)} {k : Nat} {o : ROp} {os : List ROp} {acc : List (Nat × Go.Op × List V × V)} {s : List V} {h g : Heap} {v : V} {K : List V → Heap → Prop} {a0 a1 a2 a3 a4 a5 a6 a7 a8 a9 a10 a11 a12 a13 a14 a15 a16 a17 a18 a19 a20 a21 a22 a23 a24 a25 a26 a27 a28 a29 a30 a31 a32 a33 a34 a35 a36 a37 a38 a39 a40 a41 a42 a43 a44 a45 a46 a47 a48 a49 a50 a51 a52 a53 a54 a55 a56 a57 a58 a59 a60 a61 a62 a63 a64 a65 a66 a67 a68 a69 a70 a71 a72 a73 a74 a75 a76 a77 a78 a79 a80 a81 a82 a83 a84 a85 a86 a87 a88 a89 a90 a91 a92 a93 a94 a95 a96 a97 a98 a99 a100 a101 a102 a103 a104 a105 a106 a107 a108 a109 a110 a111 a112 : V} (hg : o.gd = none) (hop : ∀ K : V → Heap → Prop, K v g → runOp E md o.op s h K) (hk : opKind E md o.op = 1) (hs : putT s o.dst v = [a0, a1, a2, a3, a4, a5, a6, a7, a8, a9, a10, a11, a12, a13, a14, a15, a16, a17, a18, a19, a20, a21, a22, a23, a24, a25, a26, a27, a28, a29, a30, a31, a32, a33, a34, a35, a36, a37, a38, a39, a40, a41, a42, a43, a44, a45, a46, a47, a48, a49, a50, a51, a52, a53, a54, a55, a56, a57, a58, a59, a60, a61, a62, a63, a64, a65, a66, a67, a68, a69, a70, a71, a72, a73, a74, a75, a76, a77, a78, a79, a80, a81, a82, a83, a84, a85, a86, a87, a88, a89, a90, a91, a92, a93, a94, a95, a96, a97, a98, a99, a100, a101, a102, a103, a104, a105, a106, a107, a108, a109, a110, a111, a112]) (hn : runDraw E md A (k + 1) os ((k, o.op, s, v) :: acc) [a0, a1, a2, a3, a4, a5, a6, a7, a8, a9, a10, a11, a12, a13, a14, a15, a16, a17, a18, a19, a20, a21, a22, a23, a24, a25, a26, a27, a28, a29, a30, a31, a32, a33, a34, a35, a36, a37, a38, a39, a40, a41, a42, a43, a44, a45, a46, a47, a48, a49, a50, a51, a52, a53, a54, a55, a56, a57, a58, a59, a60, a61, a62, a63, a64, a65, a66, a67, a68, a69, a70, a71, a72, a73, a74, a75, a76, a77, a78, a79, a80, a81, a82, a83, a84, a85, a86, a87, a88, a89, a90, a91, a92, a93, a94, a95, a96, a97, a98, a99, a100, a101, a102, a103, a104, a105, a106, a107, a108, a109, a110, a111, a112] g K) : runDraw E md A k (o :: os) acc s h K := draw_rl hg hop hk hs hn
theorem draw_yrNb {E : Env} {md : Go.FuncId → Sb.Mode} {A : List (List Nat)} {k : Nat} {o : ROp} {os : List ROp} {acc : List (Nat × Go.Op × List V × V)} {s : List V} {h g : Heap} {v : V} {K : List V → Heap → Prop} {a0 a1 a2 a3 a4 a5 a6 a7 a8 a9 a10 a11 a12 a13 a14 a15 a16 a17 a18 a19 a20 a21 a22 a23 a24 a25 a26 a27 a28 a29 a30 a31 a32 a33 a34 a35 a36 a37 a38 a39 a40 a41 a42 a43 a44 a45 a46 a47 a48 a49 a50 a51 a52 a53 a54 a55 a56 a57 a58 a59 a60 a61 a62 a63 a64 a65 a66 a67 a68 a69 a70 a71 a72 a73 a74 a75 a76 a77 a78 a79 a80 a81 a82 a83 a84 a85 a86 a87 a88 a89 a90 a91 a92 a93 a94 a95 a96 a97 a98 a99 a100 a101 a102 a103 a104 a105 a106 a107 a108 a109 a110 a111 a112 : V} {t : Go.Tmp} {w : Bool} (hg : o.gd = some (t, w)) (hb : getT s t = .bool w) (hop : ∀ K : V → Heap → Prop, K v g → runOp E md o.op s h K) (hk : opKind E md o.op = 1) (hs : putT s o.dst v = [a0, a1, a2, a3, a4, a5, a6, a7, a8, a9, a10, a11, a12, a13, a14, a15, a16, a17, a18, a19, a20, a21, a22, a23, a24, a25, a26, a27, a28, a29, a30, a31, a32, a33, a34, a35, a36, a37, a38, a39, a40, a41, a42, a43, a44, a45, a46, a47, a48, a49, a50, a51, a52, a53, a54, a55, a56, a57, a58, a59, a60, a61, a62, a63, a64, a65, a66, a67, a68, a69, a70, a71, a72, a73, a74, a75, a76, a77, a78, a79, a80, a81, a82, a83, a84, a85, a86, a87, a88, a89, a90, a91, a92, a93, a94, a95, a96, a97, a98, a99, a100, a101, a102, a103, a104, a105, a106, a107, a108, a109, a110, a111, a112]) (hn : runDraw E md A (k + 1) os ((k, o.op, s, v) :: acc) [a0, a1, a2, a3, a4, a5, a6, a7, a8, a9, a10, a11, a12, a13, a14, a15, a16, a17, a18, a19, a20, a21, a22, a23, a24, a25, a26, a27, a28, a29, a30, a31, a32, a33, a34, a35, a36, a37, a38, a39, a40, a41, a42, a43, a44, a45, a46, a47, a48, a49, a50, a51, a52, a53, a54, a55, a56, a57, a58, a59, a60, a61, a62, a63, a64, a65, a66, a67, a68, a69, a70, a71, a72, a73, a74, a75, a76, a77, a78, a79, a80, a81, a82, a83, a84, a85, a86, a87, a88, a89, a90, a91, a92, a93, a94, a95, a96, a97, a98, a99, a100, a101, a102, a103, a104, a105, a106, a107, a108, a109, a110, a111, a112] g K) : runDraw E md A k (o :: os) acc s h K := draw_yr hg hb hop hk hs hn
theorem draw_yzNb {E : Env} {md : Go.FuncId → Sb.Mode} {A : List (List Nat)} {k : Nat} {o : ROp} {os : List ROp} {acc : List (Nat × Go.Op × List V × V)} {s : List V} {h g : Heap} {v : V} {K : List V → Heap → Prop} {a0 a1 a2 a3 a4 a5 a6 a7 a8 a9 a10 a11 a12 a13 a14 a15 a16 a17 a18 a19 a20 a21 a22 a23 a24 a25 a26 a27 a28 a29 a30 a31 a32 a33 a34 a35 a36 a37 a38 a39 a40 a41 a42 a43 a44 a45 a46 a47 a48 a49 a50 a51 a52 a53 a54 a55 a56 a57 a58 a59 a60 a61 a62 a63 a64 a65 a66 a67 a68 a69 a70 a71 a72 a73 a74 a75 a76 a77 a78 a79 a80 a81 a82 a83 a84 a85 a86 a87 a88 a89 a90 a91 a92 a93 a94 a95 a96 a97 a98 a99 a100 a101 a102 a103 a104 a105 a106 a107 a108 a109 a110 a111 a112 : V} {t : Go.Tmp} {w : Bool} (hg : o.gd = some (t, w)) (hb : getT s t = .bool w) (hop : ∀ K : V → Heap → Prop, K v g → runOp E md o.op s h K) (hk : opKind E md o.op = 0) (hs : putT s o.dst v = [a0, a1, a2, a3, a4, a5, a6, a7, a8, a9, a10, a11, a12, a13, a14, a15, a16, a17, a18, a19, a20, a21, a22, a23, a24, a25, a26, a27, a28, a29, a30, a31, a32, a33, a34, a35, a36, a37, a38, a39, a40, a41, a42, a43, a44, a45, a46, a47, a48, a49, a50, a51, a52, a53, a54, a55, a56, a57, a58, a59, a60, a61, a62, a63, a64, a65, a66, a67, a68, a69, a70, a71, a72, a73, a74, a75, a76, a77, a78, a79, a80, a81, a82, a83, a84, a85, a86, a87, a88, a89, a90, a91, a92, a93, a94, a95, a96, a97, a98, a99, a100, a101, a102, a103, a104, a105, a106, a107, a108, a109, a110, a111, a112]) (hn : runDraw E md A (k + 1) os acc [a0, a1, a2, a3, a4, a5, a6, a7, a8, a9, a10, a11, a12, a13, a14, a15, a16, a17, a18, a19, a20, a21, a22, a23, a24, a25, a26, a27, a28, a29, a30, a31, a32, a33, a34, a35, a36, a37, a38, a39, a40, a41, a42, a43, a44, a45, a46, a47, a48, a49, a50, a51, a52, a53, a54, a55, a56, a57, a58, a59, a60, a61, a62, a63, a64, a65, a66, a67, a68, a69, a70, a71, a72, a73, a74, a75, a76, a77, a78, a79, a80, a81, a82, a83, a84, a85, a86, a87, a88, a89, a90, a91, a92, a93, a94, a95, a96, a97, a98, a99, a100, a101, a102, a103, a104, a105, a106, a107, a108, a109, a110, a111, a112] g K) : runDraw E md A k (o :: os) acc s h K := draw_yz hg hb hop hk hs hn
theorem draw_zlNb {E : Env} {md : Go.FuncId → Sb.Mode} {A : List (List Nat)} {k : Nat} {o : ROp} {os : List ROp} {acc : List (Nat × Go.Op × List V × V)} {s : List V} {h g : Heap} {v : V} {K : List V → Heap → Prop} {a0 a1 a2 a3 a4 a5 a6 a7 a8 a9 a10 a11 a12 a13 a14 a15 a16 a17 a18 a19 a20 a21 a22 a23 a24 a25 a26 a27 a28 a29 a30 a31 a32 a33 a34 a35 a36 a37 a38 a39 a40 a41 a42 a43 a44 a45 a46 a47 a48 a49 a50 a51 a52 a53 a54 a55 a56 a57 a58 a59 a60 a61 a62 a63 a64 a65 a66 a67 a68 a69 a70 a71 a72 a73 a74 a75 a76 a77 a78 a79 a80 a81 a82 a83 a84 a85 a86 a87 a88 a89 a90 a91 a92 a93 a94 a95 a96 a97 a98 a99 a100 a101 a102 a103 a104 a105 a106 a107 a108 a109 a110 a111 a112 : V} (hg : o.gd = none) (hop : ∀ K : V → Heap → Prop, K v g → runOp E md o.op s h K) (hk : opKind E md o.op = 0) (hs : putT s o.dst v = [a0, a1, a2, a3, a4, a5, a6, a7, a8, a9, a10, a11, a12, a13, a14, a15, a16, a17, a18, a19, a20, a21, a22, a23, a24, a25, a26, a27, a28, a29, a30, a31, a32, a33, a34, a35, a36, a37, a38, a39, a40, a41, a42, a43, a44, a45, a46, a47, a48, a49, a50, a51, a52, a53, a54, a55, a56, a57, a58, a59, a60, a61, a62, a63, a64, a65, a66, a67, a68, a69, a70, a71, a72, a73, a74, a75, a76, a77, a78, a79, a80, a81, a82, a83, a84, a85, a86, a87, a88, a89, a90, a91, a92, a93, a94, a95, a96, a97, a98, a99, a100, a101, a102, a103, a104, a105, a106, a107, a108, a109, a110, a111, a112]) (hn : runDraw E md A (k + 1) os acc [a0, a1, a2, a3, a4, a5, a6, a7, a8, a9, a10, a11, a12, a13, a14, a15, a16, a17, a18, a19, a20, a21, a22, a23, a24, a25, a26, a27, a28, a29, a30, a31, a32, a33, a34, a35, a36, a37, a38, a39, a40, a41, a42, a43, a44, a45, a46, a47, a48, a49, a50, a51, a52, a53, a54, a55, a56, a57, a58, a59, a60, a61, a62, a63, a64, a65, a66, a67, a68, a69, a70, a71, a72, a73, a74, a75, a76, a77, a78, a79, a80, a81, a82, a83, a84, a85, a86, a87, a88, a89, a90, a91, a92, a93, a94, a95, a96, a97, a98, a99, a100, a101, a102, a103, a104, a105, a106, a107, a108, a109, a110, a111, a112] g K) : runDraw E md A k (o :: os) acc s h K := draw_zl hg hop hk hs hn
theorem ops_nlNb {E : Env} {md : Go.FuncId → Sb.Mode} {o : ROp} {os : List ROp} {s : List V} {h : Heap} {K : List V → Heap → Prop} {a0 a1 a2 a3 a4 a5 a6 a7 a8 a9 a10 a11 a12 a13 a14 a15 a16 a17 a18 a19 a20 a21 a22 a23 a24 a25 a26 a27 a28 a29 a30 a31 a32 a33 a34 a35 a36 a37 a38 a39 a40 a41 a42 a43 a44 a45 a46 a47 a48 a49 a50 a51 a52 a53 a54 a55 a56 a57 a58 a59 a60 a61 a62 a63 a64 a65 a66 a67 a68 a69 a70 a71 a72 a73 a74 a75 a76 a77 a78 a79 a80 a81 a82 a83 a84 a85 a86 a87 a88 a89 a90 a91 a92 a93 a94 a95 a96 a97 a98 a99 a100 a101 a102 a103 a104 a105 a106 a107 a108 a109 a110 a111 a112 : V} {t : Go.Tmp} {w b : Bool} (hg : o.gd = some (t, w)) (hb : getT s t = .bool b) (hw : b = !w) (hs : putT s o.dst und = [a0, a1, a2, a3, a4, a5, a6, a7, a8, a9, a10, a11, a12, a13, a14, a15, a16, a17, a18, a19, a20, a21, a22, a23, a24, a25, a26, a27, a28, a29, a30, a31, a32, a33, a34, a35, a36, a37, a38, a39, a40, a41, a42, a43, a44, a45, a46, a47, a48, a49, a50, a51, a52, a53, a54, a55, a56, a57, a58, a59, a60, a61, a62, a63, a64, a65, a66, a67, a68, a69, a70, a71, a72, a73, a74, a75, a76, a77, a78, a79, a80, a81, a82, a83, a84, a85, a86, a87, a88, a89, a90, a91, a92, a93, a94, a95, a96, a97, a98, a99, a100, a101, a102, a103, a104, a105, a106, a107, a108, a109, a110, a111, a112]) (hn : runOps E md os [a0, a1, a2, a3, a4, a5, a6, a7, a8, a9, a10, a11, a12, a13, a14, a15, a16, a17, a18, a19, a20, a21, a22, a23, a24, a25, a26, a27, a28, a29, a30, a31, a32, a33, a34, a35, a36, a37, a38, a39, a40, a41, a42, a43, a44, a45, a46, a47, a48, a49, a50, a51, a52, a53, a54, a55, a56, a57, a58, a59, a60, a61, a62, a63, a64, a65, a66, a67, a68, a69, a70, a71, a72, a73, a74, a75, a76, a77, a78, a79, a80, a81, a82, a83, a84, a85, a86, a87, a88, a89, a90, a91, a92, a93, a94, a95, a96, a97, a98, a99, a100, a101, a102, a103, a104, a105, a106, a107, a108, a109, a110, a111, a112] h K) : runOps E md (o :: os) s h K := ops_nl hg hb hw hs hn
theorem ops_slNb {E : Env} {md : Go.FuncId → Sb.Mode} {o : ROp} {os : List ROp} {s : List V} {h g : Heap} {v : V} {K : List V → Heap → Prop} {a0 a1 a2 a3 a4 a5 a6 a7 a8 a9 a10 a11 a12 a13 a14 a15 a16 a17 a18 a19 a20 a21 a22 a23 a24 a25 a26 a27 a28 a29 a30 a31 a32 a33 a34 a35 a36 a37 a38 a39 a40 a41 a42 a43 a44 a45 a46 a47 a48 a49 a50 a51 a52 a53 a54 a55 a56 a57 a58 a59 a60 a61 a62 a63 a64 a65 a66 a67 a68 a69 a70 a71 a72 a73 a74 a75 a76 a77 a78 a79 a80 a81 a82 a83 a84 a85 a86 a87 a88 a89 a90 a91 a92 a93 a94 a95 a96 a97 a98 a99 a100 a101 a102 a103 a104 a105 a106 a107 a108 a109 a110 a111 a112 : V} (hg : o.gd = none) (hop : ∀ K : V → Heap → Prop, K v g → runOp E md o.op s h K) (hs : putT s o.dst v = [a0, a1, a2, a3, a4, a5, a6, a7, a8, a9, a10, a11, a12, a13, a14, a15, a16, a17, a18, a19, a20, a21, a22, a23, a24, a25, a26, a27, a28, a29, a30, a31, a32, a33, a34, a35, a36, a37, a38, a39, a40, a41, a42, a43, a44, a45, a46, a47, a48, a49, a50, a51, a52, a53, a54, a55, a56, a57, a58, a59, a60, a61, a62, a63, a64, a65, a66, a67, a68, a69, a70, a71, a72, a73, a74, a75, a76, a77, a78, a79, a80, a81, a82, a83, a84, a85, a86, a87, a88, a89, a90, a91, a92, a93, a94, a95, a96, a97, a98, a99, a100, a101, a102, a103, a104, a105, a106, a107, a108, a109, a110, a111, a112]) (hn : runOps E md os [a0, a1, a2, a3, a4, a5, a6, a7, a8, a9, a10, a11, a12, a13, a14, a15, a16, a17, a18, a19, a20, a21, a22, a23, a24, a25, a26, a27, a28, a29, a30, a31, a32, a33, a34, a35, a36, a37, a38, a39, a40, a41, a42, a43, a44, a45, a46, a47, a48, a49, a50, a51, a52, a53, a54, a55, a56, a57, a58, a59, a60, a61, a62, a63, a64, a65, a66, a67, a68, a69, a70, a71, a72, a73, a74, a75, a76, a77, a78, a79, a80, a81, a82, a83, a84, a85, a86, a87, a88, a89, a90, a91, a92, a93, a94, a95, a96, a97, a98, a99, a100, a101, a102, a103, a104, a105, a106, a107, a108, a109, a110, a111, a112] g K) : runOps E md (o :: os) s h K := ops_sl hg hop hs hn
theorem ops_ylNb {E : Env} {md : Go.FuncId → Sb.Mode} {o : ROp} {os : List ROp} {s : List V} {h g : Heap} {v : V} {K : List V → Heap → Prop} {a0 a1 a2 a3 a4 a5 a6 a7 a8 a9 a10 a11 a12 a13 a14 a15 a16 a17 a18 a19 a20 a21 a22 a23 a24 a25 a26 a27 a28 a29 a30 a31 a32 a33 a34 a35 a36 a37 a38 a39 a40 a41 a42 a43 a44 a45 a46 a47 a48 a49 a50 a51 a52 a53 a54 a55 a56 a57 a58 a59 a60 a61 a62 a63 a64 a65 a66 a67 a68 a69 a70 a71 a72 a73 a74 a75 a76 a77 a78 a79 a80 a81 a82 a83 a84 a85 a86 a87 a88 a89 a90 a91 a92 a93 a94 a95 a96 a97 a98 a99 a100 a101 a102 a103 a104 a105 a106 a107 a108 a109 a110 a111 a112 : V} {t : Go.Tmp} {w : Bool} (hg : o.gd = some (t, w)) (hb : getT s t = .bool w) (hop : ∀ K : V → Heap → Prop, K v g → runOp E md o.op s h K) (hs : putT s o.dst v = [a0, a1, a2, a3, a4, a5, a6, a7, a8, a9, a10, a11, a12, a13, a14, a15, a16, a17, a18, a19, a20, a21, a22, a23, a24, a25, a26, a27, a28, a29, a30, a31, a32, a33, a34, a35, a36, a37, a38, a39, a40, a41, a42, a43, a44, a45, a46, a47, a48, a49, a50, a51, a52, a53, a54, a55, a56, a57, a58, a59, a60, a61, a62, a63, a64, a65, a66, a67, a68, a69, a70, a71, a72, a73, a74, a75, a76, a77, a78, a79, a80, a81, a82, a83, a84, a85, a86, a87, a88, a89, a90, a91, a92, a93, a94, a95, a96, a97, a98, a99, a100, a101, a102, a103, a104, a105, a106, a107, a108, a109, a110, a111, a112]) (hn : runOps E md os [a0, a1, a2, a3, a4, a5, a6, a7, a8, a9, a10, a11, a12, a13, a14, a15, a16, a17, a18, a19, a20, a21, a22, a23, a24, a25, a26, a27, a28, a29, a30, a31, a32, a33, a34, a35, a36, a37, a38, a39, a40, a41, a42, a43, a44, a45, a46, a47, a48, a49, a50, a51, a52, a53, a54, a55, a56, a57, a58, a59, a60, a61, a62, a63, a64, a65, a66, a67, a68, a69, a70, a71, a72, a73, a74, a75, a76, a77, a78, a79, a80, a81, a82, a83, a84, a85, a86, a87, a88, a89, a90, a91, a92, a93, a94, a95, a96, a97, a98, a99, a100, a101, a102, a103, a104, a105, a106, a107, a108, a109, a110, a111, a112] g K) : runOps E md (o :: os) s h K := ops_yl hg hb hop hs hn
def rvI (S : Bs) (k : Nat) (s : List V) (h : Heap) : Prop :=
  ∃ (v : Val), (h = [Blk.cells 23 z3, Blk.cells 23 (valX v).cells] ∧ (∀ y, ReadsP S y → y = v) ∧ S ≠ [117, 110, 105, 116] ∧ v.2.2.length ≤ 9223372036854775807) ∧ s.length = 113 ∧ s.getD 0 und = und ∧ s.getD 1 und = .str S ∧ s.getD 3 und = .ptr 0 0 3 ∧ s.getD 5 und = .ptr 1 0 3
theorem rvI_lit {S : Bs} {k : Nat} {s : List V} {h : Heap} (hI : rvI S k s h) : ∃ (v : Val) (x : Nat → V), (h = [Blk.cells 23 z3, Blk.cells 23 (valX v).cells] ∧ (∀ y, ReadsP S y → y = v) ∧ S ≠ [117, 110, 105, 116] ∧ v.2.2.length ≤ 9223372036854775807) ∧
    s = [und, .str S, x 2, .ptr 0 0 3, x 4, .ptr 1 0 3, x 6, x 7, x 8, x 9, x 10, x 11, x 12, x 13, x 14, x 15, x 16, x 17, x 18, x 19, x 20, x 21, x 22, x 23, x 24, x 25, x 26, x 27, x 28, x 29, x 30, x 31, x 32, x 33, x 34, x 35, x 36, x 37, x 38, x 39, x 40, x 41, x 42, x 43, x 44, x 45, x 46, x 47, x 48, x 49, x 50, x 51, x 52, x 53, x 54, x 55, x 56, x 57, x 58, x 59, x 60, x 61, x 62, x 63, x 64, x 65, x 66, x 67, x 68, x 69, x 70, x 71, x 72, x 73, x 74, x 75, x 76, x 77, x 78, x 79, x 80, x 81, x 82, x 83, x 84, x 85, x 86, x 87, x 88, x 89, x 90, x 91, x 92, x 93, x 94, x 95, x 96, x 97, x 98, x 99, x 100, x 101, x 102, x 103, x 104, x 105, x 106, x 107, x 108, x 109, x 110, x 111, x 112] := by
  obtain ⟨v, hF, hl, e0, e1, e3, e5⟩ := hI
  refine ⟨v, fun n => s.getD n und, hF, (lit_of hl).trans ?_⟩
  show [s.getD 0 und, s.getD 1 und, s.getD 2 und, s.getD 3 und, s.getD 4 und, s.getD 5 und, s.getD 6 und, s.getD 7 und, s.getD 8 und, s.getD 9 und, s.getD 10 und, s.getD 11 und, s.getD 12 und, s.getD 13 und, s.getD 14 und, s.getD 15 und, s.getD 16 und, s.getD 17 und, s.getD 18 und, s.getD 19 und, s.getD 20 und, s.getD 21 und, s.getD 22 und, s.getD 23 und, s.getD 24 und, s.getD 25 und, s.getD 26 und, s.getD 27 und, s.getD 28 und, s.getD 29 und, s.getD 30 und, s.getD 31 und, s.getD 32 und, s.getD 33 und, s.getD 34 und, s.getD 35 und, s.getD 36 und, s.getD 37 und, s.getD 38 und, s.getD 39 und, s.getD 40 und, s.getD 41 und, s.getD 42 und, s.getD 43 und, s.getD 44 und, s.getD 45 und, s.getD 46 und, s.getD 47 und, s.getD 48 und, s.getD 49 und, s.getD 50 und, s.getD 51 und, s.getD 52 und, s.getD 53 und, s.getD 54 und, s.getD 55 und, s.getD 56 und, s.getD 57 und, s.getD 58 und, s.getD 59 und, s.getD 60 und, s.getD 61 und, s.getD 62 und, s.getD 63 und, s.getD 64 und, s.getD 65 und, s.getD 66 und, s.getD 67 und, s.getD 68 und, s.getD 69 und, s.getD 70 und, s.getD 71 und, s.getD 72 und, s.getD 73 und, s.getD 74 und, s.getD 75 und, s.getD 76 und, s.getD 77 und, s.getD 78 und, s.getD 79 und, s.getD 80 und, s.getD 81 und, s.getD 82 und, s.getD 83 und, s.getD 84 und, s.getD 85 und, s.getD 86 und, s.getD 87 und, s.getD 88 und, s.getD 89 und, s.getD 90 und, s.getD 91 und, s.getD 92 und, s.getD 93 und, s.getD 94 und, s.getD 95 und, s.getD 96 und, s.getD 97 und, s.getD 98 und, s.getD 99 und, s.getD 100 und, s.getD 101 und, s.getD 102 und, s.getD 103 und, s.getD 104 und, s.getD 105 und, s.getD 106 und, s.getD 107 und, s.getD 108 und, s.getD 109 und, s.getD 110 und, s.getD 111 und, s.getD 112 und] = _
  rw [e0, e1, e3, e5]
def rvW (S : Bs) (n : Int) (ok : Bool) (k : Nat) (s : List V) (h : Heap) : Prop :=
  ∃ (z : Int) (v : Val), ((k : Int) + z = 7 ∧ 4 ≤ z ∧ z ≤ 7 ∧ h = [Blk.cells 23 z3, Blk.cells 23 (valX v).cells] ∧ v.2.2 = [] ∧ ∀ j : Int, 4 ≤ j → j < z → wordL j = S.take 4 → v = (j, n, [])) ∧ s.length = 113 ∧ s.getD 0 und = und ∧ s.getD 1 und = .str S ∧ s.getD 3 und = .ptr 0 0 3 ∧ s.getD 5 und = .ptr 1 0 3 ∧ s.getD 9 und = .int .i64 n ∧ s.getD 10 und = .bool ok ∧ s.getD 11 und = .int .i64 z
theorem rvW_lit {S : Bs} {n : Int} {ok : Bool} {k : Nat} {s : List V} {h : Heap} (hI : rvW S n ok k s h) : ∃ (z : Int) (v : Val) (x : Nat → V), ((k : Int) + z = 7 ∧ 4 ≤ z ∧ z ≤ 7 ∧ h = [Blk.cells 23 z3, Blk.cells 23 (valX v).cells] ∧ v.2.2 = [] ∧ ∀ j : Int, 4 ≤ j → j < z → wordL j = S.take 4 → v = (j, n, [])) ∧
    s = [und, .str S, x 2, .ptr 0 0 3, x 4, .ptr 1 0 3, x 6, x 7, x 8, .int .i64 n, .bool ok, .int .i64 z, x 12, x 13, x 14, x 15, x 16, x 17, x 18, x 19, x 20, x 21, x 22, x 23, x 24, x 25, x 26, x 27, x 28, x 29, x 30, x 31, x 32, x 33, x 34, x 35, x 36, x 37, x 38, x 39, x 40, x 41, x 42, x 43, x 44, x 45, x 46, x 47, x 48, x 49, x 50, x 51, x 52, x 53, x 54, x 55, x 56, x 57, x 58, x 59, x 60, x 61, x 62, x 63, x 64, x 65, x 66, x 67, x 68, x 69, x 70, x 71, x 72, x 73, x 74, x 75, x 76, x 77, x 78, x 79, x 80, x 81, x 82, x 83, x 84, x 85, x 86, x 87, x 88, x 89, x 90, x 91, x 92, x 93, x 94, x 95, x 96, x 97, x 98, x 99, x 100, x 101, x 102, x 103, x 104, x 105, x 106, x 107, x 108, x 109, x 110, x 111, x 112] := by
  obtain ⟨z, v, hF, hl, e0, e1, e3, e5, e9, e10, e11⟩ := hI
  refine ⟨z, v, fun n => s.getD n und, hF, (lit_of hl).trans ?_⟩
  show [s.getD 0 und, s.getD 1 und, s.getD 2 und, s.getD 3 und, s.getD 4 und, s.getD 5 und, s.getD 6 und, s.getD 7 und, s.getD 8 und, s.getD 9 und, s.getD 10 und, s.getD 11 und, s.getD 12 und, s.getD 13 und, s.getD 14 und, s.getD 15 und, s.getD 16 und, s.getD 17 und, s.getD 18 und, s.getD 19 und, s.getD 20 und, s.getD 21 und, s.getD 22 und, s.getD 23 und, s.getD 24 und, s.getD 25 und, s.getD 26 und, s.getD 27 und, s.getD 28 und, s.getD 29 und, s.getD 30 und, s.getD 31 und, s.getD 32 und, s.getD 33 und, s.getD 34 und, s.getD 35 und, s.getD 36 und, s.getD 37 und, s.getD 38 und, s.getD 39 und, s.getD 40 und, s.getD 41 und, s.getD 42 und, s.getD 43 und, s.getD 44 und, s.getD 45 und, s.getD 46 und, s.getD 47 und, s.getD 48 und, s.getD 49 und, s.getD 50 und, s.getD 51 und, s.getD 52 und, s.getD 53 und, s.getD 54 und, s.getD 55 und, s.getD 56 und, s.getD 57 und, s.getD 58 und, s.getD 59 und, s.getD 60 und, s.getD 61 und, s.getD 62 und, s.getD 63 und, s.getD 64 und, s.getD 65 und, s.getD 66 und, s.getD 67 und, s.getD 68 und, s.getD 69 und, s.getD 70 und, s.getD 71 und, s.getD 72 und, s.getD 73 und, s.getD 74 und, s.getD 75 und, s.getD 76 und, s.getD 77 und, s.getD 78 und, s.getD 79 und, s.getD 80 und, s.getD 81 und, s.getD 82 und, s.getD 83 und, s.getD 84 und, s.getD 85 und, s.getD 86 und, s.getD 87 und, s.getD 88 und, s.getD 89 und, s.getD 90 und, s.getD 91 und, s.getD 92 und, s.getD 93 und, s.getD 94 und, s.getD 95 und, s.getD 96 und, s.getD 97 und, s.getD 98 und, s.getD 99 und, s.getD 100 und, s.getD 101 und, s.getD 102 und, s.getD 103 und, s.getD 104 und, s.getD 105 und, s.getD 106 und, s.getD 107 und, s.getD 108 und, s.getD 109 und, s.getD 110 und, s.getD 111 und, s.getD 112 und] = _
  rw [e0, e1, e3, e5, e9, e10, e11]

abbrev RdQ (S : List UInt8) : Ex → List V → Heap → Prop := (endK envQ fn20 fun v' h' => ∃ v, fz envQ h' depthF v' = some v ∧ (V.norefs [.str S] || v.flat) = true ∧ ∃ x ok, v = .tup [valX x, .bool ok] ∧ (ok = true → ReadsP S x) ∧ (ok = false → ∀ y, ¬ ReadsP S y))
set_option maxHeartbeats 4000000 in
theorem rtail {S : List UInt8} {st : List V} {h : Heap} (hI : rvI S 0 st h) : RunP envQ fn20.md (sndC (sndC (sndC fn20.body))) st h (RdQ S) := by
  obtain ⟨⟨vk, vn, vs⟩, x, ⟨rfl, hy, hU, hl⟩, rfl⟩ := rvI_lit hI
  clear hI
  have hV := fun g => refValid_has g vk vn vs hl
  repeat (first | apply RunP.seq | apply RunP.condT rfl | apply RunP.condF rfl | apply RunP.skip | apply RunP.block | apply RunP.exit | apply RunP.ret)
  by_cases k0 : vk = 0
  · have hno : ∀ y, ¬ ReadsP S y := fun y q => by
      have e := hy y q
      rw [e] at q
      refine hU ?_
      rw [← q.2]
      show showL vk vn vs = _
      rw [k0]; rfl
    refine RunP.drawnR _ (by decide +kernel) (fun K => rfl) ?_
    refine draw_rlNb rfl (fun K hK => hK) (by decide +kernel) rfl ?_
    refine draw_zlNb rfl (fun K hK => hK) (by decide +kernel) rfl ?_
    refine draw_rlNb rfl (fun K hK => hK) (by decide +kernel) rfl ?_
    refine draw_zlNb rfl (fun K hK => And.intro (fun _ => hK) (fun w => absurd k0 w)) (by decide +kernel) rfl ?_
    refine draw_zlNb rfl (fun K hK => hK) (by decide +kernel) rfl ?_
    refine draw_nNb rfl rfl rfl (by decide +kernel) rfl ?_
    refine draw_nNb rfl rfl rfl (by decide +kernel) rfl ?_
    refine draw_zlNb rfl (fun K hK => hK) (by decide +kernel) rfl ?_
    refine draw_zlNb rfl (fun K hK => hK) (by decide +kernel) rfl ?_
    refine draw_nNb rfl rfl rfl (by decide +kernel) rfl ?_
    refine draw_nNb rfl rfl rfl (by decide +kernel) rfl ?_
    refine draw_nNb rfl rfl rfl (by decide +kernel) rfl ?_
    refine draw_nNb rfl rfl rfl (by decide +kernel) rfl ?_
    refine draw_zlNb rfl (fun K hK => hK) (by decide +kernel) rfl ?_
    refine draw_gNb rfl (fun K hK => hK) (by decide +kernel) (by repeat (first | exact trivial | refine acc_bound (by decide +kernel) ?_ | refine acc_still (StillK.of rfl) ?_ | refine acc_still (StillK.of (CallK.of (hV _) rfl)) ?_ | refine acc_still (StillK.of (CallK.of (hSh _) rfl)) ?_)) rfl ?_
    refine draw_zlNb rfl (fun K hK => hK) (by decide +kernel) rfl ?_
    repeat (first | apply RunP.seq | apply RunP.condT rfl | apply RunP.condF rfl | apply RunP.skip | apply RunP.block | apply RunP.exit | apply RunP.ret)
    exact ⟨rfl, _, rfl, rfl, (vk, vn, vs), false, rfl, fun w => (by cases w), fun _ => hno⟩
  · by_cases hv : ValidP vk vn vs
    · simp only [decide_eq_true hv] at hV
      have hSh := fun g => refShow_has g vk vn vs hv
      by_cases he : showL vk vn vs = S
      · refine RunP.drawnR _ (by decide +kernel) (fun K => rfl) ?_
        refine draw_rlNb rfl (fun K hK => hK) (by decide +kernel) rfl ?_
        refine draw_zlNb rfl (fun K hK => hK) (by decide +kernel) rfl ?_
        refine draw_rlNb rfl (fun K hK => hK) (by decide +kernel) rfl ?_
        refine draw_zlNb rfl (fun K hK => And.intro (fun w => absurd w k0) (fun _ => hK)) (by decide +kernel) rfl ?_
        refine draw_zlNb rfl (fun K hK => hK) (by decide +kernel) rfl ?_
        refine draw_yrNb rfl rfl (fun K hK => hK) (by decide +kernel) rfl ?_
        refine draw_yrNb rfl rfl (fun K hK => CallK.of (hV _) hK) (by decide +kernel) rfl ?_
        refine draw_zlNb rfl (fun K hK => hK) (by decide +kernel) rfl ?_
        refine draw_zlNb rfl (fun K hK => hK) (by decide +kernel) rfl ?_
        refine draw_yrNb rfl rfl (fun K hK => hK) (by decide +kernel) rfl ?_
        refine draw_yrNb rfl rfl (fun K hK => CallK.of (hSh _) hK) (by decide +kernel) rfl ?_
        refine draw_yzNb rfl rfl (fun K hK => hK) (by decide +kernel) rfl ?_
        refine draw_yzNb rfl rfl (fun K hK => And.intro (fun _ => hK) (fun w => absurd he w)) (by decide +kernel) rfl ?_
        refine draw_zlNb rfl (fun K hK => hK) (by decide +kernel) rfl ?_
        refine draw_gNb rfl (fun K hK => hK) (by decide +kernel) (by repeat (first | exact trivial | refine acc_bound (by decide +kernel) ?_ | refine acc_still (StillK.of rfl) ?_ | refine acc_still (StillK.of (CallK.of (hV _) rfl)) ?_ | refine acc_still (StillK.of (CallK.of (hSh _) rfl)) ?_)) rfl ?_
        refine draw_zlNb rfl (fun K hK => hK) (by decide +kernel) rfl ?_
        repeat (first | apply RunP.seq | apply RunP.condT rfl | apply RunP.condF rfl | apply RunP.skip | apply RunP.block | apply RunP.exit | apply RunP.ret)
        exact ⟨rfl, _, rfl, rfl, (vk, vn, vs), true, rfl, fun _ => ⟨hv, he⟩, fun w => (by cases w)⟩
      · have hno : ∀ y, ¬ ReadsP S y := fun y q => by
          have e := hy y q
          rw [e] at q
          exact he q.2
        refine RunP.drawnR _ (by decide +kernel) (fun K => rfl) ?_
        refine draw_rlNb rfl (fun K hK => hK) (by decide +kernel) rfl ?_
        refine draw_zlNb rfl (fun K hK => hK) (by decide +kernel) rfl ?_
        refine draw_rlNb rfl (fun K hK => hK) (by decide +kernel) rfl ?_
        refine draw_zlNb rfl (fun K hK => And.intro (fun w => absurd w k0) (fun _ => hK)) (by decide +kernel) rfl ?_
        refine draw_zlNb rfl (fun K hK => hK) (by decide +kernel) rfl ?_
        refine draw_yrNb rfl rfl (fun K hK => hK) (by decide +kernel) rfl ?_
        refine draw_yrNb rfl rfl (fun K hK => CallK.of (hV _) hK) (by decide +kernel) rfl ?_
        refine draw_zlNb rfl (fun K hK => hK) (by decide +kernel) rfl ?_
        refine draw_zlNb rfl (fun K hK => hK) (by decide +kernel) rfl ?_
        refine draw_yrNb rfl rfl (fun K hK => hK) (by decide +kernel) rfl ?_
        refine draw_yrNb rfl rfl (fun K hK => CallK.of (hSh _) hK) (by decide +kernel) rfl ?_
        refine draw_yzNb rfl rfl (fun K hK => hK) (by decide +kernel) rfl ?_
        refine draw_yzNb rfl rfl (fun K hK => And.intro (fun w => absurd w he) (fun _ => hK)) (by decide +kernel) rfl ?_
        refine draw_zlNb rfl (fun K hK => hK) (by decide +kernel) rfl ?_
        refine draw_gNb rfl (fun K hK => hK) (by decide +kernel) (by repeat (first | exact trivial | refine acc_bound (by decide +kernel) ?_ | refine acc_still (StillK.of rfl) ?_ | refine acc_still (StillK.of (CallK.of (hV _) rfl)) ?_ | refine acc_still (StillK.of (CallK.of (hSh _) rfl)) ?_)) rfl ?_
        refine draw_zlNb rfl (fun K hK => hK) (by decide +kernel) rfl ?_
        repeat (first | apply RunP.seq | apply RunP.condT rfl | apply RunP.condF rfl | apply RunP.skip | apply RunP.block | apply RunP.exit | apply RunP.ret)
        exact ⟨rfl, _, rfl, rfl, (vk, vn, vs), false, rfl, fun w => (by cases w), fun _ => hno⟩
    · simp only [decide_eq_false hv] at hV
      have hno : ∀ y, ¬ ReadsP S y := fun y q => by
        have e := hy y q
        rw [e] at q
        exact hv q.1
      refine RunP.drawnR _ (by decide +kernel) (fun K => rfl) ?_
      refine draw_rlNb rfl (fun K hK => hK) (by decide +kernel) rfl ?_
      refine draw_zlNb rfl (fun K hK => hK) (by decide +kernel) rfl ?_
      refine draw_rlNb rfl (fun K hK => hK) (by decide +kernel) rfl ?_
      refine draw_zlNb rfl (fun K hK => And.intro (fun w => absurd w k0) (fun _ => hK)) (by decide +kernel) rfl ?_
      refine draw_zlNb rfl (fun K hK => hK) (by decide +kernel) rfl ?_
      refine draw_yrNb rfl rfl (fun K hK => hK) (by decide +kernel) rfl ?_
      refine draw_yrNb rfl rfl (fun K hK => CallK.of (hV _) hK) (by decide +kernel) rfl ?_
      refine draw_zlNb rfl (fun K hK => hK) (by decide +kernel) rfl ?_
      refine draw_zlNb rfl (fun K hK => hK) (by decide +kernel) rfl ?_
      refine draw_nNb rfl rfl rfl (by decide +kernel) rfl ?_
      refine draw_nNb rfl rfl rfl (by decide +kernel) rfl ?_
      refine draw_nNb rfl rfl rfl (by decide +kernel) rfl ?_
      refine draw_nNb rfl rfl rfl (by decide +kernel) rfl ?_
      refine draw_zlNb rfl (fun K hK => hK) (by decide +kernel) rfl ?_
      refine draw_gNb rfl (fun K hK => hK) (by decide +kernel) (by repeat (first | exact trivial | refine acc_bound (by decide +kernel) ?_ | refine acc_still (StillK.of rfl) ?_ | refine acc_still (StillK.of (CallK.of (hV _) rfl)) ?_ | refine acc_still (StillK.of (CallK.of (hSh _) rfl)) ?_)) rfl ?_
      refine draw_zlNb rfl (fun K hK => hK) (by decide +kernel) rfl ?_
      repeat (first | apply RunP.seq | apply RunP.condT rfl | apply RunP.condF rfl | apply RunP.skip | apply RunP.block | apply RunP.exit | apply RunP.ret)
      exact ⟨rfl, _, rfl, rfl, (vk, vn, vs), false, rfl, fun w => (by cases w), fun _ => hno⟩

theorem reads_cases {S : List UInt8} {y : Val} (h : ReadsP S y) : (y = (0, 0, []) ∧ S = [117, 110, 105, 116]) ∨ (∃ n : Int, (-9223372036854775808 ≤ n ∧ n ≤ 9223372036854775807) ∧ y = (1, n, []) ∧ S = Lib.itoa n) ∨ (S = [116, 114, 117, 101] ∧ y = (2, 1, [])) ∨ (S = [102, 97, 108, 115, 101] ∧ y = (2, 0, [])) ∨ (∃ t, Lex.isText t = true ∧ y = (3, 0, t) ∧ S = Lex.quote t) ∨ (∃ k n : Int, (4 ≤ k ∧ k ≤ 6) ∧ (-9223372036854775808 ≤ n ∧ n ≤ 9223372036854775807) ∧ y = (k, n, []) ∧ S = (wordL k ++ [35]) ++ Lib.itoa n) := by
  obtain ⟨k, n, s⟩ := y
  obtain ⟨hv, hs⟩ := h
  dsimp only at hv hs
  have hn := valid_n hv
  have nil : ∀ {s : List UInt8}, s.length = 0 → s = [] := fun h => List.length_eq_zero_iff.1 h
  unfold ValidP at hv
  rcases hv with ⟨rfl, rfl, h2⟩ | ⟨rfl, h1, h2⟩ | ⟨rfl, h1, rfl | rfl⟩ | ⟨rfl, rfl, h2⟩ | ⟨k4, k6, h1, h2⟩
  · rw [nil h2] at hs ⊢; exact .inl ⟨rfl, hs.symm⟩
  · rw [nil h1] at hs ⊢; exact .inr (.inl ⟨n, hn, rfl, hs.symm⟩)
  · rw [nil h1] at hs ⊢; exact .inr (.inr (.inr (.inl ⟨hs.symm, rfl⟩)))
  · rw [nil h1] at hs ⊢; exact .inr (.inr (.inl ⟨hs.symm, rfl⟩))
  · exact .inr (.inr (.inr (.inr (.inl ⟨s, (text_len h2).1, rfl, hs.symm⟩))))
  · rw [nil h1] at hs ⊢
    refine .inr (.inr (.inr (.inr (.inr ⟨k, n, ⟨k4, k6⟩, hn, rfl, ?_⟩))))
    have e : k = 4 ∨ k = 5 ∨ k = 6 := by omega
    rcases e with rfl | rfl | rfl <;> exact hs.symm
theorem truth_has (h : Heap) (b : Bool) : Has envQ .own 52 [.bool b] h (.val (valX (2, if b = true then 1 else 0, [])) h) := by
  refine HasP.own (a := [.bool b]) (d := fn52) rfl rfl rfl (of_decide_eq_true rfl) ?_
  cases b
  · repeat (first | apply RunP.seq | apply RunP.region | apply RunP.condT rfl | apply RunP.condF rfl | apply RunP.skip | apply RunP.block | apply RunP.exit | apply RunP.ret)
    exact ⟨rfl, rfl, rfl⟩
  · repeat (first | apply RunP.seq | apply RunP.region | apply RunP.condT rfl | apply RunP.condF rfl | apply RunP.skip | apply RunP.block | apply RunP.exit | apply RunP.ret)
    exact ⟨rfl, rfl, rfl⟩
theorem itoa_no {n : Int} {i : Nat} {c : UInt8} (h : (Lib.itoa n)[i]? = some c) (h1 : c.toNat ≠ 45) (h2 : c.toNat < 48 ∨ 57 < c.toNat) : False := by
  have := itoa_bytes n c (List.mem_of_getElem? h); omega
theorem head34 {S : List UInt8} {y : Val} (h0 : S[(0 : Int).toNat]? = some 34) (h : ReadsP S y) : ∃ t, Lex.isText t = true ∧ y = (3, 0, t) ∧ S = Lex.quote t := by
  rcases reads_cases h with ⟨_, e⟩ | ⟨n, _, _, e⟩ | ⟨e, _⟩ | ⟨e, _⟩ | ⟨t, h1, h2, h3⟩ | ⟨k, n, ⟨h4, h6⟩, _, _, e⟩
  · rw [e] at h0; exact absurd (Option.some.inj (show some (117 : UInt8) = some 34 from h0)) (by decide)
  · rw [e] at h0; exact (itoa_no (n := n) (i := 0) (c := 34) h0 (by decide) (by decide)).elim
  · rw [e] at h0; exact absurd (Option.some.inj (show some (116 : UInt8) = some 34 from h0)) (by decide)
  · rw [e] at h0; exact absurd (Option.some.inj (show some (102 : UInt8) = some 34 from h0)) (by decide)
  · exact ⟨t, h1, h2, h3⟩
  · have ek : k = 4 ∨ k = 5 ∨ k = 6 := by omega
    rw [e] at h0
    rcases ek with rfl | rfl | rfl
    · exact absurd (Option.some.inj (show some (99 : UInt8) = some 34 from h0)) (by decide)
    · exact absurd (Option.some.inj (show some (116 : UInt8) = some 34 from h0)) (by decide)
    · exact absurd (Option.some.inj (show some (108 : UInt8) = some 34 from h0)) (by decide)
theorem word35 {S : List UInt8} {y : Val} (h0 : S[0]? ≠ some 34) (h5 : 5 < S.length) (h35 : S[(4 : Int).toNat]? = some 35) (h : ReadsP S y) : ∃ k n : Int, (4 ≤ k ∧ k ≤ 6) ∧ (-9223372036854775808 ≤ n ∧ n ≤ 9223372036854775807) ∧ y = (k, n, []) ∧ S = (wordL k ++ [35]) ++ Lib.itoa n := by
  rcases reads_cases h with ⟨_, e⟩ | ⟨n, _, _, e⟩ | ⟨e, _⟩ | ⟨e, _⟩ | ⟨t, h1, h2, e⟩ | hw
  · rw [e] at h5; exact absurd h5 (by decide)
  · rw [e] at h35; exact (itoa_no (n := n) (i := 4) (c := 35) h35 (by decide) (by decide)).elim
  · rw [e] at h5; exact absurd h5 (by decide)
  · rw [e] at h5; exact absurd h5 (by decide)
  · rw [e] at h0; exact absurd rfl h0
  · exact hw
theorem num_else {S : List UInt8} {y : Val} (hU : S ≠ [117, 110, 105, 116]) (hT : S ≠ [116, 114, 117, 101]) (hF : S ≠ [102, 97, 108, 115, 101]) (h0 : S[0]? ≠ some 34) (h35 : ¬ (5 < S.length ∧ S[4]? = some 35)) (h : ReadsP S y) : ∃ n : Int, (-9223372036854775808 ≤ n ∧ n ≤ 9223372036854775807) ∧ y = (1, n, []) ∧ S = Lib.itoa n := by
  rcases reads_cases h with ⟨_, e⟩ | hn | ⟨e, _⟩ | ⟨e, _⟩ | ⟨t, h1, h2, e⟩ | ⟨k, n, ⟨h4, h6⟩, _, _, e⟩
  · exact absurd e hU
  · exact hn
  · exact absurd e hT
  · exact absurd e hF
  · rw [e] at h0; exact absurd rfl h0
  · have ek : k = 4 ∨ k = 5 ∨ k = 6 := by omega
    have hne := itoa_ne n
    cases hd : Lib.itoa n with
    | nil => exact absurd hd hne
    | cons a r =>
      refine absurd ?_ h35
      rw [e, hd]
      rcases ek with rfl | rfl | rfl
      · exact ⟨by simp [wordL], rfl⟩
      · exact ⟨by simp [wordL], rfl⟩
      · exact ⟨by simp [wordL], rfl⟩
theorem head_len {u : List UInt8} {k j : Nat} {q : Int × List UInt8 × Int} {ts : List (Int × List UInt8 × Int)} {f : Option Nat} (h : Lex.toksL u (k + 1) j = (q :: ts, f)) : q.2.1.length ≤ u.length := by
  simp only [Lex.toksL] at h
  split at h
  · split at h
    · rename_i p hp
      have := (Lex.tok_len hp).2.2
      cases h
      exact this
    · cases h
  · cases h
theorem word_parts {S : List UInt8} {k n : Int} (h4 : 4 ≤ k) (h6 : k ≤ 6) (h : S = (wordL k ++ [35]) ++ Lib.itoa n) : S.take 4 = wordL k ∧ (S.take S.length).drop 5 = Lib.itoa n := by
  have ek : k = 4 ∨ k = 5 ∨ k = 6 := by omega
  rw [List.take_length]
  rw [h]
  rcases ek with rfl | rfl | rfl <;> exact ⟨rfl, rfl⟩
theorem word_inj {j k : Int} (h4 : 4 ≤ j) (h6 : j ≤ 6) (k4 : 4 ≤ k) (k6 : k ≤ 6) (h : wordL j = wordL k) : j = k := by
  have ej : j = 4 ∨ j = 5 ∨ j = 6 := by omega
  have ek : k = 4 ∨ k = 5 ∨ k = 6 := by omega
  rcases ej with rfl | rfl | rfl <;> rcases ek with rfl | rfl | rfl <;> first | rfl | exact absurd h (by decide)
set_option maxHeartbeats 8000000 in
theorem refRead_has (h : Heap) (S : List UInt8) (hS : S.length ≤ 200) : ∃ x ok, Has envQ .own 20 [.str S] h (.val (.tup [valX x, .bool ok]) h) ∧ (ok = true → ReadsP S x) ∧ (ok = false → ∀ y, ¬ ReadsP S y) := by
  suffices hx : ∃ v, Has envQ .own 20 [.str S] h (.val v h) ∧ ∃ x ok, v = .tup [valX x, .bool ok] ∧ (ok = true → ReadsP S x) ∧ (ok = false → ∀ y, ¬ ReadsP S y) by
    obtain ⟨v, h1, x, ok, rfl, h2⟩ := hx; exact ⟨x, ok, h1, h2⟩
  refine HasP.ownE (a := [.str S]) (d := fn20) rfl rfl rfl (of_decide_eq_true rfl) ?_
  apply RunP.seq
  refine RunP.regionR _ (fun K => rfl) ?_
  refine ops_slNb rfl (fun K hK => hK) rfl ?_
  refine ops_slNb rfl (fun K hK => hK) rfl ?_
  apply RunP.seq
  refine RunP.regionR _ (fun K => rfl) ?_
  refine ops_slNb rfl (fun K hK => hK) rfl ?_
  refine ops_slNb rfl (fun K hK => hK) rfl ?_
  refine ops_slNb rfl (fun K hK => hK) rfl ?_
  apply RunP.seq
  apply RunP.block
  apply RunP.seq
  by_cases hU : S = [117, 110, 105, 116]
  · refine RunP.regionR _ (fun K => rfl) ?_
    refine ops_slNb rfl (fun K hK => hK) rfl ?_
    refine ops_slNb rfl (fun K hK => And.intro (fun _ => hK) (fun w => absurd hU w)) rfl ?_
    refine ops_slNb rfl (fun K hK => hK) rfl ?_
    repeat (first | apply RunP.seq | apply RunP.condT rfl | apply RunP.condF rfl | apply RunP.skip | apply RunP.block | apply RunP.exit | apply RunP.ret)
    refine RunP.regionR _ (fun K => rfl) ?_
    refine ops_slNb rfl (fun K hK => hK) rfl ?_
    refine ops_slNb rfl (fun K hK => hK) rfl ?_
    refine ops_slNb rfl (fun K hK => hK) rfl ?_
    repeat (first | apply RunP.seq | apply RunP.condT rfl | apply RunP.condF rfl | apply RunP.skip | apply RunP.block | apply RunP.exit | apply RunP.ret)
    exact ⟨rfl, _, rfl, rfl, (0, 0, []), true, rfl, fun _ => ⟨.inl ⟨rfl, rfl, rfl⟩, hU.symm⟩, fun w => (by cases w)⟩
  · refine RunP.regionR _ (fun K => rfl) ?_
    refine ops_slNb rfl (fun K hK => hK) rfl ?_
    refine ops_slNb rfl (fun K hK => And.intro (fun w => absurd w hU) (fun _ => hK)) rfl ?_
    refine ops_slNb rfl (fun K hK => hK) rfl ?_
    repeat (first | apply RunP.seq | apply RunP.condT rfl | apply RunP.condF rfl | apply RunP.skip | apply RunP.block | apply RunP.exit | apply RunP.ret)
    by_cases hT : S = [116, 114, 117, 101]
    · refine RunP.regionR _ (fun K => rfl) ?_
      refine ops_slNb rfl (fun K hK => hK) rfl ?_
      refine ops_slNb rfl (fun K hK => And.intro (fun _ => hK) (fun w => absurd hT w)) rfl ?_
      refine ops_slNb rfl (fun K hK => hK) rfl ?_
      refine ops_nlNb rfl rfl rfl rfl ?_
      refine ops_nlNb rfl rfl rfl rfl ?_
      refine ops_slNb rfl (fun K hK => hK) rfl ?_
      refine ops_slNb rfl (fun K hK => hK) rfl ?_
      repeat (first | apply RunP.seq | apply RunP.condT rfl | apply RunP.condF rfl | apply RunP.skip | apply RunP.block | apply RunP.exit | apply RunP.ret)
      have htr := fun g => truth_has g true
      refine RunP.regionR _ (fun K => rfl) ?_
      refine ops_slNb rfl (fun K hK => hK) rfl ?_
      refine ops_slNb rfl (fun K hK => And.intro (fun _ => hK) (fun w => absurd hT w)) rfl ?_
      refine ops_slNb rfl (fun K hK => CallK.of (htr _) hK) rfl ?_
      refine ops_slNb rfl (fun K hK => hK) rfl ?_
      refine ops_slNb rfl (fun K hK => hK) rfl ?_
      repeat (first | apply RunP.seq | apply RunP.condT rfl | apply RunP.condF rfl | apply RunP.skip | apply RunP.block | apply RunP.exit | apply RunP.ret)
      exact ⟨rfl, _, rfl, rfl, (2, 1, []), true, rfl, fun _ => ⟨.inr (.inr (.inl ⟨rfl, rfl, .inr rfl⟩)), hT.symm⟩, fun w => (by cases w)⟩
    · by_cases hF : S = [102, 97, 108, 115, 101]
      · refine RunP.regionR _ (fun K => rfl) ?_
        refine ops_slNb rfl (fun K hK => hK) rfl ?_
        refine ops_slNb rfl (fun K hK => And.intro (fun w => absurd w hT) (fun _ => hK)) rfl ?_
        refine ops_slNb rfl (fun K hK => hK) rfl ?_
        refine ops_ylNb rfl rfl (fun K hK => hK) rfl ?_
        refine ops_ylNb rfl rfl (fun K hK => And.intro (fun _ => hK) (fun w => absurd hF w)) rfl ?_
        refine ops_slNb rfl (fun K hK => hK) rfl ?_
        refine ops_slNb rfl (fun K hK => hK) rfl ?_
        repeat (first | apply RunP.seq | apply RunP.condT rfl | apply RunP.condF rfl | apply RunP.skip | apply RunP.block | apply RunP.exit | apply RunP.ret)
        have htr := fun g => truth_has g false
        refine RunP.regionR _ (fun K => rfl) ?_
        refine ops_slNb rfl (fun K hK => hK) rfl ?_
        refine ops_slNb rfl (fun K hK => And.intro (fun w => absurd w hT) (fun _ => hK)) rfl ?_
        refine ops_slNb rfl (fun K hK => CallK.of (htr _) hK) rfl ?_
        refine ops_slNb rfl (fun K hK => hK) rfl ?_
        refine ops_slNb rfl (fun K hK => hK) rfl ?_
        repeat (first | apply RunP.seq | apply RunP.condT rfl | apply RunP.condF rfl | apply RunP.skip | apply RunP.block | apply RunP.exit | apply RunP.ret)
        exact ⟨rfl, _, rfl, rfl, (2, 0, []), true, rfl, fun _ => ⟨.inr (.inr (.inl ⟨rfl, rfl, .inl rfl⟩)), hF.symm⟩, fun w => (by cases w)⟩
      · refine RunP.regionR _ (fun K => rfl) ?_
        refine ops_slNb rfl (fun K hK => hK) rfl ?_
        refine ops_slNb rfl (fun K hK => And.intro (fun w => absurd w hT) (fun _ => hK)) rfl ?_
        refine ops_slNb rfl (fun K hK => hK) rfl ?_
        refine ops_ylNb rfl rfl (fun K hK => hK) rfl ?_
        refine ops_ylNb rfl rfl (fun K hK => And.intro (fun w => absurd w hF) (fun _ => hK)) rfl ?_
        refine ops_slNb rfl (fun K hK => hK) rfl ?_
        refine ops_slNb rfl (fun K hK => hK) rfl ?_
        repeat (first | apply RunP.seq | apply RunP.condT rfl | apply RunP.condF rfl | apply RunP.skip | apply RunP.block | apply RunP.exit | apply RunP.ret)
        by_cases h0 : (0 : Int) < (S.length : Int)
        · obtain ⟨c, hc⟩ : ∃ c, S[(0 : Int).toNat]? = some c := ⟨_, List.getElem?_eq_getElem (by show 0 < S.length; omega)⟩
          by_cases h34 : (c.toNat : Int) = 34
          · have hc34 : c = 34 := UInt8.toNat_inj.1 (by show c.toNat = 34; omega)
            rw [hc34] at hc
            refine RunP.regionR _ (fun K => rfl) ?_
            refine ops_slNb rfl (fun K hK => hK) rfl ?_
            refine ops_slNb rfl (fun K hK => hK) rfl ?_
            refine ops_slNb rfl (fun K hK => And.intro (fun _ => hK) (fun q => absurd h0 (Int.not_lt.2 q))) rfl ?_
            refine ops_slNb rfl (fun K hK => hK) rfl ?_
            refine ops_ylNb rfl rfl (fun K hK => hK) rfl ?_
            refine ops_ylNb rfl rfl (fun K hK => And.intro (Int.le_refl _) ⟨34, hc, hK⟩) rfl ?_
            refine ops_ylNb rfl rfl (fun K hK => And.intro (fun _ => hK) (fun q => absurd rfl q)) rfl ?_
            refine ops_slNb rfl (fun K hK => hK) rfl ?_
            refine ops_slNb rfl (fun K hK => hK) rfl ?_
            repeat (first | apply RunP.seq | apply RunP.condT rfl | apply RunP.condF rfl | apply RunP.skip | apply RunP.block | apply RunP.exit | apply RunP.ret)
            have hT := fun g => refTokens_has g S (by omega)
            cases hU : Lex.toksL S (S.length + 1) 0 with
            | mk ts f =>
              cases f with
              | some a =>
                have hno : ∀ y, ¬ ReadsP S y := fun y hy => by
                  obtain ⟨t, h1, h2, h3⟩ := head34 hc hy
                  have hq := toks_quote h1
                  rw [← h3, hU] at hq; cases hq
                simp only [tokensV_bad (show ¬ 4000 < S.length by omega) hU] at hT
                refine RunP.regionR _ (fun K => rfl) ?_
                refine ops_slNb rfl (fun K hK => hK) rfl ?_
                refine ops_slNb rfl (fun K hK => CallK.of (hT _) hK) rfl ?_
                refine ops_slNb rfl (fun K hK => hK) rfl ?_
                refine ops_slNb rfl (fun K hK => hK) rfl ?_
                refine ops_slNb rfl (fun K hK => hK) rfl ?_
                refine ops_slNb rfl (fun K hK => hK) rfl ?_
                refine ops_slNb rfl (fun K hK => hK) rfl ?_
                refine ops_slNb rfl (fun K hK => hK) rfl ?_
                refine ops_slNb rfl (fun K hK => hK) rfl ?_
                repeat (first | apply RunP.seq | apply RunP.condT rfl | apply RunP.condF rfl | apply RunP.skip | apply RunP.block | apply RunP.exit | apply RunP.ret)
                refine RunP.regionR _ (fun K => rfl) ?_
                refine ops_slNb rfl (fun K hK => hK) rfl ?_
                refine ops_slNb rfl (fun K hK => And.intro (fun q => absurd q (by decide)) (fun _ => hK)) rfl ?_
                refine ops_slNb rfl (fun K hK => hK) rfl ?_
                refine ops_nlNb rfl rfl rfl rfl ?_
                refine ops_nlNb rfl rfl rfl rfl ?_
                refine ops_nlNb rfl rfl rfl rfl ?_
                refine ops_slNb rfl (fun K hK => hK) rfl ?_
                repeat (first | apply RunP.seq | apply RunP.condT rfl | apply RunP.condF rfl | apply RunP.skip | apply RunP.block | apply RunP.exit | apply RunP.ret)
                refine RunP.regionR _ (fun K => rfl) ?_
                refine ops_slNb rfl (fun K hK => hK) rfl ?_
                refine ops_slNb rfl (fun K hK => hK) rfl ?_
                refine ops_slNb rfl (fun K hK => hK) rfl ?_
                repeat (first | apply RunP.seq | apply RunP.condT rfl | apply RunP.condF rfl | apply RunP.skip | apply RunP.block | apply RunP.exit | apply RunP.ret)
                exact ⟨rfl, _, rfl, rfl, (0, 0, []), false, rfl, fun w => (by cases w), fun _ => hno⟩
              | none =>
                simp only [tokensV_ok (show ¬ 4000 < S.length by omega) hU] at hT
                by_cases hlen : (((ts.map tkV ++ [tkV (6, [], (S.length : Int))]).length : Nat) : Int) = 2
                · have hts : ts.length = 1 := by simp at hlen; omega
                  cases ts with
                  | nil => cases hts
                  | cons q ts2 =>
                    cases ts2 with
                    | cons a b => simp at hts
                    | nil =>
                      obtain ⟨qk, qt, qp⟩ := q
                      have hq2 := head_len hU
                      refine RunP.regionR _ (fun K => rfl) ?_
                      refine ops_slNb rfl (fun K hK => hK) rfl ?_
                      refine ops_slNb rfl (fun K hK => CallK.of (hT _) hK) rfl ?_
                      refine ops_slNb rfl (fun K hK => hK) rfl ?_
                      refine ops_slNb rfl (fun K hK => hK) rfl ?_
                      refine ops_slNb rfl (fun K hK => hK) rfl ?_
                      refine ops_slNb rfl (fun K hK => hK) rfl ?_
                      refine ops_slNb rfl (fun K hK => hK) rfl ?_
                      refine ops_slNb rfl (fun K hK => hK) rfl ?_
                      refine ops_slNb rfl (fun K hK => hK) rfl ?_
                      repeat (first | apply RunP.seq | apply RunP.condT rfl | apply RunP.condF rfl | apply RunP.skip | apply RunP.block | apply RunP.exit | apply RunP.ret)
                      refine RunP.regionR _ (fun K => rfl) ?_
                      refine ops_slNb rfl (fun K hK => hK) rfl ?_
                      refine ops_slNb rfl (fun K hK => And.intro (fun _ => hK) (fun q => absurd rfl q)) rfl ?_
                      refine ops_slNb rfl (fun K hK => hK) rfl ?_
                      refine ops_ylNb rfl rfl (fun K hK => hK) rfl ?_
                      refine ops_ylNb rfl rfl (fun K hK => hK) rfl ?_
                      refine ops_ylNb rfl rfl (fun K hK => And.intro (fun _ => hK) (fun q => absurd hlen q)) rfl ?_
                      refine ops_slNb rfl (fun K hK => hK) rfl ?_
                      repeat (first | apply RunP.seq | apply RunP.condT rfl | apply RunP.condF rfl | apply RunP.skip | apply RunP.block | apply RunP.exit | apply RunP.ret)
                      refine RunP.regionR _ (fun K => rfl) ?_
                      refine ops_slNb rfl (fun K hK => hK) rfl ?_
                      refine ops_slNb rfl (fun K hK => And.intro (Int.le_refl _) ⟨rfl, _, rfl, hK⟩) rfl ?_
                      refine ops_slNb rfl (fun K hK => hK) rfl ?_
                      refine ops_slNb rfl (fun K hK => hK) rfl ?_
                      refine ops_slNb rfl (fun K hK => hK) rfl ?_
                      refine ops_slNb rfl (fun K hK => hK) rfl ?_
                      refine rtail ⟨(3, 0, qt), ⟨rfl, fun y hy => ?_, by assumption, by dsimp only at hq2 ⊢; omega⟩, rfl, rfl, rfl, rfl, rfl⟩
                      obtain ⟨t, h1, h2, h3⟩ := head34 hc hy
                      have hq := toks_quote h1
                      rw [← h3, hU] at hq; cases hq
                      exact h2
                · have hno : ∀ y, ¬ ReadsP S y := fun y hy => by
                    obtain ⟨t, h1, h2, h3⟩ := head34 hc hy
                    have hq := toks_quote h1
                    rw [← h3, hU] at hq; cases hq
                    exact hlen rfl
                  refine RunP.regionR _ (fun K => rfl) ?_
                  refine ops_slNb rfl (fun K hK => hK) rfl ?_
                  refine ops_slNb rfl (fun K hK => CallK.of (hT _) hK) rfl ?_
                  refine ops_slNb rfl (fun K hK => hK) rfl ?_
                  refine ops_slNb rfl (fun K hK => hK) rfl ?_
                  refine ops_slNb rfl (fun K hK => hK) rfl ?_
                  refine ops_slNb rfl (fun K hK => hK) rfl ?_
                  refine ops_slNb rfl (fun K hK => hK) rfl ?_
                  refine ops_slNb rfl (fun K hK => hK) rfl ?_
                  refine ops_slNb rfl (fun K hK => hK) rfl ?_
                  repeat (first | apply RunP.seq | apply RunP.condT rfl | apply RunP.condF rfl | apply RunP.skip | apply RunP.block | apply RunP.exit | apply RunP.ret)
                  refine RunP.regionR _ (fun K => rfl) ?_
                  refine ops_slNb rfl (fun K hK => hK) rfl ?_
                  refine ops_slNb rfl (fun K hK => And.intro (fun _ => hK) (fun q => absurd rfl q)) rfl ?_
                  refine ops_slNb rfl (fun K hK => hK) rfl ?_
                  refine ops_ylNb rfl rfl (fun K hK => hK) rfl ?_
                  refine ops_ylNb rfl rfl (fun K hK => hK) rfl ?_
                  refine ops_ylNb rfl rfl (fun K hK => And.intro (fun q => absurd q hlen) (fun _ => hK)) rfl ?_
                  refine ops_slNb rfl (fun K hK => hK) rfl ?_
                  repeat (first | apply RunP.seq | apply RunP.condT rfl | apply RunP.condF rfl | apply RunP.skip | apply RunP.block | apply RunP.exit | apply RunP.ret)
                  refine RunP.regionR _ (fun K => rfl) ?_
                  refine ops_slNb rfl (fun K hK => hK) rfl ?_
                  refine ops_slNb rfl (fun K hK => hK) rfl ?_
                  refine ops_slNb rfl (fun K hK => hK) rfl ?_
                  repeat (first | apply RunP.seq | apply RunP.condT rfl | apply RunP.condF rfl | apply RunP.skip | apply RunP.block | apply RunP.exit | apply RunP.ret)
                  exact ⟨rfl, _, rfl, rfl, (0, 0, []), false, rfl, fun w => (by cases w), fun _ => hno⟩
          · have hne : S[0]? ≠ some 34 := fun q => by
              have e := Option.some.inj (q.symm.trans hc)
              rw [← e] at h34; exact h34 rfl
            refine RunP.regionR _ (fun K => rfl) ?_
            refine ops_slNb rfl (fun K hK => hK) rfl ?_
            refine ops_slNb rfl (fun K hK => hK) rfl ?_
            refine ops_slNb rfl (fun K hK => And.intro (fun _ => hK) (fun q => absurd h0 (Int.not_lt.2 q))) rfl ?_
            refine ops_slNb rfl (fun K hK => hK) rfl ?_
            refine ops_ylNb rfl rfl (fun K hK => hK) rfl ?_
            refine ops_ylNb rfl rfl (fun K hK => And.intro (Int.le_refl _) ⟨c, hc, hK⟩) rfl ?_
            refine ops_ylNb rfl rfl (fun K hK => And.intro (fun q => absurd q h34) (fun _ => hK)) rfl ?_
            refine ops_slNb rfl (fun K hK => hK) rfl ?_
            refine ops_slNb rfl (fun K hK => hK) rfl ?_
            repeat (first | apply RunP.seq | apply RunP.condT rfl | apply RunP.condF rfl | apply RunP.skip | apply RunP.block | apply RunP.exit | apply RunP.ret)
            by_cases h5 : (5 : Int) < (S.length : Int)
            · obtain ⟨d, hd⟩ : ∃ c, S[(4 : Int).toNat]? = some c := ⟨_, List.getElem?_eq_getElem (by show 4 < S.length; omega)⟩
              by_cases h35 : (d.toNat : Int) = 35
              · have hd35 : d = 35 := UInt8.toNat_inj.1 (by show d.toNat = 35; omega)
                rw [hd35] at hd
                refine RunP.regionR _ (fun K => rfl) ?_
                refine ops_slNb rfl (fun K hK => hK) rfl ?_
                refine ops_slNb rfl (fun K hK => hK) rfl ?_
                refine ops_slNb rfl (fun K hK => And.intro (fun _ => hK) (fun q => absurd h5 (Int.not_lt.2 q))) rfl ?_
                refine ops_slNb rfl (fun K hK => hK) rfl ?_
                refine ops_ylNb rfl rfl (fun K hK => hK) rfl ?_
                refine ops_ylNb rfl rfl (fun K hK => And.intro (show (0 : Int) ≤ 4 by omega) ⟨35, hd, hK⟩) rfl ?_
                refine ops_ylNb rfl rfl (fun K hK => And.intro (fun _ => hK) (fun q => absurd rfl q)) rfl ?_
                refine ops_slNb rfl (fun K hK => hK) rfl ?_
                refine ops_slNb rfl (fun K hK => hK) rfl ?_
                repeat (first | apply RunP.seq | apply RunP.condT rfl | apply RunP.condF rfl | apply RunP.skip | apply RunP.block | apply RunP.exit | apply RunP.ret)
                obtain ⟨n, ok, hN, hNok⟩ := Number_has [Blk.cells 23 z3, Blk.cells 23 (valX (0, 0, [])).cells] ((S.take S.length).drop (5 : Int).toNat) (by rw [List.length_drop, List.length_take]; omega)
                refine RunP.regionR _ (fun K => rfl) ?_
                refine ops_slNb rfl (fun K hK => hK) rfl ?_
                refine ops_slNb rfl (fun K hK => And.intro (show (0 : Int) ≤ 5 by omega) (And.intro (show (5 : Int).toNat ≤ S.length ∧ S.length ≤ S.length by omega) hK)) rfl ?_
                refine ops_slNb rfl (fun K hK => CallK.of hN hK) rfl ?_
                refine ops_slNb rfl (fun K hK => hK) rfl ?_
                refine ops_slNb rfl (fun K hK => hK) rfl ?_
                refine ops_slNb rfl (fun K hK => hK) rfl ?_
                refine ops_slNb rfl (fun K hK => hK) rfl ?_
                refine ops_slNb rfl (fun K hK => hK) rfl ?_
                repeat (first | apply RunP.seq | apply RunP.condT rfl | apply RunP.condF rfl | apply RunP.skip | apply RunP.block | apply RunP.exit | apply RunP.ret)
                refine RunP.regionR _ (fun K => rfl) ?_
                refine ops_slNb rfl (fun K hK => hK) rfl ?_
                repeat (first | apply RunP.seq | apply RunP.condT rfl | apply RunP.condF rfl | apply RunP.skip | apply RunP.block | apply RunP.exit | apply RunP.ret)
                have hw : ∀ y, ReadsP S y → ∃ k : Int, (4 ≤ k ∧ k ≤ 6) ∧ ok = true ∧ y = (k, n, []) ∧ wordL k = S.take 4 := fun y hy => by
                  obtain ⟨k, m, hk, hm, e1, e⟩ := word35 hne (by omega) hd hy
                  obtain ⟨p1, p2⟩ := word_parts hk.1 hk.2 e
                  obtain ⟨q1, q2⟩ := hNok m hm.1 hm.2 p2
                  exact ⟨k, hk, q1, by rw [e1, q2], p1.symm⟩
                refine RunP.loop (rvW S n ok) ?_ 3 ⟨4, (0, 0, []), ⟨by omega, by omega, by omega, rfl, rfl, fun j a b => absurd a (by omega)⟩, rfl, rfl, rfl, rfl, rfl, rfl, rfl, rfl⟩
                intro k st g hI
                obtain ⟨z, v, x, ⟨hkz, hz4, hz7, rfl, hv2, hvj⟩, rfl⟩ := rvW_lit hI
                clear hI
                repeat (first | apply RunP.seq | apply RunP.condT rfl | apply RunP.condF rfl | apply RunP.skip | apply RunP.block | apply RunP.exit | apply RunP.ret)
                cases ok with
                | false =>
                  have hyv : ∀ y, ReadsP S y → y = v := fun y hy => by
                    obtain ⟨k, _, q, _⟩ := hw y hy; cases q
                  by_cases hz : z ≤ 6
                  · refine RunP.regionR _ (fun K => rfl) ?_
                    refine ops_slNb rfl (fun K hK => hK) rfl ?_
                    refine ops_slNb rfl (fun K hK => And.intro (fun _ => hK) (fun q => absurd hz (Int.not_le.2 q))) rfl ?_
                    refine ops_slNb rfl (fun K hK => hK) rfl ?_
                    refine ops_ylNb rfl rfl (fun K hK => hK) rfl ?_
                    refine ops_slNb rfl (fun K hK => hK) rfl ?_
                    apply RunP.condF rfl
                    apply RunP.exit
                    exact rtail ⟨v, ⟨rfl, hyv, hU, by rw [hv2]; exact Nat.zero_le _⟩, rfl, rfl, rfl, rfl, rfl⟩
                  · refine RunP.regionR _ (fun K => rfl) ?_
                    refine ops_slNb rfl (fun K hK => hK) rfl ?_
                    refine ops_slNb rfl (fun K hK => And.intro (fun q => absurd q hz) (fun _ => hK)) rfl ?_
                    refine ops_slNb rfl (fun K hK => hK) rfl ?_
                    refine ops_nlNb rfl rfl rfl rfl ?_
                    refine ops_slNb rfl (fun K hK => hK) rfl ?_
                    apply RunP.condF rfl
                    apply RunP.exit
                    exact rtail ⟨v, ⟨rfl, hyv, hU, by rw [hv2]; exact Nat.zero_le _⟩, rfl, rfl, rfl, rfl, rfl⟩
                | true =>
                  by_cases hz : z ≤ 6
                  · refine RunP.regionR _ (fun K => rfl) ?_
                    refine ops_slNb rfl (fun K hK => hK) rfl ?_
                    refine ops_slNb rfl (fun K hK => And.intro (fun _ => hK) (fun q => absurd hz (Int.not_le.2 q))) rfl ?_
                    refine ops_slNb rfl (fun K hK => hK) rfl ?_
                    refine ops_ylNb rfl rfl (fun K hK => hK) rfl ?_
                    refine ops_slNb rfl (fun K hK => hK) rfl ?_
                    repeat (first | apply RunP.seq | apply RunP.condT rfl | apply RunP.condF rfl | apply RunP.skip | apply RunP.block | apply RunP.exit | apply RunP.ret)
                    have ez : z = 4 ∨ z = 5 ∨ z = 6 := by omega
                    by_cases hwz : wordL z = S.take 4
                    · rcases ez with rfl | rfl | rfl
                      · refine RunP.drawnR _ (by decide +kernel) (fun K => rfl) ?_
                        refine draw_zlNb rfl (fun K hK => hK) (by decide +kernel) rfl ?_
                        refine draw_zlNb rfl (fun K hK => hK) (by decide +kernel) rfl ?_
                        refine draw_zlNb rfl (fun K hK => wrK (show IntKind.i64.wrap ((4 : Int) - 4) = 0 from rfl) hK) (by decide +kernel) rfl ?_
                        refine draw_zlNb rfl (fun K hK => hK) (by decide +kernel) rfl ?_
                        refine draw_zlNb rfl (fun K hK => hK) (by decide +kernel) rfl ?_
                        refine draw_zlNb rfl (fun K hK => And.intro (show (0 : Int) ≤ 4 by omega) (And.intro (show (0 : Nat) ≤ (4 : Int).toNat ∧ (4 : Int).toNat ≤ S.length by omega) hK)) (by decide +kernel) rfl ?_
                        refine draw_zlNb rfl (fun K hK => And.intro (fun _ => hK) (fun q => absurd hwz q)) (by decide +kernel) rfl ?_
                        repeat (first | apply RunP.seq | apply RunP.condT rfl | apply RunP.condF rfl | apply RunP.skip | apply RunP.block | apply RunP.exit | apply RunP.ret)
                        refine RunP.regionR _ (fun K => rfl) ?_
                        refine ops_slNb rfl (fun K hK => hK) rfl ?_
                        refine ops_slNb rfl (fun K hK => hK) rfl ?_
                        refine ops_slNb rfl (fun K hK => hK) rfl ?_
                        refine ops_slNb rfl (fun K hK => hK) rfl ?_
                        repeat (first | apply RunP.seq | apply RunP.condT rfl | apply RunP.condF rfl | apply RunP.skip | apply RunP.block | apply RunP.exit | apply RunP.ret)
                        refine RunP.regionR _ (fun K => rfl) ?_
                        refine ops_slNb rfl (fun K hK => hK) rfl ?_
                        refine ops_slNb rfl (fun K hK => wrK (show IntKind.i64.wrap ((4 : Int) + 1) = 4 + 1 from rfl) hK) rfl ?_
                        refine ops_slNb rfl (fun K hK => hK) rfl ?_
                        exact ⟨k - 1, by omega, 4 + 1, (4, n, []), ⟨by omega, by omega, by omega, rfl, rfl, fun j a b e => by rw [word_inj a (by omega) (by omega) (by omega) (e.trans hwz.symm)]⟩, rfl, rfl, rfl, rfl, rfl, rfl, rfl, rfl⟩
                      · refine RunP.drawnR _ (by decide +kernel) (fun K => rfl) ?_
                        refine draw_zlNb rfl (fun K hK => hK) (by decide +kernel) rfl ?_
                        refine draw_zlNb rfl (fun K hK => hK) (by decide +kernel) rfl ?_
                        refine draw_zlNb rfl (fun K hK => wrK (show IntKind.i64.wrap ((5 : Int) - 4) = 1 from rfl) hK) (by decide +kernel) rfl ?_
                        refine draw_zlNb rfl (fun K hK => hK) (by decide +kernel) rfl ?_
                        refine draw_zlNb rfl (fun K hK => hK) (by decide +kernel) rfl ?_
                        refine draw_zlNb rfl (fun K hK => And.intro (show (0 : Int) ≤ 4 by omega) (And.intro (show (0 : Nat) ≤ (4 : Int).toNat ∧ (4 : Int).toNat ≤ S.length by omega) hK)) (by decide +kernel) rfl ?_
                        refine draw_zlNb rfl (fun K hK => And.intro (fun _ => hK) (fun q => absurd hwz q)) (by decide +kernel) rfl ?_
                        repeat (first | apply RunP.seq | apply RunP.condT rfl | apply RunP.condF rfl | apply RunP.skip | apply RunP.block | apply RunP.exit | apply RunP.ret)
                        refine RunP.regionR _ (fun K => rfl) ?_
                        refine ops_slNb rfl (fun K hK => hK) rfl ?_
                        refine ops_slNb rfl (fun K hK => hK) rfl ?_
                        refine ops_slNb rfl (fun K hK => hK) rfl ?_
                        refine ops_slNb rfl (fun K hK => hK) rfl ?_
                        repeat (first | apply RunP.seq | apply RunP.condT rfl | apply RunP.condF rfl | apply RunP.skip | apply RunP.block | apply RunP.exit | apply RunP.ret)
                        refine RunP.regionR _ (fun K => rfl) ?_
                        refine ops_slNb rfl (fun K hK => hK) rfl ?_
                        refine ops_slNb rfl (fun K hK => wrK (show IntKind.i64.wrap ((5 : Int) + 1) = 5 + 1 from rfl) hK) rfl ?_
                        refine ops_slNb rfl (fun K hK => hK) rfl ?_
                        exact ⟨k - 1, by omega, 5 + 1, (5, n, []), ⟨by omega, by omega, by omega, rfl, rfl, fun j a b e => by rw [word_inj a (by omega) (by omega) (by omega) (e.trans hwz.symm)]⟩, rfl, rfl, rfl, rfl, rfl, rfl, rfl, rfl⟩
                      · refine RunP.drawnR _ (by decide +kernel) (fun K => rfl) ?_
                        refine draw_zlNb rfl (fun K hK => hK) (by decide +kernel) rfl ?_
                        refine draw_zlNb rfl (fun K hK => hK) (by decide +kernel) rfl ?_
                        refine draw_zlNb rfl (fun K hK => wrK (show IntKind.i64.wrap ((6 : Int) - 4) = 2 from rfl) hK) (by decide +kernel) rfl ?_
                        refine draw_zlNb rfl (fun K hK => hK) (by decide +kernel) rfl ?_
                        refine draw_zlNb rfl (fun K hK => hK) (by decide +kernel) rfl ?_
                        refine draw_zlNb rfl (fun K hK => And.intro (show (0 : Int) ≤ 4 by omega) (And.intro (show (0 : Nat) ≤ (4 : Int).toNat ∧ (4 : Int).toNat ≤ S.length by omega) hK)) (by decide +kernel) rfl ?_
                        refine draw_zlNb rfl (fun K hK => And.intro (fun _ => hK) (fun q => absurd hwz q)) (by decide +kernel) rfl ?_
                        repeat (first | apply RunP.seq | apply RunP.condT rfl | apply RunP.condF rfl | apply RunP.skip | apply RunP.block | apply RunP.exit | apply RunP.ret)
                        refine RunP.regionR _ (fun K => rfl) ?_
                        refine ops_slNb rfl (fun K hK => hK) rfl ?_
                        refine ops_slNb rfl (fun K hK => hK) rfl ?_
                        refine ops_slNb rfl (fun K hK => hK) rfl ?_
                        refine ops_slNb rfl (fun K hK => hK) rfl ?_
                        repeat (first | apply RunP.seq | apply RunP.condT rfl | apply RunP.condF rfl | apply RunP.skip | apply RunP.block | apply RunP.exit | apply RunP.ret)
                        refine RunP.regionR _ (fun K => rfl) ?_
                        refine ops_slNb rfl (fun K hK => hK) rfl ?_
                        refine ops_slNb rfl (fun K hK => wrK (show IntKind.i64.wrap ((6 : Int) + 1) = 6 + 1 from rfl) hK) rfl ?_
                        refine ops_slNb rfl (fun K hK => hK) rfl ?_
                        exact ⟨k - 1, by omega, 6 + 1, (6, n, []), ⟨by omega, by omega, by omega, rfl, rfl, fun j a b e => by rw [word_inj a (by omega) (by omega) (by omega) (e.trans hwz.symm)]⟩, rfl, rfl, rfl, rfl, rfl, rfl, rfl, rfl⟩
                    · rcases ez with rfl | rfl | rfl
                      · refine RunP.drawnR _ (by decide +kernel) (fun K => rfl) ?_
                        refine draw_zlNb rfl (fun K hK => hK) (by decide +kernel) rfl ?_
                        refine draw_zlNb rfl (fun K hK => hK) (by decide +kernel) rfl ?_
                        refine draw_zlNb rfl (fun K hK => wrK (show IntKind.i64.wrap ((4 : Int) - 4) = 0 from rfl) hK) (by decide +kernel) rfl ?_
                        refine draw_zlNb rfl (fun K hK => hK) (by decide +kernel) rfl ?_
                        refine draw_zlNb rfl (fun K hK => hK) (by decide +kernel) rfl ?_
                        refine draw_zlNb rfl (fun K hK => And.intro (show (0 : Int) ≤ 4 by omega) (And.intro (show (0 : Nat) ≤ (4 : Int).toNat ∧ (4 : Int).toNat ≤ S.length by omega) hK)) (by decide +kernel) rfl ?_
                        refine draw_zlNb rfl (fun K hK => And.intro (fun q => absurd q hwz) (fun _ => hK)) (by decide +kernel) rfl ?_
                        repeat (first | apply RunP.seq | apply RunP.condT rfl | apply RunP.condF rfl | apply RunP.skip | apply RunP.block | apply RunP.exit | apply RunP.ret)
                        refine RunP.regionR _ (fun K => rfl) ?_
                        refine ops_slNb rfl (fun K hK => hK) rfl ?_
                        refine ops_slNb rfl (fun K hK => wrK (show IntKind.i64.wrap ((4 : Int) + 1) = 4 + 1 from rfl) hK) rfl ?_
                        refine ops_slNb rfl (fun K hK => hK) rfl ?_
                        exact ⟨k - 1, by omega, 4 + 1, v, ⟨by omega, by omega, by omega, rfl, hv2, fun j a b e => by
                          by_cases q : j = 4
                          · rw [q] at e; exact absurd e hwz
                          · exact hvj j a (by omega) e⟩, rfl, rfl, rfl, rfl, rfl, rfl, rfl, rfl⟩
                      · refine RunP.drawnR _ (by decide +kernel) (fun K => rfl) ?_
                        refine draw_zlNb rfl (fun K hK => hK) (by decide +kernel) rfl ?_
                        refine draw_zlNb rfl (fun K hK => hK) (by decide +kernel) rfl ?_
                        refine draw_zlNb rfl (fun K hK => wrK (show IntKind.i64.wrap ((5 : Int) - 4) = 1 from rfl) hK) (by decide +kernel) rfl ?_
                        refine draw_zlNb rfl (fun K hK => hK) (by decide +kernel) rfl ?_
                        refine draw_zlNb rfl (fun K hK => hK) (by decide +kernel) rfl ?_
                        refine draw_zlNb rfl (fun K hK => And.intro (show (0 : Int) ≤ 4 by omega) (And.intro (show (0 : Nat) ≤ (4 : Int).toNat ∧ (4 : Int).toNat ≤ S.length by omega) hK)) (by decide +kernel) rfl ?_
                        refine draw_zlNb rfl (fun K hK => And.intro (fun q => absurd q hwz) (fun _ => hK)) (by decide +kernel) rfl ?_
                        repeat (first | apply RunP.seq | apply RunP.condT rfl | apply RunP.condF rfl | apply RunP.skip | apply RunP.block | apply RunP.exit | apply RunP.ret)
                        refine RunP.regionR _ (fun K => rfl) ?_
                        refine ops_slNb rfl (fun K hK => hK) rfl ?_
                        refine ops_slNb rfl (fun K hK => wrK (show IntKind.i64.wrap ((5 : Int) + 1) = 5 + 1 from rfl) hK) rfl ?_
                        refine ops_slNb rfl (fun K hK => hK) rfl ?_
                        exact ⟨k - 1, by omega, 5 + 1, v, ⟨by omega, by omega, by omega, rfl, hv2, fun j a b e => by
                          by_cases q : j = 5
                          · rw [q] at e; exact absurd e hwz
                          · exact hvj j a (by omega) e⟩, rfl, rfl, rfl, rfl, rfl, rfl, rfl, rfl⟩
                      · refine RunP.drawnR _ (by decide +kernel) (fun K => rfl) ?_
                        refine draw_zlNb rfl (fun K hK => hK) (by decide +kernel) rfl ?_
                        refine draw_zlNb rfl (fun K hK => hK) (by decide +kernel) rfl ?_
                        refine draw_zlNb rfl (fun K hK => wrK (show IntKind.i64.wrap ((6 : Int) - 4) = 2 from rfl) hK) (by decide +kernel) rfl ?_
                        refine draw_zlNb rfl (fun K hK => hK) (by decide +kernel) rfl ?_
                        refine draw_zlNb rfl (fun K hK => hK) (by decide +kernel) rfl ?_
                        refine draw_zlNb rfl (fun K hK => And.intro (show (0 : Int) ≤ 4 by omega) (And.intro (show (0 : Nat) ≤ (4 : Int).toNat ∧ (4 : Int).toNat ≤ S.length by omega) hK)) (by decide +kernel) rfl ?_
                        refine draw_zlNb rfl (fun K hK => And.intro (fun q => absurd q hwz) (fun _ => hK)) (by decide +kernel) rfl ?_
                        repeat (first | apply RunP.seq | apply RunP.condT rfl | apply RunP.condF rfl | apply RunP.skip | apply RunP.block | apply RunP.exit | apply RunP.ret)
                        refine RunP.regionR _ (fun K => rfl) ?_
                        refine ops_slNb rfl (fun K hK => hK) rfl ?_
                        refine ops_slNb rfl (fun K hK => wrK (show IntKind.i64.wrap ((6 : Int) + 1) = 6 + 1 from rfl) hK) rfl ?_
                        refine ops_slNb rfl (fun K hK => hK) rfl ?_
                        exact ⟨k - 1, by omega, 6 + 1, v, ⟨by omega, by omega, by omega, rfl, hv2, fun j a b e => by
                          by_cases q : j = 6
                          · rw [q] at e; exact absurd e hwz
                          · exact hvj j a (by omega) e⟩, rfl, rfl, rfl, rfl, rfl, rfl, rfl, rfl⟩
                  · have hyv : ∀ y, ReadsP S y → y = v := fun y hy => by
                      obtain ⟨k, hk, _, e, p⟩ := hw y hy
                      rw [e, hvj k hk.1 (by omega) p]
                    refine RunP.regionR _ (fun K => rfl) ?_
                    refine ops_slNb rfl (fun K hK => hK) rfl ?_
                    refine ops_slNb rfl (fun K hK => And.intro (fun q => absurd q hz) (fun _ => hK)) rfl ?_
                    refine ops_slNb rfl (fun K hK => hK) rfl ?_
                    refine ops_nlNb rfl rfl rfl rfl ?_
                    refine ops_slNb rfl (fun K hK => hK) rfl ?_
                    apply RunP.condF rfl
                    apply RunP.exit
                    exact rtail ⟨v, ⟨rfl, hyv, hU, by rw [hv2]; exact Nat.zero_le _⟩, rfl, rfl, rfl, rfl, rfl⟩
              · have hn35 : ¬ (5 < S.length ∧ S[4]? = some 35) := fun q => by
                  have e := Option.some.inj (q.2.symm.trans hd)
                  rw [← e] at h35; exact h35 rfl
                refine RunP.regionR _ (fun K => rfl) ?_
                refine ops_slNb rfl (fun K hK => hK) rfl ?_
                refine ops_slNb rfl (fun K hK => hK) rfl ?_
                refine ops_slNb rfl (fun K hK => And.intro (fun _ => hK) (fun q => absurd h5 (Int.not_lt.2 q))) rfl ?_
                refine ops_slNb rfl (fun K hK => hK) rfl ?_
                refine ops_ylNb rfl rfl (fun K hK => hK) rfl ?_
                refine ops_ylNb rfl rfl (fun K hK => And.intro (show (0 : Int) ≤ 4 by omega) ⟨d, hd, hK⟩) rfl ?_
                refine ops_ylNb rfl rfl (fun K hK => And.intro (fun q => absurd q h35) (fun _ => hK)) rfl ?_
                refine ops_slNb rfl (fun K hK => hK) rfl ?_
                refine ops_slNb rfl (fun K hK => hK) rfl ?_
                repeat (first | apply RunP.seq | apply RunP.condT rfl | apply RunP.condF rfl | apply RunP.skip | apply RunP.block | apply RunP.exit | apply RunP.ret)
                obtain ⟨n, ok, hN, hNok⟩ := Number_has [Blk.cells 23 z3, Blk.cells 23 (valX (0, 0, [])).cells] S (by omega)
                refine RunP.regionR _ (fun K => rfl) ?_
                refine ops_slNb rfl (fun K hK => hK) rfl ?_
                refine ops_slNb rfl (fun K hK => CallK.of hN hK) rfl ?_
                refine ops_slNb rfl (fun K hK => hK) rfl ?_
                refine ops_slNb rfl (fun K hK => hK) rfl ?_
                refine ops_slNb rfl (fun K hK => hK) rfl ?_
                refine ops_slNb rfl (fun K hK => hK) rfl ?_
                refine ops_slNb rfl (fun K hK => hK) rfl ?_
                repeat (first | apply RunP.seq | apply RunP.condT rfl | apply RunP.condF rfl | apply RunP.skip | apply RunP.block | apply RunP.exit | apply RunP.ret)
                cases ok with
                | false =>
                  have hno : ∀ y, ¬ ReadsP S y := fun y hy => by
                    obtain ⟨m, hm, _, e⟩ := num_else hU hT hF hne hn35 hy
                    exact absurd (hNok m hm.1 hm.2 e).1 (by decide)
                  refine RunP.regionR _ (fun K => rfl) ?_
                  refine ops_slNb rfl (fun K hK => hK) rfl ?_
                  refine ops_slNb rfl (fun K hK => hK) rfl ?_
                  repeat (first | apply RunP.seq | apply RunP.condT rfl | apply RunP.condF rfl | apply RunP.skip | apply RunP.block | apply RunP.exit | apply RunP.ret)
                  refine RunP.regionR _ (fun K => rfl) ?_
                  refine ops_slNb rfl (fun K hK => hK) rfl ?_
                  refine ops_slNb rfl (fun K hK => hK) rfl ?_
                  refine ops_slNb rfl (fun K hK => hK) rfl ?_
                  repeat (first | apply RunP.seq | apply RunP.condT rfl | apply RunP.condF rfl | apply RunP.skip | apply RunP.block | apply RunP.exit | apply RunP.ret)
                  exact ⟨rfl, _, rfl, rfl, (0, 0, []), false, rfl, fun w => (by cases w), fun _ => hno⟩
                | true =>
                  refine RunP.regionR _ (fun K => rfl) ?_
                  refine ops_slNb rfl (fun K hK => hK) rfl ?_
                  refine ops_slNb rfl (fun K hK => hK) rfl ?_
                  repeat (first | apply RunP.seq | apply RunP.condT rfl | apply RunP.condF rfl | apply RunP.skip | apply RunP.block | apply RunP.exit | apply RunP.ret)
                  refine RunP.regionR _ (fun K => rfl) ?_
                  refine ops_slNb rfl (fun K hK => hK) rfl ?_
                  refine ops_slNb rfl (fun K hK => hK) rfl ?_
                  refine ops_slNb rfl (fun K hK => hK) rfl ?_
                  refine rtail ⟨(1, n, []), ⟨rfl, fun y hy => ?_, hU, Nat.zero_le _⟩, rfl, rfl, rfl, rfl, rfl⟩
                  obtain ⟨m, hm, e1, e⟩ := num_else hU hT hF hne hn35 hy
                  rw [e1, (hNok m hm.1 hm.2 e).2]
            · have hn35 : ¬ (5 < S.length ∧ S[4]? = some 35) := fun q => h5 (by omega)
              refine RunP.regionR _ (fun K => rfl) ?_
              refine ops_slNb rfl (fun K hK => hK) rfl ?_
              refine ops_slNb rfl (fun K hK => hK) rfl ?_
              refine ops_slNb rfl (fun K hK => And.intro (fun q => absurd q h5) (fun _ => hK)) rfl ?_
              refine ops_slNb rfl (fun K hK => hK) rfl ?_
              refine ops_nlNb rfl rfl rfl rfl ?_
              refine ops_nlNb rfl rfl rfl rfl ?_
              refine ops_nlNb rfl rfl rfl rfl ?_
              refine ops_slNb rfl (fun K hK => hK) rfl ?_
              refine ops_slNb rfl (fun K hK => hK) rfl ?_
              repeat (first | apply RunP.seq | apply RunP.condT rfl | apply RunP.condF rfl | apply RunP.skip | apply RunP.block | apply RunP.exit | apply RunP.ret)
              obtain ⟨n, ok, hN, hNok⟩ := Number_has [Blk.cells 23 z3, Blk.cells 23 (valX (0, 0, [])).cells] S (by omega)
              refine RunP.regionR _ (fun K => rfl) ?_
              refine ops_slNb rfl (fun K hK => hK) rfl ?_
              refine ops_slNb rfl (fun K hK => CallK.of hN hK) rfl ?_
              refine ops_slNb rfl (fun K hK => hK) rfl ?_
              refine ops_slNb rfl (fun K hK => hK) rfl ?_
              refine ops_slNb rfl (fun K hK => hK) rfl ?_
              refine ops_slNb rfl (fun K hK => hK) rfl ?_
              refine ops_slNb rfl (fun K hK => hK) rfl ?_
              repeat (first | apply RunP.seq | apply RunP.condT rfl | apply RunP.condF rfl | apply RunP.skip | apply RunP.block | apply RunP.exit | apply RunP.ret)
              cases ok with
              | false =>
                have hno : ∀ y, ¬ ReadsP S y := fun y hy => by
                  obtain ⟨m, hm, _, e⟩ := num_else hU hT hF hne hn35 hy
                  exact absurd (hNok m hm.1 hm.2 e).1 (by decide)
                refine RunP.regionR _ (fun K => rfl) ?_
                refine ops_slNb rfl (fun K hK => hK) rfl ?_
                refine ops_slNb rfl (fun K hK => hK) rfl ?_
                repeat (first | apply RunP.seq | apply RunP.condT rfl | apply RunP.condF rfl | apply RunP.skip | apply RunP.block | apply RunP.exit | apply RunP.ret)
                refine RunP.regionR _ (fun K => rfl) ?_
                refine ops_slNb rfl (fun K hK => hK) rfl ?_
                refine ops_slNb rfl (fun K hK => hK) rfl ?_
                refine ops_slNb rfl (fun K hK => hK) rfl ?_
                repeat (first | apply RunP.seq | apply RunP.condT rfl | apply RunP.condF rfl | apply RunP.skip | apply RunP.block | apply RunP.exit | apply RunP.ret)
                exact ⟨rfl, _, rfl, rfl, (0, 0, []), false, rfl, fun w => (by cases w), fun _ => hno⟩
              | true =>
                refine RunP.regionR _ (fun K => rfl) ?_
                refine ops_slNb rfl (fun K hK => hK) rfl ?_
                refine ops_slNb rfl (fun K hK => hK) rfl ?_
                repeat (first | apply RunP.seq | apply RunP.condT rfl | apply RunP.condF rfl | apply RunP.skip | apply RunP.block | apply RunP.exit | apply RunP.ret)
                refine RunP.regionR _ (fun K => rfl) ?_
                refine ops_slNb rfl (fun K hK => hK) rfl ?_
                refine ops_slNb rfl (fun K hK => hK) rfl ?_
                refine ops_slNb rfl (fun K hK => hK) rfl ?_
                refine rtail ⟨(1, n, []), ⟨rfl, fun y hy => ?_, hU, Nat.zero_le _⟩, rfl, rfl, rfl, rfl, rfl⟩
                obtain ⟨m, hm, e1, e⟩ := num_else hU hT hF hne hn35 hy
                rw [e1, (hNok m hm.1 hm.2 e).2]
        · have hne : S[0]? ≠ some 34 := fun q => by
            have := (List.getElem?_eq_some_iff.1 q).1; omega
          have h5 : ¬ (5 : Int) < (S.length : Int) := by omega
          have hn35 : ¬ (5 < S.length ∧ S[4]? = some 35) := fun q => h5 (by omega)
          refine RunP.regionR _ (fun K => rfl) ?_
          refine ops_slNb rfl (fun K hK => hK) rfl ?_
          refine ops_slNb rfl (fun K hK => hK) rfl ?_
          refine ops_slNb rfl (fun K hK => And.intro (fun q => absurd q h0) (fun _ => hK)) rfl ?_
          refine ops_slNb rfl (fun K hK => hK) rfl ?_
          refine ops_nlNb rfl rfl rfl rfl ?_
          refine ops_nlNb rfl rfl rfl rfl ?_
          refine ops_nlNb rfl rfl rfl rfl ?_
          refine ops_slNb rfl (fun K hK => hK) rfl ?_
          refine ops_slNb rfl (fun K hK => hK) rfl ?_
          repeat (first | apply RunP.seq | apply RunP.condT rfl | apply RunP.condF rfl | apply RunP.skip | apply RunP.block | apply RunP.exit | apply RunP.ret)
          refine RunP.regionR _ (fun K => rfl) ?_
          refine ops_slNb rfl (fun K hK => hK) rfl ?_
          refine ops_slNb rfl (fun K hK => hK) rfl ?_
          refine ops_slNb rfl (fun K hK => And.intro (fun q => absurd q h5) (fun _ => hK)) rfl ?_
          refine ops_slNb rfl (fun K hK => hK) rfl ?_
          refine ops_nlNb rfl rfl rfl rfl ?_
          refine ops_nlNb rfl rfl rfl rfl ?_
          refine ops_nlNb rfl rfl rfl rfl ?_
          refine ops_slNb rfl (fun K hK => hK) rfl ?_
          refine ops_slNb rfl (fun K hK => hK) rfl ?_
          repeat (first | apply RunP.seq | apply RunP.condT rfl | apply RunP.condF rfl | apply RunP.skip | apply RunP.block | apply RunP.exit | apply RunP.ret)
          obtain ⟨n, ok, hN, hNok⟩ := Number_has [Blk.cells 23 z3, Blk.cells 23 (valX (0, 0, [])).cells] S (by omega)
          refine RunP.regionR _ (fun K => rfl) ?_
          refine ops_slNb rfl (fun K hK => hK) rfl ?_
          refine ops_slNb rfl (fun K hK => CallK.of hN hK) rfl ?_
          refine ops_slNb rfl (fun K hK => hK) rfl ?_
          refine ops_slNb rfl (fun K hK => hK) rfl ?_
          refine ops_slNb rfl (fun K hK => hK) rfl ?_
          refine ops_slNb rfl (fun K hK => hK) rfl ?_
          refine ops_slNb rfl (fun K hK => hK) rfl ?_
          repeat (first | apply RunP.seq | apply RunP.condT rfl | apply RunP.condF rfl | apply RunP.skip | apply RunP.block | apply RunP.exit | apply RunP.ret)
          cases ok with
          | false =>
            have hno : ∀ y, ¬ ReadsP S y := fun y hy => by
              obtain ⟨m, hm, _, e⟩ := num_else hU hT hF hne hn35 hy
              exact absurd (hNok m hm.1 hm.2 e).1 (by decide)
            refine RunP.regionR _ (fun K => rfl) ?_
            refine ops_slNb rfl (fun K hK => hK) rfl ?_
            refine ops_slNb rfl (fun K hK => hK) rfl ?_
            repeat (first | apply RunP.seq | apply RunP.condT rfl | apply RunP.condF rfl | apply RunP.skip | apply RunP.block | apply RunP.exit | apply RunP.ret)
            refine RunP.regionR _ (fun K => rfl) ?_
            refine ops_slNb rfl (fun K hK => hK) rfl ?_
            refine ops_slNb rfl (fun K hK => hK) rfl ?_
            refine ops_slNb rfl (fun K hK => hK) rfl ?_
            repeat (first | apply RunP.seq | apply RunP.condT rfl | apply RunP.condF rfl | apply RunP.skip | apply RunP.block | apply RunP.exit | apply RunP.ret)
            exact ⟨rfl, _, rfl, rfl, (0, 0, []), false, rfl, fun w => (by cases w), fun _ => hno⟩
          | true =>
            refine RunP.regionR _ (fun K => rfl) ?_
            refine ops_slNb rfl (fun K hK => hK) rfl ?_
            refine ops_slNb rfl (fun K hK => hK) rfl ?_
            repeat (first | apply RunP.seq | apply RunP.condT rfl | apply RunP.condF rfl | apply RunP.skip | apply RunP.block | apply RunP.exit | apply RunP.ret)
            refine RunP.regionR _ (fun K => rfl) ?_
            refine ops_slNb rfl (fun K hK => hK) rfl ?_
            refine ops_slNb rfl (fun K hK => hK) rfl ?_
            refine ops_slNb rfl (fun K hK => hK) rfl ?_
            refine rtail ⟨(1, n, []), ⟨rfl, fun y hy => ?_, hU, Nat.zero_le _⟩, rfl, rfl, rfl, rfl, rfl⟩
            obtain ⟨m, hm, e1, e⟩ := num_else hU hT hF hne hn35 hy
            rw [e1, (hNok m hm.1 hm.2 e).2]
end Go.Proofs.YtkjhnpmgieplgaaGreatDoor
