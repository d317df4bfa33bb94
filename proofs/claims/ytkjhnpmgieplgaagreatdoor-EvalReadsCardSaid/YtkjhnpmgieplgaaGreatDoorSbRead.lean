/- eval.Read: a text. -/
import Derived.Test.YtkjhnpmgieplgaaGreatDoorSbRead3
set_option linter.unusedVariables false
set_option linter.unusedSimpArgs false
namespace Go.Proofs.YtkjhnpmgieplgaaGreatDoor
open Go.Sb
set_option maxRecDepth 100000

theorem ops_nlRa {E : Env} {md : Go.FuncId → Sb.Mode} {o : ROp} {os : List ROp} {s : List V} {h : Heap} {K : List V → Heap → Prop} {a0 a1 a2 a3 a4 a5 a6 a7 a8 a9 a10 a11 a12 a13 a14 a15 a16 a17 a18 a19 a20 a21 a22 a23 a24 a25 a26 a27 a28 a29 a30 a31 a32 a33 a34 a35 a36 a37 a38 a39 a40 a41 a42 a43 a44 a45 a46 a47 a48 a49 a50 a51 a52 a53 a54 a55 a56 a57 a58 a59 a60 a61 a62 a63 a64 a65 a66 a67 a68 a69 a70 a71 a72 a73 a74 a75 a76 a77 a78 a79 a80 a81 a82 a83 a84 a85 a86 a87 a88 a89 a90 a91 a92 a93 a94 a95 a96 a97 a98 a99 a100 a101 a102 a103 a104 a105 a106 a107 a108 a109 a110 a111 a112 a113 a114 a115 : V} {t : Go.Tmp} {w b : Bool} (hg : o.gd = some (t, w)) (hb : getT s t = .bool b) (hw : b = !w) (hs : putT s o.dst und = [a0, a1, a2, a3, a4, a5, a6, a7, a8, a9, a10, a11, a12, a13, a14, a15, a16, a17, a18, a19, a20, a21, a22, a23, a24, a25, a26, a27, a28, a29, a30, a31, a32, a33, a34, a35, a36, a37, a38, a39, a40, a41, a42, a43, a44, a45, a46, a47, a48, a49, a50, a51, a52, a53, a54, a55, a56, a57, a58, a59, a60, a61, a62, a63, a64, a65, a66, a67, a68, a69, a70, a71, a72, a73, a74, a75, a76, a77, a78, a79, a80, a81, a82, a83, a84, a85, a86, a87, a88, a89, a90, a91, a92, a93, a94, a95, a96, a97, a98, a99, a100, a101, a102, a103, a104, a105, a106, a107, a108, a109, a110, a111, a112, a113, a114, a115]) (hn : runOps E md os [a0, a1, a2, a3, a4, a5, a6, a7, a8, a9, a10, a11, a12, a13, a14, a15, a16, a17, a18, a19, a20, a21, a22, a23, a24, a25, a26, a27, a28, a29, a30, a31, a32, a33, a34, a35, a36, a37, a38, a39, a40, a41, a42, a43, a44, a45, a46, a47, a48, a49, a50, a51, a52, a53, a54, a55, a56, a57, a58, a59, a60, a61, a62, a63, a64, a65, a66, a67, a68, a69, a70, a71, a72, a73, a74, a75, a76, a77, a78, a79, a80, a81, a82, a83, a84, a85, a86, a87, a88, a89, a90, a91, a92, a93, a94, a95, a96, a97, a98, a99, a100, a101, a102, a103, a104, a105, a106, a107, a108, a109, a110, a111, a112, a113, a114, a115] h K) : runOps E md (o :: os) s h K := ops_nl hg hb hw hs hn
theorem ops_slRa {E : Env} {md : Go.FuncId → Sb.Mode} {o : ROp} {os : List ROp} {s : List V} {h g : Heap} {v : V} {K : List V → Heap → Prop} {a0 a1 a2 a3 a4 a5 a6 a7 a8 a9 a10 a11 a12 a13 a14 a15 a16 a17 a18 a19 a20 a21 a22 a23 a24 a25 a26 a27 a28 a29 a30 a31 a32 a33 a34 a35 a36 a37 a38 a39 a40 a41 a42 a43 a44 a45 a46 a47 a48 a49 a50 a51 a52 a53 a54 a55 a56 a57 a58 a59 a60 a61 a62 a63 a64 a65 a66 a67 a68 a69 a70 a71 a72 a73 a74 a75 a76 a77 a78 a79 a80 a81 a82 a83 a84 a85 a86 a87 a88 a89 a90 a91 a92 a93 a94 a95 a96 a97 a98 a99 a100 a101 a102 a103 a104 a105 a106 a107 a108 a109 a110 a111 a112 a113 a114 a115 : V} (hg : o.gd = none) (hop : ∀ K : V → Heap → Prop, K v g → runOp E md o.op s h K) (hs : putT s o.dst v = [a0, a1, a2, a3, a4, a5, a6, a7, a8, a9, a10, a11, a12, a13, a14, a15, a16, a17, a18, a19, a20, a21, a22, a23, a24, a25, a26, a27, a28, a29, a30, a31, a32, a33, a34, a35, a36, a37, a38, a39, a40, a41, a42, a43, a44, a45, a46, a47, a48, a49, a50, a51, a52, a53, a54, a55, a56, a57, a58, a59, a60, a61, a62, a63, a64, a65, a66, a67, a68, a69, a70, a71, a72, a73, a74, a75, a76, a77, a78, a79, a80, a81, a82, a83, a84, a85, a86, a87, a88, a89, a90, a91, a92, a93, a94, a95, a96, a97, a98, a99, a100, a101, a102, a103, a104, a105, a106, a107, a108, a109, a110, a111, a112, a113, a114, a115]) (hn : runOps E md os [a0, a1, a2, a3, a4, a5, a6, a7, a8, a9, a10, a11, a12, a13, a14, a15, a16, a17, a18, a19, a20, a21, a22, a23, a24, a25, a26, a27, a28, a29, a30, a31, a32, a33, a34, a35, a36, a37, a38, a39, a40, a41, a42, a43, a44, a45, a46, a47, a48, a49, a50, a51, a52, a53, a54, a55, a56, a57, a58, a59, a60, a61, a62, a63, a64, a65, a66, a67, a68, a69, a70, a71, a72, a73, a74, a75, a76, a77, a78, a79, a80, a81, a82, a83, a84, a85, a86, a87, a88, a89, a90, a91, a92, a93, a94, a95, a96, a97, a98, a99, a100, a101, a102, a103, a104, a105, a106, a107, a108, a109, a110, a111, a112, a113, a114, a115] g K) : runOps E md (o :: os) s h K := ops_sl hg hop hs hn
theorem ops_ylRa {E : Env} {md : Go.FuncId → Sb.Mode} {o : ROp} {os : List ROp} {s : List V} {h g : Heap} {v : V} {K : List V → Heap → Prop} {a0 a1 a2 a3 a4 a5 a6 a7 a8 a9 a10 a11 a12 a13 a14 a15 a16 a17 a18 a19 a20 a21 a22 a23 a24 a25 a26 a27 a28 a29 a30 a31 a32 a33 a34 a35 a36 a37 a38 a39 a40 a41 a42 a43 a44 a45 a46 a47 a48 a49 a50 a51 a52 a53 a54 a55 a56 a57 a58 a59 a60 a61 a62 a63 a64 a65 a66 a67 a68 a69 a70 a71 a72 a73 a74 a75 a76 a77 a78 a79 a80 a81 a82 a83 a84 a85 a86 a87 a88 a89 a90 a91 a92 a93 a94 a95 a96 a97 a98 a99 a100 a101 a102 a103 a104 a105 a106 a107 a108 a109 a110 a111 a112 a113 a114 a115 : V} {t : Go.Tmp} {w : Bool} (hg : o.gd = some (t, w)) (hb : getT s t = .bool w) (hop : ∀ K : V → Heap → Prop, K v g → runOp E md o.op s h K) (hs : putT s o.dst v = [a0, a1, a2, a3, a4, a5, a6, a7, a8, a9, a10, a11, a12, a13, a14, a15, a16, a17, a18, a19, a20, a21, a22, a23, a24, a25, a26, a27, a28, a29, a30, a31, a32, a33, a34, a35, a36, a37, a38, a39, a40, a41, a42, a43, a44, a45, a46, a47, a48, a49, a50, a51, a52, a53, a54, a55, a56, a57, a58, a59, a60, a61, a62, a63, a64, a65, a66, a67, a68, a69, a70, a71, a72, a73, a74, a75, a76, a77, a78, a79, a80, a81, a82, a83, a84, a85, a86, a87, a88, a89, a90, a91, a92, a93, a94, a95, a96, a97, a98, a99, a100, a101, a102, a103, a104, a105, a106, a107, a108, a109, a110, a111, a112, a113, a114, a115]) (hn : runOps E md os [a0, a1, a2, a3, a4, a5, a6, a7, a8, a9, a10, a11, a12, a13, a14, a15, a16, a17, a18, a19, a20, a21, a22, a23, a24, a25, a26, a27, a28, a29, a30, a31, a32, a33, a34, a35, a36, a37, a38, a39, a40, a41, a42, a43, a44, a45, a46, a47, a48, a49, a50, a51, a52, a53, a54, a55, a56, a57, a58, a59, a60, a61, a62, a63, a64, a65, a66, a67, a68, a69, a70, a71, a72, a73, a74, a75, a76, a77, a78, a79, a80, a81, a82, a83, a84, a85, a86, a87, a88, a89, a90, a91, a92, a93, a94, a95, a96, a97, a98, a99, a100, a101, a102, a103, a104, a105, a106, a107, a108, a109, a110, a111, a112, a113, a114, a115] g K) : runOps E md (o :: os) s h K := ops_yl hg hb hop hs hn

set_option maxHeartbeats 8000000 in
theorem read_text {S : List UInt8} (hS : S.length ≤ 1000000) {s : List V} {h : Heap} (hI : rd0 S 0 s h) : WpV Tryz.prog envQ (fstC (sndC (sndC (sndC fn19.body)))) s h fun e s' h' => e = .normal ∧ rdA S 0 s' h' := by
  obtain ⟨z, x, ⟨rfl, rfl⟩, rfl⟩ := rd0_lit hI
  clear hI
  refine WpV.of (md := fn19.md) envQ_ok rfl ?_
  have hHM : HM (base0 S) [Blk.cells 23 z3, Blk.cells 23 (cellsOf (base0 S))] := ⟨rfl, rfl⟩
  have hlenB : ∀ x ∈ base0 S, x.2.2.length ≤ 9223372036854775807 := fun x hx => by
    simp only [base0, List.mem_cons, List.not_mem_nil, or_false] at hx
    rcases hx with rfl | rfl | rfl | rfl <;> exact Nat.zero_le _
  have hA0 : (∀ t, Lex.isText t = true → Lex.quote t ≠ S) → CandA S (base0 S) := fun hno => ⟨by simp [base0], by simp [base0], by simp [base0], by simp [base0], fun t h1 h2 => absurd h2 (hno t h1)⟩
  by_cases h2 : 2 ≤ (S.length : Int)
  · obtain ⟨c, hc⟩ : ∃ c, S[(0 : Int).toNat]? = some c := ⟨_, List.getElem?_eq_getElem (by show 0 < S.length; omega)⟩
    by_cases h34 : (c.toNat : Int) = 34
    · repeat (first | apply RunP.seq | apply RunP.condT rfl | apply RunP.condF rfl | apply RunP.skip | apply RunP.block)
      refine RunP.regionR _ (fun K => rfl) ?_
      refine ops_slRa rfl (fun K hK => hK) rfl ?_
      refine ops_slRa rfl (fun K hK => hK) rfl ?_
      refine ops_slRa rfl (fun K hK => And.intro (fun _ => hK) (fun w => absurd w (by omega))) rfl ?_
      refine ops_slRa rfl (fun K hK => hK) rfl ?_
      refine ops_ylRa rfl rfl (fun K hK => hK) rfl ?_
      refine ops_ylRa rfl rfl (fun K hK => And.intro (Int.le_refl _) ⟨c, hc, hK⟩) rfl ?_
      refine ops_ylRa rfl rfl (fun K hK => And.intro (fun _ => hK) (fun w => absurd h34 w)) rfl ?_
      refine ops_slRa rfl (fun K hK => hK) rfl ?_
      repeat (first | apply RunP.seq | apply RunP.condT rfl | apply RunP.condF rfl | apply RunP.skip | apply RunP.block)
      have hrep := fun h => replace_told h ((S.take ((S.length : Int) - 1).toNat).drop (1 : Int).toNat) [92, 34] [34] ⟨by rw [List.length_drop, List.length_take]; omega, by decide, by decide, by decide⟩
      have hlr := rep_le (((S.take ((S.length : Int) - 1).toNat).drop (1 : Int).toNat))
      generalize Lib.replaceAll ((S.take ((S.length : Int) - 1).toNat).drop (1 : Int).toNat) [92, 34] [34] = ins0 at hrep hlr
      rw [List.length_drop, List.length_take] at hlr
      refine RunP.regionR _ (fun K => rfl) ?_
      refine ops_slRa rfl (fun K hK => hK) rfl ?_
      refine ops_slRa rfl (fun K hK => hK) rfl ?_
      refine ops_slRa rfl (fun K hK => hK) rfl ?_
      refine ops_slRa rfl (fun K hK => wrK (show IntKind.i64.wrap ((S.length : Int) - 1) = (S.length : Int) - 1 from wrapS (by omega) (by omega)) hK) rfl ?_
      refine ops_slRa rfl (fun K hK => And.intro (show 0 ≤ (S.length : Int) - 1 by omega) (And.intro (show (0 : Int) ≤ 1 by omega) (And.intro (show (1 : Int).toNat ≤ ((S.length : Int) - 1).toNat ∧ ((S.length : Int) - 1).toNat ≤ S.length by omega) hK))) rfl ?_
      refine ops_slRa rfl (fun K hK => CallK.of (hrep _) hK) rfl ?_
      refine ops_slRa rfl (fun K hK => hK) rfl ?_
      refine RunP.mid (M := rdT S 0) ?_ ?_
      · have hT := fun h => Tokens_has h S (by omega)
        repeat (first | apply RunP.seq | apply RunP.condT rfl | apply RunP.condF rfl | apply RunP.skip | apply RunP.block)
        by_cases hf : 4000 < S.length
        · simp only [tokensV_full hf] at hT
          have hI1 : ∀ t, Lex.isText t = true → Lex.quote t = S → ins0 = t := fun t h1 h2 => by
            have := quote_len t; have := (text_len (textI_iff.2 h1)).2
            rw [← h2] at hf; omega
          have hIns : InsOk S ins0 := ⟨hI1, by omega⟩
          refine RunP.regionR _ (fun K => rfl) ?_
          refine ops_slRa rfl (fun K hK => hK) rfl ?_
          refine ops_slRa rfl (fun K hK => CallK.of (hT _) hK) rfl ?_
          refine ops_slRa rfl (fun K hK => hK) rfl ?_
          refine ops_slRa rfl (fun K hK => hK) rfl ?_
          refine ops_slRa rfl (fun K hK => hK) rfl ?_
          refine ops_slRa rfl (fun K hK => hK) rfl ?_
          refine ops_slRa rfl (fun K hK => hK) rfl ?_
          refine ops_slRa rfl (fun K hK => hK) rfl ?_
          refine ops_slRa rfl (fun K hK => hK) rfl ?_
          repeat (first | apply RunP.seq | apply RunP.condT rfl | apply RunP.condF rfl | apply RunP.skip | apply RunP.block)
          refine RunP.regionR _ (fun K => rfl) ?_
          refine ops_slRa rfl (fun K hK => hK) rfl ?_
          refine ops_slRa rfl (fun K hK => And.intro (fun w => absurd w (by decide)) (fun _ => hK)) rfl ?_
          refine ops_slRa rfl (fun K hK => hK) rfl ?_
          refine ops_nlRa rfl rfl rfl rfl ?_
          refine ops_nlRa rfl rfl rfl rfl ?_
          refine ops_nlRa rfl rfl rfl rfl ?_
          refine ops_nlRa rfl rfl rfl rfl ?_
          refine ops_nlRa rfl rfl rfl rfl ?_
          refine ops_slRa rfl (fun K hK => hK) rfl ?_
          repeat (first | apply RunP.seq | apply RunP.condT rfl | apply RunP.condF rfl | apply RunP.skip | apply RunP.block)
          exact ⟨rfl, ins0, ⟨rfl, hIns⟩, rfl, rfl, rfl, rfl, rfl, rfl, rfl⟩
        · cases hU : Lex.toksL S (S.length + 1) 0 with
          | mk ts f =>
            cases f with
            | some a =>
              simp only [tokensV_bad hf hU] at hT
              have hI1 : ∀ t, Lex.isText t = true → Lex.quote t = S → ins0 = t := fun t h1 h2 => by
                have hq := toks_quote h1
                rw [h2, hU] at hq; cases hq
              have hIns : InsOk S ins0 := ⟨hI1, by omega⟩
              refine RunP.regionR _ (fun K => rfl) ?_
              refine ops_slRa rfl (fun K hK => hK) rfl ?_
              refine ops_slRa rfl (fun K hK => CallK.of (hT _) hK) rfl ?_
              refine ops_slRa rfl (fun K hK => hK) rfl ?_
              refine ops_slRa rfl (fun K hK => hK) rfl ?_
              refine ops_slRa rfl (fun K hK => hK) rfl ?_
              refine ops_slRa rfl (fun K hK => hK) rfl ?_
              refine ops_slRa rfl (fun K hK => hK) rfl ?_
              refine ops_slRa rfl (fun K hK => hK) rfl ?_
              refine ops_slRa rfl (fun K hK => hK) rfl ?_
              repeat (first | apply RunP.seq | apply RunP.condT rfl | apply RunP.condF rfl | apply RunP.skip | apply RunP.block)
              refine RunP.regionR _ (fun K => rfl) ?_
              refine ops_slRa rfl (fun K hK => hK) rfl ?_
              refine ops_slRa rfl (fun K hK => And.intro (fun w => absurd w (by decide)) (fun _ => hK)) rfl ?_
              refine ops_slRa rfl (fun K hK => hK) rfl ?_
              refine ops_nlRa rfl rfl rfl rfl ?_
              refine ops_nlRa rfl rfl rfl rfl ?_
              refine ops_nlRa rfl rfl rfl rfl ?_
              refine ops_nlRa rfl rfl rfl rfl ?_
              refine ops_nlRa rfl rfl rfl rfl ?_
              refine ops_slRa rfl (fun K hK => hK) rfl ?_
              repeat (first | apply RunP.seq | apply RunP.condT rfl | apply RunP.condF rfl | apply RunP.skip | apply RunP.block)
              exact ⟨rfl, ins0, ⟨rfl, hIns⟩, rfl, rfl, rfl, rfl, rfl, rfl, rfl⟩
            | none =>
              simp only [tokensV_ok hf hU] at hT
              refine RunP.regionR _ (fun K => rfl) ?_
              refine ops_slRa rfl (fun K hK => hK) rfl ?_
              refine ops_slRa rfl (fun K hK => CallK.of (hT _) hK) rfl ?_
              refine ops_slRa rfl (fun K hK => hK) rfl ?_
              refine ops_slRa rfl (fun K hK => hK) rfl ?_
              refine ops_slRa rfl (fun K hK => hK) rfl ?_
              refine ops_slRa rfl (fun K hK => hK) rfl ?_
              refine ops_slRa rfl (fun K hK => hK) rfl ?_
              refine ops_slRa rfl (fun K hK => hK) rfl ?_
              refine ops_slRa rfl (fun K hK => hK) rfl ?_
              repeat (first | apply RunP.seq | apply RunP.condT rfl | apply RunP.condF rfl | apply RunP.skip | apply RunP.block)
              cases ts with
              | nil =>
                have hI1 : ∀ t, Lex.isText t = true → Lex.quote t = S → ins0 = t := fun t h1 h2 => by
                  have hq := toks_quote h1
                  rw [h2, hU] at hq; cases hq
                have hIns : InsOk S ins0 := ⟨hI1, by omega⟩
                refine RunP.regionR _ (fun K => rfl) ?_
                refine ops_slRa rfl (fun K hK => hK) rfl ?_
                refine ops_slRa rfl (fun K hK => And.intro (fun _ => hK) (fun w => absurd rfl w)) rfl ?_
                refine ops_slRa rfl (fun K hK => hK) rfl ?_
                refine ops_ylRa rfl rfl (fun K hK => hK) rfl ?_
                refine ops_ylRa rfl rfl (fun K hK => And.intro (Int.le_refl _) ⟨rfl, _, rfl, hK⟩) rfl ?_
                refine ops_ylRa rfl rfl (fun K hK => hK) rfl ?_
                refine ops_ylRa rfl rfl (fun K hK => hK) rfl ?_
                refine ops_ylRa rfl rfl (fun K hK => And.intro (fun w => absurd w (show ¬ (6 : Int) = 3 by decide)) (fun _ => hK)) rfl ?_
                refine ops_slRa rfl (fun K hK => hK) rfl ?_
                repeat (first | apply RunP.seq | apply RunP.condT rfl | apply RunP.condF rfl | apply RunP.skip | apply RunP.block)
                exact ⟨rfl, ins0, ⟨rfl, hIns⟩, rfl, rfl, rfl, rfl, rfl, rfl, rfl⟩
              | cons q ts =>
                obtain ⟨qk, qt, qp⟩ := q
                have hok := Lex.toks_ok S (S.length + 1) 0 (qk, qt, qp) (by rw [hU]; exact List.mem_cons_self ..)
                by_cases h3 : qk = 3
                · subst h3
                  have hqt : Lex.isText qt = true := by
                    unfold Lex.tokOk at hok
                    rcases hok with h | h | h | h | h
                    · exact absurd h.1 (show ¬ (3 : Int) = 1 by decide)
                    · exact absurd h.1 (show ¬ (3 : Int) = 2 by decide)
                    · exact h.2
                    · exact absurd h.1 (show ¬ (3 : Int) = 4 by decide)
                    · exact absurd h.1 (show ¬ (3 : Int) = 5 by decide)
                  have hI1 : ∀ t, Lex.isText t = true → Lex.quote t = S → qt = t := fun t h1 h2 => by
                    have hq := toks_quote h1
                    rw [h2, hU] at hq; cases hq; rfl
                  have hIns : InsOk S qt := ⟨hI1, by have := (text_len (textI_iff.2 hqt)).2; omega⟩
                  refine RunP.regionR _ (fun K => rfl) ?_
                  refine ops_slRa rfl (fun K hK => hK) rfl ?_
                  refine ops_slRa rfl (fun K hK => And.intro (fun _ => hK) (fun w => absurd rfl w)) rfl ?_
                  refine ops_slRa rfl (fun K hK => hK) rfl ?_
                  refine ops_ylRa rfl rfl (fun K hK => hK) rfl ?_
                  refine ops_ylRa rfl rfl (fun K hK => And.intro (Int.le_refl _) ⟨rfl, _, rfl, hK⟩) rfl ?_
                  refine ops_ylRa rfl rfl (fun K hK => hK) rfl ?_
                  refine ops_ylRa rfl rfl (fun K hK => hK) rfl ?_
                  refine ops_ylRa rfl rfl (fun K hK => And.intro (fun _ => hK) (fun w => absurd rfl w)) rfl ?_
                  refine ops_slRa rfl (fun K hK => hK) rfl ?_
                  repeat (first | apply RunP.seq | apply RunP.condT rfl | apply RunP.condF rfl | apply RunP.skip | apply RunP.block)
                  refine RunP.regionR _ (fun K => rfl) ?_
                  refine ops_slRa rfl (fun K hK => hK) rfl ?_
                  refine ops_slRa rfl (fun K hK => And.intro (Int.le_refl _) ⟨rfl, _, rfl, hK⟩) rfl ?_
                  refine ops_slRa rfl (fun K hK => hK) rfl ?_
                  refine ops_slRa rfl (fun K hK => hK) rfl ?_
                  refine ops_slRa rfl (fun K hK => hK) rfl ?_
                  exact ⟨rfl, qt, ⟨rfl, hIns⟩, rfl, rfl, rfl, rfl, rfl, rfl, rfl⟩
                · have hI1 : ∀ t, Lex.isText t = true → Lex.quote t = S → ins0 = t := fun t h1 h2 => by
                    have hq := toks_quote h1
                    rw [h2, hU] at hq; cases hq; exact absurd rfl h3
                  have hIns : InsOk S ins0 := ⟨hI1, by omega⟩
                  refine RunP.regionR _ (fun K => rfl) ?_
                  refine ops_slRa rfl (fun K hK => hK) rfl ?_
                  refine ops_slRa rfl (fun K hK => And.intro (fun _ => hK) (fun w => absurd rfl w)) rfl ?_
                  refine ops_slRa rfl (fun K hK => hK) rfl ?_
                  refine ops_ylRa rfl rfl (fun K hK => hK) rfl ?_
                  refine ops_ylRa rfl rfl (fun K hK => And.intro (Int.le_refl _) ⟨rfl, _, rfl, hK⟩) rfl ?_
                  refine ops_ylRa rfl rfl (fun K hK => hK) rfl ?_
                  refine ops_ylRa rfl rfl (fun K hK => hK) rfl ?_
                  refine ops_ylRa rfl rfl (fun K hK => And.intro (fun w => absurd w h3) (fun _ => hK)) rfl ?_
                  refine ops_slRa rfl (fun K hK => hK) rfl ?_
                  repeat (first | apply RunP.seq | apply RunP.condT rfl | apply RunP.condF rfl | apply RunP.skip | apply RunP.block)
                  exact ⟨rfl, ins0, ⟨rfl, hIns⟩, rfl, rfl, rfl, rfl, rfl, rfl, rfl⟩
      · intro s h hI
        obtain ⟨ins, x, ⟨rfl, hIns⟩, rfl⟩ := rdT_lit hI
        clear hI
        have happ := app_val (all := base0 S) (b := 2) (x := (3, 0, ins)) (HM.push hHM (Blk.cells 23 (valX (3, 0, ins)).cells)) (Nat.le_of_ble_eq_true rfl) (Nat.le_of_ble_eq_true rfl) rfl (by decide)
        repeat (first | apply RunP.seq | apply RunP.condT rfl | apply RunP.condF rfl | apply RunP.skip | apply RunP.block)
        refine RunP.regionR _ (fun K => rfl) ?_
        refine ops_slRa rfl (fun K hK => hK) rfl ?_
        refine ops_slRa rfl (fun K hK => hK) rfl ?_
        refine ops_slRa rfl (fun K hK => hK) rfl ?_
        refine ops_slRa rfl (fun K hK => hK) rfl ?_
        refine ops_slRa rfl (fun K hK => bindR_of (congrArg valH happ.1) hK) rfl ?_
        refine ops_slRa rfl (fun K hK => hK) rfl ?_
        refine ⟨rfl, base0 S ++ [(3, 0, ins)], ⟨happ.2, ?_, Nat.le_of_ble_eq_true rfl, Nat.le_of_ble_eq_true rfl, fun x hx => ?_⟩, rfl, rfl, rfl, rfl, rfl, rfl⟩
        · exact ⟨by simp [base0], by simp [base0], by simp [base0], by simp [base0], fun t h1 h2 => by rw [← hIns.1 t h1 h2]; simp⟩
        · rcases List.mem_append.1 hx with hx | hx
          · exact hlenB x hx
          · rw [List.mem_singleton.1 hx]; exact hIns.2
    · have hno : ∀ t, Lex.isText t = true → Lex.quote t ≠ S := fun t _ h => by
        rw [← h] at hc
        have : (34 : UInt8) = c := Option.some.inj hc
        rw [← this] at h34; exact h34 rfl
      repeat (first | apply RunP.seq | apply RunP.condT rfl | apply RunP.condF rfl | apply RunP.skip | apply RunP.block)
      refine RunP.regionR _ (fun K => rfl) ?_
      refine ops_slRa rfl (fun K hK => hK) rfl ?_
      refine ops_slRa rfl (fun K hK => hK) rfl ?_
      refine ops_slRa rfl (fun K hK => And.intro (fun _ => hK) (fun w => absurd w (by omega))) rfl ?_
      refine ops_slRa rfl (fun K hK => hK) rfl ?_
      refine ops_ylRa rfl rfl (fun K hK => hK) rfl ?_
      refine ops_ylRa rfl rfl (fun K hK => And.intro (Int.le_refl _) ⟨c, hc, hK⟩) rfl ?_
      refine ops_ylRa rfl rfl (fun K hK => And.intro (fun w => absurd w h34) (fun _ => hK)) rfl ?_
      refine ops_slRa rfl (fun K hK => hK) rfl ?_
      repeat (first | apply RunP.seq | apply RunP.condT rfl | apply RunP.condF rfl | apply RunP.skip | apply RunP.block)
      exact ⟨rfl, base0 S, ⟨hHM, hA0 hno, Nat.le_of_ble_eq_true rfl, Nat.le_of_ble_eq_true rfl, hlenB⟩, rfl, rfl, rfl, rfl, rfl, rfl⟩
  · have hno : ∀ t, Lex.isText t = true → Lex.quote t ≠ S := fun t _ h => by
      rw [← h] at h2
      exact h2 (by unfold Lex.quote; simp; omega)
    repeat (first | apply RunP.seq | apply RunP.condT rfl | apply RunP.condF rfl | apply RunP.skip | apply RunP.block)
    refine RunP.regionR _ (fun K => rfl) ?_
    refine ops_slRa rfl (fun K hK => hK) rfl ?_
    refine ops_slRa rfl (fun K hK => hK) rfl ?_
    refine ops_slRa rfl (fun K hK => And.intro (fun w => absurd w h2) (fun _ => hK)) rfl ?_
    refine ops_slRa rfl (fun K hK => hK) rfl ?_
    refine ops_nlRa rfl rfl rfl rfl ?_
    refine ops_nlRa rfl rfl rfl rfl ?_
    refine ops_nlRa rfl rfl rfl rfl ?_
    refine ops_slRa rfl (fun K hK => hK) rfl ?_
    repeat (first | apply RunP.seq | apply RunP.condT rfl | apply RunP.condF rfl | apply RunP.skip | apply RunP.block)
    exact ⟨rfl, base0 S, ⟨hHM, hA0 hno, Nat.le_of_ble_eq_true rfl, Nat.le_of_ble_eq_true rfl, hlenB⟩, rfl, rfl, rfl, rfl, rfl, rfl⟩
end Go.Proofs.YtkjhnpmgieplgaaGreatDoor

/- eval.Read. -/

namespace Go.Proofs.YtkjhnpmgieplgaaGreatDoor
open Go.Sb
set_option maxRecDepth 100000

theorem ops_slRd {E : Env} {md : Go.FuncId → Sb.Mode} {o : ROp} {os : List ROp} {s : List V} {h g : Heap} {v : V} {K : List V → Heap → Prop} {a0 a1 a2 a3 a4 a5 a6 a7 a8 a9 a10 a11 a12 a13 a14 a15 a16 a17 a18 a19 a20 a21 a22 a23 a24 a25 a26 a27 a28 a29 a30 a31 a32 a33 a34 a35 a36 a37 a38 a39 a40 a41 a42 a43 a44 a45 a46 a47 a48 a49 a50 a51 a52 a53 a54 a55 a56 a57 a58 a59 a60 a61 a62 a63 a64 a65 a66 a67 a68 a69 a70 a71 a72 a73 a74 a75 a76 a77 a78 a79 a80 a81 a82 a83 a84 a85 a86 a87 a88 a89 a90 a91 a92 a93 a94 a95 a96 a97 a98 a99 a100 a101 a102 a103 a104 a105 a106 a107 a108 a109 a110 a111 a112 a113 a114 a115 : V} (hg : o.gd = none) (hop : ∀ K : V → Heap → Prop, K v g → runOp E md o.op s h K) (hs : putT s o.dst v = [a0, a1, a2, a3, a4, a5, a6, a7, a8, a9, a10, a11, a12, a13, a14, a15, a16, a17, a18, a19, a20, a21, a22, a23, a24, a25, a26, a27, a28, a29, a30, a31, a32, a33, a34, a35, a36, a37, a38, a39, a40, a41, a42, a43, a44, a45, a46, a47, a48, a49, a50, a51, a52, a53, a54, a55, a56, a57, a58, a59, a60, a61, a62, a63, a64, a65, a66, a67, a68, a69, a70, a71, a72, a73, a74, a75, a76, a77, a78, a79, a80, a81, a82, a83, a84, a85, a86, a87, a88, a89, a90, a91, a92, a93, a94, a95, a96, a97, a98, a99, a100, a101, a102, a103, a104, a105, a106, a107, a108, a109, a110, a111, a112, a113, a114, a115]) (hn : runOps E md os [a0, a1, a2, a3, a4, a5, a6, a7, a8, a9, a10, a11, a12, a13, a14, a15, a16, a17, a18, a19, a20, a21, a22, a23, a24, a25, a26, a27, a28, a29, a30, a31, a32, a33, a34, a35, a36, a37, a38, a39, a40, a41, a42, a43, a44, a45, a46, a47, a48, a49, a50, a51, a52, a53, a54, a55, a56, a57, a58, a59, a60, a61, a62, a63, a64, a65, a66, a67, a68, a69, a70, a71, a72, a73, a74, a75, a76, a77, a78, a79, a80, a81, a82, a83, a84, a85, a86, a87, a88, a89, a90, a91, a92, a93, a94, a95, a96, a97, a98, a99, a100, a101, a102, a103, a104, a105, a106, a107, a108, a109, a110, a111, a112, a113, a114, a115] g K) : runOps E md (o :: os) s h K := ops_sl hg hop hs hn

set_option maxHeartbeats 8000000 in
theorem read_body (S : List UInt8) (hS : S.length ≤ 1000000) : WpV Tryz.prog envQ fn19.body (initT fn19.nt [.str S]) [] fun e s' h' => (e = .normal ∨ e = .ret) ∧ ∃ u, evResults envQ fn19.res s' h' = some u ∧ fz envQ h' depthF u = some (readV S) := by
  refine WpV.lit (s' := [_,_,_,_,_,_,_,_,_,_,_,_,_,_,_,_,_,_,_,_,_,_,_,_,_,_,_,_,_,_,_,_,_,_,_,_,_,_,_,_,_,_,_,_,_,_,_,_,_,_,_,_,_,_,_,_,_,_,_,_,_,_,_,_,_,_,_,_,_,_,_,_,_,_,_,_,_,_,_,_,_,_,_,_,_,_,_,_,_,_,_,_,_,_,_,_,_,_,_,_,_,_,_,_,_,_,_,_,_,_,_,_,_,_,_,_]) rfl ?_
  refine WpV.seq (WpV.of (md := fn19.md) envQ_ok rfl ?_)
  refine RunP.regionR _ (fun K => rfl) ?_
  refine ops_slRd rfl (fun K hK => hK) rfl ?_
  refine ops_slRd rfl (fun K hK => hK) rfl ?_
  obtain ⟨e1, he1⟩ := atoiV_eq S
  have hA := fun h => atoi_told h S (by omega)
  simp only [he1] at hA
  refine WpV.seq (WpV.of (md := fn19.md) envQ_ok rfl ?_)
  refine RunP.regionR _ (fun K => rfl) ?_
  refine ops_slRd rfl (fun K hK => hK) rfl ?_
  refine ops_slRd rfl (fun K hK => CallK.of (hA _) hK) rfl ?_
  refine ops_slRd rfl (fun K hK => hK) rfl ?_
  refine ops_slRd rfl (fun K hK => hK) rfl ?_
  refine ops_slRd rfl (fun K hK => hK) rfl ?_
  refine ops_slRd rfl (fun K hK => hK) rfl ?_
  refine ops_slRd rfl (fun K hK => hK) rfl ?_
  refine WpV.seq (WpV.of (md := fn19.md) envQ_ok rfl ?_)
  refine RunP.regionR _ (fun K => rfl) ?_
  refine ops_slRd rfl (fun K hK => hK) rfl ?_
  refine ops_slRd rfl (fun K hK => hK) rfl ?_
  refine ops_slRd rfl (fun K hK => hK) rfl ?_
  refine ops_slRd rfl (fun K hK => hK) rfl ?_
  refine ops_slRd rfl (fun K hK => hK) rfl ?_
  refine ops_slRd rfl (fun K hK => hK) rfl ?_
  refine ops_slRd rfl (fun K hK => hK) rfl ?_
  refine WpV.seqI (rdA S 0) (read_text hS ⟨0, ⟨rfl, rfl⟩, rfl, rfl, rfl, rfl, rfl, rfl⟩) fun s h hI => ?_
  refine WpV.seqI (rdB S 0) (read_names hS hI) fun s h hI => ?_
  exact read_last hI
theorem read_lib : LibOk Tryz.prog envQ 19 tellRead := by
  refine lib_of_wp envQ_ok (d := fn19) (envQ_ok.fn _ _ rfl) ?_
  intro vs v h
  unfold tellRead at h
  split at h
  · rename_i S
    split at h
    · rename_i hS
      cases h
      exact ⟨Nat.le_of_ble_eq_true rfl, read_body S hS⟩
    · cases h
  · cases h
end Go.Proofs.YtkjhnpmgieplgaaGreatDoor
