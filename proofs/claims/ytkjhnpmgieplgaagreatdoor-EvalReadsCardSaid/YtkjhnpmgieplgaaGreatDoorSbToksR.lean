/- The reference's token. -/
import Derived.Test.YtkjhnpmgieplgaaGreatDoorSbScanR
import Derived.Test.YtkjhnpmgieplgaaGreatDoorSbLexT6
import Derived.Test.YtkjhnpmgieplgaaGreatDoorSbDraw2
set_option linter.unusedVariables false
set_option linter.unusedSimpArgs false
namespace Go.Proofs.YtkjhnpmgieplgaaGreatDoor
open Go.Sb
set_option maxRecDepth 100000

/-- What the reference's token answers. -/
def tokV (a : Int) (b : List UInt8) (i : Nat) : V := .agg [.int .i64 a, .str b, .int .i64 i]
def tokR (o : Option (Int × List UInt8 × Nat)) (i : Nat) (v : V) : Prop := match o with
  | some p => v = .tup [tokV p.1 p.2.1 i, .int .i64 ((i + p.2.2 : Nat) : Int), .bool true]
  | none => ∃ a b c e, v = .tup [.agg [.int .i64 a, .str b, .int .i64 c], .int .i64 e, .bool false]
theorem tokR_some {o : Option (Int × List UInt8 × Nat)} {p : Int × List UInt8 × Nat} {i e : Nat} {v : V} (h : o = some p) (he : e = i + p.2.2) (hv : v = .tup [tokV p.1 p.2.1 i, .int .i64 (e : Int), .bool true]) : tokR o i v := by
  subst h; subst he; exact hv
theorem tokR_none {o : Option (Int × List UInt8 × Nat)} {i : Nat} {a c e : Int} {b : List UInt8} {v : V} (h : o = none) (hv : v = .tup [.agg [.int .i64 a, .str b, .int .i64 c], .int .i64 e, .bool false]) : tokR o i v := by
  subst h; exact ⟨a, b, c, e, hv⟩
set_option maxHeartbeats 4000000 in
theorem refToken_has (h : Heap) (u : List UInt8) (i : Nat) (hu : u.length ≤ 2 ^ 20) (hi : i < u.length) : ∃ v, Has envQ .own 83 [.str u, .int .i64 i] h (.val v h) ∧ tokR (Lex.tokL (u.drop i)) i v := by
  refine HasP.ownE (a := [.str u, .int .i64 i]) (d := fn83) rfl rfl rfl (of_decide_eq_true rfl) ?_
  obtain ⟨c, hc⟩ : ∃ c, u[i]? = some c := ⟨_, List.getElem?_eq_getElem hi⟩
  have ew1 : IntKind.i64.wrap ((i : Int) + 1) = ((i + 1 : Nat) : Int) := wrap1 (by omega)
  have ew2 : IntKind.i64.wrap ((i : Int) + 2) = ((i + 2 : Nat) : Int) := by rw [wrapS (by omega) (by omega)]; omega
  have hl := fun g => refLetter_has g c
  have hd := fun g => refDigit_has g c
  have hge := fun b => Lex.runE_ge (Lex.runB b) u i
  have hle := fun b => Lex.runE_le (p := Lex.runB b) (u := u) (i := i) (by omega)
  repeat (first | apply RunP.seq | apply RunP.region | apply RunP.condT rfl | apply RunP.condF rfl | apply RunP.skip | apply RunP.block | apply RunP.exit | apply RunP.ret)
  refine And.intro (by omega) (Exists.intro c (And.intro hc ?_))
  repeat (first | apply RunP.seq | apply RunP.region | apply RunP.condT rfl | apply RunP.condF rfl | apply RunP.skip | apply RunP.block | apply RunP.exit | apply RunP.ret)
  refine CallK.of (hl _) ?_
  cases hL : Lex.letter c
  · repeat (first | apply RunP.seq | apply RunP.region | apply RunP.condT rfl | apply RunP.condF rfl | apply RunP.skip | apply RunP.block | apply RunP.exit | apply RunP.ret)
    refine CallK.of (hd _) ?_
    cases hD : Lex.digit c
    · repeat (first | apply RunP.seq | apply RunP.region | apply RunP.condT rfl | apply RunP.condF rfl | apply RunP.skip | apply RunP.block | apply RunP.exit | apply RunP.ret)
      refine And.intro (fun h34 => ?_) (fun h34 => ?_)
      · have e : c = 34 := UInt8.toNat_inj.1 (show c.toNat = 34 by omega)
        subst e
        repeat (first | apply RunP.seq | apply RunP.region | apply RunP.condT rfl | apply RunP.condF rfl | apply RunP.skip | apply RunP.block | apply RunP.exit | apply RunP.ret)
        refine CallK.of (refQuoteAt_has _ u i (by omega) hi) ?_
        cases hq : Lex.quoteL (u.drop (i + 1)) with
        | none =>
          rw [quoteR_none hq]
          repeat (first | apply RunP.seq | apply RunP.region | apply RunP.condT rfl | apply RunP.condF rfl | apply RunP.skip | apply RunP.block | apply RunP.exit | apply RunP.ret)
          exact ⟨rfl, _, rfl, rfl, tokR_none (Lex.tok_noquote hc hq) rfl⟩
        | some p =>
          rw [quoteR_some hq]
          repeat (first | apply RunP.seq | apply RunP.region | apply RunP.condT rfl | apply RunP.condF rfl | apply RunP.skip | apply RunP.block | apply RunP.exit | apply RunP.ret)
          cases ht : Lex.isText p.1
          · exact ⟨rfl, _, rfl, rfl, tokR_none (Lex.tok_notext hc hq ht) rfl⟩
          · exact ⟨rfl, _, rfl, rfl, tokR_some (Lex.tok_quote hc hq ht) (by simp only []; omega) rfl⟩
      · have e34 : c ≠ 34 := fun q => h34 (by rw [q]; rfl)
        have e2 : u.take (IntKind.i64.wrap ((i : Int) + 2)).toNat = u.take (i + 2) := by rw [ew2]; rfl
        have e1 : u.take (IntKind.i64.wrap ((i : Int) + 1)).toNat = u.take (i + 1) := by rw [ew1]; rfl
        have hS2 := fun g => refIsSign_has g ((u.take (IntKind.i64.wrap ((i : Int) + 2)).toNat).drop i)
        have hS1 := fun g => refIsSign_has g ((u.take (IntKind.i64.wrap ((i : Int) + 1)).toNat).drop i)
        repeat (first | apply RunP.seq | apply RunP.region | apply RunP.condT rfl | apply RunP.condF rfl | apply RunP.skip | apply RunP.block | apply RunP.exit | apply RunP.ret)
        refine And.intro (fun h2 => ?_) (fun h2 => ?_)
        · rw [ew2] at h2
          refine And.intro (by rw [ew2]; omega) (And.intro (by omega) (And.intro (by rw [ew2]; omega) ?_))
          cases hs2 : Lex.isSign ((u.take (IntKind.i64.wrap ((i : Int) + 2)).toNat).drop i)
          · simp only [hs2] at hS2
            refine CallK.of (hS2 _) ?_
            rw [e2] at hs2
            repeat (first | apply RunP.seq | apply RunP.region | apply RunP.condT rfl | apply RunP.condF rfl | apply RunP.skip | apply RunP.block | apply RunP.exit | apply RunP.ret)
            apply RunP.drawn
            · decide +kernel
            refine And.intro (by rw [ew1]; omega) (And.intro (by omega) (And.intro (by rw [ew1]; omega) ?_))
            refine And.intro (by rw [ew1]; omega) (And.intro (by omega) (And.intro (by rw [ew1]; omega) ?_))
            cases hs1 : Lex.isSign ((u.take (IntKind.i64.wrap ((i : Int) + 1)).toNat).drop i)
            · simp only [hs1] at hS1
              refine CallK.of (hS1 _) ?_
              refine drawR (by decide +kernel) (by decide +kernel) ?_
              repeat (first | apply RunP.seq | apply RunP.region | apply RunP.condT rfl | apply RunP.condF rfl | apply RunP.skip | apply RunP.block | apply RunP.exit | apply RunP.ret)
              rw [e1] at hs1
              exact ⟨rfl, _, rfl, rfl, tokR_none (by rw [Lex.tok_sign1 hc hL hD e34 (fun q => by rw [hs2] at q; exact absurd q.2 (by decide)), if_neg (by simp [hs1])]) rfl⟩
            · simp only [hs1] at hS1
              refine CallK.of (hS1 _) ?_
              refine drawR (by decide +kernel) (by decide +kernel) ?_
              repeat (first | apply RunP.seq | apply RunP.region | apply RunP.condT rfl | apply RunP.condF rfl | apply RunP.skip | apply RunP.block | apply RunP.exit | apply RunP.ret)
              rw [e1] at hs1
              refine ⟨rfl, _, rfl, rfl, tokR_some (e := i + 1) (by rw [Lex.tok_sign1 hc hL hD e34 (fun q => by rw [hs2] at q; exact absurd q.2 (by decide)), if_pos hs1]) rfl ?_⟩
              show V.tup [tokV 4 ((u.take (IntKind.i64.wrap ((i : Int) + 1)).toNat).drop i) i, .int .i64 (IntKind.i64.wrap ((i : Int) + 1)), .bool true] = _
              rw [e1, ew1]
          · simp only [hs2] at hS2
            refine CallK.of (hS2 _) ?_
            rw [e2] at hs2
            repeat (first | apply RunP.seq | apply RunP.region | apply RunP.condT rfl | apply RunP.condF rfl | apply RunP.skip | apply RunP.block | apply RunP.exit | apply RunP.ret)
            refine And.intro (by rw [ew2]; omega) (And.intro (by omega) (And.intro (by rw [ew2]; omega) ?_))
            repeat (first | apply RunP.seq | apply RunP.region | apply RunP.condT rfl | apply RunP.condF rfl | apply RunP.skip | apply RunP.block | apply RunP.exit | apply RunP.ret)
            refine ⟨rfl, _, rfl, rfl, tokR_some (e := i + 2) (Lex.tok_sign2 hc hL hD e34 (by omega) hs2) rfl ?_⟩
            show V.tup [tokV 4 ((u.take (IntKind.i64.wrap ((i : Int) + 2)).toNat).drop i) i, .int .i64 (IntKind.i64.wrap ((i : Int) + 2)), .bool true] = _
            rw [e2, ew2]
        · rw [ew2] at h2
          repeat (first | apply RunP.seq | apply RunP.region | apply RunP.condT rfl | apply RunP.condF rfl | apply RunP.skip | apply RunP.block | apply RunP.exit | apply RunP.ret)
          apply RunP.drawn
          · decide +kernel
          refine And.intro (by rw [ew1]; omega) (And.intro (by omega) (And.intro (by rw [ew1]; omega) ?_))
          refine And.intro (by rw [ew1]; omega) (And.intro (by omega) (And.intro (by rw [ew1]; omega) ?_))
          cases hs1 : Lex.isSign ((u.take (IntKind.i64.wrap ((i : Int) + 1)).toNat).drop i)
          · simp only [hs1] at hS1
            refine CallK.of (hS1 _) ?_
            refine drawR (by decide +kernel) (by decide +kernel) ?_
            repeat (first | apply RunP.seq | apply RunP.region | apply RunP.condT rfl | apply RunP.condF rfl | apply RunP.skip | apply RunP.block | apply RunP.exit | apply RunP.ret)
            rw [e1] at hs1
            exact ⟨rfl, _, rfl, rfl, tokR_none (by rw [Lex.tok_sign1 hc hL hD e34 (fun q => by omega), if_neg (by simp [hs1])]) rfl⟩
          · simp only [hs1] at hS1
            refine CallK.of (hS1 _) ?_
            refine drawR (by decide +kernel) (by decide +kernel) ?_
            repeat (first | apply RunP.seq | apply RunP.region | apply RunP.condT rfl | apply RunP.condF rfl | apply RunP.skip | apply RunP.block | apply RunP.exit | apply RunP.ret)
            rw [e1] at hs1
            refine ⟨rfl, _, rfl, rfl, tokR_some (e := i + 1) (by rw [Lex.tok_sign1 hc hL hD e34 (fun q => by omega), if_pos hs1]) rfl ?_⟩
            show V.tup [tokV 4 ((u.take (IntKind.i64.wrap ((i : Int) + 1)).toNat).drop i) i, .int .i64 (IntKind.i64.wrap ((i : Int) + 1)), .bool true] = _
            rw [e1, ew1]
    · repeat (first | apply RunP.seq | apply RunP.region | apply RunP.condT rfl | apply RunP.condF rfl | apply RunP.skip | apply RunP.block | apply RunP.exit | apply RunP.ret)
      refine CallK.of (refRun_has _ u i false (by omega) (by omega)) ?_
      have h1 := hge false
      have h2 := hle false
      have hN := fun g => refNumeral_has g ((u.take (Lex.runE (Lex.runB false) u i)).drop i) (by simp only [List.length_drop, List.length_take]; omega)
      repeat (first | apply RunP.seq | apply RunP.region | apply RunP.condT rfl | apply RunP.condF rfl | apply RunP.skip | apply RunP.block | apply RunP.exit | apply RunP.ret)
      apply RunP.drawn
      · decide +kernel
      refine And.intro (by omega) (And.intro (by omega) (And.intro ⟨by omega, by omega⟩ ?_))
      refine And.intro (by omega) (And.intro (by omega) (And.intro ⟨by omega, by omega⟩ ?_))
      cases hn : Lex.isNumeral ((u.take (Lex.runE (Lex.runB false) u i)).drop i)
      · simp only [hn] at hN
        refine CallK.of (hN _) ?_
        refine drawR (by decide +kernel) (by decide +kernel) ?_
        repeat (first | apply RunP.seq | apply RunP.region | apply RunP.condT rfl | apply RunP.condF rfl | apply RunP.skip | apply RunP.block | apply RunP.exit | apply RunP.ret)
        exact ⟨rfl, _, rfl, rfl, tokR_none (Lex.tok_nonum hc hL hD hn) rfl⟩
      · simp only [hn] at hN
        refine CallK.of (hN _) ?_
        refine drawR (by decide +kernel) (by decide +kernel) ?_
        repeat (first | apply RunP.seq | apply RunP.region | apply RunP.condT rfl | apply RunP.condF rfl | apply RunP.skip | apply RunP.block | apply RunP.exit | apply RunP.ret)
        exact ⟨rfl, _, rfl, rfl, tokR_some (Lex.tok_num hc hL hD hn) (by simp only []; omega) rfl⟩
  · repeat (first | apply RunP.seq | apply RunP.region | apply RunP.condT rfl | apply RunP.condF rfl | apply RunP.skip | apply RunP.block | apply RunP.exit | apply RunP.ret)
    refine CallK.of (refRun_has _ u i true (by omega) (by omega)) ?_
    have h1 := hge true
    have h2 := hle true
    repeat (first | apply RunP.seq | apply RunP.region | apply RunP.condT rfl | apply RunP.condF rfl | apply RunP.skip | apply RunP.block | apply RunP.exit | apply RunP.ret)
    refine And.intro (by omega) (And.intro (by omega) (And.intro ⟨by omega, by omega⟩ ?_))
    repeat (first | apply RunP.seq | apply RunP.region | apply RunP.condT rfl | apply RunP.condF rfl | apply RunP.skip | apply RunP.block | apply RunP.exit | apply RunP.ret)
    refine CallK.of (refIsWord_has _ _) ?_
    refine RunP.cond (t := Lex.isWord ((u.take (Lex.runE (Lex.runB true) u i)).drop i)) rfl (fun hw => ?_) (fun hw => ?_)
    · repeat (first | apply RunP.seq | apply RunP.region | apply RunP.condT rfl | apply RunP.condF rfl | apply RunP.skip | apply RunP.block | apply RunP.exit | apply RunP.ret)
      exact ⟨rfl, _, rfl, rfl, tokR_some (Lex.tok_word hc hL hw) (by simp only []; omega) rfl⟩
    · repeat (first | apply RunP.seq | apply RunP.region | apply RunP.condT rfl | apply RunP.condF rfl | apply RunP.skip | apply RunP.block | apply RunP.exit | apply RunP.ret)
      have hN := fun g => refIsName_has g ((u.take (Lex.runE (Lex.runB true) u i)).drop i) (by simp only [List.length_drop, List.length_take]; omega)
      cases hn : Lex.isName ((u.take (Lex.runE (Lex.runB true) u i)).drop i)
      · simp only [hn] at hN
        refine CallK.of (hN _) ?_
        repeat (first | apply RunP.seq | apply RunP.region | apply RunP.condT rfl | apply RunP.condF rfl | apply RunP.skip | apply RunP.block | apply RunP.exit | apply RunP.ret)
        exact ⟨rfl, _, rfl, rfl, tokR_none (Lex.tok_noname hc hL hw hn) rfl⟩
      · simp only [hn] at hN
        refine CallK.of (hN _) ?_
        repeat (first | apply RunP.seq | apply RunP.region | apply RunP.condT rfl | apply RunP.condF rfl | apply RunP.skip | apply RunP.block | apply RunP.exit | apply RunP.ret)
        exact ⟨rfl, _, rfl, rfl, tokR_some (Lex.tok_name hc hL hw hn) (by simp only []; omega) rfl⟩
end Go.Proofs.YtkjhnpmgieplgaaGreatDoor

/- All tokens: the reference's. -/

namespace Go.Proofs.YtkjhnpmgieplgaaGreatDoor
open Go.Sb
set_option maxRecDepth 100000

def tkV (t : Int × List UInt8 × Int) : V := .agg [.int .i64 t.1, .str t.2.1, .int .i64 t.2.2]
theorem tk_elem (t : Int × List UInt8 × Int) : Elem 3 (tkV t) := ⟨_, rfl, rfl, by simp [V.leaf]⟩
theorem tks_elem (ts : List (Int × List UInt8 × Int)) : ∀ v ∈ ts.map tkV, Elem 3 v := fun v hv => by
  obtain ⟨e, _, rfl⟩ := List.mem_map.1 hv; exact tk_elem e
/-- What Tokens answers. -/
def tokensV (u : List UInt8) : V := if 4000 < u.length then .tup [.nils, .int .i64 0, .int .i64 5] else match Lex.toksL u (u.length + 1) 0 with
  | (ts, none) => .tup [.lst 3 (ts.map tkV ++ [tkV (6, [], u.length)]), .int .i64 0, .int .i64 0]
  | (_, some a) => .tup [.nils, .int .i64 a, .int .i64 4]
theorem tokensV_full {u : List UInt8} (h : 4000 < u.length) : tokensV u = .tup [.nils, .int .i64 0, .int .i64 5] := by unfold tokensV; rw [if_pos h]
theorem tokensV_ok {u : List UInt8} {ts : List (Int × List UInt8 × Int)} (h : ¬ 4000 < u.length) (ht : Lex.toksL u (u.length + 1) 0 = (ts, none)) : tokensV u = .tup [.lst 3 (ts.map tkV ++ [tkV (6, [], u.length)]), .int .i64 0, .int .i64 0] := by unfold tokensV; rw [if_neg h, ht]
theorem tokensV_bad {u : List UInt8} {ts : List (Int × List UInt8 × Int)} {a : Nat} (h : ¬ 4000 < u.length) (ht : Lex.toksL u (u.length + 1) 0 = (ts, some a)) : tokensV u = .tup [.nils, .int .i64 a, .int .i64 4] := by unfold tokensV; rw [if_neg h, ht]
/-- One token more. -/
theorem app_tokK {h : Heap} {v x : V} {ts : List (Int × List UInt8 × Int)} {c : Int × List UInt8 × Int} {K : V → Heap → Prop} (hr : InRow h 90 3 v (ts.map tkV)) (hl : ts.length ≤ 2 ^ 20) (hx : contents h 3 x = some (1, (tkV c).cells))
    (hK : ∀ v' h', InRow h' 90 3 v' ((ts ++ [c]).map tkV) → h.length ≤ h'.length → (∀ (i : Nat) (k : Blk), h[i]? = some k → (∀ cs, k ≠ .cells 90 cs) → h'[i]? = some k) → K v' h') : bindR (valH (evAppend envQ 86 v x h)) K := by
  obtain ⟨v', h', e1, e2, e3, e4⟩ := append_oneS (E := envQ) (t := 86) (T := 90) (e := 3) rfl rfl rfl rfl (by omega) hr (tks_elem ts) (tk_elem c) hx (by simp [roomy, List.length_map, show ty90.bytes = 32 from rfl]; omega)
  rw [e1]
  exact hK v' h' (by rw [List.map_append]; exact e2) e3 e4
def rtI (u : Bs) (k : Nat) (s : List V) (h : Heap) : Prop :=
  ∃ (j : Nat) (z : Int) (w : V) (ts : List (Int × Bs × Int)), (u.length < k + j ∧ j ≤ u.length ∧ z = Lex.skipN u j ∧ ts.length ≤ j ∧ InRow h 90 3 w (ts.map tkV) ∧ Lex.toksL u (u.length + 1) 0 = (ts ++ (Lex.toksL u k j).1, (Lex.toksL u k j).2)) ∧ s.length = 44 ∧ s.getD 0 und = und ∧ s.getD 1 und = .str u ∧ s.getD 3 und = .nils ∧ s.getD 4 und = .int .i64 0 ∧ s.getD 5 und = .int .i64 0 ∧ s.getD 6 und = w ∧ s.getD 7 und = .int .i64 z
theorem rtI_lit {u : Bs} {k : Nat} {s : List V} {h : Heap} (hI : rtI u k s h) : ∃ (j : Nat) (z : Int) (w : V) (ts : List (Int × Bs × Int)) (x : Nat → V), (u.length < k + j ∧ j ≤ u.length ∧ z = Lex.skipN u j ∧ ts.length ≤ j ∧ InRow h 90 3 w (ts.map tkV) ∧ Lex.toksL u (u.length + 1) 0 = (ts ++ (Lex.toksL u k j).1, (Lex.toksL u k j).2)) ∧
    s = [und, .str u, x 2, .nils, .int .i64 0, .int .i64 0, w, .int .i64 z, x 8, x 9, x 10, x 11, x 12, x 13, x 14, x 15, x 16, x 17, x 18, x 19, x 20, x 21, x 22, x 23, x 24, x 25, x 26, x 27, x 28, x 29, x 30, x 31, x 32, x 33, x 34, x 35, x 36, x 37, x 38, x 39, x 40, x 41, x 42, x 43] := by
  obtain ⟨j, z, w, ts, hF, hl, e0, e1, e3, e4, e5, e6, e7⟩ := hI
  refine ⟨j, z, w, ts, fun n => s.getD n und, hF, (lit_of hl).trans ?_⟩
  show [s.getD 0 und, s.getD 1 und, s.getD 2 und, s.getD 3 und, s.getD 4 und, s.getD 5 und, s.getD 6 und, s.getD 7 und, s.getD 8 und, s.getD 9 und, s.getD 10 und, s.getD 11 und, s.getD 12 und, s.getD 13 und, s.getD 14 und, s.getD 15 und, s.getD 16 und, s.getD 17 und, s.getD 18 und, s.getD 19 und, s.getD 20 und, s.getD 21 und, s.getD 22 und, s.getD 23 und, s.getD 24 und, s.getD 25 und, s.getD 26 und, s.getD 27 und, s.getD 28 und, s.getD 29 und, s.getD 30 und, s.getD 31 und, s.getD 32 und, s.getD 33 und, s.getD 34 und, s.getD 35 und, s.getD 36 und, s.getD 37 und, s.getD 38 und, s.getD 39 und, s.getD 40 und, s.getD 41 und, s.getD 42 und, s.getD 43 und] = _
  rw [e0, e1, e3, e4, e5, e6, e7]

theorem refTokens_has (h : Heap) (u : List UInt8) (hu : u.length ≤ 2 ^ 20) : Has envQ .own 53 [.str u] h (.val (tokensV u) h) := by
  refine HasP.own (a := [.str u]) (d := fn53) rfl rfl rfl (of_decide_eq_true rfl) ?_
  repeat (first | apply RunP.seq | apply RunP.region | apply RunP.condT rfl | apply RunP.condF rfl | apply RunP.skip | apply RunP.block | apply RunP.exit | apply RunP.ret)
  refine And.intro (fun hf => ?_) (fun hf => ?_)
  · repeat (first | apply RunP.seq | apply RunP.region | apply RunP.condT rfl | apply RunP.condF rfl | apply RunP.skip | apply RunP.block | apply RunP.exit | apply RunP.ret)
    exact ⟨rfl, congrArg (fun v => some v) (tokensV_full (by omega)).symm, rfl⟩
  repeat (first | apply RunP.seq | apply RunP.region | apply RunP.condT rfl | apply RunP.condF rfl | apply RunP.skip | apply RunP.block | apply RunP.exit | apply RunP.ret)
  refine CallK.of (refBlank_has _ u 0 (by omega) (by omega)) ?_
  repeat (first | apply RunP.seq | apply RunP.region | apply RunP.condT rfl | apply RunP.condF rfl | apply RunP.skip | apply RunP.block | apply RunP.exit | apply RunP.ret)
  refine RunP.loop (rtI u) ?_ (u.length + 1) ⟨0, _, _, [], ⟨by omega, by omega, rfl, by simp, .inl ⟨rfl, rfl⟩, by simp⟩, rfl, rfl, rfl, rfl, rfl, rfl, rfl, rfl⟩
  intro k st g hI
  obtain ⟨j, z, w, ts, x, ⟨hkj, hj, hz, htl, hrow, hT⟩, rfl⟩ := rtI_lit hI
  clear hI
  subst hz
  have hn := Lex.skipN_le u j
  have hn1 := Lex.skipN_ge hj
  obtain ⟨k, rfl⟩ : ∃ k', k = k' + 1 := ⟨k - 1, by omega⟩
  repeat (first | apply RunP.seq | apply RunP.region | apply RunP.condT rfl | apply RunP.condF rfl | apply RunP.skip | apply RunP.block | apply RunP.exit | apply RunP.ret)
  refine And.intro (fun hlt => ?_) (fun hge => ?_)
  · obtain ⟨v, hv, hR⟩ := refToken_has g u (Lex.skipN u j) hu (by omega)
    repeat (first | apply RunP.seq | apply RunP.region | apply RunP.condT rfl | apply RunP.condF rfl | apply RunP.skip | apply RunP.block | apply RunP.exit | apply RunP.ret)
    refine CallK.of hv ?_
    cases ht : Lex.tokL (u.drop (Lex.skipN u j)) with
    | none =>
      rw [ht] at hR
      rw [Lex.toks_bad (j := j) (by omega) ht] at hT
      obtain ⟨a, b, c, e, rfl⟩ := hR
      refine bindK_of (store_last (E := envQ) (t := 90) (n := 3) rfl rfl rfl rfl rfl) ?_
      repeat (first | apply RunP.seq | apply RunP.region | apply RunP.condT rfl | apply RunP.condF rfl | apply RunP.skip | apply RunP.block | apply RunP.exit | apply RunP.ret)
      exact ⟨rfl, congrArg (fun v => some v) (tokensV_bad (by omega) hT).symm, rfl⟩
    | some p =>
      rw [ht] at hR
      rw [Lex.toks_tok (j := j) (by omega) ht] at hT
      cases (show v = _ from hR)
      have hlen := Lex.tok_len ht
      refine bindK_of (store_last (E := envQ) (t := 90) (n := 3) rfl rfl rfl rfl rfl) ?_
      repeat (first | apply RunP.seq | apply RunP.region | apply RunP.condT rfl | apply RunP.condF rfl | apply RunP.skip | apply RunP.block | apply RunP.exit | apply RunP.ret)
      refine bindK_of (load_last (E := envQ) (t := 90) (n := 3) rfl) ?_
      refine app_tokK (c := (p.1, p.2.1, (Lex.skipN u j : Int))) ((hrow.push _).push _) (by omega) (contents_last (n := 3) _ _ _ rfl) (fun w2 g2 hr2 _ _ => ?_)
      repeat (first | apply RunP.seq | apply RunP.region | apply RunP.condT rfl | apply RunP.condF rfl | apply RunP.skip | apply RunP.block | apply RunP.exit | apply RunP.ret)
      refine CallK.of (refBlank_has _ u (Lex.skipN u j + p.2.2) (by omega) (by omega)) ?_
      repeat (first | apply RunP.seq | apply RunP.region | apply RunP.condT rfl | apply RunP.condF rfl | apply RunP.skip | apply RunP.block | apply RunP.exit | apply RunP.ret)
      refine ⟨k, by omega, Lex.skipN u j + p.2.2, _, _, _, ⟨by omega, by omega, rfl, by simp only [List.length_append, List.length_cons, List.length_nil]; omega, hr2, ?_⟩, rfl, rfl, rfl, rfl, rfl, rfl, rfl, rfl⟩
      rw [hT, List.append_assoc]; rfl
  · rw [Lex.toks_end (j := j) (by omega)] at hT
    simp only [List.append_nil] at hT
    repeat (first | apply RunP.seq | apply RunP.region | apply RunP.condT rfl | apply RunP.condF rfl | apply RunP.skip | apply RunP.block | apply RunP.exit | apply RunP.ret)
    refine app_tokK (c := (6, [], (u.length : Int))) (hrow.push _) (by omega) (contents_last (n := 3) _ _ _ rfl) (fun w2 g2 hr2 _ _ => ?_)
    obtain ⟨f, hf1, hf2⟩ := hr2.fz (E := envQ) (n := 9) rfl rfl rfl (by omega) (tks_elem _)
    rcases hf2 with ⟨_, hf2⟩ | rfl
    · simp at hf2
    repeat (first | apply RunP.seq | apply RunP.region | apply RunP.condT rfl | apply RunP.condF rfl | apply RunP.skip | apply RunP.block | apply RunP.exit | apply RunP.ret)
    refine ⟨rfl, ?_, rfl⟩
    rw [tokensV_ok (by omega) hT, show ts.map tkV ++ [tkV (6, [], (u.length : Int))] = (ts ++ [(6, [], (u.length : Int))]).map tkV from by rw [List.map_append]; rfl]
    show (List.mapM (fz envQ g2 11) [w2, .int .i64 0, .int .i64 0]).map V.tup = _
    rw [List.mapM_cons, hf1]; rfl
end Go.Proofs.YtkjhnpmgieplgaaGreatDoor
