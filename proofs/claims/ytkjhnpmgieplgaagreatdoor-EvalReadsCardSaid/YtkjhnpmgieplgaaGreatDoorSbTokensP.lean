/- The program's tokens, one after the other. -/
import Derived.Test.YtkjhnpmgieplgaaGreatDoorSbQuoteP
set_option linter.unusedVariables false
set_option linter.unusedSimpArgs false
namespace Go.Proofs.YtkjhnpmgieplgaaGreatDoor
open Go.Sb
set_option maxRecDepth 100000

/-- How the memory stands while the tokens are gathered. -/
structure TsI (u : List UInt8) (z : Int) (w : V) (ts : List (Int × List UInt8 × Int)) (L : LoopD) (h : Heap) : Prop where
  h0 : h[0]? = some (.cells 86 [.nils])
  h1 : h[1]? = some (.cells 3 [.int .i64 0])
  h2 : h[2]? = some (.cells 24 [.int .i64 0])
  h3 : h[3]? = some (.cells 86 [w])
  h4 : h[4]? = some (sc u z)
  h5 : h[5]? = some (.cells 110 [.ptr 4 0 2])
  h6 : h[6]? = some (.siter L)
  hr : InRow h 90 3 w (ts.map tkV)
theorem TsI.keepT {u : List UInt8} {z : Int} {w : V} {ts : List (Int × List UInt8 × Int)} {L : LoopD} {h g : Heap} (hI : TsI u z w ts L h) (hk : KeepT 5 h g) : TsI u z w ts L g :=
  ⟨hk _ _ hI.h0 (fun _ q => by cases q), hk _ _ hI.h1 (fun _ q => by cases q), hk _ _ hI.h2 (fun _ q => by cases q), hk _ _ hI.h3 (fun _ q => by cases q), hk _ _ hI.h4 (fun _ q => by cases q), hk _ _ hI.h5 (fun _ q => by cases q), hk _ _ hI.h6 (fun _ q => by cases q), hI.hr.keep fun i cs hi => hk i _ hi (fun _ q => by cases q)⟩
theorem TsI.push {u : List UInt8} {z : Int} {w : V} {ts : List (Int × List UInt8 × Int)} {L : LoopD} {h : Heap} (hI : TsI u z w ts L h) (b : Blk) : TsI u z w ts L (Sb.push h b) := hI.keepT (keeps_push h b).toT
theorem TsI.set4 {u : List UInt8} {z z' : Int} {w : V} {ts : List (Int × List UInt8 × Int)} {L : LoopD} {h : Heap} (hI : TsI u z w ts L h) : TsI u z' w ts L (h.set 4 (sc u z')) :=
  ⟨by rw [set_other (by decide)]; exact hI.h0, by rw [set_other (by decide)]; exact hI.h1, by rw [set_other (by decide)]; exact hI.h2, by rw [set_other (by decide)]; exact hI.h3, set_same hI.h4, by rw [set_other (by decide)]; exact hI.h5, by rw [set_other (by decide)]; exact hI.h6, hI.hr.keep fun i cs hi => by
    rw [set_other (fun q => by subst q; rw [hI.h4] at hi; cases hi)]; exact hi⟩
theorem push_set {h : Heap} {x y : Blk} : (Sb.push h x).set h.length y = Sb.push h y := by simp [Sb.push]
/-- How it stands when there is no token. -/
structure TsBad (a : Int) (L : LoopD) (h : Heap) : Prop where
  h0 : h[0]? = some (.cells 86 [.nils])
  h1 : h[1]? = some (.cells 3 [.int .i64 a])
  h2 : h[2]? = some (.cells 24 [.int .i64 4])
  h6 : h[6]? = some (.siter { L with st := .done, pend := some none })
/-- What yield does. -/
def RoundOk (u : List UInt8) (L : LoopD) : Prop := ∀ (h : Heap) (z : Int) (w : V) (ts : List (Int × List UInt8 × Int)) (a : Int) (s : List UInt8) (at_ n : Int), TsI u z w ts L h → ts.length ≤ 2 ^ 19 →
  ∃ r, Has envQ .round 6 [.agg [.int .i64 a, .str s, .int .i64 at_], .int .i64 n] h r ∧ ((n = 0 ∧ ∃ g, r = .val (.bool false) g ∧ TsBad at_ L g) ∨ (n ≠ 0 ∧ ∃ g w', r = .val (.bool true) g ∧ TsI u z w' (ts ++ [(a, s, at_)]) L g))
/-- How it ends. -/
def TsEnd (u : List UInt8) (L : LoopD) (g : Heap) : List (Int × List UInt8 × Int) × Option Nat → Prop
  | (ts, none) => ∃ z w, TsI u z w ts L g
  | (_, some a) => TsBad a L g
def tknI (u : Bs) (L : LoopD) (k : Nat) (s : List V) (h : Heap) : Prop :=
  ∃ (j : Nat) (w : V) (ts : List (Int × Bs × Int)), (u.length < k + j ∧ j ≤ u.length ∧ ts.length ≤ j ∧ TsI u (Lex.skipN u j : Nat) w ts L h ∧ Lex.toksL u (u.length + 1) 0 = (ts ++ (Lex.toksL u k j).1, (Lex.toksL u k j).2)) ∧ s.length = 75 ∧ s.getD 0 und = und ∧ s.getD 1 und = .it 6 ∧ s.getD 2 und = .ptr 5 0 1
theorem tknI_lit {u : Bs} {L : LoopD} {k : Nat} {s : List V} {h : Heap} (hI : tknI u L k s h) : ∃ (j : Nat) (w : V) (ts : List (Int × Bs × Int)) (x : Nat → V), (u.length < k + j ∧ j ≤ u.length ∧ ts.length ≤ j ∧ TsI u (Lex.skipN u j : Nat) w ts L h ∧ Lex.toksL u (u.length + 1) 0 = (ts ++ (Lex.toksL u k j).1, (Lex.toksL u k j).2)) ∧
    s = [und, .it 6, .ptr 5 0 1, x 3, x 4, x 5, x 6, x 7, x 8, x 9, x 10, x 11, x 12, x 13, x 14, x 15, x 16, x 17, x 18, x 19, x 20, x 21, x 22, x 23, x 24, x 25, x 26, x 27, x 28, x 29, x 30, x 31, x 32, x 33, x 34, x 35, x 36, x 37, x 38, x 39, x 40, x 41, x 42, x 43, x 44, x 45, x 46, x 47, x 48, x 49, x 50, x 51, x 52, x 53, x 54, x 55, x 56, x 57, x 58, x 59, x 60, x 61, x 62, x 63, x 64, x 65, x 66, x 67, x 68, x 69, x 70, x 71, x 72, x 73, x 74] := by
  obtain ⟨j, w, ts, hF, hl, e0, e1, e2⟩ := hI
  refine ⟨j, w, ts, fun n => s.getD n und, hF, (lit_of hl).trans ?_⟩
  show [s.getD 0 und, s.getD 1 und, s.getD 2 und, s.getD 3 und, s.getD 4 und, s.getD 5 und, s.getD 6 und, s.getD 7 und, s.getD 8 und, s.getD 9 und, s.getD 10 und, s.getD 11 und, s.getD 12 und, s.getD 13 und, s.getD 14 und, s.getD 15 und, s.getD 16 und, s.getD 17 und, s.getD 18 und, s.getD 19 und, s.getD 20 und, s.getD 21 und, s.getD 22 und, s.getD 23 und, s.getD 24 und, s.getD 25 und, s.getD 26 und, s.getD 27 und, s.getD 28 und, s.getD 29 und, s.getD 30 und, s.getD 31 und, s.getD 32 und, s.getD 33 und, s.getD 34 und, s.getD 35 und, s.getD 36 und, s.getD 37 und, s.getD 38 und, s.getD 39 und, s.getD 40 und, s.getD 41 und, s.getD 42 und, s.getD 43 und, s.getD 44 und, s.getD 45 und, s.getD 46 und, s.getD 47 und, s.getD 48 und, s.getD 49 und, s.getD 50 und, s.getD 51 und, s.getD 52 und, s.getD 53 und, s.getD 54 und, s.getD 55 und, s.getD 56 und, s.getD 57 und, s.getD 58 und, s.getD 59 und, s.getD 60 und, s.getD 61 und, s.getD 62 und, s.getD 63 und, s.getD 64 und, s.getD 65 und, s.getD 66 und, s.getD 67 und, s.getD 68 und, s.getD 69 und, s.getD 70 und, s.getD 71 und, s.getD 72 und, s.getD 73 und, s.getD 74 und] = _
  rw [e0, e1, e2]
set_option maxHeartbeats 16000000 in
theorem tokens1_has (u : List UInt8) (hu : u.length ≤ 4000) (L : LoopD) (hround : RoundOk u L) (h : Heap) (hI : TsI u 0 .nils [] L h) : ∃ v g, Has envQ .shared 110 [.it 6, .ptr 5 0 1] h (.val v g) ∧ TsEnd u L g (Lex.toksL u (u.length + 1) 0) := by
  refine HasP.sharedE (d := fn110) rfl (of_decide_eq_true rfl) ?_
  have h5 := hI.h5
  repeat (first | apply RunP.seq | apply RunP.region | apply RunP.condT rfl | apply RunP.condF rfl | apply RunP.skip | apply RunP.block | apply RunP.exit | apply RunP.ret)
  refine bindK_of (load_at (E := envQ) (t := 110) (n := 1) h5 rfl) ?_
  refine CallK.of (skip_has _ 4 u 0 (by omega) (by omega) hI.h4) ?_
  repeat (first | apply RunP.seq | apply RunP.region | apply RunP.condT rfl | apply RunP.condF rfl | apply RunP.skip | apply RunP.block | apply RunP.exit | apply RunP.ret)
  refine RunP.loop (tknI u L) ?_ (u.length + 1) ⟨0, _, [], ⟨by omega, by omega, by simp, hI.set4, by simp⟩, rfl, rfl, rfl, rfl⟩
  clear h5 hI
  intro k st g hJ
  obtain ⟨j, w, ts, x, ⟨hkj, hj, htl, hI, hT⟩, rfl⟩ := tknI_lit hJ
  clear hJ
  have hn := Lex.skipN_le u j
  have hn1 := Lex.skipN_ge hj
  obtain ⟨k, rfl⟩ : ∃ k', k = k' + 1 := ⟨k - 1, by omega⟩
  have h5 := hI.h5
  have h4 := hI.h4
  repeat (first | apply RunP.seq | apply RunP.region | apply RunP.condT rfl | apply RunP.condF rfl | apply RunP.skip | apply RunP.block | apply RunP.exit | apply RunP.ret)
  apply RunP.drawn
  · decide +kernel
  refine bindK_of (load_at (E := envQ) (t := 110) (n := 1) h5 rfl) ?_
  refine drawR (by decide +kernel) (by decide +kernel) ?_
  refine bindK_of (load_at (E := envQ) (t := 3) (n := 2) h4 rfl) ?_
  refine drawR (by decide +kernel) (by decide +kernel) ?_
  refine bindK_of (load_at (E := envQ) (t := 110) (n := 1) h5 rfl) ?_
  refine drawR (by decide +kernel) (by decide +kernel) ?_
  refine bindK_of (load_at (E := envQ) (t := 9) (n := 2) h4 rfl) ?_
  refine drawR (by decide +kernel) (by decide +kernel) ?_
  refine And.intro (fun hlt => ?_) (fun hge => ?_)
  · have hlt' : Lex.skipN u j < u.length := by omega
    obtain ⟨c, hc⟩ : ∃ c, u[Lex.skipN u j]? = some c := ⟨_, List.getElem?_eq_getElem hlt'⟩
    repeat (first | apply RunP.seq | apply RunP.region | apply RunP.condT rfl | apply RunP.condF rfl | apply RunP.skip | apply RunP.block | apply RunP.exit | apply RunP.ret)
    refine bindK_of (load_at (E := envQ) (t := 110) (n := 1) h5 rfl) ?_
    repeat (first | apply RunP.seq | apply RunP.region | apply RunP.condT rfl | apply RunP.condF rfl | apply RunP.skip | apply RunP.block | apply RunP.exit | apply RunP.ret)
    apply RunP.drawn
    · decide +kernel
    refine bindK_of (load_at (E := envQ) (t := 110) (n := 1) h5 rfl) ?_
    refine drawR (by decide +kernel) (by decide +kernel) ?_
    refine bindK_of (load_at (E := envQ) (t := 9) (n := 2) h4 rfl) ?_
    refine drawR (by decide +kernel) (by decide +kernel) ?_
    refine bindK_of (load_at (E := envQ) (t := 110) (n := 1) h5 rfl) ?_
    refine drawR (by decide +kernel) (by decide +kernel) ?_
    refine bindK_of (load_at (E := envQ) (t := 3) (n := 2) h4 rfl) ?_
    refine drawR (by decide +kernel) (by decide +kernel) ?_
    refine And.intro (by omega) (Exists.intro c (And.intro hc ?_))
    have hl := fun g => isLetter_has g c
    have hd := fun g => isDigit_has g c
    repeat (first | apply RunP.seq | apply RunP.region | apply RunP.condT rfl | apply RunP.condF rfl | apply RunP.skip | apply RunP.block | apply RunP.exit | apply RunP.ret)
    cases hL : Lex.letter c
    · simp only [hL] at hl
      refine CallK.of (hl _) ?_
      repeat (first | apply RunP.seq | apply RunP.region | apply RunP.condT rfl | apply RunP.condF rfl | apply RunP.skip | apply RunP.block | apply RunP.exit | apply RunP.ret)
      cases hD : Lex.digit c
      · simp only [hD] at hd
        refine CallK.of (hd _) ?_
        repeat (first | apply RunP.seq | apply RunP.region | apply RunP.condT rfl | apply RunP.condF rfl | apply RunP.skip | apply RunP.block | apply RunP.exit | apply RunP.ret)
        refine And.intro (fun h34 => ?_) (fun h34 => ?_)
        · have e : c = 34 := UInt8.toNat_inj.1 (show c.toNat = 34 by omega)
          subst e
          repeat (first | apply RunP.seq | apply RunP.region | apply RunP.condT rfl | apply RunP.condF rfl | apply RunP.skip | apply RunP.block | apply RunP.exit | apply RunP.ret)
          refine bindK_of (load_at (E := envQ) (t := 110) (n := 1) h5 rfl) ?_
          repeat (first | apply RunP.seq | apply RunP.region | apply RunP.condT rfl | apply RunP.condF rfl | apply RunP.skip | apply RunP.block | apply RunP.exit | apply RunP.ret)
          obtain ⟨v, g1, hv, rfl, hk⟩ := quoteP_has g 4 u (Lex.skipN u j) (by omega) hc h4
          have hI1 := hI.keepT hk
          clear h5 h4
          cases ht : Lex.tokL (u.drop (Lex.skipN u j)) with
          | none =>
            rw [ht] at hv
            rw [Lex.toks_bad (j := j) (by omega) ht] at hT
            refine CallK.of hv ?_
            refine bindK_of (store_last (E := envQ) (t := 90) (n := 3) rfl rfl rfl rfl rfl) ?_
            have hI2 := hI1.push (.cells 90 [.int .i64 0, .str [], .int .i64 0])
            have h5 := hI2.h5
            have h4 := hI2.h4
            repeat (first | apply RunP.seq | apply RunP.region | apply RunP.condT rfl | apply RunP.condF rfl | apply RunP.skip | apply RunP.block | apply RunP.exit | apply RunP.ret)
            refine bindK_of (load_at (E := envQ) (t := 110) (n := 1) h5 rfl) ?_
            refine bindK_of (load_at (E := envQ) (t := 3) (n := 2) h4 rfl) ?_
            refine bindK_of (store_at (E := envQ) (t := 3) (n := 3) (push_last _ _) rfl rfl rfl rfl (by decide)) ?_
            have hlast := set_same (k := .cells 90 [.int .i64 0, .str [], .int .i64 (Lex.skipN u j : Nat)]) (push_last g1 (.cells 90 [.int .i64 0, .str [], .int .i64 0]))
            have hI3 : TsI u (Lex.skipN u j : Nat) w ts L ((push g1 (.cells 90 [.int .i64 0, .str [], .int .i64 0])).set g1.length (.cells 90 [.int .i64 0, .str [], .int .i64 (Lex.skipN u j : Nat)])) := by rw [push_set]; exact hI1.push _
            obtain ⟨r, hr, hres⟩ := hround _ _ w ts 0 [] (Lex.skipN u j : Nat) 0 hI3 (by omega)
            rcases hres with ⟨_, g2, rfl, hbad⟩ | ⟨hn0, _⟩
            · repeat (first | apply RunP.seq | apply RunP.region | apply RunP.condT rfl | apply RunP.condF rfl | apply RunP.skip | apply RunP.block | apply RunP.exit | apply RunP.ret)
              refine bindK_of (load_at (E := envQ) (t := 90) (n := 3) hlast rfl) ?_
              refine CallK.of hr ?_
              repeat (first | apply RunP.seq | apply RunP.region | apply RunP.condT rfl | apply RunP.condF rfl | apply RunP.skip | apply RunP.block | apply RunP.exit | apply RunP.ret)
              refine ⟨rfl, ?_⟩
              show TsEnd u L g2 _
              rw [hT]; exact hbad
            · exact absurd rfl hn0
          | some p =>
            rw [ht] at hv
            rw [Lex.toks_tok (j := j) (by omega) ht] at hT
            have hlen := Lex.tok_len ht
            refine CallK.of hv ?_
            refine bindK_of (store_last (E := envQ) (t := 90) (n := 3) rfl rfl rfl rfl rfl) ?_
            have hI2 := hI1.push (.cells 90 [.int .i64 p.1, .str p.2.1, .int .i64 0])
            have h5 := hI2.h5
            have h4 := hI2.h4
            repeat (first | apply RunP.seq | apply RunP.region | apply RunP.condT rfl | apply RunP.condF rfl | apply RunP.skip | apply RunP.block | apply RunP.exit | apply RunP.ret)
            refine bindK_of (load_at (E := envQ) (t := 110) (n := 1) h5 rfl) ?_
            refine bindK_of (load_at (E := envQ) (t := 3) (n := 2) h4 rfl) ?_
            refine bindK_of (store_at (E := envQ) (t := 3) (n := 3) (push_last _ _) rfl rfl rfl rfl (by decide)) ?_
            have hlast := set_same (k := .cells 90 [.int .i64 p.1, .str p.2.1, .int .i64 (Lex.skipN u j : Nat)]) (push_last g1 (.cells 90 [.int .i64 p.1, .str p.2.1, .int .i64 0]))
            have hI3 : TsI u (Lex.skipN u j : Nat) w ts L ((push g1 (.cells 90 [.int .i64 p.1, .str p.2.1, .int .i64 0])).set g1.length (.cells 90 [.int .i64 p.1, .str p.2.1, .int .i64 (Lex.skipN u j : Nat)])) := by rw [push_set]; exact hI1.push _
            obtain ⟨r, hr, hres⟩ := hround _ _ w ts p.1 p.2.1 (Lex.skipN u j : Nat) p.2.2 hI3 (by omega)
            rcases hres with ⟨hn0, _⟩ | ⟨_, g2, w2, rfl, hI4⟩
            · exact absurd hn0 (by omega)
            · repeat (first | apply RunP.seq | apply RunP.region | apply RunP.condT rfl | apply RunP.condF rfl | apply RunP.skip | apply RunP.block | apply RunP.exit | apply RunP.ret)
              refine bindK_of (load_at (E := envQ) (t := 90) (n := 3) hlast rfl) ?_
              refine CallK.of hr ?_
              repeat (first | apply RunP.seq | apply RunP.region | apply RunP.condT rfl | apply RunP.condF rfl | apply RunP.skip | apply RunP.block | apply RunP.exit | apply RunP.ret)
              refine And.intro (fun q => absurd q (by omega)) (fun _ => ?_)
              clear h5 h4 hlast
              have h5 := hI4.h5
              have h4 := hI4.h4
              repeat (first | apply RunP.seq | apply RunP.region | apply RunP.condT rfl | apply RunP.condF rfl | apply RunP.skip | apply RunP.block | apply RunP.exit | apply RunP.ret)
              refine bindK_of (load_at (E := envQ) (t := 110) (n := 1) h5 rfl) ?_
              refine bindK_of (load_at (E := envQ) (t := 3) (n := 2) h4 rfl) ?_
              have ew : IntKind.i64.wrap (((Lex.skipN u j : Nat) : Int) + ((p.2.2 : Nat) : Int)) = ((Lex.skipN u j + p.2.2 : Nat) : Int) := by rw [wrapS (by omega) (by omega)]; omega
              refine bindK_of (store_at (E := envQ) (t := 3) (n := 2) h4 rfl rfl rfl rfl (by decide)) ?_
              have e4 : g2.set 4 (.cells 112 (splice [.str u, .int .i64 (Lex.skipN u j : Nat)] 1 (V.int .i64 (IntKind.i64.wrap (((Lex.skipN u j : Nat) : Int) + ((p.2.2 : Nat) : Int)))).cells)) = g2.set 4 (sc u ((Lex.skipN u j + p.2.2 : Nat) : Int)) := by rw [ew]; rfl
              have hI5 : TsI u ((Lex.skipN u j + p.2.2 : Nat) : Int) w2 (ts ++ [(p.1, p.2.1, (Lex.skipN u j : Int))]) L (g2.set 4 (.cells 112 (splice [.str u, .int .i64 (Lex.skipN u j : Nat)] 1 (V.int .i64 (IntKind.i64.wrap (((Lex.skipN u j : Nat) : Int) + ((p.2.2 : Nat) : Int)))).cells))) := by rw [e4]; exact hI4.set4
              generalize g2.set 4 (.cells 112 (splice [.str u, .int .i64 (Lex.skipN u j : Nat)] 1 (V.int .i64 (IntKind.i64.wrap (((Lex.skipN u j : Nat) : Int) + ((p.2.2 : Nat) : Int)))).cells)) = g3 at hI5
              clear h5 h4
              have h5 := hI5.h5
              repeat (first | apply RunP.seq | apply RunP.region | apply RunP.condT rfl | apply RunP.condF rfl | apply RunP.skip | apply RunP.block | apply RunP.exit | apply RunP.ret)
              refine bindK_of (load_at (E := envQ) (t := 110) (n := 1) h5 rfl) ?_
              refine CallK.of (skip_has _ 4 u (Lex.skipN u j + p.2.2) (by omega) (by omega) hI5.h4) ?_
              repeat (first | apply RunP.seq | apply RunP.region | apply RunP.condT rfl | apply RunP.condF rfl | apply RunP.skip | apply RunP.block | apply RunP.exit | apply RunP.ret)
              refine ⟨k, by omega, Lex.skipN u j + p.2.2, w2, _, ⟨by omega, by omega, by simp only [List.length_append, List.length_cons, List.length_nil]; omega, hI5.set4, ?_⟩, rfl, rfl, rfl, rfl⟩
              rw [hT, List.append_assoc]; rfl
        · have e34 : c ≠ 34 := fun q => h34 (by rw [q]; rfl)
          repeat (first | apply RunP.seq | apply RunP.region | apply RunP.condT rfl | apply RunP.condF rfl | apply RunP.skip | apply RunP.block | apply RunP.exit | apply RunP.ret)
          obtain ⟨v, g1, hv, rfl, hk⟩ := sign_has g 4 u (Lex.skipN u j) c (by omega) hc hL hD e34 h4
          have hI1 := hI.keepT hk.toT
          clear h5 h4
          cases ht : Lex.tokL (u.drop (Lex.skipN u j)) with
          | none =>
            rw [ht] at hv
            rw [Lex.toks_bad (j := j) (by omega) ht] at hT
            refine CallK.of hv ?_
            refine bindK_of (store_last (E := envQ) (t := 90) (n := 3) rfl rfl rfl rfl rfl) ?_
            have hI2 := hI1.push (.cells 90 [.int .i64 0, .str [], .int .i64 0])
            have h5 := hI2.h5
            have h4 := hI2.h4
            repeat (first | apply RunP.seq | apply RunP.region | apply RunP.condT rfl | apply RunP.condF rfl | apply RunP.skip | apply RunP.block | apply RunP.exit | apply RunP.ret)
            refine bindK_of (load_at (E := envQ) (t := 110) (n := 1) h5 rfl) ?_
            refine bindK_of (load_at (E := envQ) (t := 3) (n := 2) h4 rfl) ?_
            refine bindK_of (store_at (E := envQ) (t := 3) (n := 3) (push_last _ _) rfl rfl rfl rfl (by decide)) ?_
            have hlast := set_same (k := .cells 90 [.int .i64 0, .str [], .int .i64 (Lex.skipN u j : Nat)]) (push_last g1 (.cells 90 [.int .i64 0, .str [], .int .i64 0]))
            have hI3 : TsI u (Lex.skipN u j : Nat) w ts L ((push g1 (.cells 90 [.int .i64 0, .str [], .int .i64 0])).set g1.length (.cells 90 [.int .i64 0, .str [], .int .i64 (Lex.skipN u j : Nat)])) := by rw [push_set]; exact hI1.push _
            obtain ⟨r, hr, hres⟩ := hround _ _ w ts 0 [] (Lex.skipN u j : Nat) 0 hI3 (by omega)
            rcases hres with ⟨_, g2, rfl, hbad⟩ | ⟨hn0, _⟩
            · repeat (first | apply RunP.seq | apply RunP.region | apply RunP.condT rfl | apply RunP.condF rfl | apply RunP.skip | apply RunP.block | apply RunP.exit | apply RunP.ret)
              refine bindK_of (load_at (E := envQ) (t := 90) (n := 3) hlast rfl) ?_
              refine CallK.of hr ?_
              repeat (first | apply RunP.seq | apply RunP.region | apply RunP.condT rfl | apply RunP.condF rfl | apply RunP.skip | apply RunP.block | apply RunP.exit | apply RunP.ret)
              refine ⟨rfl, ?_⟩
              show TsEnd u L g2 _
              rw [hT]; exact hbad
            · exact absurd rfl hn0
          | some p =>
            rw [ht] at hv
            rw [Lex.toks_tok (j := j) (by omega) ht] at hT
            have hlen := Lex.tok_len ht
            refine CallK.of hv ?_
            refine bindK_of (store_last (E := envQ) (t := 90) (n := 3) rfl rfl rfl rfl rfl) ?_
            have hI2 := hI1.push (.cells 90 [.int .i64 p.1, .str p.2.1, .int .i64 0])
            have h5 := hI2.h5
            have h4 := hI2.h4
            repeat (first | apply RunP.seq | apply RunP.region | apply RunP.condT rfl | apply RunP.condF rfl | apply RunP.skip | apply RunP.block | apply RunP.exit | apply RunP.ret)
            refine bindK_of (load_at (E := envQ) (t := 110) (n := 1) h5 rfl) ?_
            refine bindK_of (load_at (E := envQ) (t := 3) (n := 2) h4 rfl) ?_
            refine bindK_of (store_at (E := envQ) (t := 3) (n := 3) (push_last _ _) rfl rfl rfl rfl (by decide)) ?_
            have hlast := set_same (k := .cells 90 [.int .i64 p.1, .str p.2.1, .int .i64 (Lex.skipN u j : Nat)]) (push_last g1 (.cells 90 [.int .i64 p.1, .str p.2.1, .int .i64 0]))
            have hI3 : TsI u (Lex.skipN u j : Nat) w ts L ((push g1 (.cells 90 [.int .i64 p.1, .str p.2.1, .int .i64 0])).set g1.length (.cells 90 [.int .i64 p.1, .str p.2.1, .int .i64 (Lex.skipN u j : Nat)])) := by rw [push_set]; exact hI1.push _
            obtain ⟨r, hr, hres⟩ := hround _ _ w ts p.1 p.2.1 (Lex.skipN u j : Nat) p.2.2 hI3 (by omega)
            rcases hres with ⟨hn0, _⟩ | ⟨_, g2, w2, rfl, hI4⟩
            · exact absurd hn0 (by omega)
            · repeat (first | apply RunP.seq | apply RunP.region | apply RunP.condT rfl | apply RunP.condF rfl | apply RunP.skip | apply RunP.block | apply RunP.exit | apply RunP.ret)
              refine bindK_of (load_at (E := envQ) (t := 90) (n := 3) hlast rfl) ?_
              refine CallK.of hr ?_
              repeat (first | apply RunP.seq | apply RunP.region | apply RunP.condT rfl | apply RunP.condF rfl | apply RunP.skip | apply RunP.block | apply RunP.exit | apply RunP.ret)
              refine And.intro (fun q => absurd q (by omega)) (fun _ => ?_)
              clear h5 h4 hlast
              have h5 := hI4.h5
              have h4 := hI4.h4
              repeat (first | apply RunP.seq | apply RunP.region | apply RunP.condT rfl | apply RunP.condF rfl | apply RunP.skip | apply RunP.block | apply RunP.exit | apply RunP.ret)
              refine bindK_of (load_at (E := envQ) (t := 110) (n := 1) h5 rfl) ?_
              refine bindK_of (load_at (E := envQ) (t := 3) (n := 2) h4 rfl) ?_
              have ew : IntKind.i64.wrap (((Lex.skipN u j : Nat) : Int) + ((p.2.2 : Nat) : Int)) = ((Lex.skipN u j + p.2.2 : Nat) : Int) := by rw [wrapS (by omega) (by omega)]; omega
              refine bindK_of (store_at (E := envQ) (t := 3) (n := 2) h4 rfl rfl rfl rfl (by decide)) ?_
              have e4 : g2.set 4 (.cells 112 (splice [.str u, .int .i64 (Lex.skipN u j : Nat)] 1 (V.int .i64 (IntKind.i64.wrap (((Lex.skipN u j : Nat) : Int) + ((p.2.2 : Nat) : Int)))).cells)) = g2.set 4 (sc u ((Lex.skipN u j + p.2.2 : Nat) : Int)) := by rw [ew]; rfl
              have hI5 : TsI u ((Lex.skipN u j + p.2.2 : Nat) : Int) w2 (ts ++ [(p.1, p.2.1, (Lex.skipN u j : Int))]) L (g2.set 4 (.cells 112 (splice [.str u, .int .i64 (Lex.skipN u j : Nat)] 1 (V.int .i64 (IntKind.i64.wrap (((Lex.skipN u j : Nat) : Int) + ((p.2.2 : Nat) : Int)))).cells))) := by rw [e4]; exact hI4.set4
              generalize g2.set 4 (.cells 112 (splice [.str u, .int .i64 (Lex.skipN u j : Nat)] 1 (V.int .i64 (IntKind.i64.wrap (((Lex.skipN u j : Nat) : Int) + ((p.2.2 : Nat) : Int)))).cells)) = g3 at hI5
              clear h5 h4
              have h5 := hI5.h5
              repeat (first | apply RunP.seq | apply RunP.region | apply RunP.condT rfl | apply RunP.condF rfl | apply RunP.skip | apply RunP.block | apply RunP.exit | apply RunP.ret)
              refine bindK_of (load_at (E := envQ) (t := 110) (n := 1) h5 rfl) ?_
              refine CallK.of (skip_has _ 4 u (Lex.skipN u j + p.2.2) (by omega) (by omega) hI5.h4) ?_
              repeat (first | apply RunP.seq | apply RunP.region | apply RunP.condT rfl | apply RunP.condF rfl | apply RunP.skip | apply RunP.block | apply RunP.exit | apply RunP.ret)
              refine ⟨k, by omega, Lex.skipN u j + p.2.2, w2, _, ⟨by omega, by omega, by simp only [List.length_append, List.length_cons, List.length_nil]; omega, hI5.set4, ?_⟩, rfl, rfl, rfl, rfl⟩
              rw [hT, List.append_assoc]; rfl
      · simp only [hD] at hd
        refine CallK.of (hd _) ?_
        repeat (first | apply RunP.seq | apply RunP.region | apply RunP.condT rfl | apply RunP.condF rfl | apply RunP.skip | apply RunP.block | apply RunP.exit | apply RunP.ret)
        refine bindK_of (load_at (E := envQ) (t := 110) (n := 1) h5 rfl) ?_
        repeat (first | apply RunP.seq | apply RunP.region | apply RunP.condT rfl | apply RunP.condF rfl | apply RunP.skip | apply RunP.block | apply RunP.exit | apply RunP.ret)
        obtain ⟨v, g1, hv, rfl, hk⟩ := numeral_has g 4 u (Lex.skipN u j) c (by omega) hc hL hD h4
        have hI1 := hI.keepT hk.toT
        clear h5 h4
        cases ht : Lex.tokL (u.drop (Lex.skipN u j)) with
        | none =>
          rw [ht] at hv
          rw [Lex.toks_bad (j := j) (by omega) ht] at hT
          refine CallK.of hv ?_
          refine bindK_of (store_last (E := envQ) (t := 90) (n := 3) rfl rfl rfl rfl rfl) ?_
          have hI2 := hI1.push (.cells 90 [.int .i64 0, .str [], .int .i64 0])
          have h5 := hI2.h5
          have h4 := hI2.h4
          repeat (first | apply RunP.seq | apply RunP.region | apply RunP.condT rfl | apply RunP.condF rfl | apply RunP.skip | apply RunP.block | apply RunP.exit | apply RunP.ret)
          refine bindK_of (load_at (E := envQ) (t := 110) (n := 1) h5 rfl) ?_
          refine bindK_of (load_at (E := envQ) (t := 3) (n := 2) h4 rfl) ?_
          refine bindK_of (store_at (E := envQ) (t := 3) (n := 3) (push_last _ _) rfl rfl rfl rfl (by decide)) ?_
          have hlast := set_same (k := .cells 90 [.int .i64 0, .str [], .int .i64 (Lex.skipN u j : Nat)]) (push_last g1 (.cells 90 [.int .i64 0, .str [], .int .i64 0]))
          have hI3 : TsI u (Lex.skipN u j : Nat) w ts L ((push g1 (.cells 90 [.int .i64 0, .str [], .int .i64 0])).set g1.length (.cells 90 [.int .i64 0, .str [], .int .i64 (Lex.skipN u j : Nat)])) := by rw [push_set]; exact hI1.push _
          obtain ⟨r, hr, hres⟩ := hround _ _ w ts 0 [] (Lex.skipN u j : Nat) 0 hI3 (by omega)
          rcases hres with ⟨_, g2, rfl, hbad⟩ | ⟨hn0, _⟩
          · repeat (first | apply RunP.seq | apply RunP.region | apply RunP.condT rfl | apply RunP.condF rfl | apply RunP.skip | apply RunP.block | apply RunP.exit | apply RunP.ret)
            refine bindK_of (load_at (E := envQ) (t := 90) (n := 3) hlast rfl) ?_
            refine CallK.of hr ?_
            repeat (first | apply RunP.seq | apply RunP.region | apply RunP.condT rfl | apply RunP.condF rfl | apply RunP.skip | apply RunP.block | apply RunP.exit | apply RunP.ret)
            refine ⟨rfl, ?_⟩
            show TsEnd u L g2 _
            rw [hT]; exact hbad
          · exact absurd rfl hn0
        | some p =>
          rw [ht] at hv
          rw [Lex.toks_tok (j := j) (by omega) ht] at hT
          have hlen := Lex.tok_len ht
          refine CallK.of hv ?_
          refine bindK_of (store_last (E := envQ) (t := 90) (n := 3) rfl rfl rfl rfl rfl) ?_
          have hI2 := hI1.push (.cells 90 [.int .i64 p.1, .str p.2.1, .int .i64 0])
          have h5 := hI2.h5
          have h4 := hI2.h4
          repeat (first | apply RunP.seq | apply RunP.region | apply RunP.condT rfl | apply RunP.condF rfl | apply RunP.skip | apply RunP.block | apply RunP.exit | apply RunP.ret)
          refine bindK_of (load_at (E := envQ) (t := 110) (n := 1) h5 rfl) ?_
          refine bindK_of (load_at (E := envQ) (t := 3) (n := 2) h4 rfl) ?_
          refine bindK_of (store_at (E := envQ) (t := 3) (n := 3) (push_last _ _) rfl rfl rfl rfl (by decide)) ?_
          have hlast := set_same (k := .cells 90 [.int .i64 p.1, .str p.2.1, .int .i64 (Lex.skipN u j : Nat)]) (push_last g1 (.cells 90 [.int .i64 p.1, .str p.2.1, .int .i64 0]))
          have hI3 : TsI u (Lex.skipN u j : Nat) w ts L ((push g1 (.cells 90 [.int .i64 p.1, .str p.2.1, .int .i64 0])).set g1.length (.cells 90 [.int .i64 p.1, .str p.2.1, .int .i64 (Lex.skipN u j : Nat)])) := by rw [push_set]; exact hI1.push _
          obtain ⟨r, hr, hres⟩ := hround _ _ w ts p.1 p.2.1 (Lex.skipN u j : Nat) p.2.2 hI3 (by omega)
          rcases hres with ⟨hn0, _⟩ | ⟨_, g2, w2, rfl, hI4⟩
          · exact absurd hn0 (by omega)
          · repeat (first | apply RunP.seq | apply RunP.region | apply RunP.condT rfl | apply RunP.condF rfl | apply RunP.skip | apply RunP.block | apply RunP.exit | apply RunP.ret)
            refine bindK_of (load_at (E := envQ) (t := 90) (n := 3) hlast rfl) ?_
            refine CallK.of hr ?_
            repeat (first | apply RunP.seq | apply RunP.region | apply RunP.condT rfl | apply RunP.condF rfl | apply RunP.skip | apply RunP.block | apply RunP.exit | apply RunP.ret)
            refine And.intro (fun q => absurd q (by omega)) (fun _ => ?_)
            clear h5 h4 hlast
            have h5 := hI4.h5
            have h4 := hI4.h4
            repeat (first | apply RunP.seq | apply RunP.region | apply RunP.condT rfl | apply RunP.condF rfl | apply RunP.skip | apply RunP.block | apply RunP.exit | apply RunP.ret)
            refine bindK_of (load_at (E := envQ) (t := 110) (n := 1) h5 rfl) ?_
            refine bindK_of (load_at (E := envQ) (t := 3) (n := 2) h4 rfl) ?_
            have ew : IntKind.i64.wrap (((Lex.skipN u j : Nat) : Int) + ((p.2.2 : Nat) : Int)) = ((Lex.skipN u j + p.2.2 : Nat) : Int) := by rw [wrapS (by omega) (by omega)]; omega
            refine bindK_of (store_at (E := envQ) (t := 3) (n := 2) h4 rfl rfl rfl rfl (by decide)) ?_
            have e4 : g2.set 4 (.cells 112 (splice [.str u, .int .i64 (Lex.skipN u j : Nat)] 1 (V.int .i64 (IntKind.i64.wrap (((Lex.skipN u j : Nat) : Int) + ((p.2.2 : Nat) : Int)))).cells)) = g2.set 4 (sc u ((Lex.skipN u j + p.2.2 : Nat) : Int)) := by rw [ew]; rfl
            have hI5 : TsI u ((Lex.skipN u j + p.2.2 : Nat) : Int) w2 (ts ++ [(p.1, p.2.1, (Lex.skipN u j : Int))]) L (g2.set 4 (.cells 112 (splice [.str u, .int .i64 (Lex.skipN u j : Nat)] 1 (V.int .i64 (IntKind.i64.wrap (((Lex.skipN u j : Nat) : Int) + ((p.2.2 : Nat) : Int)))).cells))) := by rw [e4]; exact hI4.set4
            generalize g2.set 4 (.cells 112 (splice [.str u, .int .i64 (Lex.skipN u j : Nat)] 1 (V.int .i64 (IntKind.i64.wrap (((Lex.skipN u j : Nat) : Int) + ((p.2.2 : Nat) : Int)))).cells)) = g3 at hI5
            clear h5 h4
            have h5 := hI5.h5
            repeat (first | apply RunP.seq | apply RunP.region | apply RunP.condT rfl | apply RunP.condF rfl | apply RunP.skip | apply RunP.block | apply RunP.exit | apply RunP.ret)
            refine bindK_of (load_at (E := envQ) (t := 110) (n := 1) h5 rfl) ?_
            refine CallK.of (skip_has _ 4 u (Lex.skipN u j + p.2.2) (by omega) (by omega) hI5.h4) ?_
            repeat (first | apply RunP.seq | apply RunP.region | apply RunP.condT rfl | apply RunP.condF rfl | apply RunP.skip | apply RunP.block | apply RunP.exit | apply RunP.ret)
            refine ⟨k, by omega, Lex.skipN u j + p.2.2, w2, _, ⟨by omega, by omega, by simp only [List.length_append, List.length_cons, List.length_nil]; omega, hI5.set4, ?_⟩, rfl, rfl, rfl, rfl⟩
            rw [hT, List.append_assoc]; rfl
    · simp only [hL] at hl
      refine CallK.of (hl _) ?_
      repeat (first | apply RunP.seq | apply RunP.region | apply RunP.condT rfl | apply RunP.condF rfl | apply RunP.skip | apply RunP.block | apply RunP.exit | apply RunP.ret)
      refine bindK_of (load_at (E := envQ) (t := 110) (n := 1) h5 rfl) ?_
      repeat (first | apply RunP.seq | apply RunP.region | apply RunP.condT rfl | apply RunP.condF rfl | apply RunP.skip | apply RunP.block | apply RunP.exit | apply RunP.ret)
      obtain ⟨v, g1, hv, rfl, hk⟩ := name_has g 4 u (Lex.skipN u j) c (by omega) hc hL h4
      have hI1 := hI.keepT hk.toT
      clear h5 h4
      cases ht : Lex.tokL (u.drop (Lex.skipN u j)) with
      | none =>
        rw [ht] at hv
        rw [Lex.toks_bad (j := j) (by omega) ht] at hT
        refine CallK.of hv ?_
        refine bindK_of (store_last (E := envQ) (t := 90) (n := 3) rfl rfl rfl rfl rfl) ?_
        have hI2 := hI1.push (.cells 90 [.int .i64 0, .str [], .int .i64 0])
        have h5 := hI2.h5
        have h4 := hI2.h4
        repeat (first | apply RunP.seq | apply RunP.region | apply RunP.condT rfl | apply RunP.condF rfl | apply RunP.skip | apply RunP.block | apply RunP.exit | apply RunP.ret)
        refine bindK_of (load_at (E := envQ) (t := 110) (n := 1) h5 rfl) ?_
        refine bindK_of (load_at (E := envQ) (t := 3) (n := 2) h4 rfl) ?_
        refine bindK_of (store_at (E := envQ) (t := 3) (n := 3) (push_last _ _) rfl rfl rfl rfl (by decide)) ?_
        have hlast := set_same (k := .cells 90 [.int .i64 0, .str [], .int .i64 (Lex.skipN u j : Nat)]) (push_last g1 (.cells 90 [.int .i64 0, .str [], .int .i64 0]))
        have hI3 : TsI u (Lex.skipN u j : Nat) w ts L ((push g1 (.cells 90 [.int .i64 0, .str [], .int .i64 0])).set g1.length (.cells 90 [.int .i64 0, .str [], .int .i64 (Lex.skipN u j : Nat)])) := by rw [push_set]; exact hI1.push _
        obtain ⟨r, hr, hres⟩ := hround _ _ w ts 0 [] (Lex.skipN u j : Nat) 0 hI3 (by omega)
        rcases hres with ⟨_, g2, rfl, hbad⟩ | ⟨hn0, _⟩
        · repeat (first | apply RunP.seq | apply RunP.region | apply RunP.condT rfl | apply RunP.condF rfl | apply RunP.skip | apply RunP.block | apply RunP.exit | apply RunP.ret)
          refine bindK_of (load_at (E := envQ) (t := 90) (n := 3) hlast rfl) ?_
          refine CallK.of hr ?_
          repeat (first | apply RunP.seq | apply RunP.region | apply RunP.condT rfl | apply RunP.condF rfl | apply RunP.skip | apply RunP.block | apply RunP.exit | apply RunP.ret)
          refine ⟨rfl, ?_⟩
          show TsEnd u L g2 _
          rw [hT]; exact hbad
        · exact absurd rfl hn0
      | some p =>
        rw [ht] at hv
        rw [Lex.toks_tok (j := j) (by omega) ht] at hT
        have hlen := Lex.tok_len ht
        refine CallK.of hv ?_
        refine bindK_of (store_last (E := envQ) (t := 90) (n := 3) rfl rfl rfl rfl rfl) ?_
        have hI2 := hI1.push (.cells 90 [.int .i64 p.1, .str p.2.1, .int .i64 0])
        have h5 := hI2.h5
        have h4 := hI2.h4
        repeat (first | apply RunP.seq | apply RunP.region | apply RunP.condT rfl | apply RunP.condF rfl | apply RunP.skip | apply RunP.block | apply RunP.exit | apply RunP.ret)
        refine bindK_of (load_at (E := envQ) (t := 110) (n := 1) h5 rfl) ?_
        refine bindK_of (load_at (E := envQ) (t := 3) (n := 2) h4 rfl) ?_
        refine bindK_of (store_at (E := envQ) (t := 3) (n := 3) (push_last _ _) rfl rfl rfl rfl (by decide)) ?_
        have hlast := set_same (k := .cells 90 [.int .i64 p.1, .str p.2.1, .int .i64 (Lex.skipN u j : Nat)]) (push_last g1 (.cells 90 [.int .i64 p.1, .str p.2.1, .int .i64 0]))
        have hI3 : TsI u (Lex.skipN u j : Nat) w ts L ((push g1 (.cells 90 [.int .i64 p.1, .str p.2.1, .int .i64 0])).set g1.length (.cells 90 [.int .i64 p.1, .str p.2.1, .int .i64 (Lex.skipN u j : Nat)])) := by rw [push_set]; exact hI1.push _
        obtain ⟨r, hr, hres⟩ := hround _ _ w ts p.1 p.2.1 (Lex.skipN u j : Nat) p.2.2 hI3 (by omega)
        rcases hres with ⟨hn0, _⟩ | ⟨_, g2, w2, rfl, hI4⟩
        · exact absurd hn0 (by omega)
        · repeat (first | apply RunP.seq | apply RunP.region | apply RunP.condT rfl | apply RunP.condF rfl | apply RunP.skip | apply RunP.block | apply RunP.exit | apply RunP.ret)
          refine bindK_of (load_at (E := envQ) (t := 90) (n := 3) hlast rfl) ?_
          refine CallK.of hr ?_
          repeat (first | apply RunP.seq | apply RunP.region | apply RunP.condT rfl | apply RunP.condF rfl | apply RunP.skip | apply RunP.block | apply RunP.exit | apply RunP.ret)
          refine And.intro (fun q => absurd q (by omega)) (fun _ => ?_)
          clear h5 h4 hlast
          have h5 := hI4.h5
          have h4 := hI4.h4
          repeat (first | apply RunP.seq | apply RunP.region | apply RunP.condT rfl | apply RunP.condF rfl | apply RunP.skip | apply RunP.block | apply RunP.exit | apply RunP.ret)
          refine bindK_of (load_at (E := envQ) (t := 110) (n := 1) h5 rfl) ?_
          refine bindK_of (load_at (E := envQ) (t := 3) (n := 2) h4 rfl) ?_
          have ew : IntKind.i64.wrap (((Lex.skipN u j : Nat) : Int) + ((p.2.2 : Nat) : Int)) = ((Lex.skipN u j + p.2.2 : Nat) : Int) := by rw [wrapS (by omega) (by omega)]; omega
          refine bindK_of (store_at (E := envQ) (t := 3) (n := 2) h4 rfl rfl rfl rfl (by decide)) ?_
          have e4 : g2.set 4 (.cells 112 (splice [.str u, .int .i64 (Lex.skipN u j : Nat)] 1 (V.int .i64 (IntKind.i64.wrap (((Lex.skipN u j : Nat) : Int) + ((p.2.2 : Nat) : Int)))).cells)) = g2.set 4 (sc u ((Lex.skipN u j + p.2.2 : Nat) : Int)) := by rw [ew]; rfl
          have hI5 : TsI u ((Lex.skipN u j + p.2.2 : Nat) : Int) w2 (ts ++ [(p.1, p.2.1, (Lex.skipN u j : Int))]) L (g2.set 4 (.cells 112 (splice [.str u, .int .i64 (Lex.skipN u j : Nat)] 1 (V.int .i64 (IntKind.i64.wrap (((Lex.skipN u j : Nat) : Int) + ((p.2.2 : Nat) : Int)))).cells))) := by rw [e4]; exact hI4.set4
          generalize g2.set 4 (.cells 112 (splice [.str u, .int .i64 (Lex.skipN u j : Nat)] 1 (V.int .i64 (IntKind.i64.wrap (((Lex.skipN u j : Nat) : Int) + ((p.2.2 : Nat) : Int)))).cells)) = g3 at hI5
          clear h5 h4
          have h5 := hI5.h5
          repeat (first | apply RunP.seq | apply RunP.region | apply RunP.condT rfl | apply RunP.condF rfl | apply RunP.skip | apply RunP.block | apply RunP.exit | apply RunP.ret)
          refine bindK_of (load_at (E := envQ) (t := 110) (n := 1) h5 rfl) ?_
          refine CallK.of (skip_has _ 4 u (Lex.skipN u j + p.2.2) (by omega) (by omega) hI5.h4) ?_
          repeat (first | apply RunP.seq | apply RunP.region | apply RunP.condT rfl | apply RunP.condF rfl | apply RunP.skip | apply RunP.block | apply RunP.exit | apply RunP.ret)
          refine ⟨k, by omega, Lex.skipN u j + p.2.2, w2, _, ⟨by omega, by omega, by simp only [List.length_append, List.length_cons, List.length_nil]; omega, hI5.set4, ?_⟩, rfl, rfl, rfl, rfl⟩
          rw [hT, List.append_assoc]; rfl
  · rw [Lex.toks_end (j := j) (by omega)] at hT
    simp only [List.append_nil] at hT
    repeat (first | apply RunP.seq | apply RunP.region | apply RunP.condT rfl | apply RunP.condF rfl | apply RunP.skip | apply RunP.block | apply RunP.exit | apply RunP.ret)
    refine ⟨rfl, ?_⟩
    show TsEnd u L g _
    rw [hT]; exact ⟨_, _, hI⟩
end Go.Proofs.YtkjhnpmgieplgaaGreatDoor

/- The program's Tokens. -/

namespace Go.Proofs.YtkjhnpmgieplgaaGreatDoor
open Go.Sb
set_option maxRecDepth 100000
set_option maxHeartbeats 16000000 in
theorem tokensF_has (h : Heap) (b : Nat) : ∃ v g, Has envQ .shared 80 [.ptr b 0 2] h (.val v g) ∧ v = .fn (.func 110) [.ptr h.length 0 1] ∧ g = push h (.cells 110 [.ptr b 0 2]) := by
  refine HasP.sharedE (d := fn80) rfl (of_decide_eq_true rfl) ?_
  repeat (first | apply RunP.seq | apply RunP.region | apply RunP.condT rfl | apply RunP.condF rfl | apply RunP.skip | apply RunP.block | apply RunP.exit | apply RunP.ret)
  exact ⟨rfl, rfl, rfl⟩
structure RdF (u : List UInt8) (z : Int) (w : V) (ts : List (Int × List UInt8 × Int)) (tok : List V) (n : Nat) (Lb : LoopD) (H : Heap) : Prop where
  h0 : H[0]? = some (.cells 86 [.nils])
  h1 : H[1]? = some (.cells 3 [.int .i64 0])
  h2 : H[2]? = some (.cells 24 [.int .i64 0])
  h3 : H[3]? = some (.cells 86 [w])
  h4 : H[4]? = some (sc u z)
  h5 : H[5]? = some (.cells 110 [.ptr 4 0 2])
  h6 : H[6]? = some (.siter Lb)
  hT : H[n]? = some (.cells 90 tok)
  hr : InRow H 90 3 w (ts.map tkV)
  hn : 6 < n
theorem rdF {u : List UInt8} {z : Int} {w : V} {ts : List (Int × List UInt8 × Int)} {L Lb : LoopD} {tok : List V} {h : Heap} (hI : TsI u z w ts L h) : RdF u z w ts tok h.length Lb ((Sb.push h (.cells 90 tok)).set 6 (.siter Lb)) := by
  have h7 : 6 < h.length := (List.getElem?_eq_some_iff.1 hI.h6).1
  have hJ := hI.push (.cells 90 tok)
  refine ⟨?_, ?_, ?_, ?_, ?_, ?_, set_same hJ.h6, ?_, ?_, h7⟩
  · rw [set_other (by decide)]; exact hJ.h0
  · rw [set_other (by decide)]; exact hJ.h1
  · rw [set_other (by decide)]; exact hJ.h2
  · rw [set_other (by decide)]; exact hJ.h3
  · rw [set_other (by decide)]; exact hJ.h4
  · rw [set_other (by decide)]; exact hJ.h5
  · rw [set_other (by omega)]; exact push_last _ _
  · exact hJ.hr.keep fun i cs hi => by rw [set_other (fun q => by subst q; rw [hJ.h6] at hi; cases hi)]; exact hi
theorem run_rdF {E : Env} {md : FuncId → Sb.Mode} {c : Code} {s : List V} {Q : Ex → List V → Heap → Prop} {u : List UInt8} {z : Int} {w : V} {ts : List (Int × List UInt8 × Int)} {L : LoopD} {tok : List V} {h : Heap} (hI : TsI u z w ts L h) (k : ∀ H, RdF u z w ts tok h.length { L with st := .busy } H → RunP E md c s H Q) : RunP E md c s ((Sb.push h (.cells 90 tok)).set 6 (.siter { L with st := .busy })) Q := k _ (rdF hI)
theorem tokens1_at {u : List UInt8} {L : LoopD} {h : Heap} {K : V → Heap → Prop} (hu : u.length ≤ 4000) (hI : TsI u 0 .nils [] L h) (hround : RoundOk u L) (hk : ∀ v g, TsEnd u L g (Lex.toksL u (u.length + 1) 0) → K v g) : CallK envQ .shared 110 [.it 6, .ptr 5 0 1] h K := by
  obtain ⟨v, g, a, b⟩ := tokens1_has u hu L hround h hI
  exact CallK.of a (hk v g b)
theorem toks_len (u : List UInt8) : ∀ (k i : Nat), (Lex.toksL u k i).1.length ≤ k
  | 0, _ => by simp [Lex.toksL]
  | k + 1, i => by
    by_cases h : Lex.skipN u i < u.length
    · cases ht : Lex.tokL (u.drop (Lex.skipN u i)) with
      | none => rw [Lex.toks_bad h ht]; simp
      | some p =>
        rw [Lex.toks_tok h ht]
        have := toks_len u k (Lex.skipN u i + p.2.2)
        simp only [List.length_cons]; omega
    · rw [Lex.toks_end (by omega)]; simp
set_option maxHeartbeats 16000000 in
theorem Tokens_has (h : Heap) (u : List UInt8) (hu : u.length ≤ 2 ^ 20) : Has envQ .own 50 [.str u] h (.val (tokensV u) h) := by
  refine HasP.own (a := [.str u]) (d := fn50) rfl rfl rfl (of_decide_eq_true rfl) ?_
  repeat (first | apply RunP.seq | apply RunP.region | apply RunP.condT rfl | apply RunP.condF rfl | apply RunP.skip | apply RunP.block | apply RunP.exit | apply RunP.ret)
  refine And.intro (fun hf => ?_) (fun hf => ?_)
  · repeat (first | apply RunP.seq | apply RunP.region | apply RunP.condT rfl | apply RunP.condF rfl | apply RunP.skip | apply RunP.block | apply RunP.exit | apply RunP.ret)
    exact ⟨rfl, congrArg (fun v => some v) (tokensV_full (by omega)).symm, rfl⟩
  repeat (first | apply RunP.seq | apply RunP.region | apply RunP.condT rfl | apply RunP.condF rfl | apply RunP.skip | apply RunP.block | apply RunP.exit | apply RunP.ret)
  obtain ⟨v1, g1, q1, rfl, rfl⟩ := tokensF_has [.cells 86 [.nils], .cells 3 [.int .i64 0], .cells 24 [.int .i64 0], .cells 86 [.nils], sc u 0] 4
  refine CallK.of q1 ?_
  repeat (first | apply RunP.seq | apply RunP.region | apply RunP.condT rfl | apply RunP.condF rfl | apply RunP.skip | apply RunP.block | apply RunP.exit | apply RunP.ret)
  refine RunP.range rfl ?_
  refine tokens1_at (by omega) ⟨rfl, rfl, rfl, rfl, rfl, rfl, rfl, .inl ⟨rfl, rfl⟩⟩ ?_ ?_
  · intro h z w ts a s at_ n hI htl
    have h7 : 6 < h.length := (List.getElem?_eq_some_iff.1 hI.h6).1
    refine Has.round hI.h6 rfl rfl rfl ?_
    repeat (first | apply RunP.seq | apply RunP.region | apply RunP.condT rfl | apply RunP.condF rfl | apply RunP.skip | apply RunP.block | apply RunP.exit | apply RunP.ret)
    refine bindK_of (store_last (E := envQ) (t := 90) (n := 3) rfl rfl rfl rfl rfl) ?_
    repeat (first | apply RunP.seq | apply RunP.region | apply RunP.condT rfl | apply RunP.condF rfl | apply RunP.skip | apply RunP.block | apply RunP.exit | apply RunP.ret)
    have hJ := hI.push (.cells 90 [.int .i64 a, .str s, .int .i64 at_])
    refine ⟨rfl, _, hJ.h6, rfl, ?_⟩
    refine run_rdF (tok := [.int .i64 a, .str s, .int .i64 at_]) hI ?_
    intro H F
    have hn := F.hn
    clear hJ hI
    show RunP envQ fn50.md _ _ _ _
    repeat (first | apply RunP.seq | apply RunP.region | apply RunP.condT rfl | apply RunP.condF rfl | apply RunP.skip | apply RunP.block | apply RunP.exit | apply RunP.ret)
    refine And.intro (fun e0 => ?_) (fun e0 => ?_)
    · repeat (first | apply RunP.seq | apply RunP.region | apply RunP.condT rfl | apply RunP.condF rfl | apply RunP.skip | apply RunP.block | apply RunP.exit | apply RunP.ret)
      apply RunP.drawn
      · decide +kernel
      have a1 : ∀ k, (H.set 0 k)[h.length]? = some (.cells 90 [.int .i64 a, .str s, .int .i64 at_]) := fun k => by rw [set_other (by omega)]; exact F.hT
      have a2 : ∀ k k', ((H.set 0 k).set 1 k')[h.length]? = some (.cells 90 [.int .i64 a, .str s, .int .i64 at_]) := fun k k' => by rw [set_other (by omega)]; exact a1 _
      have a3 : ∀ k k' k'', (((H.set 0 k).set 1 k').set 2 k'')[h.length]? = some (.cells 90 [.int .i64 a, .str s, .int .i64 at_]) := fun k k' k'' => by rw [set_other (by omega)]; exact a2 _ _
      have b1 : ∀ k, (H.set 0 k)[1]? = some (.cells 3 [.int .i64 0]) := fun k => by rw [set_other (by decide)]; exact F.h1
      have b2 : ∀ k k', ((H.set 0 k).set 1 k')[2]? = some (.cells 24 [.int .i64 0]) := fun k k' => by rw [set_other (by decide), set_other (by decide)]; exact F.h2
      have c6 : ∀ k k' k'', (((H.set 0 k).set 1 k').set 2 k'')[6]? = _ := fun k k' k'' => (set_other (by decide)).trans ((set_other (by decide)).trans ((set_other (by decide)).trans F.h6))
      refine bindK_of (load_at (E := envQ) (t := 3) (n := 3) (F.hT) rfl) ?_
      refine drawR (by decide +kernel) (by decide +kernel) ?_
      refine bindK_of (store_at (E := envQ) (t := 86) (n := 1) (F.h0) rfl rfl rfl rfl (by decide)) ?_
      refine drawS (by decide +kernel) (acc_read (StillK.of (bindK_of (load_at (E := envQ) (t := 3) (n := 3) (a1 _) rfl) rfl)) (acc_nil ?_))
      refine bindK_of (store_at (E := envQ) (t := 3) (n := 1) (b1 _) rfl rfl rfl rfl (by decide)) ?_
      refine drawS (by decide +kernel) (acc_read (StillK.of (bindK_of (load_at (E := envQ) (t := 3) (n := 3) (a2 _ _) rfl) rfl)) (acc_nil ?_))
      refine bindK_of (store_at (E := envQ) (t := 24) (n := 1) (b2 _ _) rfl rfl rfl rfl (by decide)) ?_
      refine drawS (by decide +kernel) (acc_read (StillK.of (bindK_of (load_at (E := envQ) (t := 3) (n := 3) (a3 _ _ _) rfl) rfl)) (acc_nil ?_))
      repeat (first | apply RunP.seq | apply RunP.region | apply RunP.condT rfl | apply RunP.condF rfl | apply RunP.skip | apply RunP.block | apply RunP.exit | apply RunP.ret)
      refine ⟨_, c6 _ _ _, .inl ⟨e0, _, rfl, ?_⟩⟩
      exact ⟨(set_other (by decide)).trans ((set_other (by decide)).trans ((set_other (by decide)).trans (set_same F.h0))), (set_other (by decide)).trans ((set_other (by decide)).trans (set_same (b1 _))), (set_other (by decide)).trans (set_same (b2 _ _)), set_same (c6 _ _ _)⟩
    · repeat (first | apply RunP.seq | apply RunP.region | apply RunP.condT rfl | apply RunP.condF rfl | apply RunP.skip | apply RunP.block | apply RunP.exit | apply RunP.ret)
      refine bindK_of (load_at (E := envQ) (t := 86) (n := 1) (F.h3) rfl) ?_
      refine bindK_of (load_at (E := envQ) (t := 90) (n := 3) (F.hT) rfl) ?_
      refine app_tokK (c := (a, s, at_)) (F.hr.push _) (by omega) (contents_last (n := 3) _ _ _ rfl) (fun w2 g2 hr2 _ hk2 => ?_)
      have f := fun (i : Nat) (k : Blk) (hi : H[i]? = some k) hk => hk2 i k (push_old hi) hk
      have d3 := f 3 _ F.h3 (fun _ q => by cases q)
      have d6 := f 6 _ F.h6 (fun _ q => by cases q)
      obtain ⟨b2, e2⟩ : ∃ b2, w2 = .sl b2 0 3 ((ts ++ [(a, s, at_)]).map tkV).length ((ts ++ [(a, s, at_)]).map tkV).length (((ts ++ [(a, s, at_)]).map tkV).length * 3) := by
        rcases hr2 with ⟨_, q⟩ | ⟨b2, e2, _⟩
        · simp at q
        · exact ⟨b2, e2⟩
      generalize hnn : ((ts ++ [(a, s, at_)]).map tkV).length = nn at e2
      clear hnn
      subst e2
      refine bindK_of (store_at (E := envQ) (t := 86) (n := 1) (d3) rfl rfl rfl rfl (by decide)) ?_
      repeat (first | apply RunP.seq | apply RunP.region | apply RunP.condT rfl | apply RunP.condF rfl | apply RunP.skip | apply RunP.block | apply RunP.exit | apply RunP.ret)
      refine ⟨_, (set_other (by decide)).trans d6, .inr ⟨e0, _, .sl b2 0 3 nn nn (nn * 3), rfl, ?_⟩⟩
      exact ⟨(set_other (by decide)).trans ((set_other (by decide)).trans (f 0 _ F.h0 (fun _ q => by cases q))), (set_other (by decide)).trans ((set_other (by decide)).trans (f 1 _ F.h1 (fun _ q => by cases q))), (set_other (by decide)).trans ((set_other (by decide)).trans (f 2 _ F.h2 (fun _ q => by cases q))), (set_other (by decide)).trans (set_same d3), (set_other (by decide)).trans ((set_other (by decide)).trans (f 4 _ F.h4 (fun _ q => by cases q))), (set_other (by decide)).trans ((set_other (by decide)).trans (f 5 _ F.h5 (fun _ q => by cases q))), set_same ((set_other (by decide)).trans d6), hr2.keep fun i cs hi => by
        rw [set_other (fun q => by subst q; have w := d6.symm.trans hi; cases w), set_other (fun q => by subst q; have w := d3.symm.trans hi; cases w)]; exact hi⟩
  · intro v g hend
    cases hT : Lex.toksL u (u.length + 1) 0 with
    | mk ts o =>
    rw [hT] at hend
    have htl : ts.length ≤ 2 ^ 19 := by have := toks_len u (u.length + 1) 0; rw [hT] at this; simp only [] at this; omega
    cases o with
    | none =>
      obtain ⟨z, w, hI⟩ := hend
      refine ⟨_, _, _, evEnd_normal hI.h6 (fun q => by cases q) rfl, ?_⟩
      have e0 : ∀ k, (g.set 6 k)[0]? = _ := fun k => (set_other (by decide)).trans hI.h0
      have e1 : ∀ k, (g.set 6 k)[1]? = _ := fun k => (set_other (by decide)).trans hI.h1
      have e2 : ∀ k, (g.set 6 k)[2]? = _ := fun k => (set_other (by decide)).trans hI.h2
      have e3 : ∀ k, (g.set 6 k)[3]? = _ := fun k => (set_other (by decide)).trans hI.h3
      have er : ∀ k, InRow (g.set 6 k) 90 3 w (ts.map tkV) := fun k => hI.hr.keep fun i cs hi => by rw [set_other (fun q => by subst q; rw [hI.h6] at hi; cases hi)]; exact hi
      repeat (first | apply RunP.seq | apply RunP.region | apply RunP.condT rfl | apply RunP.condF rfl | apply RunP.skip | apply RunP.block | apply RunP.exit | apply RunP.ret)
      refine bindK_of (load_at (E := envQ) (t := 86) (n := 1) (e3 _) rfl) ?_
      refine app_tokK (c := (6, [], (u.length : Int))) ((er _).push _) (by omega) (contents_last (n := 3) _ _ _ rfl) (fun w2 g2 hr2 _ hk2 => ?_)
      have d0 := hk2 0 _ (push_old (e0 _)) (fun _ q => by cases q)
      have d1 := hk2 1 _ (push_old (e1 _)) (fun _ q => by cases q)
      have d2 := hk2 2 _ (push_old (e2 _)) (fun _ q => by cases q)
      obtain ⟨b2, e2⟩ : ∃ b2, w2 = .sl b2 0 3 ((ts ++ [(6, [], (u.length : Int))]).map tkV).length ((ts ++ [(6, [], (u.length : Int))]).map tkV).length (((ts ++ [(6, [], (u.length : Int))]).map tkV).length * 3) := by
        rcases hr2 with ⟨_, q⟩ | ⟨b2, e2, _⟩
        · simp at q
        · exact ⟨b2, e2⟩
      generalize hnn : ((ts ++ [(6, [], (u.length : Int))]).map tkV).length = nn at e2
      clear hnn
      subst e2
      refine bindK_of (store_at (E := envQ) (t := 86) (n := 1) (d0) rfl rfl rfl rfl (by decide)) ?_
      have d1' : ∀ k, (g2.set 0 k)[1]? = some (.cells 3 [.int .i64 0]) := fun k => (set_other (by decide)).trans d1
      refine bindK_of (store_at (E := envQ) (t := 3) (n := 1) (d1' _) rfl rfl rfl rfl (by decide)) ?_
      have d2' : ∀ k k', ((g2.set 0 k).set 1 k')[2]? = some (.cells 24 [.int .i64 0]) := fun k k' => (set_other (by decide)).trans ((set_other (by decide)).trans d2)
      refine bindK_of (store_at (E := envQ) (t := 24) (n := 1) (d2' _ _) rfl rfl rfl rfl (by decide)) ?_
      repeat (first | apply RunP.seq | apply RunP.region | apply RunP.condT rfl | apply RunP.condF rfl | apply RunP.skip | apply RunP.block | apply RunP.exit | apply RunP.ret)
      have hr3 : ∀ k k' k'', InRow (((g2.set 0 k).set 1 k').set 2 k'') 90 3 (.sl b2 0 3 nn nn (nn * 3)) ((ts ++ [(6, [], (u.length : Int))]).map tkV) := fun k k' k'' => hr2.keep fun i cs hi => by
        rw [set_other (fun q => by subst q; rw [d2] at hi; cases hi), set_other (fun q => by subst q; rw [d1] at hi; cases hi), set_other (fun q => by subst q; rw [d0] at hi; cases hi)]; exact hi
      have r0 : ∀ k k' k'', (((g2.set 0 k).set 1 k').set 2 k'')[0]? = some k := fun k k' k'' => (set_other (by decide)).trans ((set_other (by decide)).trans (set_same d0))
      have r1 : ∀ k k' k'', (((g2.set 0 k).set 1 k').set 2 k'')[1]? = some k' := fun k k' k'' => (set_other (by decide)).trans (set_same (d1' _))
      have r2 : ∀ k k' k'', (((g2.set 0 k).set 1 k').set 2 k'')[2]? = some k'' := fun k k' k'' => set_same (d2' _ _)
      refine ⟨rfl, bindK_of (v := .tup [.sl b2 0 3 nn nn (nn * 3), .int .i64 0, .int .i64 0]) (res_ccc ((load_at (E := envQ) (n := 1) (r0 _ _ _) rfl).trans rfl) ((load_at (E := envQ) (n := 1) (r1 _ _ _) rfl).trans rfl) ((load_at (E := envQ) (n := 1) (r2 _ _ _) rfl).trans rfl)) ⟨?_, rfl⟩⟩
      obtain ⟨f, hf1, hf2⟩ := (hr3 (.cells 86 [.sl b2 0 3 nn nn (nn * 3)]) (.cells 3 [.int .i64 0]) (.cells 24 [.int .i64 0])).fz (E := envQ) (n := 9) rfl rfl rfl (by omega) (tks_elem _)
      rcases hf2 with ⟨_, hf2⟩ | rfl
      · simp at hf2
      rw [tokensV_ok (by omega) hT, show ts.map tkV ++ [tkV (6, [], (u.length : Int))] = (ts ++ [(6, [], (u.length : Int))]).map tkV from by rw [List.map_append]; rfl]
      show (List.mapM (fz envQ (((g2.set 0 (.cells 86 [.sl b2 0 3 nn nn (nn * 3)])).set 1 (.cells 3 [.int .i64 0])).set 2 (.cells 24 [.int .i64 0])) 11) [.sl b2 0 3 nn nn (nn * 3), .int .i64 0, .int .i64 0]).map V.tup = _
      rw [List.mapM_cons, hf1]; rfl
    | some a =>
      refine ⟨_, _, _, evEnd_pend hend.h6 (fun q => by cases q) rfl, ?_⟩
      have r0 : ∀ k, (g.set 6 k)[0]? = _ := fun k => (set_other (by decide)).trans hend.h0
      have r1 : ∀ k, (g.set 6 k)[1]? = _ := fun k => (set_other (by decide)).trans hend.h1
      have r2 : ∀ k, (g.set 6 k)[2]? = _ := fun k => (set_other (by decide)).trans hend.h2
      refine ⟨rfl, bindK_of (v := .tup [.nils, .int .i64 a, .int .i64 4]) (res_ccc ((load_at (E := envQ) (n := 1) (r0 _) rfl).trans rfl) ((load_at (E := envQ) (n := 1) (r1 _) rfl).trans rfl) ((load_at (E := envQ) (n := 1) (r2 _) rfl).trans rfl)) ⟨?_, rfl⟩⟩
      exact congrArg some (tokensV_bad (by omega) hT).symm
end Go.Proofs.YtkjhnpmgieplgaaGreatDoor
