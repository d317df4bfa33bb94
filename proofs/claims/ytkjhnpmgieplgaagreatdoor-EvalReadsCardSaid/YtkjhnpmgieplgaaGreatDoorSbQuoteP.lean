/- The map of the signs. -/
import Derived.Test.YtkjhnpmgieplgaaGreatDoorSbScanQ
set_option linter.unusedVariables false
set_option linter.unusedSimpArgs false
namespace Go.Proofs.YtkjhnpmgieplgaaGreatDoor
open Go.Sb
set_option maxRecDepth 100000

/-- The signs and whether more may follow. -/
def sgs : List (List UInt8 × Bool) := [([40], false), ([41], false), ([123], false), ([125], false), ([44], false), ([59], false), ([61], true), ([61, 61], false), ([33, 61], false), ([60], true), ([60, 61], false), ([62], true), ([62, 61], false), ([43], false), ([45], false), ([42], false), ([47], false), ([37], false), ([33], true), ([38, 38], false), ([124, 124], false)]
theorem sgs_signs : sgs.map (·.1) = Lex.signs := rfl
theorem signs_has (h : Heap) : ∃ v g, Has envQ .shared 156 [] h (.val v g) ∧ v = .mp h.length ∧ g = push h (.map (kvs sgs)) := by
  refine HasP.sharedE (d := fn156) rfl (of_decide_eq_true rfl) ?_
  apply RunP.seq
  apply RunP.region
  apply RunP.seq
  refine RunP.regionR _ (fun K => rfl) ?_
  refine runOps_mk (E := envQ) rfl rfl ?_
  refine runOps_ins (map_lastS (E := envQ) (s := [40]) (b := false) (h := h) [] rfl rfl rfl rfl (by decide +kernel)) ?_
  refine runOps_ins (map_lastS (E := envQ) (s := [41]) (b := false) (h := h) [([40], false)] rfl rfl rfl rfl (by decide +kernel)) ?_
  refine runOps_ins (map_lastS (E := envQ) (s := [123]) (b := false) (h := h) [([40], false), ([41], false)] rfl rfl rfl rfl (by decide +kernel)) ?_
  refine runOps_ins (map_lastS (E := envQ) (s := [125]) (b := false) (h := h) [([40], false), ([41], false), ([123], false)] rfl rfl rfl rfl (by decide +kernel)) ?_
  refine runOps_ins (map_lastS (E := envQ) (s := [44]) (b := false) (h := h) [([40], false), ([41], false), ([123], false), ([125], false)] rfl rfl rfl rfl (by decide +kernel)) ?_
  refine runOps_ins (map_lastS (E := envQ) (s := [59]) (b := false) (h := h) [([40], false), ([41], false), ([123], false), ([125], false), ([44], false)] rfl rfl rfl rfl (by decide +kernel)) ?_
  refine runOps_ins (map_lastS (E := envQ) (s := [61]) (b := true) (h := h) [([40], false), ([41], false), ([123], false), ([125], false), ([44], false), ([59], false)] rfl rfl rfl rfl (by decide +kernel)) ?_
  refine runOps_ins (map_lastS (E := envQ) (s := [61, 61]) (b := false) (h := h) [([40], false), ([41], false), ([123], false), ([125], false), ([44], false), ([59], false), ([61], true)] rfl rfl rfl rfl (by decide +kernel)) ?_
  refine runOps_ins (map_lastS (E := envQ) (s := [33, 61]) (b := false) (h := h) [([40], false), ([41], false), ([123], false), ([125], false), ([44], false), ([59], false), ([61], true), ([61, 61], false)] rfl rfl rfl rfl (by decide +kernel)) ?_
  refine runOps_ins (map_lastS (E := envQ) (s := [60]) (b := true) (h := h) [([40], false), ([41], false), ([123], false), ([125], false), ([44], false), ([59], false), ([61], true), ([61, 61], false), ([33, 61], false)] rfl rfl rfl rfl (by decide +kernel)) ?_
  refine runOps_ins (map_lastS (E := envQ) (s := [60, 61]) (b := false) (h := h) [([40], false), ([41], false), ([123], false), ([125], false), ([44], false), ([59], false), ([61], true), ([61, 61], false), ([33, 61], false), ([60], true)] rfl rfl rfl rfl (by decide +kernel)) ?_
  refine runOps_ins (map_lastS (E := envQ) (s := [62]) (b := true) (h := h) [([40], false), ([41], false), ([123], false), ([125], false), ([44], false), ([59], false), ([61], true), ([61, 61], false), ([33, 61], false), ([60], true), ([60, 61], false)] rfl rfl rfl rfl (by decide +kernel)) ?_
  refine runOps_ins (map_lastS (E := envQ) (s := [62, 61]) (b := false) (h := h) [([40], false), ([41], false), ([123], false), ([125], false), ([44], false), ([59], false), ([61], true), ([61, 61], false), ([33, 61], false), ([60], true), ([60, 61], false), ([62], true)] rfl rfl rfl rfl (by decide +kernel)) ?_
  refine runOps_ins (map_lastS (E := envQ) (s := [43]) (b := false) (h := h) [([40], false), ([41], false), ([123], false), ([125], false), ([44], false), ([59], false), ([61], true), ([61, 61], false), ([33, 61], false), ([60], true), ([60, 61], false), ([62], true), ([62, 61], false)] rfl rfl rfl rfl (by decide +kernel)) ?_
  refine runOps_ins (map_lastS (E := envQ) (s := [45]) (b := false) (h := h) [([40], false), ([41], false), ([123], false), ([125], false), ([44], false), ([59], false), ([61], true), ([61, 61], false), ([33, 61], false), ([60], true), ([60, 61], false), ([62], true), ([62, 61], false), ([43], false)] rfl rfl rfl rfl (by decide +kernel)) ?_
  refine runOps_ins (map_lastS (E := envQ) (s := [42]) (b := false) (h := h) [([40], false), ([41], false), ([123], false), ([125], false), ([44], false), ([59], false), ([61], true), ([61, 61], false), ([33, 61], false), ([60], true), ([60, 61], false), ([62], true), ([62, 61], false), ([43], false), ([45], false)] rfl rfl rfl rfl (by decide +kernel)) ?_
  refine runOps_ins (map_lastS (E := envQ) (s := [47]) (b := false) (h := h) [([40], false), ([41], false), ([123], false), ([125], false), ([44], false), ([59], false), ([61], true), ([61, 61], false), ([33, 61], false), ([60], true), ([60, 61], false), ([62], true), ([62, 61], false), ([43], false), ([45], false), ([42], false)] rfl rfl rfl rfl (by decide +kernel)) ?_
  refine runOps_ins (map_lastS (E := envQ) (s := [37]) (b := false) (h := h) [([40], false), ([41], false), ([123], false), ([125], false), ([44], false), ([59], false), ([61], true), ([61, 61], false), ([33, 61], false), ([60], true), ([60, 61], false), ([62], true), ([62, 61], false), ([43], false), ([45], false), ([42], false), ([47], false)] rfl rfl rfl rfl (by decide +kernel)) ?_
  refine runOps_ins (map_lastS (E := envQ) (s := [33]) (b := true) (h := h) [([40], false), ([41], false), ([123], false), ([125], false), ([44], false), ([59], false), ([61], true), ([61, 61], false), ([33, 61], false), ([60], true), ([60, 61], false), ([62], true), ([62, 61], false), ([43], false), ([45], false), ([42], false), ([47], false), ([37], false)] rfl rfl rfl rfl (by decide +kernel)) ?_
  refine runOps_ins (map_lastS (E := envQ) (s := [38, 38]) (b := false) (h := h) [([40], false), ([41], false), ([123], false), ([125], false), ([44], false), ([59], false), ([61], true), ([61, 61], false), ([33, 61], false), ([60], true), ([60, 61], false), ([62], true), ([62, 61], false), ([43], false), ([45], false), ([42], false), ([47], false), ([37], false), ([33], true)] rfl rfl rfl rfl (by decide +kernel)) ?_
  refine runOps_ins (map_lastS (E := envQ) (s := [124, 124]) (b := false) (h := h) [([40], false), ([41], false), ([123], false), ([125], false), ([44], false), ([59], false), ([61], true), ([61, 61], false), ([33, 61], false), ([60], true), ([60, 61], false), ([62], true), ([62, 61], false), ([43], false), ([45], false), ([42], false), ([47], false), ([37], false), ([33], true), ([38, 38], false)] rfl rfl rfl rfl (by decide +kernel)) ?_
  repeat (first | apply RunP.seq | apply RunP.region | apply RunP.condT rfl | apply RunP.condF rfl | apply RunP.skip | apply RunP.block | apply RunP.exit | apply RunP.ret)
  exact ⟨rfl, rfl, rfl⟩
end Go.Proofs.YtkjhnpmgieplgaaGreatDoor

/- The scanner's sign. -/

namespace Go.Proofs.YtkjhnpmgieplgaaGreatDoor
open Go.Sb
set_option maxRecDepth 100000
def sgI (G : Heap) (b M N : Nat) (u : Bs) (i : Nat) (k : Nat) (s : List V) (h : Heap) : Prop :=
  ∃ (z : Int), (z = k ∧ k ≤ 2 ∧ i + k ≤ u.length ∧ h = G ∧ ∀ n, k < n → n ≤ 2 → i + n ≤ u.length → Lex.isSign ((u.take (i + n)).drop i) = false) ∧ s.length = 52 ∧ s.getD 0 und = und ∧ s.getD 1 und = .ptr b 0 2 ∧ s.getD 3 und = .ptr N 0 3 ∧ s.getD 4 und = .int .i64 0 ∧ s.getD 5 und = .mp M ∧ s.getD 6 und = .int .i64 z
theorem sgI_lit {G : Heap} {b M N : Nat} {u : Bs} {i : Nat} {k : Nat} {s : List V} {h : Heap} (hI : sgI G b M N u i k s h) : ∃ (z : Int) (x : Nat → V), (z = k ∧ k ≤ 2 ∧ i + k ≤ u.length ∧ h = G ∧ ∀ n, k < n → n ≤ 2 → i + n ≤ u.length → Lex.isSign ((u.take (i + n)).drop i) = false) ∧
    s = [und, .ptr b 0 2, x 2, .ptr N 0 3, .int .i64 0, .mp M, .int .i64 z, x 7, x 8, x 9, x 10, x 11, x 12, x 13, x 14, x 15, x 16, x 17, x 18, x 19, x 20, x 21, x 22, x 23, x 24, x 25, x 26, x 27, x 28, x 29, x 30, x 31, x 32, x 33, x 34, x 35, x 36, x 37, x 38, x 39, x 40, x 41, x 42, x 43, x 44, x 45, x 46, x 47, x 48, x 49, x 50, x 51] := by
  obtain ⟨z, hF, hl, e0, e1, e3, e4, e5, e6⟩ := hI
  refine ⟨z, fun n => s.getD n und, hF, (lit_of hl).trans ?_⟩
  show [s.getD 0 und, s.getD 1 und, s.getD 2 und, s.getD 3 und, s.getD 4 und, s.getD 5 und, s.getD 6 und, s.getD 7 und, s.getD 8 und, s.getD 9 und, s.getD 10 und, s.getD 11 und, s.getD 12 und, s.getD 13 und, s.getD 14 und, s.getD 15 und, s.getD 16 und, s.getD 17 und, s.getD 18 und, s.getD 19 und, s.getD 20 und, s.getD 21 und, s.getD 22 und, s.getD 23 und, s.getD 24 und, s.getD 25 und, s.getD 26 und, s.getD 27 und, s.getD 28 und, s.getD 29 und, s.getD 30 und, s.getD 31 und, s.getD 32 und, s.getD 33 und, s.getD 34 und, s.getD 35 und, s.getD 36 und, s.getD 37 und, s.getD 38 und, s.getD 39 und, s.getD 40 und, s.getD 41 und, s.getD 42 und, s.getD 43 und, s.getD 44 und, s.getD 45 und, s.getD 46 und, s.getD 47 und, s.getD 48 und, s.getD 49 und, s.getD 50 und, s.getD 51 und] = _
  rw [e0, e1, e3, e4, e5, e6]

theorem look_sign {G : Heap} {M : Nat} (s : List UInt8) (hmap : G[M]? = some (.map (kvs sgs))) : ∃ c, evLookup envQ 176 (.mp M) (.str s) true G = some (.tup [.bool c, .bool (Lex.isSign s)]) := by
  obtain ⟨c, hc⟩ := lookup_kvs (E := envQ) (t := 176) (l := sgs) s rfl rfl rfl rfl rfl rfl rfl hmap
  exact ⟨c, by rw [hc, sgs_signs]; rfl⟩
/-- The signs, longest first. -/
theorem sign_has (h : Heap) (b : Nat) (u : List UInt8) (i : Nat) (c : UInt8) (hu : u.length ≤ 2 ^ 40) (hc : u[i]? = some c) (hL : Lex.letter c = false) (hD : Lex.digit c = false) (h34 : c ≠ 34) (hb : h[b]? = some (sc u i)) : ∃ v g, Has envQ .shared 112 [.ptr b 0 2] h (.val v g) ∧ v = scanV (Lex.tokL (u.drop i)) ∧ Keeps h g := by
  have hi := (List.getElem?_eq_some_iff.1 hc).1
  refine HasP.sharedE (d := fn112) rfl (of_decide_eq_true rfl) ?_
  repeat (first | apply RunP.seq | apply RunP.region | apply RunP.condT rfl | apply RunP.condF rfl | apply RunP.skip | apply RunP.block | apply RunP.exit | apply RunP.ret)
  obtain ⟨v1, g1, q1, rfl, rfl⟩ := signs_has (push h (.cells 90 ty90.zero))
  refine CallK.of q1 ?_
  generalize hG : push (push h (.cells 90 ty90.zero)) (.map (kvs sgs)) = G
  have hsc : G[b]? = some (sc u i) := by rw [← hG]; exact push_old (push_old hb)
  have hcell : G[h.length]? = some (.cells 90 ty90.zero) := by rw [← hG]; exact push_old (push_last _ _)
  have hmap : G[(push h (.cells 90 ty90.zero)).length]? = some (.map (kvs sgs)) := by rw [← hG]; exact push_last _ _
  have hkeep : Keeps h G := by rw [← hG]; exact (keeps_push _ _).trans (keeps_push _ _)
  have hlast : ∀ cs, (G.set h.length (.cells 90 cs))[h.length]? = some (.cells 90 cs) := fun cs => set_same hcell
  have hkeep2 : ∀ cs, Keeps h (G.set h.length (.cells 90 cs)) := fun cs => hkeep.set (Nat.le_refl _) _
  clear q1
  generalize (push h (.cells 90 ty90.zero)).length = M at hmap ⊢
  clear hG
  repeat (first | apply RunP.seq | apply RunP.region | apply RunP.condT rfl | apply RunP.condF rfl | apply RunP.skip | apply RunP.block | apply RunP.exit | apply RunP.ret)
  apply RunP.drawn
  · decide +kernel
  refine bindK_of (load_at (E := envQ) (t := 9) (n := 2) hsc rfl) ?_
  refine drawR (by decide +kernel) (by decide +kernel) ?_
  refine bindK_of (load_at (E := envQ) (t := 3) (n := 2) hsc rfl) ?_
  refine drawR (by decide +kernel) (by decide +kernel) ?_
  repeat (first | apply RunP.seq | apply RunP.region | apply RunP.condT rfl | apply RunP.condF rfl | apply RunP.skip | apply RunP.block | apply RunP.exit | apply RunP.ret)
  have ez : (if IntKind.i64.wrap ((u.length : Int) - (i : Int)) < (2 : Int) then IntKind.i64.wrap ((u.length : Int) - (i : Int)) else (2 : Int)) = ((min 2 (u.length - i) : Nat) : Int) := by
    rw [wrapS (by omega) (by omega)]; split <;> omega
  refine RunP.loop (sgI G b M h.length u i) ?_ (min 2 (u.length - i)) ⟨_, ⟨ez, by omega, by omega, rfl, fun n h1 h2 h3 => by omega⟩, rfl, rfl, rfl, rfl, rfl, rfl, rfl⟩
  intro k st g hI
  obtain ⟨z, x, ⟨hz, hk2, hik, rfl, hno⟩, rfl⟩ := sgI_lit hI
  clear hI
  subst hz
  repeat (first | apply RunP.seq | apply RunP.region | apply RunP.condT rfl | apply RunP.condF rfl | apply RunP.skip | apply RunP.block | apply RunP.exit | apply RunP.ret)
  refine And.intro (fun hpos => ?_) (fun hzero => ?_)
  · have ew : IntKind.i64.wrap ((i : Int) + (k : Int)) = ((i + k : Nat) : Int) := by rw [wrapS (by omega) (by omega)]; omega
    repeat (first | apply RunP.seq | apply RunP.region | apply RunP.condT rfl | apply RunP.condF rfl | apply RunP.skip | apply RunP.block | apply RunP.exit | apply RunP.ret)
    apply RunP.drawn
    · decide +kernel
    refine bindK_of (load_at (E := envQ) (t := 9) (n := 2) hsc rfl) ?_
    refine drawR (by decide +kernel) (by decide +kernel) ?_
    refine bindK_of (load_at (E := envQ) (t := 3) (n := 2) hsc rfl) ?_
    refine drawR (by decide +kernel) (by decide +kernel) ?_
    refine bindK_of (load_at (E := envQ) (t := 3) (n := 2) hsc rfl) ?_
    refine drawR (by decide +kernel) (by decide +kernel) ?_
    refine And.intro (by rw [ew]; omega) (And.intro (by omega) (And.intro (by rw [ew]; omega) ?_))
    have et : (u.take (IntKind.i64.wrap ((i : Int) + (k : Int))).toNat).drop i = (u.take (i + k)).drop i := by rw [ew]; rfl
    have hdown : IntKind.i64.wrap ((k : Int) - 1) = ((k - 1 : Nat) : Int) := by rw [wrapS (by omega) (by omega)]; omega
    have htok : Lex.isSign ((u.take (i + k)).drop i) = true → Lex.tokL (u.drop i) = some (4, (u.take (i + k)).drop i, k) := fun hs => by
      rcases (show k = 1 ∨ k = 2 by omega) with rfl | rfl
      · rw [Lex.tok_sign1 hc hL hD h34 (fun q => by rw [hno 2 (by omega) (by omega) q.1] at q; exact absurd q.2 (by decide)), if_pos hs]
      · exact Lex.tok_sign2 hc hL hD h34 hik hs
    rw [← et] at htok
    have hrest : Lex.isSign ((u.take (IntKind.i64.wrap ((i : Int) + (k : Int))).toNat).drop i) = false → ∀ n, k - 1 < n → n ≤ 2 → i + n ≤ u.length → Lex.isSign ((u.take (i + n)).drop i) = false := fun hs n h1 h2 h3 => by
      by_cases e : n = k
      · subst e; rw [← et]; exact hs
      · exact hno n (by omega) h2 h3
    repeat (first | apply RunP.seq | apply RunP.region | apply RunP.condT rfl | apply RunP.condF rfl | apply RunP.skip | apply RunP.block | apply RunP.exit | apply RunP.ret)
    obtain ⟨c0, hlk⟩ := look_sign ((u.take (IntKind.i64.wrap ((i : Int) + (k : Int))).toNat).drop i) hmap
    refine bindR_of (congrArg (fun x => val x g) hlk) ?_
    cases hs : Lex.isSign ((u.take (IntKind.i64.wrap ((i : Int) + (k : Int))).toNat).drop i)
    · repeat (first | apply RunP.seq | apply RunP.region | apply RunP.condT rfl | apply RunP.condF rfl | apply RunP.skip | apply RunP.block | apply RunP.exit | apply RunP.ret)
      exact ⟨k - 1, by omega, _, ⟨hdown, by omega, by omega, rfl, hrest hs⟩, rfl, rfl, rfl, rfl, rfl, rfl, rfl⟩
    · repeat (first | apply RunP.seq | apply RunP.region | apply RunP.condT rfl | apply RunP.condF rfl | apply RunP.skip | apply RunP.block | apply RunP.exit | apply RunP.ret)
      refine bindK_of (store_at (E := envQ) (t := 90) (n := 3) hcell rfl rfl rfl rfl (by decide)) ?_
      repeat (first | apply RunP.seq | apply RunP.region | apply RunP.condT rfl | apply RunP.condF rfl | apply RunP.skip | apply RunP.block | apply RunP.exit | apply RunP.ret)
      refine ⟨rfl, bindK_of (res_ct ((load_at (E := envQ) (t := 90) (n := 3) (hlast _) rfl).trans rfl)) ⟨by rw [htok hs]; rfl, hkeep2 _⟩⟩
  · have hk : k = 0 := by omega
    subst hk
    have h2 : Lex.tokL (u.drop i) = none := by
      rw [Lex.tok_sign1 hc hL hD h34 (fun q => by rw [hno 2 (by omega) (by omega) q.1] at q; exact absurd q.2 (by decide)), hno 1 (by omega) (by omega) (by omega)]; rfl
    repeat (first | apply RunP.seq | apply RunP.region | apply RunP.condT rfl | apply RunP.condF rfl | apply RunP.skip | apply RunP.block | apply RunP.exit | apply RunP.ret)
    refine bindK_of (store_at (E := envQ) (t := 90) (n := 3) hcell rfl rfl rfl rfl (by decide)) ?_
    repeat (first | apply RunP.seq | apply RunP.region | apply RunP.condT rfl | apply RunP.condF rfl | apply RunP.skip | apply RunP.block | apply RunP.exit | apply RunP.ret)
    refine ⟨rfl, bindK_of (res_ct ((load_at (E := envQ) (t := 90) (n := 3) (hlast _) rfl).trans rfl)) ⟨by rw [h2]; rfl, hkeep2 _⟩⟩
end Go.Proofs.YtkjhnpmgieplgaaGreatDoor

/- The scanner's quote. -/

namespace Go.Proofs.YtkjhnpmgieplgaaGreatDoor
open Go.Sb
set_option maxRecDepth 100000
def pqI (h1 : Heap) (b N : Nat) (u : Bs) (i : Nat) (k : Nat) (s : List V) (h : Heap) : Prop :=
  ∃ (j : Nat) (z : Int) (w : V) (bs : Bs), (j + k = u.length + 1 ∧ z = j ∧ i + 1 ≤ j ∧ bs.length ≤ j - (i + 1) ∧ InRow h 5 1 w (bv bs) ∧ KeepT 5 h1 h ∧ Lex.quoteL (u.drop (i + 1)) = (Lex.quoteL (u.drop j)).map (fun p => (bs ++ p.1, p.2 + (j - (i + 1))))) ∧ s.length = 90 ∧ s.getD 0 und = und ∧ s.getD 1 und = .ptr b 0 2 ∧ s.getD 3 und = .ptr N 0 3 ∧ s.getD 4 und = .int .i64 0 ∧ s.getD 5 und = w ∧ s.getD 6 und = .int .i64 z
theorem pqI_lit {h1 : Heap} {b N : Nat} {u : Bs} {i : Nat} {k : Nat} {s : List V} {h : Heap} (hI : pqI h1 b N u i k s h) : ∃ (j : Nat) (z : Int) (w : V) (bs : Bs) (x : Nat → V), (j + k = u.length + 1 ∧ z = j ∧ i + 1 ≤ j ∧ bs.length ≤ j - (i + 1) ∧ InRow h 5 1 w (bv bs) ∧ KeepT 5 h1 h ∧ Lex.quoteL (u.drop (i + 1)) = (Lex.quoteL (u.drop j)).map (fun p => (bs ++ p.1, p.2 + (j - (i + 1))))) ∧
    s = [und, .ptr b 0 2, x 2, .ptr N 0 3, .int .i64 0, w, .int .i64 z, x 7, x 8, x 9, x 10, x 11, x 12, x 13, x 14, x 15, x 16, x 17, x 18, x 19, x 20, x 21, x 22, x 23, x 24, x 25, x 26, x 27, x 28, x 29, x 30, x 31, x 32, x 33, x 34, x 35, x 36, x 37, x 38, x 39, x 40, x 41, x 42, x 43, x 44, x 45, x 46, x 47, x 48, x 49, x 50, x 51, x 52, x 53, x 54, x 55, x 56, x 57, x 58, x 59, x 60, x 61, x 62, x 63, x 64, x 65, x 66, x 67, x 68, x 69, x 70, x 71, x 72, x 73, x 74, x 75, x 76, x 77, x 78, x 79, x 80, x 81, x 82, x 83, x 84, x 85, x 86, x 87, x 88, x 89] := by
  obtain ⟨j, z, w, bs, hF, hl, e0, e1, e3, e4, e5, e6⟩ := hI
  refine ⟨j, z, w, bs, fun n => s.getD n und, hF, (lit_of hl).trans ?_⟩
  show [s.getD 0 und, s.getD 1 und, s.getD 2 und, s.getD 3 und, s.getD 4 und, s.getD 5 und, s.getD 6 und, s.getD 7 und, s.getD 8 und, s.getD 9 und, s.getD 10 und, s.getD 11 und, s.getD 12 und, s.getD 13 und, s.getD 14 und, s.getD 15 und, s.getD 16 und, s.getD 17 und, s.getD 18 und, s.getD 19 und, s.getD 20 und, s.getD 21 und, s.getD 22 und, s.getD 23 und, s.getD 24 und, s.getD 25 und, s.getD 26 und, s.getD 27 und, s.getD 28 und, s.getD 29 und, s.getD 30 und, s.getD 31 und, s.getD 32 und, s.getD 33 und, s.getD 34 und, s.getD 35 und, s.getD 36 und, s.getD 37 und, s.getD 38 und, s.getD 39 und, s.getD 40 und, s.getD 41 und, s.getD 42 und, s.getD 43 und, s.getD 44 und, s.getD 45 und, s.getD 46 und, s.getD 47 und, s.getD 48 und, s.getD 49 und, s.getD 50 und, s.getD 51 und, s.getD 52 und, s.getD 53 und, s.getD 54 und, s.getD 55 und, s.getD 56 und, s.getD 57 und, s.getD 58 und, s.getD 59 und, s.getD 60 und, s.getD 61 und, s.getD 62 und, s.getD 63 und, s.getD 64 und, s.getD 65 und, s.getD 66 und, s.getD 67 und, s.getD 68 und, s.getD 69 und, s.getD 70 und, s.getD 71 und, s.getD 72 und, s.getD 73 und, s.getD 74 und, s.getD 75 und, s.getD 76 und, s.getD 77 und, s.getD 78 und, s.getD 79 und, s.getD 80 und, s.getD 81 und, s.getD 82 und, s.getD 83 und, s.getD 84 und, s.getD 85 und, s.getD 86 und, s.getD 87 und, s.getD 88 und, s.getD 89 und] = _
  rw [e0, e1, e3, e4, e5, e6]

theorem tokq_yes {u : List UInt8} {i j : Nat} {bs : List UInt8} (hc : u[i]? = some 34) (hij : i + 1 ≤ j) (hQ : Lex.quoteL (u.drop (i + 1)) = some (bs, 1 + (j - (i + 1)))) (ht : Lex.isText bs = true) : Lex.tokL (u.drop i) = some (3, bs, j + 1 - i) := by
  rw [Lex.tok_quote hc hQ ht]
  show some (3, bs, 1 + (j - (i + 1)) + 1) = _
  rw [show 1 + (j - (i + 1)) + 1 = j + 1 - i from by omega]
set_option maxHeartbeats 4000000 in
theorem quoteP_has (h : Heap) (b : Nat) (u : List UInt8) (i : Nat) (hu : u.length ≤ 2 ^ 30) (hci : u[i]? = some 34) (hb : h[b]? = some (sc u i)) : ∃ v g, Has envQ .shared 117 [.ptr b 0 2] h (.val v g) ∧ v = scanV (Lex.tokL (u.drop i)) ∧ KeepT 5 h g := by
  have hi := (List.getElem?_eq_some_iff.1 hci).1
  refine HasP.sharedE (d := fn117) rfl (of_decide_eq_true rfl) ?_
  repeat (first | apply RunP.seq | apply RunP.region | apply RunP.condT rfl | apply RunP.condF rfl | apply RunP.skip | apply RunP.block | apply RunP.exit | apply RunP.ret)
  have hsc : (push h (.cells 90 ty90.zero))[b]? = some (sc u i) := push_old hb
  refine bindK_of (load_at (E := envQ) (t := 3) (n := 2) hsc rfl) ?_
  repeat (first | apply RunP.seq | apply RunP.region | apply RunP.condT rfl | apply RunP.condF rfl | apply RunP.skip | apply RunP.block | apply RunP.exit | apply RunP.ret)
  refine RunP.loop (pqI (push h (.cells 90 ty90.zero)) b h.length u i) ?_ (u.length - i) ⟨i + 1, _, _, [], ⟨by omega, wrap1 (by omega), by omega, by simp, .inl ⟨rfl, rfl⟩, KeepT.refl _ _, by simp⟩, rfl, rfl, rfl, rfl, rfl, rfl, rfl⟩
  clear hsc
  intro k st g hI
  obtain ⟨j, z, w, bs, x, ⟨hjk, hz, haj, hbl, hrow, hkt, hQ⟩, rfl⟩ := pqI_lit hI
  clear hI
  subst hz
  have hsc : g[b]? = some (sc u i) := hkt b _ (push_old hb) (fun cs q => by cases q)
  have hcell : g[h.length]? = some (.cells 90 ty90.zero) := hkt _ _ (push_last _ _) (fun cs q => by cases q)
  have hsc2 : ∀ k, (g.set h.length k)[b]? = some (sc u i) := fun k => by rw [set_other (by have := (List.getElem?_eq_some_iff.1 hb).1; omega)]; exact hsc
  have hkept : KeepT 5 h g := (keeps_push _ _).toT.trans hkt
  repeat (first | apply RunP.seq | apply RunP.region | apply RunP.condT rfl | apply RunP.condF rfl | apply RunP.skip | apply RunP.block | apply RunP.exit | apply RunP.ret)
  refine bindK_of (load_at (E := envQ) (t := 9) (n := 2) hsc rfl) ?_
  repeat (first | apply RunP.seq | apply RunP.region | apply RunP.condT rfl | apply RunP.condF rfl | apply RunP.skip | apply RunP.block | apply RunP.exit | apply RunP.ret)
  refine And.intro (fun hlt => ?_) (fun hge => ?_)
  · have hj : j < u.length := by omega
    obtain ⟨c, hc⟩ : ∃ c, u[j]? = some c := ⟨_, List.getElem?_eq_getElem hj⟩
    repeat (first | apply RunP.seq | apply RunP.region | apply RunP.condT rfl | apply RunP.condF rfl | apply RunP.skip | apply RunP.block | apply RunP.exit | apply RunP.ret)
    refine bindK_of (load_at (E := envQ) (t := 9) (n := 2) hsc rfl) ?_
    refine And.intro (by omega) (Exists.intro c (And.intro hc ?_))
    repeat (first | apply RunP.seq | apply RunP.region | apply RunP.condT rfl | apply RunP.condF rfl | apply RunP.skip | apply RunP.block | apply RunP.exit | apply RunP.ret)
    refine And.intro (fun h34 => ?_) (fun h34 => ?_)
    · have e : c = 34 := UInt8.toNat_inj.1 (show c.toNat = 34 by omega)
      subst e
      rw [Lex.quote_close hc] at hQ
      simp only [Option.map_some, List.append_nil] at hQ
      repeat (first | apply RunP.seq | apply RunP.region | apply RunP.condT rfl | apply RunP.condF rfl | apply RunP.skip | apply RunP.block | apply RunP.exit | apply RunP.ret)
      refine conv_bytesK (E := envQ) (T := 5) (t := 107) (st := 9) rfl rfl rfl rfl rfl rfl rfl hrow ?_
      have hIT := fun g => isText_has g bs (by omega)
      cases ht : Lex.isText bs
      · simp only [ht] at hIT
        refine CallK.of (hIT _) ?_
        repeat (first | apply RunP.seq | apply RunP.region | apply RunP.condT rfl | apply RunP.condF rfl | apply RunP.skip | apply RunP.block | apply RunP.exit | apply RunP.ret)
        refine bindK_of (store_at (E := envQ) (t := 90) (n := 3) hcell rfl rfl rfl rfl (by decide)) ?_
        repeat (first | apply RunP.seq | apply RunP.region | apply RunP.condT rfl | apply RunP.condF rfl | apply RunP.skip | apply RunP.block | apply RunP.exit | apply RunP.ret)
        exact ⟨rfl, bindK_of (res_ct ((load_at (E := envQ) (t := 90) (n := 3) (set_same hcell) rfl).trans rfl)) ⟨by rw [Lex.tok_notext hci hQ ht]; rfl, hkept.set (Nat.le_refl _) _⟩⟩
      · simp only [ht] at hIT
        refine CallK.of (hIT _) ?_
        repeat (first | apply RunP.seq | apply RunP.region | apply RunP.condT rfl | apply RunP.condF rfl | apply RunP.skip | apply RunP.block | apply RunP.exit | apply RunP.ret)
        apply RunP.drawn
        · decide +kernel
        refine conv_bytesK (E := envQ) (T := 5) (t := 107) (st := 9) rfl rfl rfl rfl rfl rfl rfl hrow ?_
        refine drawR (by decide +kernel) (by decide +kernel) ?_
        refine bindK_of (load_at (E := envQ) (t := 3) (n := 2) hsc rfl) ?_
        refine drawR (by decide +kernel) (by decide +kernel) ?_
        refine bindK_of (store_at (E := envQ) (t := 90) (n := 3) hcell rfl rfl rfl rfl (by decide)) ?_
        refine drawS (by decide +kernel) (acc_read (StillK.of (bindK_of (load_at (E := envQ) (t := 3) (n := 2) (hsc2 _) rfl) rfl)) (acc_yes (by kernel_rfl) (acc_nil ?_)))
        repeat (first | apply RunP.seq | apply RunP.region | apply RunP.condT rfl | apply RunP.condF rfl | apply RunP.skip | apply RunP.block | apply RunP.exit | apply RunP.ret)
        have ew : IntKind.i64.wrap (IntKind.i64.wrap ((j : Int) + 1) - (i : Int)) = ((j + 1 - i : Nat) : Int) := by rw [wrap1 (by omega), wrapS (by omega) (by omega)]; omega
        refine ⟨rfl, bindK_of (res_ct ((load_at (E := envQ) (t := 90) (n := 3) (set_same hcell) rfl).trans rfl)) ⟨?_, hkept.set (Nat.le_refl _) _⟩⟩
        rw [tokq_yes hci haj hQ ht]
        show V.tup [.agg [.int .i64 3, .str bs, .int .i64 0], .int .i64 (IntKind.i64.wrap (IntKind.i64.wrap ((j : Int) + 1) - (i : Int)))] = _
        rw [ew]; rfl
    · have e34 : c ≠ 34 := fun q => h34 (by rw [q]; rfl)
      repeat (first | apply RunP.seq | apply RunP.region | apply RunP.condT rfl | apply RunP.condF rfl | apply RunP.skip | apply RunP.block | apply RunP.exit | apply RunP.ret)
      refine And.intro (fun h92 => ?_) (fun h92 => ?_)
      · have e : c = 92 := UInt8.toNat_inj.1 (show c.toNat = 92 by omega)
        subst e
        have ew : IntKind.i64.wrap ((j : Int) + 1) = ((j + 1 : Nat) : Int) := wrap1 (by omega)
        have bad : (∀ d, u[j + 1]? = some d → d ≠ 34 ∧ d ≠ 92) → Lex.tokL (u.drop i) = none := fun hb => by
          rw [Lex.quote_bad hc hb] at hQ
          exact Lex.tok_noquote hci hQ
        have esc : ∀ d, u[j + 1]? = some d → (d = 34 ∨ d = 92) → Lex.quoteL (u.drop (i + 1)) = (Lex.quoteL (u.drop (j + 1 + 1))).map (fun p => ((bs ++ [d]) ++ p.1, p.2 + (j + 1 + 1 - (i + 1)))) := fun d hd h => by
          rw [hQ, Lex.quote_esc hc hd h, Option.map_map]
          congr 1
          funext q
          refine Prod.ext (by simp) ?_
          show q.2 + 2 + (j - (i + 1)) = q.2 + (j + 1 + 1 - (i + 1))
          omega
        repeat (first | apply RunP.seq | apply RunP.region | apply RunP.condT rfl | apply RunP.condF rfl | apply RunP.skip | apply RunP.block | apply RunP.exit | apply RunP.ret)
        refine bindK_of (load_at (E := envQ) (t := 9) (n := 2) hsc rfl) ?_
        refine And.intro (fun hE => ?_) (fun hE => ?_)
        · rw [ew] at hE
          repeat (first | apply RunP.seq | apply RunP.region | apply RunP.condT rfl | apply RunP.condF rfl | apply RunP.skip | apply RunP.block | apply RunP.exit | apply RunP.ret)
          refine bindK_of (store_at (E := envQ) (t := 90) (n := 3) hcell rfl rfl rfl rfl (by decide)) ?_
          repeat (first | apply RunP.seq | apply RunP.region | apply RunP.condT rfl | apply RunP.condF rfl | apply RunP.skip | apply RunP.block | apply RunP.exit | apply RunP.ret)
          exact ⟨rfl, bindK_of (res_ct ((load_at (E := envQ) (t := 90) (n := 3) (set_same hcell) rfl).trans rfl)) ⟨by rw [bad (fun d hd => by have := (List.getElem?_eq_some_iff.1 hd).1; omega)]; rfl, hkept.set (Nat.le_refl _) _⟩⟩
        · rw [ew] at hE
          have hj1 : j + 1 < u.length := by omega
          obtain ⟨d, hd⟩ : ∃ d, u[j + 1]? = some d := ⟨_, List.getElem?_eq_getElem hj1⟩
          have hid : u[(IntKind.i64.wrap ((j : Int) + 1)).toNat]? = some d := by rw [ew, Int.toNat_natCast]; exact hd
          have hge0 : 0 ≤ IntKind.i64.wrap ((j : Int) + 1) := by rw [ew]; omega
          have ew2 : IntKind.i64.wrap (IntKind.i64.wrap ((j : Int) + 1) + 1) = ((j + 1 + 1 : Nat) : Int) := by rw [ew]; exact wrap1 (by omega)
          refine bindK_of (load_at (E := envQ) (t := 9) (n := 2) hsc rfl) ?_
          refine And.intro hge0 (Exists.intro d (And.intro hid ?_))
          refine And.intro (fun d34 => ?_) (fun d34 => ?_)
          · have e : d = 34 := UInt8.toNat_inj.1 (show d.toNat = 34 by omega)
            repeat (first | apply RunP.seq | apply RunP.region | apply RunP.condT rfl | apply RunP.condF rfl | apply RunP.skip | apply RunP.block | apply RunP.exit | apply RunP.ret)
            refine bindK_of (load_at (E := envQ) (t := 9) (n := 2) hsc rfl) ?_
            refine And.intro hge0 (Exists.intro d (And.intro hid ?_))
            refine app_byteS (E := envQ) (T := 5) (t := 107) rfl rfl rfl rfl rfl hrow d (by omega) ?_
            intro w2 g2 hr2 hk2
            repeat (first | apply RunP.seq | apply RunP.region | apply RunP.condT rfl | apply RunP.condF rfl | apply RunP.skip | apply RunP.block | apply RunP.exit | apply RunP.ret)
            exact ⟨k - 2, by omega, j + 1 + 1, _, _, bs ++ [d], ⟨by omega, ew2, by omega, by simp only [List.length_append, List.length_cons, List.length_nil]; omega, hr2, hkt.trans hk2, esc d hd (.inl e)⟩, rfl, rfl, rfl, rfl, rfl, rfl, rfl⟩
          · refine bindK_of (load_at (E := envQ) (t := 9) (n := 2) hsc rfl) ?_
            refine And.intro hge0 (Exists.intro d (And.intro hid ?_))
            refine And.intro (fun d92 => ?_) (fun d92 => ?_)
            · have e : d = 92 := UInt8.toNat_inj.1 (show d.toNat = 92 by omega)
              repeat (first | apply RunP.seq | apply RunP.region | apply RunP.condT rfl | apply RunP.condF rfl | apply RunP.skip | apply RunP.block | apply RunP.exit | apply RunP.ret)
              refine bindK_of (load_at (E := envQ) (t := 9) (n := 2) hsc rfl) ?_
              refine And.intro hge0 (Exists.intro d (And.intro hid ?_))
              refine app_byteS (E := envQ) (T := 5) (t := 107) rfl rfl rfl rfl rfl hrow d (by omega) ?_
              intro w2 g2 hr2 hk2
              repeat (first | apply RunP.seq | apply RunP.region | apply RunP.condT rfl | apply RunP.condF rfl | apply RunP.skip | apply RunP.block | apply RunP.exit | apply RunP.ret)
              exact ⟨k - 2, by omega, j + 1 + 1, _, _, bs ++ [d], ⟨by omega, ew2, by omega, by simp only [List.length_append, List.length_cons, List.length_nil]; omega, hr2, hkt.trans hk2, esc d hd (.inr e)⟩, rfl, rfl, rfl, rfl, rfl, rfl, rfl⟩
            · repeat (first | apply RunP.seq | apply RunP.region | apply RunP.condT rfl | apply RunP.condF rfl | apply RunP.skip | apply RunP.block | apply RunP.exit | apply RunP.ret)
              refine bindK_of (store_at (E := envQ) (t := 90) (n := 3) hcell rfl rfl rfl rfl (by decide)) ?_
              repeat (first | apply RunP.seq | apply RunP.region | apply RunP.condT rfl | apply RunP.condF rfl | apply RunP.skip | apply RunP.block | apply RunP.exit | apply RunP.ret)
              exact ⟨rfl, bindK_of (res_ct ((load_at (E := envQ) (t := 90) (n := 3) (set_same hcell) rfl).trans rfl)) ⟨by rw [bad (fun d' hd' => by rw [hd] at hd'; cases hd'; exact ⟨fun q => d34 (by rw [q]; rfl), fun q => d92 (by rw [q]; rfl)⟩)]; rfl, hkept.set (Nat.le_refl _) _⟩⟩
      · have e92 : c ≠ 92 := fun q => h92 (by rw [q]; rfl)
        repeat (first | apply RunP.seq | apply RunP.region | apply RunP.condT rfl | apply RunP.condF rfl | apply RunP.skip | apply RunP.block | apply RunP.exit | apply RunP.ret)
        refine app_byteS (E := envQ) (T := 5) (t := 107) rfl rfl rfl rfl rfl hrow c (by omega) ?_
        intro w2 g2 hr2 hk2
        repeat (first | apply RunP.seq | apply RunP.region | apply RunP.condT rfl | apply RunP.condF rfl | apply RunP.skip | apply RunP.block | apply RunP.exit | apply RunP.ret)
        refine ⟨k - 1, by omega, j + 1, _, _, bs ++ [c], ⟨by omega, wrap1 (by omega), by omega, by simp only [List.length_append, List.length_cons, List.length_nil]; omega, hr2, hkt.trans hk2, ?_⟩, rfl, rfl, rfl, rfl, rfl, rfl, rfl⟩
        rw [hQ, Lex.quote_plain hc e34 e92, Option.map_map]
        congr 1
        funext q
        refine Prod.ext (by simp) ?_
        show q.2 + 1 + (j - (i + 1)) = q.2 + (j + 1 - (i + 1))
        omega
  · rw [Lex.quote_end (u := u) (j := j) (by omega)] at hQ
    repeat (first | apply RunP.seq | apply RunP.region | apply RunP.condT rfl | apply RunP.condF rfl | apply RunP.skip | apply RunP.block | apply RunP.exit | apply RunP.ret)
    refine bindK_of (store_at (E := envQ) (t := 90) (n := 3) hcell rfl rfl rfl rfl (by decide)) ?_
    repeat (first | apply RunP.seq | apply RunP.region | apply RunP.condT rfl | apply RunP.condF rfl | apply RunP.skip | apply RunP.block | apply RunP.exit | apply RunP.ret)
    exact ⟨rfl, bindK_of (res_ct ((load_at (E := envQ) (t := 90) (n := 3) (set_same hcell) rfl).trans rfl)) ⟨by rw [Lex.tok_noquote hci hQ]; rfl, hkept.set (Nat.le_refl _) _⟩⟩
end Go.Proofs.YtkjhnpmgieplgaaGreatDoor
