/- The program's reader of lines: a text in quotation marks. -/
import Derived.Test.YtnefminojpandaaDoorSbRead25
import Derived.Test.YtnefminojpandaaDoorSbOwnE
set_option linter.unusedVariables false
set_option linter.unusedSimpArgs false
namespace Go.Proofs.YtnefminojpandaaDoor
open Go.Sb
set_option maxRecDepth 100000


/-- What a reader of a text leaves as it is. -/
def KeepR (b : Nat) (h g : Heap) : Prop := h.length ≤ g.length ∧ ∀ (i : Nat) (U : TypeId) (cs : List V), i ≠ b → U ≠ 5 → h[i]? = some (.cells U cs) → g[i]? = some (.cells U cs)
theorem KeepR.refl (b : Nat) (h : Heap) : KeepR b h h := ⟨Nat.le_refl _, fun _ _ _ _ _ h => h⟩
theorem KeepR.trans {b : Nat} {h g k : Heap} (h1 : KeepR b h g) (h2 : KeepR b g k) : KeepR b h k := ⟨Nat.le_trans h1.1 h2.1, fun i U cs a c hi => h2.2 i U cs a c (h1.2 i U cs a c hi)⟩
theorem keepR_set (b : Nat) (h : Heap) (k : Blk) : KeepR b h (h.set b k) := ⟨by simp, fun i U cs a _ hi => by rw [set_other a]; exact hi⟩
theorem keepR_push {b : Nat} (h : Heap) (k : Blk) : KeepR b h (push h k) := ⟨by simp [Sb.push], fun i U cs _ _ hi => push_old hi⟩
theorem KeepR.setR {b : Nat} {h g : Heap} (h1 : KeepR b h g) (k : Blk) : KeepR b h (g.set b k) := h1.trans (keepR_set b g k)

theorem drop_cons {s : List UInt8} {i : Nat} {c : UInt8} (h : s[i]? = some c) : s.drop i = c :: s.drop (i + 1) := by
  obtain ⟨hi, rfl⟩ := List.getElem?_eq_some_iff.1 h
  exact List.drop_eq_getElem_cons hi
theorem unq_end {s : List UInt8} {i : Nat} (h : s.length ≤ i) : unq (s.drop i) = none := by
  rw [List.drop_eq_nil_of_le h, unq.eq_def]
theorem unq_quoteAt {s : List UInt8} {i : Nat} (h : s[i]? = some 34) : unq (s.drop i) = some ([], s.drop (i + 1)) := by
  rw [drop_cons h, unq.eq_def]; simp
theorem unq_plain {s : List UInt8} {i : Nat} {c : UInt8} (h : s[i]? = some c) (h1 : c ≠ 34) (h2 : c ≠ 92) : unq (s.drop i) = (unq (s.drop (i + 1))).map fun p => (c :: p.1, p.2) := by
  rw [drop_cons h, unq.eq_def]; simp [h1, h2]
theorem unq_esc {s : List UInt8} {i : Nat} {d : UInt8} (h : s[i]? = some 92) (h' : s[i + 1]? = some d) (hd : d = 34 ∨ d = 92) : unq (s.drop i) = (unq (s.drop (i + 1 + 1))).map fun p => (d :: p.1, p.2) := by
  rw [drop_cons h, drop_cons h', unq.eq_def]; simp [hd]
theorem unq_bad {s : List UInt8} {i : Nat} {d : UInt8} (h : s[i]? = some 92) (h' : s[i + 1]? = some d) (h1 : d ≠ 34) (h2 : d ≠ 92) : unq (s.drop i) = none := by
  rw [drop_cons h, drop_cons h', unq.eq_def]; simp [h1, h2]
theorem unq_cut {s : List UInt8} {i : Nat} (h : s[i]? = some 92) (h' : s.length ≤ i + 1) : unq (s.drop i) = none := by
  rw [drop_cons h, List.drop_eq_nil_of_le h', unq.eq_def]; simp
theorem pre_step {a : Option (List UInt8 × List UInt8)} {bs : List UInt8} {c : UInt8} : (a.map fun p => (c :: p.1, p.2)).map (fun p => (bs ++ p.1, p.2)) = a.map fun p => (bs ++ [c] ++ p.1, p.2) := by
  cases a <;> simp
theorem b8_ne {c d : UInt8} (h : ¬ ((c.toNat : Int) = (d.toNat : Int))) : c ≠ d := fun e => h (by rw [e])
theorem b8_eq {c d : UInt8} (h : (c.toNat : Int) = (d.toNat : Int)) : c = d := UInt8.toNat.inj (by omega)

/-- How the text's loop stands ahead of a round. -/
def rtxI (h0 : Heap) (b : Nat) (s1 : List UInt8) (b1 : Bool) (k : Nat) (s : List V) (h : Heap) : Prop :=
  ∃ (i : Nat) (z : Int) (o : V) (bs : List UInt8) (bad : Bool), (i + k = s1.length ∧ z = i ∧ InRow h 5 1 o (bv bs) ∧ bs.length ≤ i ∧ h[b]? = some (rdr s1 bad) ∧ KeepR b h0 h ∧
    ((bad = false ∧ b1 = false ∧ unq s1 = (unq (s1.drop i)).map fun p => (bs ++ p.1, p.2)) ∨ (bad = true ∧ (b1 = true ∨ unq s1 = none)))) ∧ s.length = 100 ∧ s.getD 0 und = und ∧ s.getD 1 und = .ptr b 0 2 ∧ s.getD 3 und = .str [] ∧ s.getD 4 und = o ∧ s.getD 5 und = .int .i64 z
theorem rtxI_lit {h0 : Heap} {b : Nat} {s1 : List UInt8} {b1 : Bool} {k : Nat} {s : List V} {h : Heap} (hI : rtxI h0 b s1 b1 k s h) : ∃ (i : Nat) (z : Int) (o : V) (bs : List UInt8) (bad : Bool) (x : Nat → V), (i + k = s1.length ∧ z = i ∧ InRow h 5 1 o (bv bs) ∧ bs.length ≤ i ∧ h[b]? = some (rdr s1 bad) ∧ KeepR b h0 h ∧
    ((bad = false ∧ b1 = false ∧ unq s1 = (unq (s1.drop i)).map fun p => (bs ++ p.1, p.2)) ∨ (bad = true ∧ (b1 = true ∨ unq s1 = none)))) ∧
    s = [und, .ptr b 0 2, x 2, .str [], o, .int .i64 z, x 6, x 7, x 8, x 9, x 10, x 11, x 12, x 13, x 14, x 15, x 16, x 17, x 18, x 19, x 20, x 21, x 22, x 23, x 24, x 25, x 26, x 27, x 28, x 29, x 30, x 31, x 32, x 33, x 34, x 35, x 36, x 37, x 38, x 39, x 40, x 41, x 42, x 43, x 44, x 45, x 46, x 47, x 48, x 49, x 50, x 51, x 52, x 53, x 54, x 55, x 56, x 57, x 58, x 59, x 60, x 61, x 62, x 63, x 64, x 65, x 66, x 67, x 68, x 69, x 70, x 71, x 72, x 73, x 74, x 75, x 76, x 77, x 78, x 79, x 80, x 81, x 82, x 83, x 84, x 85, x 86, x 87, x 88, x 89, x 90, x 91, x 92, x 93, x 94, x 95, x 96, x 97, x 98, x 99] := by
  obtain ⟨i, z, o, bs, bad, hF, hl, e0, e1, e3, e4, e5⟩ := hI
  refine ⟨i, z, o, bs, bad, fun n => s.getD n und, hF, (lit_of hl).trans ?_⟩
  show [s.getD 0 und, s.getD 1 und, s.getD 2 und, s.getD 3 und, s.getD 4 und, s.getD 5 und, s.getD 6 und, s.getD 7 und, s.getD 8 und, s.getD 9 und, s.getD 10 und, s.getD 11 und, s.getD 12 und, s.getD 13 und, s.getD 14 und, s.getD 15 und, s.getD 16 und, s.getD 17 und, s.getD 18 und, s.getD 19 und, s.getD 20 und, s.getD 21 und, s.getD 22 und, s.getD 23 und, s.getD 24 und, s.getD 25 und, s.getD 26 und, s.getD 27 und, s.getD 28 und, s.getD 29 und, s.getD 30 und, s.getD 31 und, s.getD 32 und, s.getD 33 und, s.getD 34 und, s.getD 35 und, s.getD 36 und, s.getD 37 und, s.getD 38 und, s.getD 39 und, s.getD 40 und, s.getD 41 und, s.getD 42 und, s.getD 43 und, s.getD 44 und, s.getD 45 und, s.getD 46 und, s.getD 47 und, s.getD 48 und, s.getD 49 und, s.getD 50 und, s.getD 51 und, s.getD 52 und, s.getD 53 und, s.getD 54 und, s.getD 55 und, s.getD 56 und, s.getD 57 und, s.getD 58 und, s.getD 59 und, s.getD 60 und, s.getD 61 und, s.getD 62 und, s.getD 63 und, s.getD 64 und, s.getD 65 und, s.getD 66 und, s.getD 67 und, s.getD 68 und, s.getD 69 und, s.getD 70 und, s.getD 71 und, s.getD 72 und, s.getD 73 und, s.getD 74 und, s.getD 75 und, s.getD 76 und, s.getD 77 und, s.getD 78 und, s.getD 79 und, s.getD 80 und, s.getD 81 und, s.getD 82 und, s.getD 83 und, s.getD 84 und, s.getD 85 und, s.getD 86 und, s.getD 87 und, s.getD 88 und, s.getD 89 und, s.getD 90 und, s.getD 91 und, s.getD 92 und, s.getD 93 und, s.getD 94 und, s.getD 95 und, s.getD 96 und, s.getD 97 und, s.getD 98 und, s.getD 99 und] = _
  rw [e0, e1, e3, e4, e5]

set_option maxHeartbeats 8000000 in
theorem text_has' {h : Heap} {b : Nat} {s : List UInt8} {bad0 : Bool} (hb : h[b]? = some (rdr s bad0)) (hl : s.length ≤ 2 ^ 38) : ∃ w g, Has env2 .shared 106 [.ptr b 0 2] h (.val w g) ∧ (w = .str (textR s bad0).1 ∧ g[b]? = some (rdr (textR s bad0).2.1 (textR s bad0).2.2) ∧ KeepR b h g) := by
  refine HasP.sharedE (d := fn106) rfl (of_decide_eq_true rfl) ?_
  obtain ⟨w0, c78⟩ := sign_has [34] hb
  have hl1 : (signR [34] s bad0).1.length ≤ s.length := by unfold signR; split <;> simp
  have T1 : ((signR [34] s bad0).2 = true ∨ unq (signR [34] s bad0).1 = none) → textR s bad0 = ([], (signR [34] s bad0).1, true) := fun hc => by
    unfold textR
    split
    · rfl
    · rename_i hn
      rcases hc with hc | hc
      · exact absurd hc hn
      · rw [hc]
  have T2 : ∀ p, (signR [34] s bad0).2 = false → unq (signR [34] s bad0).1 = some p → textR s bad0 = (p.1, p.2, false) := fun p h1 h2 => by
    unfold textR
    rw [h1, h2]
    simp
  generalize hs1 : (signR [34] s bad0).1 = s1 at c78 hl1 T1 T2
  generalize hb1 : (signR [34] s bad0).2 = b1 at c78 T1 T2
  generalize textR s bad0 = T at T1 T2 ⊢
  apply RunP.seq
  apply RunP.region
  apply RunP.seq
  apply RunP.region
  refine CallK.of c78 ?_
  apply RunP.seq
  apply RunP.region
  apply RunP.seq
  apply RunP.seq
  apply RunP.region
  apply RunP.block
  have hset : (h.set b (rdr s1 b1))[b]? = some (rdr s1 b1) := set_same hb
  refine RunP.loop (rtxI h b s1 b1) ?_ s1.length ⟨0, _, .nils, [], b1, ⟨by omega, rfl, .inl ⟨rfl, rfl⟩, by simp, hset, keepR_set _ _ _, ?_⟩, rfl, rfl, rfl, rfl, rfl, rfl⟩
  rotate_left
  · cases b1
    · exact .inl ⟨rfl, rfl, by simp⟩
    · exact .inr ⟨rfl, .inl rfl⟩
  · intro k st g hI
    obtain ⟨i, z, o, bs, bad, x, ⟨hik, hz, hrow, hbs, hr, hkeep, hrel⟩, rfl⟩ := rtxI_lit hI
    subst hz
    have hw1 : i < 2 ^ 62 → IntKind.i64.wrap ((i : Int) + 1) = ((i + 1 : Nat) : Int) := wrap_up i
    have stop : (bad = true ∨ s1.length ≤ i) → T = ([], s1, true) := fun hc => by
      rcases hrel with ⟨hf, hb1', hu⟩ | ⟨hf, hu | hu⟩
      · rcases hc with hc | hc
        · rw [hf] at hc; cases hc
        · rw [unq_end hc] at hu; exact T1 (.inr hu)
      · exact T1 (.inl hu)
      · exact T1 (.inr hu)
    apply RunP.seq
    apply RunP.seq
    apply RunP.region
    refine bindK_of (load_at (E := env2) (t := 9) (n := 2) hr rfl) ?_
    apply And.intro
    · intro hlt
      have hi : i < s1.length := by omega
      refine bindK_of (load_at (E := env2) (t := 4) (n := 2) hr rfl) ?_
      cases bad
      · obtain ⟨hb1', hu⟩ : b1 = false ∧ unq s1 = (unq (s1.drop i)).map fun p => (bs ++ p.1, p.2) := by
          rcases hrel with ⟨_, h1, h2⟩ | ⟨h1, _⟩
          · exact ⟨h1, h2⟩
          · cases h1
        have hw : IntKind.i64.wrap ((i : Int) + 1) = ((i + 1 : Nat) : Int) := wrap_up i (by omega)
        apply RunP.condT rfl
        apply RunP.skip
        apply RunP.seq
        apply RunP.block
        apply RunP.seq
        apply RunP.region
        refine bindK_of (load_at (E := env2) (t := 9) (n := 2) hr rfl) ?_
        apply And.intro
        · omega
        obtain ⟨c, hc⟩ : ∃ c, s1[i]? = some c := ⟨_, List.getElem?_eq_getElem hi⟩
        refine Exists.intro c (And.intro hc ?_)
        apply RunP.seq
        apply RunP.block
        apply RunP.seq
        apply RunP.region
        apply And.intro
        · intro h34
          have := b8_eq (c := c) (d := 34) h34
          subst this
          apply RunP.condT rfl
          apply RunP.seq
          apply RunP.region
          refine bindK_of (load_at (E := env2) (t := 9) (n := 2) hr rfl) ?_
          apply And.intro
          · rw [hw]; omega
          apply And.intro
          · rw [hw]; omega
          refine bindK_of ((store_at (E := env2) (t := 9) (n := 2) hr rfl rfl rfl rfl (by decide)).trans (congrArg some (rdr_of (y := s1.drop (i + 1)) (by rw [hw]; simp)))) ?_
          apply RunP.seq
          apply RunP.region
          have hrow' : InRow (g.set b (rdr (s1.drop (i + 1)) false)) 5 1 o (bv bs) := hrow.keep fun i' cs hi' => by rw [set_other (fun e => by subst e; rw [hr] at hi'; cases hi')]; exact hi'
          have hv : unq s1 = some (bs, s1.drop (i + 1)) := by rw [hu, unq_quoteAt hc]; simp
          refine bindP_of (conv_bytes hrow') ?_
          apply RunP.ret
          have hfin := T2 _ hb1' hv
          subst hfin
          exact ⟨rfl, rfl, set_same hr, hkeep.setR _⟩
        intro h34
        have n34 : c ≠ 34 := b8_ne (d := 34) h34
        apply RunP.condF rfl
        apply RunP.seq
        apply RunP.region
        apply And.intro
        · intro h92
          have := b8_eq (c := c) (d := 92) h92
          subst this
          refine bindK_of (load_at (E := env2) (t := 9) (n := 2) hr rfl) ?_
          apply And.intro
          · intro hlt2
            rw [hw] at hlt2
            have hi2 : i + 1 < s1.length := by omega
            obtain ⟨d, hd⟩ : ∃ d, s1[i + 1]? = some d := ⟨_, List.getElem?_eq_getElem hi2⟩
            refine bindK_of (load_at (E := env2) (t := 9) (n := 2) hr rfl) ?_
            apply And.intro
            · rw [hw]; omega
            refine Exists.intro d (And.intro (by rw [hw]; exact hd) ?_)
            apply And.intro
            · intro d34
              have := b8_eq (c := d) (d := 34) d34
              subst this
              apply RunP.condT rfl
              apply RunP.seq
              apply RunP.region
              apply RunP.region
              refine bindK_of (load_at (E := env2) (t := 9) (n := 2) hr rfl) ?_
              apply And.intro
              · rw [hw]; omega
              refine Exists.intro (34 : UInt8) (And.intro (by rw [hw]; exact hd) ?_)
              apply RunP.region
              obtain ⟨o', g2, a1, a2, a3, a4⟩ := append_row (E := env2) (t := 58) (T := 5) (e := 1) (es' := bv [(34 : UInt8)]) (k := 1) rfl rfl rfl rfl (by omega) (hrow.push (.cells 5 [.int .u8 (34 : UInt8).toNat])) (by rw [bv_cells]; simp) (by rw [bv_cells]; exact contents_last (n := 1) _ 5 [.int .u8 (34 : UInt8).toNat] rfl) rfl (roomy_b (by simp only [bv, List.length_map, List.length_cons, List.length_nil]; omega))
              refine bindR_of (congrArg valH a1) ?_
              apply RunP.region
              refine ⟨s1.length - (i + 1 + 1), by omega, i + 1 + 1, _, o', bs ++ [(34 : UInt8)], false, ⟨by omega, (by rw [hw, wrap_up (i + 1) (by omega)]), ?_, by simp; omega, ?_, ?_, ?_⟩, rfl, rfl, rfl, rfl, rfl, rfl⟩
              · have : bv bs ++ bv [(34 : UInt8)] = bv (bs ++ [(34 : UInt8)]) := by simp [bv]
                rw [← this]; exact a2
              · exact a4 _ _ _ (push_old hr) (by decide)
              · exact hkeep.trans (keepR_push _ _ |>.trans ⟨by simpa using a3, fun i U cs hib hU hi => a4 _ _ _ hi hU⟩)
              · exact .inl ⟨rfl, hb1', by rw [hu, unq_esc hc hd (.inl rfl), pre_step]⟩
            intro d34
            have nd34 : d ≠ 34 := b8_ne (d := 34) d34
            refine bindK_of (load_at (E := env2) (t := 9) (n := 2) hr rfl) ?_
            apply And.intro
            · rw [hw]; omega
            refine Exists.intro d (And.intro (by rw [hw]; exact hd) ?_)
            apply And.intro
            · intro d92
              have := b8_eq (c := d) (d := 92) d92
              subst this
              apply RunP.condT rfl
              apply RunP.seq
              apply RunP.region
              apply RunP.region
              refine bindK_of (load_at (E := env2) (t := 9) (n := 2) hr rfl) ?_
              apply And.intro
              · rw [hw]; omega
              refine Exists.intro (92 : UInt8) (And.intro (by rw [hw]; exact hd) ?_)
              apply RunP.region
              obtain ⟨o', g2, a1, a2, a3, a4⟩ := append_row (E := env2) (t := 58) (T := 5) (e := 1) (es' := bv [(92 : UInt8)]) (k := 1) rfl rfl rfl rfl (by omega) (hrow.push (.cells 5 [.int .u8 (92 : UInt8).toNat])) (by rw [bv_cells]; simp) (by rw [bv_cells]; exact contents_last (n := 1) _ 5 [.int .u8 (92 : UInt8).toNat] rfl) rfl (roomy_b (by simp only [bv, List.length_map, List.length_cons, List.length_nil]; omega))
              refine bindR_of (congrArg valH a1) ?_
              apply RunP.region
              refine ⟨s1.length - (i + 1 + 1), by omega, i + 1 + 1, _, o', bs ++ [(92 : UInt8)], false, ⟨by omega, (by rw [hw, wrap_up (i + 1) (by omega)]), ?_, by simp; omega, ?_, ?_, ?_⟩, rfl, rfl, rfl, rfl, rfl, rfl⟩
              · have : bv bs ++ bv [(92 : UInt8)] = bv (bs ++ [(92 : UInt8)]) := by simp [bv]
                rw [← this]; exact a2
              · exact a4 _ _ _ (push_old hr) (by decide)
              · exact hkeep.trans (keepR_push _ _ |>.trans ⟨by simpa using a3, fun i U cs hib hU hi => a4 _ _ _ hi hU⟩)
              · exact .inl ⟨rfl, hb1', by rw [hu, unq_esc hc hd (.inr rfl), pre_step]⟩
            intro d92
            have nd92 : d ≠ 92 := b8_ne (d := 92) d92
            apply RunP.condF rfl
            apply RunP.seq
            apply RunP.region
            refine And.intro (fun _ => ?_) (fun hn => absurd rfl hn)
            apply RunP.condT rfl
            apply RunP.region
            refine bindK_of (store_at (E := env2) (t := 4) (n := 2) hr rfl rfl rfl rfl (by decide)) ?_
            have hrow' : InRow (g.set b (rdr s1 true)) 5 1 o (bv bs) := hrow.keep fun i' cs hi' => by rw [set_other (fun e => by subst e; rw [hr] at hi'; cases hi')]; exact hi'
            have hr' : (g.set b (rdr s1 true))[b]? = some (rdr s1 true) := set_same hr
            have hkeep' : KeepR b h (g.set b (rdr s1 true)) := hkeep.setR _
            apply RunP.region
            obtain ⟨o', g2, a1, a2, a3, a4⟩ := append_row (E := env2) (t := 58) (T := 5) (e := 1) (es' := bv [(92 : UInt8)]) (k := 1) rfl rfl rfl rfl (by omega) (hrow'.push (.cells 5 [.int .u8 (92 : UInt8).toNat])) (by rw [bv_cells]; simp) (by rw [bv_cells]; exact contents_last (n := 1) _ 5 [.int .u8 (92 : UInt8).toNat] rfl) rfl (roomy_b (by simp only [bv, List.length_map, List.length_cons, List.length_nil]; omega))
            refine bindR_of (congrArg valH a1) ?_
            apply RunP.region
            refine ⟨s1.length - (i + 1), by omega, i + 1, _, o', bs ++ [(92 : UInt8)], true, ⟨by omega, hw, ?_, by simp; omega, ?_, ?_, ?_⟩, rfl, rfl, rfl, rfl, rfl, rfl⟩
            · have : bv bs ++ bv [(92 : UInt8)] = bv (bs ++ [(92 : UInt8)]) := by simp [bv]
              rw [← this]; exact a2
            · exact a4 _ _ _ (push_old hr') (by decide)
            · exact hkeep'.trans (keepR_push _ _ |>.trans ⟨by simpa using a3, fun i U cs hib hU hi => a4 _ _ _ hi hU⟩)
            · exact .inr ⟨rfl, .inr (by rw [hu, unq_bad hc hd nd34 nd92]; rfl)⟩
          · intro hge2
            rw [hw] at hge2
            apply RunP.condF rfl
            apply RunP.seq
            apply RunP.region
            refine And.intro (fun _ => ?_) (fun hn => absurd rfl hn)
            apply RunP.condT rfl
            apply RunP.region
            refine bindK_of (store_at (E := env2) (t := 4) (n := 2) hr rfl rfl rfl rfl (by decide)) ?_
            have hrow' : InRow (g.set b (rdr s1 true)) 5 1 o (bv bs) := hrow.keep fun i' cs hi' => by rw [set_other (fun e => by subst e; rw [hr] at hi'; cases hi')]; exact hi'
            have hr' : (g.set b (rdr s1 true))[b]? = some (rdr s1 true) := set_same hr
            have hkeep' : KeepR b h (g.set b (rdr s1 true)) := hkeep.setR _
            apply RunP.region
            obtain ⟨o', g2, a1, a2, a3, a4⟩ := append_row (E := env2) (t := 58) (T := 5) (e := 1) (es' := bv [(92 : UInt8)]) (k := 1) rfl rfl rfl rfl (by omega) (hrow'.push (.cells 5 [.int .u8 (92 : UInt8).toNat])) (by rw [bv_cells]; simp) (by rw [bv_cells]; exact contents_last (n := 1) _ 5 [.int .u8 (92 : UInt8).toNat] rfl) rfl (roomy_b (by simp only [bv, List.length_map, List.length_cons, List.length_nil]; omega))
            refine bindR_of (congrArg valH a1) ?_
            apply RunP.region
            refine ⟨s1.length - (i + 1), by omega, i + 1, _, o', bs ++ [(92 : UInt8)], true, ⟨by omega, hw, ?_, by simp; omega, ?_, ?_, ?_⟩, rfl, rfl, rfl, rfl, rfl, rfl⟩
            · have : bv bs ++ bv [(92 : UInt8)] = bv (bs ++ [(92 : UInt8)]) := by simp [bv]
              rw [← this]; exact a2
            · exact a4 _ _ _ (push_old hr') (by decide)
            · exact hkeep'.trans (keepR_push _ _ |>.trans ⟨by simpa using a3, fun i U cs hib hU hi => a4 _ _ _ hi hU⟩)
            · exact .inr ⟨rfl, .inr (by rw [hu, unq_cut hc (by omega)]; rfl)⟩
        intro h92
        have n92 : c ≠ 92 := b8_ne (d := 92) h92
        apply RunP.condF rfl
        apply RunP.seq
        apply RunP.region
        refine And.intro (fun hn => absurd hn h92) (fun _ => ?_)
        apply RunP.condF rfl
        apply RunP.skip
        apply RunP.region
        obtain ⟨o', g2, a1, a2, a3, a4⟩ := append_row (E := env2) (t := 58) (T := 5) (e := 1) (es' := bv [c]) (k := 1) rfl rfl rfl rfl (by omega) (hrow.push (.cells 5 [.int .u8 c.toNat])) (by rw [bv_cells]; simp) (by rw [bv_cells]; exact contents_last (n := 1) _ 5 [.int .u8 c.toNat] rfl) rfl (roomy_b (by simp only [bv, List.length_map, List.length_cons, List.length_nil]; omega))
        refine bindR_of (congrArg valH a1) ?_
        apply RunP.region
        refine ⟨s1.length - (i + 1), by omega, i + 1, _, o', bs ++ [c], false, ⟨by omega, hw, ?_, by simp; omega, ?_, ?_, ?_⟩, rfl, rfl, rfl, rfl, rfl, rfl⟩
        · have : bv bs ++ bv [c] = bv (bs ++ [c]) := by simp [bv]
          rw [← this]; exact a2
        · exact a4 _ _ _ (push_old hr) (by decide)
        · exact hkeep.trans (keepR_push _ _ |>.trans ⟨by simpa using a3, fun i U cs hib hU hi => a4 _ _ _ hi hU⟩)
        · exact .inl ⟨rfl, hb1', by rw [hu, unq_plain hc n34 n92, pre_step]⟩
      · apply RunP.condF rfl
        apply RunP.exit
        have hfin := stop (.inl rfl)
        apply RunP.seq
        apply RunP.region
        refine bindK_of (store_at (E := env2) (t := 4) (n := 2) hr rfl rfl rfl rfl (by decide)) ?_
        apply RunP.seq
        apply RunP.region
        apply RunP.ret
        subst hfin
        exact ⟨rfl, rfl, set_same hr, hkeep.setR _⟩
    · intro hge
      have hfin := stop (.inr (by omega))
      apply RunP.condF rfl
      apply RunP.exit
      apply RunP.seq
      apply RunP.region
      refine bindK_of (store_at (E := env2) (t := 4) (n := 2) hr rfl rfl rfl rfl (by decide)) ?_
      apply RunP.seq
      apply RunP.region
      apply RunP.ret
      subst hfin
      exact ⟨rfl, rfl, set_same hr, hkeep.setR _⟩

end Go.Proofs.YtnefminojpandaaDoor
