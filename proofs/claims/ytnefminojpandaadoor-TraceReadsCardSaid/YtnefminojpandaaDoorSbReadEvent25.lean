/- The program's reader of lines: an event. -/
import Derived.Test.YtnefminojpandaaDoorSbReadFault25
set_option linter.unusedVariables false
set_option linter.unusedSimpArgs false
namespace Go.Proofs.YtnefminojpandaaDoor
open Go.Sb
set_option maxRecDepth 100000

def stepR (i : Nat) (st : List Int × List UInt8 × Bool) : List Int × List UInt8 × Bool :=
  if i = 2 then (st.1.set i (kfieldR st.2.1 st.2.2).1, (kfieldR st.2.1 st.2.2).2) else (st.1.set i (fieldR st.2.1 st.2.2).1, (fieldR st.2.1 st.2.2).2)
def runR : Nat → List UInt8 → List Int × List UInt8 × Bool
  | 0, s => ([0, 0, 0, 0, 0], s, false)
  | i + 1, s => stepR i (runR i s)

theorem runR_len (s : List UInt8) : ∀ i, (runR i s).1.length = 5
  | 0 => rfl
  | i + 1 => by
    have := runR_len s i
    unfold runR stepR
    split <;> simp [this]
theorem sign_le (x s : List UInt8) (b : Bool) : (signR x s b).1.length ≤ s.length := by unfold signR; split <;> simp
theorem runR_le (s : List UInt8) : ∀ i, (runR i s).2.1.length ≤ s.length
  | 0 => Nat.le_refl _
  | i + 1 => by
    have h := runR_le s i
    have h2 := word_le (runR i s).2.1
    unfold runR stepR
    split
    · exact Nat.le_trans (sign_le ..) (by omega)
    · exact Nat.le_trans (sign_le ..) (by omega)

theorem evR_run (s : List UInt8) : ∃ a t k n m, (runR 5 s).1 = [a, t, k, n, m] ∧ evR s =
    (let v := valR (runR 5 s).2.1 (runR 5 s).2.2
     let p := signR [32] v.2.1 v.2.2
     let f := faultR p.1 p.2
     let e : Ev := ⟨a, t, k, n, m, v.1.1, v.1.2.1, v.1.2.2, f.1.1, f.1.2⟩
     (e, !f.2.2 && decide (f.2.1 = []) && okEv e)) := by
  obtain ⟨A, hA⟩ : ∃ A, A = fieldR s false := ⟨_, rfl⟩
  obtain ⟨T, hT⟩ : ∃ T, T = fieldR A.2.1 A.2.2 := ⟨_, rfl⟩
  obtain ⟨K, hK⟩ : ∃ K, K = kfieldR T.2.1 T.2.2 := ⟨_, rfl⟩
  obtain ⟨N, hN⟩ : ∃ N, N = fieldR K.2.1 K.2.2 := ⟨_, rfl⟩
  obtain ⟨M, hM⟩ : ∃ M, M = fieldR N.2.1 N.2.2 := ⟨_, rfl⟩
  have h1 : runR 1 s = ([A.1, 0, 0, 0, 0], A.2) := by simp [runR, stepR, hA]
  have h2 : runR 2 s = ([A.1, T.1, 0, 0, 0], T.2) := by rw [show runR 2 s = stepR 1 (runR 1 s) from rfl, h1]; simp [stepR, hT]
  have h3 : runR 3 s = ([A.1, T.1, K.1, 0, 0], K.2) := by rw [show runR 3 s = stepR 2 (runR 2 s) from rfl, h2]; simp [stepR, hK]
  have h4 : runR 4 s = ([A.1, T.1, K.1, N.1, 0], N.2) := by rw [show runR 4 s = stepR 3 (runR 3 s) from rfl, h3]; simp [stepR, hN]
  have h5 : runR 5 s = ([A.1, T.1, K.1, N.1, M.1], M.2) := by rw [show runR 5 s = stepR 4 (runR 4 s) from rfl, h4]; simp [stepR, hM]
  refine ⟨A.1, T.1, K.1, N.1, M.1, by rw [h5], ?_⟩
  rw [h5]
  unfold evR
  simp only [← hA, ← hT, ← hK, ← hN, ← hM]

def z27 : List V := [.int .i64 0, .int .i64 0, .int .i64 0, .int .i64 0, .int .i64 0, .int .i64 0, .int .i64 0, .str [], .int .i64 0, .str []]

theorem splice_set {ns : List Int} {i : Nat} {n : Int} (hi : i < ns.length) : splice (ns.map (V.int .i64)) (0 + ((i : Int)).toNat * 1) (V.int .i64 n).cells = (ns.set i n).map (V.int .i64) := by
  simp only [splice, V.cells, Int.toNat_natCast, Nat.zero_add, Nat.mul_one, List.length_singleton]
  rw [← List.map_take, ← List.map_drop, List.set_eq_take_append_cons_drop, if_pos hi]
  simp

theorem unq_le : ∀ (n : Nat) (l t r : List UInt8), l.length ≤ n → unq l = some (t, r) → r.length ≤ l.length := by
  intro n l t r hl h
  have := unq_ok n l t r hl h
  rw [this]; simp; omega
theorem textR_le (s : List UInt8) (b : Bool) : (textR s b).2.1.length ≤ s.length := by
  have h := sign_le [34] s b
  unfold textR
  split
  · exact h
  · split
    · rename_i p hp
      have := unq_le _ _ p.1 p.2 (Nat.le_refl _) hp
      simp only; omega
    · exact h
theorem val_le (s : List UInt8) (b : Bool) : (valR s b).2.1.length ≤ s.length := by
  have h1 := textR_le s b
  have h2 := (word_le s).2
  unfold valR
  split
  · exact h1
  split
  · exact h2
  split
  · exact h2
  split
  · exact h2
  split
  · exact h2
  split
  · exact h2
  split
  · exact h2
  split
  · exact h2
  · exact h2

theorem kindR_range (w : List UInt8) : 0 ≤ kindR w ∧ kindR w ≤ 22 := by
  unfold kindR
  split
  · rename_i h
    have h1 : wordsB.idxOf w < 22 := List.idxOf_lt_length_of_mem h
    omega
  · omega

theorem res_cell_tmp {E : Env} {s : List V} {h : Heap} {a t c : Nat} {v : V} (hl : evLoad E t (getT s a) h = some v) : evResults E [.cell a t, .tmp c] s h = some (.tup [v, getT s c]) := by
  simp [evResults, evResult, hl]

/-- How the loop of the first five fields stands ahead of a round. -/
def evI (s0 : List UInt8) (k : Nat) (s : List V) (h : Heap) : Prop :=
  ∃ (i : Nat) (z : Int), (i + k = 5 ∧ z = i ∧ h = [.cells 27 z27, rdr (runR i s0).2.1 (runR i s0).2.2, .cells 99 ((runR i s0).1.map (V.int .i64))]) ∧ s.length = 71 ∧ s.getD 0 und = und ∧ s.getD 1 und = .str s0 ∧ s.getD 3 und = .ptr 0 0 10 ∧ s.getD 4 und = .bool false ∧ s.getD 5 und = .ptr 1 0 2 ∧ s.getD 6 und = .ptr 2 0 5 ∧ s.getD 13 und = .int .i64 z
theorem evI_lit {s0 : List UInt8} {k : Nat} {s : List V} {h : Heap} (hI : evI s0 k s h) : ∃ (i : Nat) (z : Int) (x : Nat → V), (i + k = 5 ∧ z = i ∧ h = [.cells 27 z27, rdr (runR i s0).2.1 (runR i s0).2.2, .cells 99 ((runR i s0).1.map (V.int .i64))]) ∧
    s = [und, .str s0, x 2, .ptr 0 0 10, .bool false, .ptr 1 0 2, .ptr 2 0 5, x 7, x 8, x 9, x 10, x 11, x 12, .int .i64 z, x 14, x 15, x 16, x 17, x 18, x 19, x 20, x 21, x 22, x 23, x 24, x 25, x 26, x 27, x 28, x 29, x 30, x 31, x 32, x 33, x 34, x 35, x 36, x 37, x 38, x 39, x 40, x 41, x 42, x 43, x 44, x 45, x 46, x 47, x 48, x 49, x 50, x 51, x 52, x 53, x 54, x 55, x 56, x 57, x 58, x 59, x 60, x 61, x 62, x 63, x 64, x 65, x 66, x 67, x 68, x 69, x 70] := by
  obtain ⟨i, z, hF, hl, e0, e1, e3, e4, e5, e6, e13⟩ := hI
  refine ⟨i, z, fun n => s.getD n und, hF, (lit_of hl).trans ?_⟩
  show [s.getD 0 und, s.getD 1 und, s.getD 2 und, s.getD 3 und, s.getD 4 und, s.getD 5 und, s.getD 6 und, s.getD 7 und, s.getD 8 und, s.getD 9 und, s.getD 10 und, s.getD 11 und, s.getD 12 und, s.getD 13 und, s.getD 14 und, s.getD 15 und, s.getD 16 und, s.getD 17 und, s.getD 18 und, s.getD 19 und, s.getD 20 und, s.getD 21 und, s.getD 22 und, s.getD 23 und, s.getD 24 und, s.getD 25 und, s.getD 26 und, s.getD 27 und, s.getD 28 und, s.getD 29 und, s.getD 30 und, s.getD 31 und, s.getD 32 und, s.getD 33 und, s.getD 34 und, s.getD 35 und, s.getD 36 und, s.getD 37 und, s.getD 38 und, s.getD 39 und, s.getD 40 und, s.getD 41 und, s.getD 42 und, s.getD 43 und, s.getD 44 und, s.getD 45 und, s.getD 46 und, s.getD 47 und, s.getD 48 und, s.getD 49 und, s.getD 50 und, s.getD 51 und, s.getD 52 und, s.getD 53 und, s.getD 54 und, s.getD 55 und, s.getD 56 und, s.getD 57 und, s.getD 58 und, s.getD 59 und, s.getD 60 und, s.getD 61 und, s.getD 62 und, s.getD 63 und, s.getD 64 und, s.getD 65 und, s.getD 66 und, s.getD 67 und, s.getD 68 und, s.getD 69 und, s.getD 70 und] = _
  rw [e0, e1, e3, e4, e5, e6, e13]

set_option maxHeartbeats 8000000 in
theorem event_has (h0 : Heap) {s0 : List UInt8} (hl : s0.length ≤ 2 ^ 38) : Has env2 .own 59 [.str s0] h0 (.val (.tup [(evR s0).1.v, .bool (evR s0).2]) h0) := by
  refine HasP.own (a := [.str s0]) (d := fn59) rfl rfl rfl (of_decide_eq_true rfl) ?_
  apply RunP.seq
  apply RunP.region
  apply RunP.seq
  apply RunP.region
  apply RunP.seq
  apply RunP.region
  apply RunP.seq
  apply RunP.seq
  apply RunP.region
  apply RunP.block
  refine RunP.loop (evI s0) ?_ 5 ⟨0, 0, ⟨by omega, rfl, rfl⟩, rfl, rfl, rfl, rfl, rfl, rfl, rfl, rfl⟩
  · intro k st g hI
    obtain ⟨i, z, x, ⟨hik, hz, rfl⟩, rfl⟩ := evI_lit hI
    have hn := runR_len s0 i
    have hrl := runR_le s0 i
    have hwl := word_le (runR i s0).2.1
    have hnext : runR (i + 1) s0 = stepR i (runR i s0) := rfl
    generalize hst : runR i s0 = st at hn hrl hwl hnext ⊢
    obtain ⟨ns, rs, bad⟩ := st
    simp only at hn hrl hwl
    apply RunP.seq
    apply RunP.region
    apply And.intro
    · intro hlt
      apply RunP.seq
      apply RunP.condT rfl
      apply RunP.skip
      apply RunP.seq
      apply RunP.block
      apply RunP.seq
      apply RunP.region
      apply RunP.seq
      apply RunP.region
      refine CallK.of (word_has (b := 1) (s := rs) (bad := bad) rfl) ?_
      apply RunP.seq
      apply RunP.seq
      apply RunP.region
      apply And.intro
      · intro h2
        have hi : i = 2 := by omega
        subst hi
        have hz2 := hz
        subst hz
        apply RunP.condT rfl
        apply RunP.region
        refine CallK.of (fields_has _) ?_
        refine CallK.of (index_has _ (wordR rs).1) ?_
        have hkr := kindR_range (wordR rs).1
        have hw : IntKind.i64.wrap (1 + (kindR (wordR rs).1 - 1)) = kindR (wordR rs).1 := by rw [wrap_i64 (by omega) (by omega)]; omega
        apply And.intro
        · omega
        refine bindK_of ((store_at (E := env2) (t := 3) (n := 5) (cs := ns.map (V.int .i64)) (b := 2) rfl (by simp [hn]) rfl rfl rfl (by decide)).trans (congrArg (fun x => some (List.set _ 2 (Blk.cells 99 x))) ((splice_set (i := 2) (by omega)).trans (by rw [hw])))) ?_
        apply RunP.region
        obtain ⟨w78, c78⟩ := sign_has (b := 1) (h := [.cells 27 z27, rdr (wordR rs).2 bad, .cells 99 ((ns.set 2 (kindR (wordR rs).1)).map (V.int .i64))]) (s := (wordR rs).2) (bad := bad) [32] rfl
        refine CallK.of c78 ?_
        apply RunP.region
        refine ⟨k - 1, by omega, 2 + 1, _, ⟨by omega, ?_, ?_⟩, rfl, rfl, rfl, rfl, rfl, rfl, rfl, rfl⟩
        · exact wrap_up 2 (by omega)
        · rw [hnext]
          unfold stepR
          rw [if_pos rfl]
          rfl
      · intro h2
        have hi : i ≠ 2 := by omega
        subst hz
        apply RunP.condF rfl
        apply RunP.region
        have cN := number_has (b := 1) (h := [.cells 27 z27, rdr (wordR rs).2 bad, .cells 99 (ns.map (V.int .i64))]) (w := (wordR rs).1) (s := (wordR rs).2) (bad := bad) rfl (by omega)
        refine CallK.of cN ?_
        apply And.intro
        · omega
        refine bindK_of ((store_at (E := env2) (t := 3) (n := 5) (cs := ns.map (V.int .i64)) (b := 2) rfl (by simp [hn]) rfl rfl rfl (by show 0 + ((i : Int)).toNat * 1 + 1 ≤ 5; omega)).trans (congrArg (fun x => some (List.set _ 2 (Blk.cells 99 x))) (splice_set (i := i) (by omega)))) ?_
        apply RunP.region
        obtain ⟨w78, c78⟩ := sign_has (b := 1) (h := [.cells 27 z27, rdr (wordR rs).2 (numR (wordR rs).1 bad).2, .cells 99 ((ns.set i (numR (wordR rs).1 bad).1).map (V.int .i64))]) (s := (wordR rs).2) (bad := (numR (wordR rs).1 bad).2) [32] rfl
        refine CallK.of c78 ?_
        apply RunP.region
        refine ⟨k - 1, by omega, i + 1, _, ⟨by omega, ?_, ?_⟩, rfl, rfl, rfl, rfl, rfl, rfl, rfl, rfl⟩
        · exact wrap_up i (by omega)
        · rw [hnext]
          unfold stepR
          rw [if_neg hi]
          rfl
    · intro hge
      apply RunP.seq
      apply RunP.condF rfl
      apply RunP.exit
      have hi : i = 5 := by omega
      subst hi
      obtain ⟨a, t, kk, n, m, hns, hev⟩ := evR_run s0
      rw [hst] at hns hev
      simp only at hns hev
      subst hns
      generalize evR s0 = R0 at hev ⊢
      apply RunP.seq
      apply RunP.region
      apply And.intro
      · omega
      apply And.intro
      · omega
      apply And.intro
      · omega
      apply And.intro
      · omega
      apply And.intro
      · omega
      apply RunP.seq
      apply RunP.region
      obtain ⟨w, g, c1, rfl, c3, c4⟩ := val_has (b := 1) (h := [.cells 27 z27, rdr rs bad, .cells 99 [.int .i64 a, .int .i64 t, .int .i64 kk, .int .i64 n, .int .i64 m], .cells 27 [.int .i64 a, .int .i64 t, .int .i64 kk, .int .i64 n, .int .i64 m, .int .i64 0, .int .i64 0, .str [], .int .i64 0, .str []]]) (s := rs) (bad := bad) rfl (by omega)
      refine CallK.of c1 ?_
      have hvl := c4.1
      have p0 := c4.2 0 27 z27 (by decide) (by decide) rfl
      have p3 := c4.2 3 27 _ (by decide) (by decide) rfl
      refine bindK_of (store_at (E := env2) (t := 23) (n := 10) p3 rfl rfl rfl rfl (by decide)) ?_
      have q1 : (g.set 3 (.cells 27 [.int .i64 a, .int .i64 t, .int .i64 kk, .int .i64 n, .int .i64 m, .int .i64 (valR rs bad).1.1, .int .i64 (valR rs bad).1.2.1, .str (valR rs bad).1.2.2, .int .i64 0, .str []]))[1]? = some (rdr (valR rs bad).2.1 (valR rs bad).2.2) := by rw [set_other (by decide)]; exact c3
      have q0 : (g.set 3 (.cells 27 [.int .i64 a, .int .i64 t, .int .i64 kk, .int .i64 n, .int .i64 m, .int .i64 (valR rs bad).1.1, .int .i64 (valR rs bad).1.2.1, .str (valR rs bad).1.2.2, .int .i64 0, .str []]))[0]? = some (.cells 27 z27) := by rw [set_other (by decide)]; exact p0
      have q3 : (g.set 3 (.cells 27 [.int .i64 a, .int .i64 t, .int .i64 kk, .int .i64 n, .int .i64 m, .int .i64 (valR rs bad).1.1, .int .i64 (valR rs bad).1.2.1, .str (valR rs bad).1.2.2, .int .i64 0, .str []]))[3]? = some (.cells 27 [.int .i64 a, .int .i64 t, .int .i64 kk, .int .i64 n, .int .i64 m, .int .i64 (valR rs bad).1.1, .int .i64 (valR rs bad).1.2.1, .str (valR rs bad).1.2.2, .int .i64 0, .str []]) := set_same p3
      apply RunP.seq
      apply RunP.region
      obtain ⟨w78, c78⟩ := sign_has [32] q1
      refine CallK.of c78 ?_
      have r1 := set_same (k := rdr (signR [32] (valR rs bad).2.1 (valR rs bad).2.2).1 (signR [32] (valR rs bad).2.1 (valR rs bad).2.2).2) q1
      have r0 : ((g.set 3 (.cells 27 [.int .i64 a, .int .i64 t, .int .i64 kk, .int .i64 n, .int .i64 m, .int .i64 (valR rs bad).1.1, .int .i64 (valR rs bad).1.2.1, .str (valR rs bad).1.2.2, .int .i64 0, .str []])).set 1 (rdr (signR [32] (valR rs bad).2.1 (valR rs bad).2.2).1 (signR [32] (valR rs bad).2.1 (valR rs bad).2.2).2))[0]? = some (.cells 27 z27) := by rw [set_other (by decide)]; exact q0
      have r3 : ((g.set 3 (.cells 27 [.int .i64 a, .int .i64 t, .int .i64 kk, .int .i64 n, .int .i64 m, .int .i64 (valR rs bad).1.1, .int .i64 (valR rs bad).1.2.1, .str (valR rs bad).1.2.2, .int .i64 0, .str []])).set 1 (rdr (signR [32] (valR rs bad).2.1 (valR rs bad).2.2).1 (signR [32] (valR rs bad).2.1 (valR rs bad).2.2).2))[3]? = some (.cells 27 [.int .i64 a, .int .i64 t, .int .i64 kk, .int .i64 n, .int .i64 m, .int .i64 (valR rs bad).1.1, .int .i64 (valR rs bad).1.2.1, .str (valR rs bad).1.2.2, .int .i64 0, .str []]) := by rw [set_other (by decide)]; exact q3
      apply RunP.seq
      apply RunP.region
      have hsl := sign_le [32] (valR rs bad).2.1 (valR rs bad).2.2
      have hvl2 := val_le rs bad
      obtain ⟨w2, g2, d1, rfl, d3, d4⟩ := flt_has r1 (by omega)
      refine CallK.of d1 ?_
      have s3 := d4.2 3 27 _ (by decide) (by decide) r3
      have s0 := d4.2 0 27 _ (by decide) (by decide) r0
      refine bindK_of (store_at (E := env2) (t := 25) (n := 10) s3 rfl rfl rfl rfl (by decide)) ?_
      generalize hF : faultR (signR [32] (valR rs bad).2.1 (valR rs bad).2.2).1 (signR [32] (valR rs bad).2.1 (valR rs bad).2.2).2 = F at d3 hev
      obtain ⟨⟨fk, ft⟩, fs, fb⟩ := F
      generalize valR rs bad = vv at *
      obtain ⟨⟨vk, vn, vs⟩, vr, vb⟩ := vv
      simp only at d3 hev
      have u1 : (g2.set 3 (.cells 27 (Ev.cells ⟨a, t, kk, n, m, vk, vn, vs, fk, ft⟩)))[1]? = some (rdr fs fb) := by rw [set_other (by decide)]; exact d3
      have u0 : (g2.set 3 (.cells 27 (Ev.cells ⟨a, t, kk, n, m, vk, vn, vs, fk, ft⟩)))[0]? = some (.cells 27 z27) := by rw [set_other (by decide)]; exact s0
      have u3 : (g2.set 3 (.cells 27 (Ev.cells ⟨a, t, kk, n, m, vk, vn, vs, fk, ft⟩)))[3]? = some (.cells 27 (Ev.cells ⟨a, t, kk, n, m, vk, vn, vs, fk, ft⟩)) := set_same s3
      have h1 : R0.1 = ⟨a, t, kk, n, m, vk, vn, vs, fk, ft⟩ := by rw [hev]
      have fin : ∀ (bb : Bool), bb = R0.2 → some (V.tup [Ev.v ⟨a, t, kk, n, m, vk, vn, vs, fk, ft⟩, V.bool bb]) = some (V.tup [R0.1.v, V.bool R0.2]) := fun bb hb => by rw [hb, h1]
      apply RunP.seq
      apply RunP.drawn
      · decide +kernel
      refine bindK_of (load_at (E := env2) (t := 27) (n := 10) u3 rfl) ?_
      refine bindK_of (load_at (E := env2) (t := 4) (n := 2) u1 rfl) ?_
      cases fb
      · refine bindK_of (load_at (E := env2) (t := 9) (n := 2) u1 rfl) ?_
        apply And.intro
        · intro he
          subst he
          refine drawZ (by decide +kernel) (by decide +kernel) ?_
          refine bindK_of (load_at (E := env2) (t := 27) (n := 10) u3 rfl) ?_
          cases ho : okEv ⟨a, t, kk, n, m, vk, vn, vs, fk, ft⟩
          · refine CallK.of (check_bad _ ho) ?_
            refine drawR (by decide +kernel) (by decide +kernel) ?_
            refine And.intro (fun hc => absurd hc (by decide)) (fun _ => ?_)
            refine drawZ (by decide +kernel) (by decide +kernel) ?_
            refine bindK_of (store_at (E := env2) (t := 27) (n := 10) u0 rfl rfl rfl rfl (by decide)) ?_
            refine drawW (by decide +kernel) (by kernel_rfl) ?_
            apply RunP.ret
            exact ⟨rfl, bindK_of (res_cell_tmp (load_at (E := env2) (t := 27) (n := 10) (set_same u0) rfl)) ⟨fin _ (by rw [hev]; simp [ho]), rfl⟩⟩
          · refine CallK.of (check_ok _ ho) ?_
            refine drawR (by decide +kernel) (by decide +kernel) ?_
            refine And.intro (fun _ => ?_) (fun hc => absurd rfl hc)
            refine drawZ (by decide +kernel) (by decide +kernel) ?_
            refine bindK_of (store_at (E := env2) (t := 27) (n := 10) u0 rfl rfl rfl rfl (by decide)) ?_
            refine drawW (by decide +kernel) (by kernel_rfl) ?_
            apply RunP.ret
            exact ⟨rfl, bindK_of (res_cell_tmp (load_at (E := env2) (t := 27) (n := 10) (set_same u0) rfl)) ⟨fin _ (by rw [hev]; simp [ho]), rfl⟩⟩
        · intro he
          refine drawZ (by decide +kernel) (by decide +kernel) ?_
          have hd : decide (fs = []) = false := by simp [he]
          refine bindK_of (store_at (E := env2) (t := 27) (n := 10) u0 rfl rfl rfl rfl (by decide)) ?_
          refine drawW (by decide +kernel) (by kernel_rfl) ?_
          apply RunP.ret
          exact ⟨rfl, bindK_of (res_cell_tmp (load_at (E := env2) (t := 27) (n := 10) (set_same u0) rfl)) ⟨fin _ (by rw [hev, hd]; simp), rfl⟩⟩
      · refine bindK_of (store_at (E := env2) (t := 27) (n := 10) u0 rfl rfl rfl rfl (by decide)) ?_
        refine drawW (by decide +kernel) (by kernel_rfl) ?_
        apply RunP.ret
        exact ⟨rfl, bindK_of (res_cell_tmp (load_at (E := env2) (t := 27) (n := 10) (set_same u0) rfl)) ⟨fin _ (by rw [hev]; simp), rfl⟩⟩
end Go.Proofs.YtnefminojpandaaDoor

