/- The program's reader of lines: values and faults. -/
import Derived.Test.YtnefminojpandaaDoorSbReadText25
set_option linter.unusedVariables false
set_option linter.unusedSimpArgs false
namespace Go.Proofs.YtnefminojpandaaDoor
open Go.Sb
set_option maxRecDepth 100000

theorem res_cell1 {E : Env} {s : List V} {h : Heap} {a t : Nat} {v : V} (hl : evLoad E t (getT s a) h = some v) : evResults E [.cell a t] s h = some v := by
  simp [evResults, evResult, hl]

theorem word_le (s : List UInt8) : (wordR s).1.length ≤ s.length ∧ (wordR s).2.length ≤ s.length := by
  have := congrArg List.length (word_join s)
  rw [List.length_append] at this
  omega

/-- Behind a function that has laid one block for its answer. -/
theorem fin_set {h g : Heap} {b T : Nat} {z : List V} {k : Blk} (hb : b < h.length) (hk : KeepR b (push h (.cells T z)) g) (hT : T ≠ 5) (hg : g[b]? = some k) :
    (∀ cs, (g.set h.length (.cells T cs))[h.length]? = some (.cells T cs)) ∧ (∀ cs, (g.set h.length (.cells T cs))[b]? = some k) ∧ (∀ cs, KeepR b h (g.set h.length (.cells T cs))) ∧ g[h.length]? = some (.cells T z) := by
  have h1 : g[h.length]? = some (.cells T z) := hk.2 h.length T z (by omega) hT (by simp [Sb.push])
  refine ⟨fun cs => set_same h1, fun cs => by rw [set_other (by omega)]; exact hg, fun cs => ⟨?_, fun i U ds hi hU hh => ?_⟩, h1⟩
  · have := hk.1
    simp [Sb.push] at this
    simp; omega
  · have hlt := (List.getElem?_eq_some_iff.1 hh).1
    rw [set_other (by omega)]
    exact hk.2 i U ds hi hU (push_old hh)

set_option maxHeartbeats 8000000 in
theorem val_has {h : Heap} {b : Nat} {s : List UInt8} {bad : Bool} (hb : h[b]? = some (rdr s bad)) (hl : s.length ≤ 2 ^ 38) : ∃ w g, Has env2 .shared 79 [.ptr b 0 2] h (.val w g) ∧ (w = valV (valR s bad).1.1 (valR s bad).1.2.1 (valR s bad).1.2.2 ∧ g[b]? = some (rdr (valR s bad).2.1 (valR s bad).2.2) ∧ KeepR b h g) := by
  refine HasP.sharedE (d := fn79) rfl (of_decide_eq_true rfl) ?_
  have hlt : b < h.length := (List.getElem?_eq_some_iff.1 hb).1
  apply RunP.seq
  apply RunP.region
  have hb0 : (push h (.cells 23 [.int .i64 0, .int .i64 0, .str []]))[b]? = some (rdr s bad) := push_old hb
  apply RunP.seq
  apply RunP.seq
  apply RunP.region
  refine bindK_of (load_at (E := env2) (t := 9) (n := 2) hb0 rfl) ?_
  refine CallK.of (prefix_has _ s [34]) ?_
  cases hp : [34].isPrefixOf s
  rotate_left
  · apply RunP.condT rfl
    apply RunP.seq
    apply RunP.region
    obtain ⟨w, g, c1, rfl, c3, c4⟩ := text_has' hb0 hl
    refine CallK.of c1 ?_
    obtain ⟨f1, f2, f3, f4⟩ := fin_set (T := 23) hlt c4 (by decide) c3
    refine bindK_of (store_at (E := env2) (t := 23) (n := 3) f4 rfl rfl rfl rfl (by decide)) ?_
    apply RunP.ret
    refine ⟨rfl, bindK_of (res_cell1 (load_at (E := env2) (t := 23) (n := 3) (f1 _) rfl)) ?_⟩
    have hv : valR s bad = ((3, 0, (textR s bad).1), (textR s bad).2) := by
      unfold valR; rw [if_pos hp]
    rw [hv]
    exact ⟨rfl, f2 _, f3 _⟩
  apply RunP.condF rfl
  apply RunP.skip
  apply RunP.seq
  apply RunP.region
  refine CallK.of (word_has hb0) ?_
  have hw1 : ((push h (.cells 23 [.int .i64 0, .int .i64 0, .str []])).set b (rdr (wordR s).2 bad))[b]? = some (rdr (wordR s).2 bad) := set_same hb0
  have kw : KeepR b (push h (.cells 23 [.int .i64 0, .int .i64 0, .str []])) ((push h (.cells 23 [.int .i64 0, .int .i64 0, .str []])).set b (rdr (wordR s).2 bad)) := keepR_set _ _ _
  apply RunP.seq
  apply RunP.block
  apply RunP.seq
  apply RunP.region
  apply And.intro
  · intro hw
    apply RunP.condT rfl
    apply RunP.seq
    apply RunP.region
    obtain ⟨f1, f2, f3, f4⟩ := fin_set (T := 23) hlt kw (by decide) hw1
    refine bindK_of (store_at (E := env2) (t := 23) (n := 3) f4 rfl rfl rfl rfl (by decide)) ?_
    apply RunP.ret
    refine ⟨rfl, bindK_of (res_cell1 (load_at (E := env2) (t := 23) (n := 3) (f1 _) rfl)) ?_⟩
    have hv : valR s bad = ((0, 0, []), (wordR s).2, bad) := by
      unfold valR; rw [hp, hw]; simp
    rw [hv]
    exact ⟨rfl, f2 _, f3 _⟩
  intro n0
  apply RunP.condF rfl
  apply RunP.seq
  apply RunP.region
  apply And.intro
  · intro hw
    apply RunP.condT rfl
    apply RunP.seq
    apply RunP.region
    obtain ⟨f1, f2, f3, f4⟩ := fin_set (T := 23) hlt kw (by decide) hw1
    refine bindK_of (store_at (E := env2) (t := 23) (n := 3) f4 rfl rfl rfl rfl (by decide)) ?_
    apply RunP.ret
    refine ⟨rfl, bindK_of (res_cell1 (load_at (E := env2) (t := 23) (n := 3) (f1 _) rfl)) ?_⟩
    have hv : valR s bad = ((2, 1, []), (wordR s).2, bad) := by
      unfold valR; rw [hp, hw]; simp
    rw [hv]
    exact ⟨rfl, f2 _, f3 _⟩
  intro n1
  apply RunP.condF rfl
  apply RunP.seq
  apply RunP.region
  apply And.intro
  · intro hw
    apply RunP.condT rfl
    apply RunP.seq
    apply RunP.region
    obtain ⟨f1, f2, f3, f4⟩ := fin_set (T := 23) hlt kw (by decide) hw1
    refine bindK_of (store_at (E := env2) (t := 23) (n := 3) f4 rfl rfl rfl rfl (by decide)) ?_
    apply RunP.ret
    refine ⟨rfl, bindK_of (res_cell1 (load_at (E := env2) (t := 23) (n := 3) (f1 _) rfl)) ?_⟩
    have hv : valR s bad = ((2, 0, []), (wordR s).2, bad) := by
      unfold valR; rw [hp, hw]; simp
    rw [hv]
    exact ⟨rfl, f2 _, f3 _⟩
  intro n2
  apply RunP.condF rfl
  apply RunP.seq
  apply RunP.region
  apply And.intro
  · intro hw
    apply RunP.condT rfl
    apply RunP.seq
    apply RunP.region
    refine bindK_of (store_at (E := env2) (t := 4) (n := 2) hw1 rfl rfl rfl rfl (by decide)) ?_
    apply RunP.seq
    apply RunP.region
    obtain ⟨f1, f2, f3, f4⟩ := fin_set (T := 23) hlt (kw.setR (rdr (wordR s).2 true)) (by decide) (k := rdr (wordR s).2 true) (set_same hw1)
    refine bindK_of (store_at (E := env2) (t := 23) (n := 3) f4 rfl rfl rfl rfl (by decide)) ?_
    apply RunP.ret
    refine ⟨rfl, bindK_of (res_cell1 (load_at (E := env2) (t := 23) (n := 3) (f1 _) rfl)) ?_⟩
    have hv : valR s bad = ((0, 0, []), (wordR s).2, true) := by
      unfold valR; rw [hp, hw]; simp
    rw [hv]
    exact ⟨rfl, f2 _, f3 _⟩
  intro n3
  apply RunP.condF rfl
  apply RunP.skip
  obtain ⟨c, r, hw⟩ : ∃ c r, (wordR s).1 = c :: r := by
    cases h : (wordR s).1 with
    | nil => exact absurd h n3
    | cons c r => exact ⟨c, r, rfl⟩
  rw [hw] at n0 n1 n2 ⊢
  apply RunP.seq
  apply RunP.seq
  apply RunP.region
  apply And.intro
  · omega
  refine Exists.intro c (And.intro rfl ?_)
  refine CallK.of (idx_has _ [99, 116, 108] c) ?_
  by_cases h99 : c = 99
  · have hidx : idxB [99, 116, 108] c = 0 := by rw [h99]; decide
    rw [hidx]
    apply RunP.seq
    apply RunP.region
    refine And.intro (fun _ => ?_) (fun hc => absurd hc (by decide))
    apply RunP.condT rfl
    apply RunP.seq
    apply RunP.region
    apply And.intro
    · omega
    apply And.intro
    · simp
    have cN := number_has (w := r) hw1 (by have h9 := (word_le s).1; rw [hw] at h9; simp at h9 ⊢; omega)
    have hr : (List.take (c :: r).length (c :: r)).drop (Int.toNat 1) = r := by simp
    refine CallK.of (E := env2) (v := .int .i64 (numR r bad).1) (g := ((push h (.cells 23 [.int .i64 0, .int .i64 0, .str []])).set b (rdr (wordR s).2 bad)).set b (rdr (wordR s).2 (numR r bad).2)) (by rw [hr]; exact cN) ?_
    obtain ⟨f1, f2, f3, f4⟩ := fin_set (T := 23) hlt (kw.setR (rdr (wordR s).2 (numR r bad).2)) (by decide) (k := rdr (wordR s).2 (numR r bad).2) (set_same hw1)
    refine bindK_of (store_at (E := env2) (t := 23) (n := 3) f4 rfl rfl rfl rfl (by decide)) ?_
    apply RunP.ret
    refine ⟨rfl, bindK_of (res_cell1 (load_at (E := env2) (t := 23) (n := 3) (f1 _) rfl)) ?_⟩
    have hv : valR s bad = ((4, (numR r bad).1, []), (wordR s).2, (numR r bad).2) := by
      unfold valR; rw [hp, hw]; subst h99; simp_all
    rw [hv]
    exact ⟨rfl, f2 _, f3 _⟩
  by_cases h116 : c = 116
  · have hidx : idxB [99, 116, 108] c = 1 := by rw [h116]; decide
    rw [hidx]
    apply RunP.seq
    apply RunP.region
    refine And.intro (fun _ => ?_) (fun hc => absurd hc (by decide))
    apply RunP.condT rfl
    apply RunP.seq
    apply RunP.region
    apply And.intro
    · omega
    apply And.intro
    · simp
    have cN := number_has (w := r) hw1 (by have h9 := (word_le s).1; rw [hw] at h9; simp at h9 ⊢; omega)
    have hr : (List.take (c :: r).length (c :: r)).drop (Int.toNat 1) = r := by simp
    refine CallK.of (E := env2) (v := .int .i64 (numR r bad).1) (g := ((push h (.cells 23 [.int .i64 0, .int .i64 0, .str []])).set b (rdr (wordR s).2 bad)).set b (rdr (wordR s).2 (numR r bad).2)) (by rw [hr]; exact cN) ?_
    obtain ⟨f1, f2, f3, f4⟩ := fin_set (T := 23) hlt (kw.setR (rdr (wordR s).2 (numR r bad).2)) (by decide) (k := rdr (wordR s).2 (numR r bad).2) (set_same hw1)
    refine bindK_of (store_at (E := env2) (t := 23) (n := 3) f4 rfl rfl rfl rfl (by decide)) ?_
    apply RunP.ret
    refine ⟨rfl, bindK_of (res_cell1 (load_at (E := env2) (t := 23) (n := 3) (f1 _) rfl)) ?_⟩
    have hv : valR s bad = ((5, (numR r bad).1, []), (wordR s).2, (numR r bad).2) := by
      unfold valR; rw [hp, hw]; subst h116; simp_all
    rw [hv]
    exact ⟨rfl, f2 _, f3 _⟩
  by_cases h108 : c = 108
  · have hidx : idxB [99, 116, 108] c = 2 := by rw [h108]; decide
    rw [hidx]
    apply RunP.seq
    apply RunP.region
    refine And.intro (fun _ => ?_) (fun hc => absurd hc (by decide))
    apply RunP.condT rfl
    apply RunP.seq
    apply RunP.region
    apply And.intro
    · omega
    apply And.intro
    · simp
    have cN := number_has (w := r) hw1 (by have h9 := (word_le s).1; rw [hw] at h9; simp at h9 ⊢; omega)
    have hr : (List.take (c :: r).length (c :: r)).drop (Int.toNat 1) = r := by simp
    refine CallK.of (E := env2) (v := .int .i64 (numR r bad).1) (g := ((push h (.cells 23 [.int .i64 0, .int .i64 0, .str []])).set b (rdr (wordR s).2 bad)).set b (rdr (wordR s).2 (numR r bad).2)) (by rw [hr]; exact cN) ?_
    obtain ⟨f1, f2, f3, f4⟩ := fin_set (T := 23) hlt (kw.setR (rdr (wordR s).2 (numR r bad).2)) (by decide) (k := rdr (wordR s).2 (numR r bad).2) (set_same hw1)
    refine bindK_of (store_at (E := env2) (t := 23) (n := 3) f4 rfl rfl rfl rfl (by decide)) ?_
    apply RunP.ret
    refine ⟨rfl, bindK_of (res_cell1 (load_at (E := env2) (t := 23) (n := 3) (f1 _) rfl)) ?_⟩
    have hv : valR s bad = ((6, (numR r bad).1, []), (wordR s).2, (numR r bad).2) := by
      unfold valR; rw [hp, hw]; subst h108; simp_all
    rw [hv]
    exact ⟨rfl, f2 _, f3 _⟩
  have hidx : idxB [99, 116, 108] c = -1 := by
    unfold idxB; rw [if_neg]; simp [h99, h116, h108]
  rw [hidx]
  apply RunP.seq
  apply RunP.region
  refine And.intro (fun hc => absurd hc (by decide)) (fun _ => ?_)
  apply RunP.condF rfl
  apply RunP.skip
  apply RunP.seq
  apply RunP.region
  have cN := number_has (w := (c :: r)) hw1 (by have h9 := (word_le s).1; rw [hw] at h9; simp at h9 ⊢; omega)
  refine CallK.of cN ?_
  obtain ⟨f1, f2, f3, f4⟩ := fin_set (T := 23) hlt (kw.setR (rdr (wordR s).2 (numR (c :: r) bad).2)) (by decide) (k := rdr (wordR s).2 (numR (c :: r) bad).2) (set_same hw1)
  refine bindK_of (store_at (E := env2) (t := 23) (n := 3) f4 rfl rfl rfl rfl (by decide)) ?_
  apply RunP.ret
  refine ⟨rfl, bindK_of (res_cell1 (load_at (E := env2) (t := 23) (n := 3) (f1 _) rfl)) ?_⟩
  have hv : valR s bad = ((1, (numR (c :: r) bad).1, []), (wordR s).2, (numR (c :: r) bad).2) := by
    unfold valR; rw [hp, hw]; rw [if_neg (by simp), if_neg n0, if_neg n1, if_neg n2]; simp only []; rw [if_neg h99, if_neg h116, if_neg h108]
  rw [hv]
  exact ⟨rfl, f2 _, f3 _⟩

end Go.Proofs.YtnefminojpandaaDoor


/- The program's reader of lines: faults; the index of a name. -/

namespace Go.Proofs.YtnefminojpandaaDoor
open Go.Sb
set_option maxRecDepth 100000

set_option maxHeartbeats 8000000 in
theorem flt_has {h : Heap} {b : Nat} {s : List UInt8} {bad : Bool} (hb : h[b]? = some (rdr s bad)) (hl : s.length ≤ 2 ^ 38) : ∃ w g, Has env2 .shared 80 [.ptr b 0 2] h (.val w g) ∧ (w = faultV (faultR s bad).1.1 (faultR s bad).1.2 ∧ g[b]? = some (rdr (faultR s bad).2.1 (faultR s bad).2.2) ∧ KeepR b h g) := by
  refine HasP.sharedE (d := fn80) rfl (of_decide_eq_true rfl) ?_
  have hlt : b < h.length := (List.getElem?_eq_some_iff.1 hb).1
  apply RunP.seq
  apply RunP.region
  have hb0 : (push h (.cells 25 [.int .i64 0, .str []]))[b]? = some (rdr s bad) := push_old hb
  apply RunP.seq
  apply RunP.seq
  apply RunP.region
  refine CallK.of (word_has hb0) ?_
  have hw1 : ((push h (.cells 25 [.int .i64 0, .str []])).set b (rdr (wordR s).2 bad))[b]? = some (rdr (wordR s).2 bad) := set_same hb0
  have kw : KeepR b (push h (.cells 25 [.int .i64 0, .str []])) ((push h (.cells 25 [.int .i64 0, .str []])).set b (rdr (wordR s).2 bad)) := keepR_set _ _ _
  have hwl := word_le s
  apply RunP.block
  apply RunP.seq
  apply RunP.region
  apply And.intro
  · intro hw
    apply RunP.condT rfl
    apply RunP.seq
    apply RunP.region
    obtain ⟨f1, f2, f3, f4⟩ := fin_set (T := 25) hlt kw (by decide) hw1
    refine bindK_of (store_at (E := env2) (t := 25) (n := 2) f4 rfl rfl rfl rfl (by decide)) ?_
    apply RunP.ret
    refine ⟨rfl, bindK_of (res_cell1 (load_at (E := env2) (t := 25) (n := 2) (f1 _) rfl)) ?_⟩
    have hv : faultR s bad = ((0, []), (wordR s).2, bad) := by
      unfold faultR; rw [hw]; simp
    rw [hv]
    exact ⟨rfl, f2 _, f3 _⟩
  intro n0
  apply RunP.condF rfl
  apply RunP.seq
  apply RunP.region
  apply And.intro
  · intro hw
    apply RunP.condT rfl
    apply RunP.seq
    apply RunP.region
    obtain ⟨f1, f2, f3, f4⟩ := fin_set (T := 25) hlt kw (by decide) hw1
    refine bindK_of (store_at (E := env2) (t := 25) (n := 2) f4 rfl rfl rfl rfl (by decide)) ?_
    apply RunP.ret
    refine ⟨rfl, bindK_of (res_cell1 (load_at (E := env2) (t := 25) (n := 2) (f1 _) rfl)) ?_⟩
    have hv : faultR s bad = ((2, []), (wordR s).2, bad) := by
      unfold faultR; rw [hw]; simp
    rw [hv]
    exact ⟨rfl, f2 _, f3 _⟩
  intro n1
  apply RunP.condF rfl
  apply RunP.seq
  apply RunP.region
  apply And.intro
  · intro hw
    apply RunP.condT rfl
    apply RunP.seq
    apply RunP.region
    obtain ⟨v0, c78⟩ := sign_has [32] hw1
    refine CallK.of c78 ?_
    have hs1 := set_same (k := rdr (signR [32] (wordR s).2 bad).1 (signR [32] (wordR s).2 bad).2) hw1
    have ks := kw.setR (rdr (signR [32] (wordR s).2 bad).1 (signR [32] (wordR s).2 bad).2)
    have hsl : (signR [32] (wordR s).2 bad).1.length ≤ s.length := by
      unfold signR; split <;> simp <;> omega
    apply RunP.seq
    apply RunP.region
    obtain ⟨w, g, c1, rfl, c3, c4⟩ := text_has' hs1 (by omega)
    refine CallK.of c1 ?_
    obtain ⟨f1, f2, f3, f4⟩ := fin_set (T := 25) hlt (ks.trans c4) (by decide) c3
    refine bindK_of (store_at (E := env2) (t := 25) (n := 2) f4 rfl rfl rfl rfl (by decide)) ?_
    apply RunP.ret
    refine ⟨rfl, bindK_of (res_cell1 (load_at (E := env2) (t := 25) (n := 2) (f1 _) rfl)) ?_⟩
    have hv : faultR s bad = ((1, (textR (signR [32] (wordR s).2 bad).1 (signR [32] (wordR s).2 bad).2).1), (textR (signR [32] (wordR s).2 bad).1 (signR [32] (wordR s).2 bad).2).2) := by
      unfold faultR; rw [hw]; simp
    rw [hv]
    exact ⟨rfl, f2 _, f3 _⟩
  intro n2
  apply RunP.condF rfl
  apply RunP.skip
  apply RunP.seq
  apply RunP.region
  refine bindK_of (store_at (E := env2) (t := 4) (n := 2) hw1 rfl rfl rfl rfl (by decide)) ?_
  apply RunP.seq
  apply RunP.region
  obtain ⟨f1, f2, f3, f4⟩ := fin_set (T := 25) hlt (kw.setR (rdr (wordR s).2 true)) (by decide) (k := rdr (wordR s).2 true) (set_same hw1)
  refine bindK_of (store_at (E := env2) (t := 25) (n := 2) f4 rfl rfl rfl rfl (by decide)) ?_
  apply RunP.ret
  refine ⟨rfl, bindK_of (res_cell1 (load_at (E := env2) (t := 25) (n := 2) (f1 _) rfl)) ?_⟩
  have hv : faultR s bad = ((0, []), (wordR s).2, true) := by
    unfold faultR; rw [if_neg n0, if_neg n1, if_neg n2]
  rw [hv]
  exact ⟨rfl, f2 _, f3 _⟩

theorem idx_first {x : List UInt8} {i : Nat} (h : x ∉ wordsB.take i) (h' : wordsB[i]? = some x) : kindR x = (i : Int) + 1 := by
  obtain ⟨hi, he⟩ := List.getElem?_eq_some_iff.1 h'
  have hm : x ∈ wordsB := by rw [← he]; exact List.getElem_mem hi
  have hlt : wordsB.idxOf x < wordsB.length := List.idxOf_lt_length_of_mem hm
  have h4 : wordsB[wordsB.idxOf x] = x := List.getElem_idxOf hlt
  have h5 : ¬ wordsB.idxOf x < i := fun hl => by
    apply h
    rw [List.mem_take_iff_getElem]
    exact ⟨wordsB.idxOf x, by omega, h4⟩
  have h6 : ¬ i < wordsB.idxOf x := fun hl => by
    have := List.not_of_lt_findIdx (p := (· == x)) (show i < wordsB.findIdx (· == x) from hl)
    simp [he] at this
  unfold kindR
  rw [if_pos hm]
  omega

/-- How slices.Index stands ahead of a round. -/
def ixI (x : List UInt8) (k : Nat) (s : List V) (h : Heap) : Prop :=
  ∃ (i : Nat) (z : Int) (x5 x9 x10 x11 x12 x13 x14 x15 x16 x17 x18 : V), i + k = 22 ∧ z = i ∧ x ∉ wordsB.take i ∧
    s = [und, .lst 1 wordsV, .str x, und, und, .int .i64 0, x5, .lst 1 wordsV, .int .i64 22, .int .i64 z, x9, x10, x11, x12, x13, x14, x15, x16, x17, x18]

theorem index_has (h : Heap) (x : List UInt8) : Has env2 .own 76 [.lst 1 wordsV, .str x] h (.val (.int .i64 (kindR x - 1)) h) := by
  refine HasP.own (a := [.lst 1 wordsV, .str x]) (d := fn76) rfl rfl rfl (of_decide_eq_true rfl) ?_
  apply RunP.seq
  apply RunP.region
  apply RunP.seq
  apply RunP.seq
  apply RunP.region
  apply RunP.block
  refine RunP.loop (ixI x) ?_ 22 ⟨0, 0, _, _, _, _, _, _, _, _, _, _, _, by omega, rfl, by simp, rfl⟩
  rintro k s g ⟨i, z, x5, x9, x10, x11, x12, x13, x14, x15, x16, x17, x18, hik, hz, hn, rfl⟩
  have hwl : wordsB.length = 22 := rfl
  apply RunP.seq
  apply RunP.region
  apply And.intro
  · intro hlt
    have hi : i < wordsB.length := by omega
    apply RunP.seq
    apply RunP.condT rfl
    apply RunP.skip
    apply RunP.seq
    apply RunP.block
    apply RunP.seq
    apply RunP.region
    apply RunP.seq
    apply RunP.region
    apply And.intro
    · omega
    apply And.intro
    · rfl
    refine Exists.intro (.str wordsB[i]) (And.intro (by subst hz; rw [words_eq]; simp [hi]) ?_)
    apply And.intro
    · intro he
      apply RunP.condT rfl
      apply RunP.seq
      apply RunP.region
      apply RunP.ret
      have hk := idx_first hn (by rw [List.getElem?_eq_getElem hi, he])
      exact ⟨rfl, by rw [hk, hz]; simp; rfl, rfl⟩
    · intro he
      apply RunP.condF rfl
      apply RunP.skip
      apply RunP.region
      refine ⟨k - 1, by omega, i + 1, _, _, _, _, _, _, _, _, _, _, _, _, by omega, ?_, ?_, rfl⟩
      · subst hz; exact wrap_up i (by omega)
      · rw [List.take_add_one, List.getElem?_eq_getElem hi]
        simp only [Option.toList_some, List.mem_append, List.mem_singleton, not_or]
        exact ⟨hn, he⟩
  · intro hge
    apply RunP.seq
    apply RunP.condF rfl
    apply RunP.exit
    have hi : i = 22 := by omega
    rw [hi] at hn
    have hn' : x ∉ wordsB := by rwa [List.take_of_length_le (by rw [hwl]; omega)] at hn
    apply RunP.seq
    apply RunP.region
    apply RunP.ret
    exact ⟨rfl, by unfold kindR; rw [if_neg hn']; rfl, rfl⟩
end Go.Proofs.YtnefminojpandaaDoor

