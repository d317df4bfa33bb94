/- The program's reader of lines: words, signs, numbers. (Builds where strconv.Atoi and bytealg.IndexByteString are told.) -/
import Derived.Test.YtnefminojpandaaDoorSbLines25
import Derived.Test.YtnefminojpandaaDoorSbIdx
import Derived.Test.YtnefminojpandaaDoorSbAtoi25
set_option linter.unusedVariables false
set_option linter.unusedSimpArgs false
namespace Go.Proofs.YtnefminojpandaaDoor
open Go.Sb
set_option maxRecDepth 100000

theorem u8_back (c : UInt8) : ((c.toNat : Int)).toNat.toUInt8 = c := by simp

theorem idx_has (h : Heap) (s : List UInt8) (c : UInt8) : Has env2 .own 103 [.str s, .int .u8 c.toNat] h (.val (.int .i64 (idxB s c)) h) := by
  have in118 : ∀ h, Has env2 .own 118 [.str s, .int .u8 c.toNat] h (.val (.int .i64 (idxB s c)) h) := fun h => by
    refine HasP.own (a := [.str s, .int .u8 c.toNat]) (d := fn118) rfl rfl rfl (of_decide_eq_true rfl) ?_
    apply RunP.seq
    apply RunP.region
    apply RunP.seq
    apply RunP.region
    apply RunP.ret
    exact ⟨rfl, by
      show some (V.int IntKind.i64 (idxB s ((c.toNat : Int)).toNat.toUInt8)) = some (V.int IntKind.i64 (idxB s c))
      rw [u8_back], rfl⟩
  refine HasP.own (a := [.str s, .int .u8 c.toNat]) (d := fn103) rfl rfl rfl (of_decide_eq_true rfl) ?_
  apply RunP.seq
  apply RunP.region
  apply RunP.seq
  apply RunP.region
  refine CallK.of (in118 _) ?_
  apply RunP.ret
  exact ⟨rfl, rfl, rfl⟩

theorem take_prefix {x s : List UInt8} : (s.take x.length = x) ↔ x.isPrefixOf s = true := by
  rw [List.isPrefixOf_iff_prefix]
  constructor
  · intro h
    rw [List.prefix_iff_eq_take]
    exact h.symm
  · rintro ⟨t, rfl⟩; simp

theorem idx_cases (s : List UInt8) (c : UInt8) : (idxB s c = -1 ∧ c ∉ s) ∨ (∃ i : Nat, idxB s c = i ∧ i < s.length ∧ s.take i = s.takeWhile (· != c) ∧ s.drop i = s.dropWhile (· != c) ∧ s[i]? = some c) := by
  unfold idxB
  have hf : (fun x => !(x != c)) = (fun x => x == c) := by funext x; simp [bne]
  by_cases hm : c ∈ s
  · refine .inr ⟨s.idxOf c, by rw [if_pos hm], List.idxOf_lt_length_of_mem hm, ?_, ?_, ?_⟩
    · rw [List.takeWhile_eq_take_findIdx_not, hf]; rfl
    · rw [List.dropWhile_eq_drop_findIdx_not, hf]; rfl
    · rw [List.getElem?_eq_getElem (List.idxOf_lt_length_of_mem hm), List.getElem_idxOf]
  · exact .inl ⟨by rw [if_neg hm], hm⟩

theorem not_mem_take {s : List UInt8} {c : UInt8} (h : c ∉ s) : s.takeWhile (· != c) = s ∧ s.dropWhile (· != c) = [] := by
  have h1 : ∀ a ∈ s, (a != c) = true := fun a ha => by
    simp only [bne_iff_ne]; rintro rfl; exact h ha
  have h2 := List.takeWhile_append_of_pos (l₂ := []) h1
  have h3 := List.dropWhile_append_of_pos (l₂ := []) h1
  simp only [List.append_nil, List.takeWhile_nil, List.dropWhile_nil] at h2 h3
  exact ⟨h2, h3⟩
theorem prefix_has (h : Heap) (s x : List UInt8) : Has env2 .own 105 [.str s, .str x] h (.val (.bool (x.isPrefixOf s)) h) := by
  have in124 : ∀ h, Has env2 .own 124 [.str s, .str x] h (.val (.bool (x.isPrefixOf s)) h) := fun h => by
    refine HasP.own (a := [.str s, .str x]) (d := fn124) rfl rfl rfl (of_decide_eq_true rfl) ?_
    have fin : ∀ {t : Bool}, t = x.isPrefixOf s → some (V.bool t) = some (V.bool (x.isPrefixOf s)) := fun h => by rw [h]
    apply RunP.seq
    apply RunP.region
    apply RunP.seq
    apply RunP.region
    apply And.intro
    · intro hle
      apply And.intro
      · omega
      apply And.intro
      · omega
      apply And.intro
      · intro he
        apply RunP.ret
        exact And.intro rfl (And.intro (fin (by have h1 : x.isPrefixOf s = true := take_prefix.1 (by simpa using he); simp [h1])) rfl)
      · intro he
        apply RunP.ret
        exact And.intro rfl (And.intro (fin (by
          have h1 : x.isPrefixOf s = false := by
            rw [Bool.eq_false_iff]; intro h2; exact he (by simpa using take_prefix.2 h2)
          simp [h1])) rfl)
    · intro hlt
      apply RunP.ret
      exact And.intro rfl (And.intro (fin (by
        have h1 : x.isPrefixOf s = false := by
          rw [Bool.eq_false_iff, ne_eq, List.isPrefixOf_iff_prefix]
          intro h2
          have := h2.length_le
          omega
        simp [h1])) rfl)
  refine HasP.own (a := [.str s, .str x]) (d := fn105) rfl rfl rfl (of_decide_eq_true rfl) ?_
  apply RunP.seq
  apply RunP.region
  apply RunP.seq
  apply RunP.region
  refine CallK.of (in124 _) ?_
  apply RunP.ret
  exact ⟨rfl, rfl, rfl⟩

/-- A reader: what is left, and whether it has failed. -/
def rdr (s : List UInt8) (bad : Bool) : Blk := .cells 98 [.str s, .bool bad]

theorem str_of {a b : List UInt8} (h : a = b) : V.str a = V.str b := by rw [h]
theorem rdr_of {h : Heap} {b : Nat} {x y : List UInt8} {bad : Bool} (e : x = y) : h.set b (.cells 98 [.str x, .bool bad]) = h.set b (rdr y bad) := by rw [e]; rfl

theorem word_has {h : Heap} {b : Nat} {s : List UInt8} {bad : Bool} (hb : h[b]? = some (rdr s bad)) : Has env2 .shared 75 [.ptr b 0 2] h (.val (.str (wordR s).1) (h.set b (rdr (wordR s).2 bad))) := by
  obtain ⟨w, g, h1, h2, h3⟩ : ∃ w g, Has env2 .shared 75 [.ptr b 0 2] h (.val w g) ∧ (w = .str (wordR s).1 ∧ g = h.set b (rdr (wordR s).2 bad)) := by
    refine HasP.sharedE (d := fn75) rfl (of_decide_eq_true rfl) ?_
    apply RunP.seq
    apply RunP.region
    apply RunP.seq
    apply RunP.region
    refine bindK_of (load_at (E := env2) (t := 9) (n := 2) hb rfl) ?_
    refine CallK.of (idx_has _ s 32) ?_
    apply RunP.seq
    apply RunP.seq
    apply RunP.region
    rcases idx_cases s 32 with ⟨e, hm⟩ | ⟨i, e, hi, ht, hd, _⟩
    · rw [e]
      apply And.intro
      · intro _
        apply RunP.condT rfl
        apply RunP.region
        refine bindK_of (load_at (E := env2) (t := 9) (n := 2) hb rfl) ?_
        obtain ⟨w1, w2⟩ := not_mem_take hm
        apply RunP.seq
        apply RunP.region
        refine bindK_of (load_at (E := env2) (t := 9) (n := 2) hb rfl) ?_
        apply And.intro
        · omega
        apply And.intro
        · omega
        apply RunP.seq
        apply RunP.region
        refine bindK_of (load_at (E := env2) (t := 9) (n := 2) hb rfl) ?_
        apply And.intro
        · omega
        apply And.intro
        · omega
        refine bindK_of (store_at (E := env2) (t := 9) (n := 2) hb rfl rfl rfl rfl (by decide)) ?_
        apply RunP.seq
        apply RunP.region
        apply RunP.ret
        exact ⟨rfl, str_of (by simp [wordR, w1]), rdr_of (by simp [wordR, w2])⟩
      · intro hc; exact absurd hc (by decide)
    · rw [e]
      apply And.intro
      · intro hc; omega
      · intro _
        apply RunP.condF rfl
        apply RunP.skip
        apply RunP.seq
        apply RunP.region
        refine bindK_of (load_at (E := env2) (t := 9) (n := 2) hb rfl) ?_
        apply And.intro
        · omega
        apply And.intro
        · omega
        apply RunP.seq
        apply RunP.region
        refine bindK_of (load_at (E := env2) (t := 9) (n := 2) hb rfl) ?_
        apply And.intro
        · omega
        apply And.intro
        · omega
        refine bindK_of (store_at (E := env2) (t := 9) (n := 2) hb rfl rfl rfl rfl (by decide)) ?_
        apply RunP.seq
        apply RunP.region
        apply RunP.ret
        exact ⟨rfl, str_of (by simp [wordR, ht]), rdr_of (by simp [wordR, hd])⟩
  subst h2 h3
  exact h1

theorem sign_has {h : Heap} {b : Nat} {s : List UInt8} {bad : Bool} (x : List UInt8) (hb : h[b]? = some (rdr s bad)) : ∃ w, Has env2 .shared 78 [.ptr b 0 2, .str x] h (.val w (h.set b (rdr (signR x s bad).1 (signR x s bad).2))) := by
  obtain ⟨w, g, h1, h3⟩ : ∃ w g, Has env2 .shared 78 [.ptr b 0 2, .str x] h (.val w g) ∧ (g = h.set b (rdr (signR x s bad).1 (signR x s bad).2)) := by
    refine HasP.sharedE (d := fn78) rfl (of_decide_eq_true rfl) ?_
    apply RunP.seq
    apply RunP.seq
    apply RunP.region
    refine bindK_of (load_at (E := env2) (t := 9) (n := 2) hb rfl) ?_
    refine CallK.of (prefix_has _ s x) ?_
    cases hp : x.isPrefixOf s
    · apply RunP.condT rfl
      apply RunP.seq
      apply RunP.region
      refine bindK_of (store_at (E := env2) (t := 4) (n := 2) hb rfl rfl rfl rfl (by decide)) ?_
      apply RunP.ret
      exact ⟨rfl, by simp only [signR, hp]; rfl⟩
    · apply RunP.condF rfl
      apply RunP.skip
      apply RunP.region
      refine bindK_of (load_at (E := env2) (t := 9) (n := 2) hb rfl) ?_
      have hl : x.length ≤ s.length := (List.isPrefixOf_iff_prefix.1 hp).length_le
      apply And.intro
      · omega
      apply And.intro
      · omega
      refine bindK_of (store_at (E := env2) (t := 9) (n := 2) hb rfl rfl rfl rfl (by decide)) ?_
      refine ⟨rfl, ?_⟩
      simp only [signR, hp, if_true]
      exact rdr_of (by simp)
  subst h3
  exact ⟨w, h1⟩

theorem atoi_told (h : Heap) {s : List UInt8} (hl : s.length ≤ 281474976710656) : Has env2 .own 104 [.str s] h (.val (atoiV s) h) :=
  Has.told (E := env2) (f := 104) (args := [.str s]) (a := [.str s]) (p := tellAtoi) rfl rfl (by simp [tellAtoi, hl]) rfl

theorem set_self {h : Heap} {b : Nat} {k : Blk} (hb : h[b]? = some k) : h.set b k = h := by
  obtain ⟨hlt, rfl⟩ := List.getElem?_eq_some_iff.1 hb
  exact List.set_getElem_self ..

theorem number_has {h : Heap} {b : Nat} {s w : List UInt8} {bad : Bool} (hb : h[b]? = some (rdr s bad)) (hl : w.length ≤ 281474976710656) : Has env2 .shared 77 [.ptr b 0 2, .str w] h (.val (.int .i64 (numR w bad).1) (h.set b (rdr s (numR w bad).2))) := by
  obtain ⟨v, g, h1, h2, h3⟩ : ∃ v g, Has env2 .shared 77 [.ptr b 0 2, .str w] h (.val v g) ∧ (v = .int .i64 (numR w bad).1 ∧ g = h.set b (rdr s (numR w bad).2)) := by
    refine HasP.sharedE (d := fn77) rfl (of_decide_eq_true rfl) ?_
    have ha := atoi_told h hl
    unfold atoiV at ha
    apply RunP.seq
    apply RunP.region
    apply RunP.seq
    apply RunP.region
    unfold numR
    match he : Lib.atoiAll w with
    | .ok n =>
      rw [he] at ha
      refine CallK.of ha ?_
      apply RunP.seq
      apply RunP.seq
      apply RunP.region
      have hn := Lib.atoiAll_bounds he
      refine CallK.of (itoa_has (n := n) _ hn.1 hn.2) ?_
      apply And.intro
      · intro hw
        apply RunP.condF rfl
        apply RunP.skip
        apply RunP.seq
        apply RunP.region
        apply RunP.ret
        refine ⟨rfl, ?_⟩
        simp only [hw, if_true]
        exact ⟨rfl, (set_self hb).symm⟩
      · intro hw
        apply RunP.condT rfl
        apply RunP.seq
        apply RunP.region
        refine bindK_of (store_at (E := env2) (t := 4) (n := 2) hb rfl rfl rfl rfl (by decide)) ?_
        apply RunP.seq
        apply RunP.region
        apply RunP.ret
        refine ⟨rfl, ?_⟩
        simp only [hw, if_false]
        exact ⟨rfl, rfl⟩
    | Lib.NumEnd.syntax =>
      rw [he] at ha
      refine CallK.of ha ?_
      apply RunP.seq
      apply RunP.seq
      apply RunP.region
      apply RunP.condT rfl
      apply RunP.seq
      apply RunP.region
      refine bindK_of (store_at (E := env2) (t := 4) (n := 2) hb rfl rfl rfl rfl (by decide)) ?_
      apply RunP.seq
      apply RunP.region
      apply RunP.ret
      exact ⟨rfl, rfl, rfl⟩
    | .range =>
      rw [he] at ha
      refine CallK.of ha ?_
      apply RunP.seq
      apply RunP.seq
      apply RunP.region
      apply RunP.condT rfl
      apply RunP.seq
      apply RunP.region
      refine bindK_of (store_at (E := env2) (t := 4) (n := 2) hb rfl rfl rfl rfl (by decide)) ?_
      apply RunP.seq
      apply RunP.region
      apply RunP.ret
      exact ⟨rfl, rfl, rfl⟩
  subst h2 h3
  exact h1
end Go.Proofs.YtnefminojpandaaDoor
