/- The reference's reader: words, what stands between quotation marks. -/
import Derived.Test.YtnefminojpandaaDoorSbParse25
import Derived.Test.YtnefminojpandaaDoorSbNum2
set_option linter.unusedVariables false
set_option linter.unusedSimpArgs false
namespace Go.Proofs.YtnefminojpandaaDoor
open Go.Sb
set_option maxRecDepth 100000

/-- A word up to a blank or a line feed. -/
def wordQ (s : List UInt8) : List UInt8 := s.takeWhile fun c => c != 32 && c != 10

theorem takeWhile_stop {p : UInt8 → Bool} {s : List UInt8} {i : Nat} (h1 : ∀ j c, j < i → s[j]? = some c → p c = true) (h2 : s.length ≤ i ∨ ∃ c, s[i]? = some c ∧ p c = false) : s.takeWhile p = s.take i := by
  induction s generalizing i with
  | nil => simp
  | cons x s ih =>
    cases i with
    | zero =>
      rcases h2 with h2 | ⟨c, hc, hp⟩
      · simp at h2
      · simp at hc; subst hc; simp [hp]
    | succ i =>
      have hx : p x = true := h1 0 x (by omega) rfl
      rw [List.takeWhile_cons_of_pos hx, List.take_succ_cons, ih (i := i) (fun j c hj hc => h1 (j + 1) c (by omega) hc) ?_]
      rcases h2 with h2 | ⟨c, hc, hp⟩
      · simp at h2; exact .inl h2
      · exact .inr ⟨c, hc, hp⟩

/-- How the reference's word stands ahead of a round. -/
def rwI (u : List UInt8) (a : Nat) (k : Nat) (s : List V) (h : Heap) : Prop :=
  ∃ (i : Nat) (z : Int), (i + k = u.length ∧ z = i ∧ a ≤ i ∧ ∀ j c, a ≤ j → j < i → u[j]? = some c → (c != 32 && c != 10) = true) ∧ s.length = 32 ∧ s.getD 0 und = und ∧ s.getD 1 und = .str u ∧ s.getD 2 und = .int .i64 z ∧ s.getD 5 und = .str [] ∧ s.getD 6 und = .int .i64 0 ∧ s.getD 7 und = .int .i64 a
theorem rwI_lit {u : List UInt8} {a : Nat} {k : Nat} {s : List V} {h : Heap} (hI : rwI u a k s h) : ∃ (i : Nat) (z : Int) (x : Nat → V), (i + k = u.length ∧ z = i ∧ a ≤ i ∧ ∀ j c, a ≤ j → j < i → u[j]? = some c → (c != 32 && c != 10) = true) ∧
    s = [und, .str u, .int .i64 z, x 3, x 4, .str [], .int .i64 0, .int .i64 a, x 8, x 9, x 10, x 11, x 12, x 13, x 14, x 15, x 16, x 17, x 18, x 19, x 20, x 21, x 22, x 23, x 24, x 25, x 26, x 27, x 28, x 29, x 30, x 31] := by
  obtain ⟨i, z, hF, hl, e0, e1, e2, e5, e6, e7⟩ := hI
  refine ⟨i, z, fun n => s.getD n und, hF, (lit_of hl).trans ?_⟩
  show [s.getD 0 und, s.getD 1 und, s.getD 2 und, s.getD 3 und, s.getD 4 und, s.getD 5 und, s.getD 6 und, s.getD 7 und, s.getD 8 und, s.getD 9 und, s.getD 10 und, s.getD 11 und, s.getD 12 und, s.getD 13 und, s.getD 14 und, s.getD 15 und, s.getD 16 und, s.getD 17 und, s.getD 18 und, s.getD 19 und, s.getD 20 und, s.getD 21 und, s.getD 22 und, s.getD 23 und, s.getD 24 und, s.getD 25 und, s.getD 26 und, s.getD 27 und, s.getD 28 und, s.getD 29 und, s.getD 30 und, s.getD 31 und] = _
  rw [e0, e1, e2, e5, e6, e7]

theorem rword_has (h : Heap) (s : List UInt8) {a : Nat} (ha : a ≤ s.length) (hl : s.length ≤ 2 ^ 38) : Has env2 .own 81 [.str s, .int .i64 a] h (.val (.tup [.str (wordQ (s.drop a)), .int .i64 ((a + (wordQ (s.drop a)).length : Nat) : Int)]) h) := by
  refine HasP.own (a := [.str s, .int .i64 a]) (d := fn81) rfl rfl rfl (of_decide_eq_true rfl) ?_
  apply RunP.seq
  apply RunP.region
  apply RunP.seq
  apply RunP.region
  apply RunP.seq
  apply RunP.block
  refine RunP.loop (rwI s a) ?_ (s.length - a) ⟨a, _, ⟨by omega, rfl, Nat.le_refl _, fun j c h1 h2 => by omega⟩, rfl, rfl, rfl, rfl, rfl, rfl, rfl⟩
  intro k st g hI
  obtain ⟨i, z, x, ⟨hik, hz, hai, hpre⟩, rfl⟩ := rwI_lit hI
  clear hI
  have stop : (s.length ≤ i ∨ ∃ c, s[i]? = some c ∧ (c != 32 && c != 10) = false) → wordQ (s.drop a) = (s.take i).drop a := fun hs => by
    unfold wordQ
    rw [takeWhile_stop (i := i - a) (fun j c hj hc => hpre (a + j) c (by omega) (by omega) (by rw [← List.getElem?_drop]; exact hc)) ?_, List.drop_take]
    rcases hs with hs | ⟨c, hc, hp⟩
    · left; simp; omega
    · right; exact ⟨c, by rw [List.getElem?_drop, show a + (i - a) = i by omega]; exact hc, hp⟩
  have len : i ≤ s.length → ((s.take i).drop a).length = i - a := fun h => by simp; omega
  subst hz
  have fin : ∀ (w : List UInt8), wordQ (s.drop a) = w → i ≤ s.length → w.length = i - a → some (V.tup [.str w, .int .i64 (i : Nat)]) = some (V.tup [.str (wordQ (s.drop a)), .int .i64 ((a + (wordQ (s.drop a)).length : Nat) : Int)]) := fun w hw hi hwl => by
    rw [hw, hwl, show a + (i - a) = i by omega]
  apply RunP.seq
  apply RunP.seq
  apply RunP.region
  have hiz : (0 : Int) ≤ (i : Int) := by omega
  apply And.intro
  · intro hlt
    have hi : i < s.length := by omega
    obtain ⟨c, hc⟩ : ∃ c, s[i]? = some c := ⟨_, List.getElem?_eq_getElem hi⟩
    refine And.intro hiz (Exists.intro c (And.intro hc ?_))
    apply And.intro
    · intro h32
      have := b8_eq (c := c) (d := 32) h32
      subst this
      apply RunP.condF rfl
      apply RunP.exit
      apply RunP.seq
      apply RunP.region
      apply And.intro
      · omega
      apply And.intro
      · omega
      apply And.intro
      · omega
      apply RunP.ret
      exact ⟨rfl, fin _ (by rw [stop (.inr ⟨32, hc, rfl⟩)]; simp) (by omega) (by simp; omega), rfl⟩
    · intro h32
      have n32 := b8_ne (c := c) (d := 32) h32
      refine And.intro hiz (Exists.intro c (And.intro hc ?_))
      apply And.intro
      · intro h10
        have := b8_eq (c := c) (d := 10) h10
        subst this
        apply RunP.condF rfl
        apply RunP.exit
        apply RunP.seq
        apply RunP.region
        apply And.intro
        · omega
        apply And.intro
        · omega
        apply And.intro
        · omega
        apply RunP.ret
        exact ⟨rfl, fin _ (by rw [stop (.inr ⟨10, hc, rfl⟩)]; simp) (by omega) (by simp; omega), rfl⟩
      · intro h10
        have n10 := b8_ne (c := c) (d := 10) h10
        apply RunP.condT rfl
        apply RunP.skip
        apply RunP.block
        apply RunP.region
        refine ⟨k - 1, by omega, i + 1, _, ⟨by omega, wrap_up i (by omega), by omega, fun j c' h1 h2 h3 => ?_⟩, rfl, rfl, rfl, rfl, rfl, rfl, rfl⟩
        by_cases hj : j = i
        · subst hj
          rw [hc] at h3; cases h3
          simp [n32, n10]
        · exact hpre j c' h1 (by omega) h3
  · intro hge
    apply RunP.condF rfl
    apply RunP.exit
    apply RunP.seq
    apply RunP.region
    apply And.intro
    · omega
    apply And.intro
    · omega
    apply And.intro
    · omega
    apply RunP.ret
    exact ⟨rfl, fin _ (by rw [stop (.inl (by omega))]; simp) (by omega) (by simp; omega), rfl⟩

end Go.Proofs.YtnefminojpandaaDoor


/- The reference's Number. -/

namespace Go.Proofs.YtnefminojpandaaDoor
open Go.Sb
set_option maxRecDepth 100000

/-- How the reference's Number stands ahead of a round. -/
def rnI (u : List UInt8) (k : Nat) (s : List V) (h : Heap) : Prop :=
  ∃ (i : Nat) (z n : Int), (i + k = u.length ∧ z = i ∧ (-9223372036854775808 ≤ n ∧ n ≤ 9223372036854775807) ∧ ∀ m, u = Lib.itoa m → n = sv (u.take i)) ∧ s.length = 69 ∧ s.getD 0 und = und ∧ s.getD 1 und = .str u ∧ s.getD 3 und = .int .i64 0 ∧ s.getD 4 und = .bool false ∧ s.getD 5 und = .int .i64 n ∧ s.getD 6 und = .int .i64 z
theorem rnI_lit {u : List UInt8} {k : Nat} {s : List V} {h : Heap} (hI : rnI u k s h) : ∃ (i : Nat) (z n : Int) (x : Nat → V), (i + k = u.length ∧ z = i ∧ (-9223372036854775808 ≤ n ∧ n ≤ 9223372036854775807) ∧ ∀ m, u = Lib.itoa m → n = sv (u.take i)) ∧
    s = [und, .str u, x 2, .int .i64 0, .bool false, .int .i64 n, .int .i64 z, x 7, x 8, x 9, x 10, x 11, x 12, x 13, x 14, x 15, x 16, x 17, x 18, x 19, x 20, x 21, x 22, x 23, x 24, x 25, x 26, x 27, x 28, x 29, x 30, x 31, x 32, x 33, x 34, x 35, x 36, x 37, x 38, x 39, x 40, x 41, x 42, x 43, x 44, x 45, x 46, x 47, x 48, x 49, x 50, x 51, x 52, x 53, x 54, x 55, x 56, x 57, x 58, x 59, x 60, x 61, x 62, x 63, x 64, x 65, x 66, x 67, x 68] := by
  obtain ⟨i, z, n, hF, hl, e0, e1, e3, e4, e5, e6⟩ := hI
  refine ⟨i, z, n, fun n => s.getD n und, hF, (lit_of hl).trans ?_⟩
  show [s.getD 0 und, s.getD 1 und, s.getD 2 und, s.getD 3 und, s.getD 4 und, s.getD 5 und, s.getD 6 und, s.getD 7 und, s.getD 8 und, s.getD 9 und, s.getD 10 und, s.getD 11 und, s.getD 12 und, s.getD 13 und, s.getD 14 und, s.getD 15 und, s.getD 16 und, s.getD 17 und, s.getD 18 und, s.getD 19 und, s.getD 20 und, s.getD 21 und, s.getD 22 und, s.getD 23 und, s.getD 24 und, s.getD 25 und, s.getD 26 und, s.getD 27 und, s.getD 28 und, s.getD 29 und, s.getD 30 und, s.getD 31 und, s.getD 32 und, s.getD 33 und, s.getD 34 und, s.getD 35 und, s.getD 36 und, s.getD 37 und, s.getD 38 und, s.getD 39 und, s.getD 40 und, s.getD 41 und, s.getD 42 und, s.getD 43 und, s.getD 44 und, s.getD 45 und, s.getD 46 und, s.getD 47 und, s.getD 48 und, s.getD 49 und, s.getD 50 und, s.getD 51 und, s.getD 52 und, s.getD 53 und, s.getD 54 und, s.getD 55 und, s.getD 56 und, s.getD 57 und, s.getD 58 und, s.getD 59 und, s.getD 60 und, s.getD 61 und, s.getD 62 und, s.getD 63 und, s.getD 64 und, s.getD 65 und, s.getD 66 und, s.getD 67 und, s.getD 68 und] = _
  rw [e0, e1, e3, e4, e5, e6]

set_option maxHeartbeats 8000000 in
theorem rnum_has (h : Heap) (s : List UInt8) (hl : s.length ≤ 2 ^ 38) : ∃ n b, Has env2 .own 82 [.str s] h (.val (.tup [.int .i64 n, .bool b]) h) ∧ (-9223372036854775808 ≤ n ∧ n ≤ 9223372036854775807) ∧ (b = true → s = Lib.itoa n) ∧
    ∀ m, -9223372036854775808 ≤ m → m ≤ 9223372036854775807 → s = Lib.itoa m → n = m ∧ b = true := by
  suffices hs : ∃ w, Has env2 .own 82 [.str s] h (.val w h) ∧ ∃ n b, w = .tup [.int .i64 n, .bool b] ∧ (-9223372036854775808 ≤ n ∧ n ≤ 9223372036854775807) ∧ (b = true → s = Lib.itoa n) ∧
      ∀ m, -9223372036854775808 ≤ m → m ≤ 9223372036854775807 → s = Lib.itoa m → n = m ∧ b = true by
    obtain ⟨w, k1, n, b, rfl, k2⟩ := hs
    exact ⟨n, b, k1, k2⟩
  refine HasP.ownE (a := [.str s]) (d := fn82) rfl rfl rfl (of_decide_eq_true rfl) ?_
  apply RunP.seq
  apply RunP.region
  apply RunP.seq
  apply RunP.region
  apply RunP.seq
  apply RunP.seq
  apply RunP.region
  apply RunP.block
  refine RunP.loop (rnI s) ?_ s.length ⟨0, _, 0, ⟨by simp, rfl, ⟨by omega, by omega⟩, fun m hm => rfl⟩, rfl, rfl, rfl, rfl, rfl, rfl, rfl⟩
  intro k st g hI
  obtain ⟨i, z, n, x, ⟨hik, hz, hnr, hrel⟩, rfl⟩ := rnI_lit hI
  clear hI
  subst hz
  have hiz : (0 : Int) ≤ (i : Int) := by omega
  apply RunP.seq
  apply RunP.seq
  apply RunP.region
  apply And.intro
  · intro hlt
    have hi : i < s.length := by omega
    obtain ⟨c, hc⟩ : ∃ c, s[i]? = some c := ⟨_, List.getElem?_eq_getElem hi⟩
    apply RunP.condT rfl
    apply RunP.skip
    apply RunP.seq
    apply RunP.block
    apply RunP.seq
    apply RunP.seq
    apply RunP.region
    apply And.intro
    · intro h0
      refine And.intro hiz (Exists.intro c (And.intro hc ?_))
      apply And.intro
      · intro h45
        have := b8_eq (c := c) (d := 45) h45
        subst this
        have hi0 : i = 0 := by omega
        subst hi0
        apply RunP.condT rfl
        apply RunP.exit
        apply RunP.region
        refine ⟨k - 1, by omega, 0 + 1, _, n, ⟨by omega, wrap_up 0 (by omega), hnr, fun m hm => by rw [hrel m hm, take_snoc hc]; rfl⟩, rfl, rfl, rfl, rfl, rfl, rfl, rfl⟩
      · intro h45
        have n45 := b8_ne (c := c) (d := 45) h45
        have hn0 : ¬ (i = 0 ∧ c = 45) := fun h => n45 h.2
        apply RunP.condF rfl
        apply RunP.skip
        apply RunP.seq
        apply RunP.region
        refine And.intro hiz (Exists.intro c (And.intro hc ?_))
        have hD : IntKind.i64.wrap (IntKind.i64.wrap (c.toNat : Int) - 48) = (c.toNat : Int) - 48 := by
          have hcl : c.toNat < 256 := c.toNat_lt
          rw [wrap_i64 (x := (c.toNat : Int)) (by omega) (by omega), wrap_i64 (by omega) (by omega)]
        have hstep := fun m (hm : s = Lib.itoa m) => sv_step hm hc hn0
        apply RunP.block
        apply RunP.seq
        apply RunP.region
        generalize IntKind.i64.wrap (IntKind.i64.wrap (c.toNat : Int) - 48) = D at hD ⊢
        apply And.intro
        · intro hneg
          have hcon : ∀ m, -9223372036854775808 ≤ m → m ≤ 9223372036854775807 → ¬ s = Lib.itoa m := fun m m0 m1 hm => by
            have := (hstep m hm).1; omega
          apply RunP.condT rfl
          apply RunP.seq
          apply RunP.region
          apply RunP.ret
          exact ⟨rfl, _, rfl, rfl, 0, false, rfl, ⟨by omega, by omega⟩, (fun h => by cases h), fun m m0 m1 hm => absurd hm (hcon m m0 m1)⟩
        intro hnn
        apply And.intro
        · intro hgt
          have hcon : ∀ m, -9223372036854775808 ≤ m → m ≤ 9223372036854775807 → ¬ s = Lib.itoa m := fun m m0 m1 hm => by
            have := (hstep m hm).1; omega
          apply RunP.condT rfl
          apply RunP.seq
          apply RunP.region
          apply RunP.ret
          exact ⟨rfl, _, rfl, rfl, 0, false, rfl, ⟨by omega, by omega⟩, (fun h => by cases h), fun m m0 m1 hm => absurd hm (hcon m m0 m1)⟩
        intro hle9
        have hq1 : IntKind.i64.wrap ((IntKind.i64.wrap (9223372036854775807 - D)).tdiv 10) = (9223372036854775807 - D) / 10 := by
          rw [wrap_i64 (x := 9223372036854775807 - D) (by omega) (by omega), Int.tdiv_eq_ediv_of_nonneg (by omega), wrap_i64 (by omega) (by omega)]
        have hq2 : IntKind.i64.wrap ((IntKind.i64.wrap (-9223372036854775808 + D)).tdiv 10) = -((9223372036854775808 - D) / 10) := by
          have h1 : (-9223372036854775808 + D).tdiv 10 = -((9223372036854775808 - D) / 10) := by
            rw [show -9223372036854775808 + D = -(9223372036854775808 - D) by omega, Int.neg_tdiv, Int.tdiv_eq_ediv_of_nonneg (by omega)]
          rw [wrap_i64 (x := -9223372036854775808 + D) (by omega) (by omega), h1, wrap_i64 (by omega) (by omega)]
        refine And.intro rfl (And.intro (by decide) ?_)
        apply And.intro
        · intro hover
          rw [hq1] at hover
          have hcon : ∀ m, -9223372036854775808 ≤ m → m ≤ 9223372036854775807 → ¬ s = Lib.itoa m := fun m m0 m1 hm => by
            obtain ⟨h1, h2, h3⟩ := hstep m hm
            have hnv := hrel m hm
            by_cases hh : s.head? = some 45
            · have := h2 hh; omega
            · have := h3 hh; omega
          apply RunP.condT rfl
          apply RunP.seq
          apply RunP.region
          apply RunP.ret
          exact ⟨rfl, _, rfl, rfl, 0, false, rfl, ⟨by omega, by omega⟩, (fun h => by cases h), fun m m0 m1 hm => absurd hm (hcon m m0 m1)⟩
        intro hfit
        rw [hq1] at hfit
        refine And.intro rfl (And.intro (by decide) ?_)
        apply And.intro
        · intro hunder
          rw [hq2] at hunder
          have hcon : ∀ m, -9223372036854775808 ≤ m → m ≤ 9223372036854775807 → ¬ s = Lib.itoa m := fun m m0 m1 hm => by
            obtain ⟨h1, h2, h3⟩ := hstep m hm
            have hnv := hrel m hm
            by_cases hh : s.head? = some 45
            · have := h2 hh; omega
            · have := h3 hh; omega
          apply RunP.condT rfl
          apply RunP.seq
          apply RunP.region
          apply RunP.ret
          exact ⟨rfl, _, rfl, rfl, 0, false, rfl, ⟨by omega, by omega⟩, (fun h => by cases h), fun m m0 m1 hm => absurd hm (hcon m m0 m1)⟩
        intro hfit2
        rw [hq2] at hfit2
        apply RunP.condF rfl
        apply RunP.seq
        apply RunP.region
        obtain ⟨c0, hc0⟩ : ∃ c0, s[0]? = some c0 := ⟨_, List.getElem?_eq_getElem (by omega)⟩
        have hm10 : IntKind.i64.wrap (10 * n) = 10 * n := wrap_i64 (by omega) (by omega)
        refine And.intro (by omega) (Exists.intro c0 (And.intro hc0 ?_))
        apply And.intro
        · intro h45
          have := b8_eq (c := c0) (d := 45) h45
          subst this
          have hh : s.head? = some 45 := by rw [← hc0, List.head?_eq_getElem?]
          apply RunP.condT rfl
          apply RunP.region
          apply RunP.region
          have he : IntKind.i64.wrap (IntKind.i64.wrap (10 * n) - D) = 10 * n - D := by rw [hm10, wrap_i64 (by omega) (by omega)]
          refine ⟨k - 1, by omega, i + 1, _, _, ⟨by omega, wrap_up i (by omega), by rw [he]; omega, fun m hm => by rw [he, ((hstep m hm).2.1 hh).1, ← hrel m hm]; have := (hstep m hm).1; omega⟩, rfl, rfl, rfl, rfl, rfl, rfl, rfl⟩
        · intro h45
          have n45 := b8_ne (c := c0) (d := 45) h45
          have hh : s.head? ≠ some 45 := by rw [List.head?_eq_getElem?, hc0]; simpa using n45
          apply RunP.condF rfl
          apply RunP.region
          apply RunP.region
          have he : IntKind.i64.wrap (IntKind.i64.wrap (10 * n) + D) = 10 * n + D := by rw [hm10, wrap_i64 (by omega) (by omega)]
          refine ⟨k - 1, by omega, i + 1, _, _, ⟨by omega, wrap_up i (by omega), by rw [he]; omega, fun m hm => by rw [he, ((hstep m hm).2.2 hh).1, ← hrel m hm]; have := (hstep m hm).1; omega⟩, rfl, rfl, rfl, rfl, rfl, rfl, rfl⟩
    · intro h0
      have hn0 : ¬ (i = 0 ∧ c = 45) := fun h => h0 (by omega)
      apply RunP.condF rfl
      apply RunP.skip
      apply RunP.seq
      apply RunP.region
      refine And.intro hiz (Exists.intro c (And.intro hc ?_))
      have hD : IntKind.i64.wrap (IntKind.i64.wrap (c.toNat : Int) - 48) = (c.toNat : Int) - 48 := by
        have hcl : c.toNat < 256 := c.toNat_lt
        rw [wrap_i64 (x := (c.toNat : Int)) (by omega) (by omega), wrap_i64 (by omega) (by omega)]
      have hstep := fun m (hm : s = Lib.itoa m) => sv_step hm hc hn0
      apply RunP.block
      apply RunP.seq
      apply RunP.region
      generalize IntKind.i64.wrap (IntKind.i64.wrap (c.toNat : Int) - 48) = D at hD ⊢
      apply And.intro
      · intro hneg
        have hcon : ∀ m, -9223372036854775808 ≤ m → m ≤ 9223372036854775807 → ¬ s = Lib.itoa m := fun m m0 m1 hm => by
          have := (hstep m hm).1; omega
        apply RunP.condT rfl
        apply RunP.seq
        apply RunP.region
        apply RunP.ret
        exact ⟨rfl, _, rfl, rfl, 0, false, rfl, ⟨by omega, by omega⟩, (fun h => by cases h), fun m m0 m1 hm => absurd hm (hcon m m0 m1)⟩
      intro hnn
      apply And.intro
      · intro hgt
        have hcon : ∀ m, -9223372036854775808 ≤ m → m ≤ 9223372036854775807 → ¬ s = Lib.itoa m := fun m m0 m1 hm => by
          have := (hstep m hm).1; omega
        apply RunP.condT rfl
        apply RunP.seq
        apply RunP.region
        apply RunP.ret
        exact ⟨rfl, _, rfl, rfl, 0, false, rfl, ⟨by omega, by omega⟩, (fun h => by cases h), fun m m0 m1 hm => absurd hm (hcon m m0 m1)⟩
      intro hle9
      have hq1 : IntKind.i64.wrap ((IntKind.i64.wrap (9223372036854775807 - D)).tdiv 10) = (9223372036854775807 - D) / 10 := by
        rw [wrap_i64 (x := 9223372036854775807 - D) (by omega) (by omega), Int.tdiv_eq_ediv_of_nonneg (by omega), wrap_i64 (by omega) (by omega)]
      have hq2 : IntKind.i64.wrap ((IntKind.i64.wrap (-9223372036854775808 + D)).tdiv 10) = -((9223372036854775808 - D) / 10) := by
        have h1 : (-9223372036854775808 + D).tdiv 10 = -((9223372036854775808 - D) / 10) := by
          rw [show -9223372036854775808 + D = -(9223372036854775808 - D) by omega, Int.neg_tdiv, Int.tdiv_eq_ediv_of_nonneg (by omega)]
        rw [wrap_i64 (x := -9223372036854775808 + D) (by omega) (by omega), h1, wrap_i64 (by omega) (by omega)]
      refine And.intro rfl (And.intro (by decide) ?_)
      apply And.intro
      · intro hover
        rw [hq1] at hover
        have hcon : ∀ m, -9223372036854775808 ≤ m → m ≤ 9223372036854775807 → ¬ s = Lib.itoa m := fun m m0 m1 hm => by
          obtain ⟨h1, h2, h3⟩ := hstep m hm
          have hnv := hrel m hm
          by_cases hh : s.head? = some 45
          · have := h2 hh; omega
          · have := h3 hh; omega
        apply RunP.condT rfl
        apply RunP.seq
        apply RunP.region
        apply RunP.ret
        exact ⟨rfl, _, rfl, rfl, 0, false, rfl, ⟨by omega, by omega⟩, (fun h => by cases h), fun m m0 m1 hm => absurd hm (hcon m m0 m1)⟩
      intro hfit
      rw [hq1] at hfit
      refine And.intro rfl (And.intro (by decide) ?_)
      apply And.intro
      · intro hunder
        rw [hq2] at hunder
        have hcon : ∀ m, -9223372036854775808 ≤ m → m ≤ 9223372036854775807 → ¬ s = Lib.itoa m := fun m m0 m1 hm => by
          obtain ⟨h1, h2, h3⟩ := hstep m hm
          have hnv := hrel m hm
          by_cases hh : s.head? = some 45
          · have := h2 hh; omega
          · have := h3 hh; omega
        apply RunP.condT rfl
        apply RunP.seq
        apply RunP.region
        apply RunP.ret
        exact ⟨rfl, _, rfl, rfl, 0, false, rfl, ⟨by omega, by omega⟩, (fun h => by cases h), fun m m0 m1 hm => absurd hm (hcon m m0 m1)⟩
      intro hfit2
      rw [hq2] at hfit2
      apply RunP.condF rfl
      apply RunP.seq
      apply RunP.region
      obtain ⟨c0, hc0⟩ : ∃ c0, s[0]? = some c0 := ⟨_, List.getElem?_eq_getElem (by omega)⟩
      have hm10 : IntKind.i64.wrap (10 * n) = 10 * n := wrap_i64 (by omega) (by omega)
      refine And.intro (by omega) (Exists.intro c0 (And.intro hc0 ?_))
      apply And.intro
      · intro h45
        have := b8_eq (c := c0) (d := 45) h45
        subst this
        have hh : s.head? = some 45 := by rw [← hc0, List.head?_eq_getElem?]
        apply RunP.condT rfl
        apply RunP.region
        apply RunP.region
        have he : IntKind.i64.wrap (IntKind.i64.wrap (10 * n) - D) = 10 * n - D := by rw [hm10, wrap_i64 (by omega) (by omega)]
        refine ⟨k - 1, by omega, i + 1, _, _, ⟨by omega, wrap_up i (by omega), by rw [he]; omega, fun m hm => by rw [he, ((hstep m hm).2.1 hh).1, ← hrel m hm]; have := (hstep m hm).1; omega⟩, rfl, rfl, rfl, rfl, rfl, rfl, rfl⟩
      · intro h45
        have n45 := b8_ne (c := c0) (d := 45) h45
        have hh : s.head? ≠ some 45 := by rw [List.head?_eq_getElem?, hc0]; simpa using n45
        apply RunP.condF rfl
        apply RunP.region
        apply RunP.region
        have he : IntKind.i64.wrap (IntKind.i64.wrap (10 * n) + D) = 10 * n + D := by rw [hm10, wrap_i64 (by omega) (by omega)]
        refine ⟨k - 1, by omega, i + 1, _, _, ⟨by omega, wrap_up i (by omega), by rw [he]; omega, fun m hm => by rw [he, ((hstep m hm).2.2 hh).1, ← hrel m hm]; have := (hstep m hm).1; omega⟩, rfl, rfl, rfl, rfl, rfl, rfl, rfl⟩
  · intro hge
    apply RunP.condF rfl
    apply RunP.exit
    have hi : i = s.length := by omega
    rw [hi, List.take_length] at hrel
    have hval : ∀ m, s = Lib.itoa m → n = m := fun m hm => by rw [hrel m hm, hm, sv_itoa]
    apply RunP.seq
    apply RunP.region
    apply And.intro
    · intro he
      apply RunP.ret
      exact ⟨rfl, _, rfl, rfl, n, false, rfl, hnr, (fun h => by cases h), fun m _ _ hm => absurd (hm.symm.trans he) (itoa_ne m)⟩
    · intro he
      refine CallK.of (itoa_has (n := n) _ hnr.1 hnr.2) ?_
      apply And.intro
      · intro heq
        apply RunP.ret
        exact ⟨rfl, _, rfl, rfl, n, true, rfl, hnr, (fun _ => heq.symm), fun m _ _ hm => ⟨hval m hm, rfl⟩⟩
      · intro hne
        apply RunP.ret
        exact ⟨rfl, _, rfl, rfl, n, false, rfl, hnr, (fun h => by cases h), fun m _ _ hm => absurd (by rw [hval m hm]; exact hm.symm) hne⟩
end Go.Proofs.YtnefminojpandaaDoor


/- The reference's reader: what stands between quotation marks; the kind of a name. -/

namespace Go.Proofs.YtnefminojpandaaDoor
open Go.Sb
set_option maxRecDepth 100000

theorem quote_head {t2 rest l : List UInt8} {c : UInt8} (h : quoteB t2 ++ 34 :: rest = c :: l) :
    (t2 = [] ∧ c = 34 ∧ l = rest) ∨ (∃ d t3, t2 = d :: t3 ∧ c = 92 ∧ l = d :: (quoteB t3 ++ 34 :: rest)) ∨ (∃ t3, t2 = c :: t3 ∧ c ≠ 34 ∧ c ≠ 92 ∧ l = quoteB t3 ++ 34 :: rest) := by
  cases t2 with
  | nil =>
    simp only [quoteB, List.flatMap_nil, List.nil_append, List.cons.injEq] at h
    exact .inl ⟨rfl, h.1.symm, h.2.symm⟩
  | cons d t3 =>
    simp only [quoteB, List.flatMap_cons] at h
    split at h
    · simp only [List.cons_append, List.nil_append, List.cons.injEq] at h
      exact .inr (.inl ⟨d, t3, rfl, h.1.symm, by rw [← h.2]; rfl⟩)
    · rename_i hd
      simp only [List.cons_append, List.nil_append, List.cons.injEq] at h
      obtain ⟨rfl, rfl⟩ := h
      exact .inr (.inr ⟨t3, rfl, fun e => hd (.inl e), fun e => hd (.inr e), rfl⟩)

/-- How the reference's quoted stands ahead of a round. -/
def rqI (u : List UInt8) (a : Nat) (k : Nat) (s : List V) (h : Heap) : Prop :=
  ∃ (i : Nat) (z : Int) (o : V) (bs : List UInt8), (i + k = u.length + 1 ∧ z = i ∧ a ≤ i ∧ InRow h 5 1 o (bv bs) ∧ bs.length ≤ i ∧ ∀ t rest, u.drop a = quoteB t ++ 34 :: rest → ∃ t2, t = bs ++ t2 ∧ u.drop i = quoteB t2 ++ 34 :: rest) ∧ s.length = 41 ∧ s.getD 0 und = und ∧ s.getD 1 und = .str u ∧ s.getD 2 und = .int .i64 z ∧ s.getD 5 und = .str [] ∧ s.getD 6 und = .int .i64 0 ∧ s.getD 7 und = .bool false ∧ s.getD 8 und = o
theorem rqI_lit {u : List UInt8} {a : Nat} {k : Nat} {s : List V} {h : Heap} (hI : rqI u a k s h) : ∃ (i : Nat) (z : Int) (o : V) (bs : List UInt8) (x : Nat → V), (i + k = u.length + 1 ∧ z = i ∧ a ≤ i ∧ InRow h 5 1 o (bv bs) ∧ bs.length ≤ i ∧ ∀ t rest, u.drop a = quoteB t ++ 34 :: rest → ∃ t2, t = bs ++ t2 ∧ u.drop i = quoteB t2 ++ 34 :: rest) ∧
    s = [und, .str u, .int .i64 z, x 3, x 4, .str [], .int .i64 0, .bool false, o, x 9, x 10, x 11, x 12, x 13, x 14, x 15, x 16, x 17, x 18, x 19, x 20, x 21, x 22, x 23, x 24, x 25, x 26, x 27, x 28, x 29, x 30, x 31, x 32, x 33, x 34, x 35, x 36, x 37, x 38, x 39, x 40] := by
  obtain ⟨i, z, o, bs, hF, hl, e0, e1, e2, e5, e6, e7, e8⟩ := hI
  refine ⟨i, z, o, bs, fun n => s.getD n und, hF, (lit_of hl).trans ?_⟩
  show [s.getD 0 und, s.getD 1 und, s.getD 2 und, s.getD 3 und, s.getD 4 und, s.getD 5 und, s.getD 6 und, s.getD 7 und, s.getD 8 und, s.getD 9 und, s.getD 10 und, s.getD 11 und, s.getD 12 und, s.getD 13 und, s.getD 14 und, s.getD 15 und, s.getD 16 und, s.getD 17 und, s.getD 18 und, s.getD 19 und, s.getD 20 und, s.getD 21 und, s.getD 22 und, s.getD 23 und, s.getD 24 und, s.getD 25 und, s.getD 26 und, s.getD 27 und, s.getD 28 und, s.getD 29 und, s.getD 30 und, s.getD 31 und, s.getD 32 und, s.getD 33 und, s.getD 34 und, s.getD 35 und, s.getD 36 und, s.getD 37 und, s.getD 38 und, s.getD 39 und, s.getD 40 und] = _
  rw [e0, e1, e2, e5, e6, e7, e8]

set_option maxHeartbeats 4000000 in
theorem rquoted_has (h : Heap) (s : List UInt8) {a : Nat} (ha : a < s.length) (hl : s.length ≤ 2 ^ 38) : ∃ (t : List UInt8) (to : Nat) (ok : Bool), Has env2 .own 107 [.str s, .int .i64 a] h (.val (.tup [.str t, .int .i64 to, .bool ok]) h) ∧ (ok = true → a < to ∧ to ≤ s.length) ∧
    ∀ t' rest, s.drop (a + 1) = quoteB t' ++ 34 :: rest → t = t' ∧ ok = true ∧ to + rest.length = s.length := by
  suffices hs : ∃ w, Has env2 .own 107 [.str s, .int .i64 a] h (.val w h) ∧ ∃ (t : List UInt8) (to : Nat) (ok : Bool), w = .tup [.str t, .int .i64 to, .bool ok] ∧ (ok = true → a < to ∧ to ≤ s.length) ∧
      ∀ t' rest, s.drop (a + 1) = quoteB t' ++ 34 :: rest → t = t' ∧ ok = true ∧ to + rest.length = s.length by
    obtain ⟨w, k1, t, to, ok, rfl, k2⟩ := hs
    exact ⟨t, to, ok, k1, k2⟩
  refine HasP.ownE (a := [.str s, .int .i64 a]) (d := fn107) rfl rfl rfl (of_decide_eq_true rfl) ?_
  apply RunP.seq
  apply RunP.region
  apply RunP.seq
  apply RunP.region
  apply RunP.seq
  apply RunP.seq
  apply RunP.region
  apply RunP.block
  refine RunP.loop (rqI s (a + 1)) ?_ (s.length - a) ⟨a + 1, _, .nils, [], ⟨by omega, wrap_up a (by omega), Nat.le_refl _, .inl ⟨rfl, rfl⟩, by simp, fun t rest h => ⟨t, rfl, h⟩⟩, rfl, rfl, rfl, rfl, rfl, rfl, rfl, rfl⟩
  intro k st g hI
  obtain ⟨i, z, o, bs, x, ⟨hik, hz, hai, hrow, hbs, hrel⟩, rfl⟩ := rqI_lit hI
  clear hI
  subst hz
  have hiz : (0 : Int) ≤ (i : Int) := by omega
  apply RunP.seq
  apply RunP.seq
  apply RunP.region
  apply And.intro
  · intro hlt
    have hi : i < s.length := by omega
    obtain ⟨c, hc⟩ : ∃ c, s[i]? = some c := ⟨_, List.getElem?_eq_getElem hi⟩
    have hw : IntKind.i64.wrap ((i : Int) + 1) = ((i + 1 : Nat) : Int) := wrap_up i (by omega)
    have hdc := drop_cons hc
    apply RunP.condT rfl
    apply RunP.skip
    apply RunP.seq
    apply RunP.block
    apply RunP.seq
    apply RunP.seq
    apply RunP.region
    refine And.intro hiz (Exists.intro c (And.intro hc ?_))
    apply RunP.block
    apply RunP.seq
    apply RunP.region
    apply And.intro
    · intro h34
      have := b8_eq (c := c) (d := 34) h34
      subst this
      apply RunP.condT rfl
      apply RunP.seq
      apply RunP.region
      refine bindP_of (conv_bytes hrow) ?_
      apply RunP.ret
      refine ⟨rfl, _, rfl, rfl, bs, i + 1, true, by rw [← hw]; rfl, fun _ => by omega, fun t' rest ht => ?_⟩
      obtain ⟨t2, e1, e2⟩ := hrel t' rest ht
      rw [hdc] at e2
      rcases quote_head e2.symm with ⟨rfl, _, hr⟩ | ⟨d, t3, _, hn, _⟩ | ⟨t3, _, hn, _, _⟩
      · refine ⟨by simpa using e1.symm, rfl, ?_⟩
        rw [← hr]; simp; omega
      · exact absurd hn (by decide)
      · exact absurd rfl hn
    · intro h34
      have n34 := b8_ne (c := c) (d := 34) h34
      apply RunP.condF rfl
      apply RunP.seq
      apply RunP.region
      apply And.intro
      · intro h92
        have := b8_eq (c := c) (d := 92) h92
        subst this
        apply RunP.condT rfl
        apply RunP.region
        apply RunP.seq
        apply RunP.region
        apply And.intro
        · intro hlt2
          rw [hw] at hlt2
          obtain ⟨d, hd⟩ : ∃ d, s[i + 1]? = some d := ⟨_, List.getElem?_eq_getElem (by omega)⟩
          apply RunP.condT rfl
          apply RunP.region
          refine And.intro (by rw [hw]; omega) (Exists.intro d (And.intro (by rw [hw]; exact hd) ?_))
          obtain ⟨o', g2, a1, a2, a3, a4⟩ := append_row (E := env2) (t := 58) (T := 5) (e := 1) (es' := bv [d]) (k := 1) rfl rfl rfl rfl (by omega) (hrow.push (.cells 5 [.int .u8 d.toNat])) (by rw [bv_cells]; simp) (by rw [bv_cells]; exact contents_last (n := 1) _ 5 [.int .u8 d.toNat] rfl) rfl (roomy_b (by simp only [bv, List.length_map, List.length_cons, List.length_nil]; omega))
          refine bindR_of (congrArg valH a1) ?_
          have a2' : InRow g2 5 1 o' (bv (bs ++ [d])) := by
            have : bv bs ++ bv [d] = bv (bs ++ [d]) := by simp [bv]
            rw [← this]; exact a2
          apply RunP.region
          refine ⟨k - 2, by omega, i + 1 + 1, _, o', bs ++ [d], ⟨by omega, by rw [hw]; exact wrap_up (i + 1) (by omega), by omega, a2', by simp; omega, fun t rest ht => ?_⟩, rfl, rfl, rfl, rfl, rfl, rfl, rfl, rfl⟩
          obtain ⟨t2, e1, e2⟩ := hrel t rest ht
          rw [hdc, drop_cons hd] at e2
          rcases quote_head e2.symm with ⟨_, hn, _⟩ | ⟨d', t3, rfl, _, hr⟩ | ⟨t3, _, _, hn, _⟩
          · exact absurd hn (by decide)
          · simp only [List.cons.injEq] at hr
            obtain ⟨rfl, hr⟩ := hr
            exact ⟨t3, by rw [e1]; simp, hr⟩
          · exact absurd rfl hn
        · intro hge2
          rw [hw] at hge2
          apply RunP.condF rfl
          apply RunP.skip
          apply RunP.region
          refine ⟨k - 2, by omega, i + 1 + 1, _, o, bs, ⟨by omega, by rw [hw]; exact wrap_up (i + 1) (by omega), by omega, hrow, by omega, fun t rest ht => ?_⟩, rfl, rfl, rfl, rfl, rfl, rfl, rfl, rfl⟩
          obtain ⟨t2, e1, e2⟩ := hrel t rest ht
          rw [hdc, List.drop_eq_nil_of_le (by omega)] at e2
          rcases quote_head e2.symm with ⟨_, hn, _⟩ | ⟨d', t3, _, _, hr⟩ | ⟨t3, _, _, hn, _⟩
          · exact absurd hn (by decide)
          · cases hr
          · exact absurd rfl hn
      · intro h92
        have n92 := b8_ne (c := c) (d := 92) h92
        apply RunP.condF rfl
        apply RunP.skip
        apply RunP.seq
        apply RunP.region
        refine And.intro (fun _ => ?_) (fun hn => by omega)
        apply RunP.condT rfl
        apply RunP.region
        refine And.intro hiz (Exists.intro c (And.intro hc ?_))
        obtain ⟨o', g2, a1, a2, a3, a4⟩ := append_row (E := env2) (t := 58) (T := 5) (e := 1) (es' := bv [c]) (k := 1) rfl rfl rfl rfl (by omega) (hrow.push (.cells 5 [.int .u8 c.toNat])) (by rw [bv_cells]; simp) (by rw [bv_cells]; exact contents_last (n := 1) _ 5 [.int .u8 c.toNat] rfl) rfl (roomy_b (by simp only [bv, List.length_map, List.length_cons, List.length_nil]; omega))
        refine bindR_of (congrArg valH a1) ?_
        have a2' : InRow g2 5 1 o' (bv (bs ++ [c])) := by
          have : bv bs ++ bv [c] = bv (bs ++ [c]) := by simp [bv]
          rw [← this]; exact a2
        apply RunP.region
        refine ⟨k - 1, by omega, i + 1, _, o', bs ++ [c], ⟨by omega, hw, by omega, a2', by simp; omega, fun t rest ht => ?_⟩, rfl, rfl, rfl, rfl, rfl, rfl, rfl, rfl⟩
        obtain ⟨t2, e1, e2⟩ := hrel t rest ht
        rw [hdc] at e2
        rcases quote_head e2.symm with ⟨_, hn, _⟩ | ⟨d', t3, _, hn, _⟩ | ⟨t3, rfl, _, _, hr⟩
        · exact absurd hn n34
        · exact absurd hn n92
        · exact ⟨t3, by rw [e1]; simp, hr⟩
  · intro hge
    apply RunP.condF rfl
    apply RunP.exit
    apply RunP.seq
    apply RunP.region
    apply RunP.ret
    refine ⟨rfl, _, rfl, rfl, [], i, false, rfl, (fun h => by cases h), fun t' rest ht => ?_⟩
    obtain ⟨t2, e1, e2⟩ := hrel t' rest ht
    rw [List.drop_eq_nil_of_le (by omega)] at e2
    have := congrArg List.length e2
    simp at this

/-- How the reference's kind stands ahead of a round. -/
def rkI (w : List UInt8) (k : Nat) (s : List V) (h : Heap) : Prop :=
  ∃ (i : Nat) (z : Int), (i + k = 23 ∧ z = i ∧ 1 ≤ i ∧ ∀ j : Nat, 1 ≤ j → j < i → nameB (j : Int) ≠ w) ∧ s.length = 14 ∧ s.getD 0 und = und ∧ s.getD 1 und = .str w ∧ s.getD 3 und = .int .i64 0 ∧ s.getD 4 und = .int .i64 z
theorem rkI_lit {w : List UInt8} {k : Nat} {s : List V} {h : Heap} (hI : rkI w k s h) : ∃ (i : Nat) (z : Int) (x : Nat → V), (i + k = 23 ∧ z = i ∧ 1 ≤ i ∧ ∀ j : Nat, 1 ≤ j → j < i → nameB (j : Int) ≠ w) ∧
    s = [und, .str w, x 2, .int .i64 0, .int .i64 z, x 5, x 6, x 7, x 8, x 9, x 10, x 11, x 12, x 13] := by
  obtain ⟨i, z, hF, hl, e0, e1, e3, e4⟩ := hI
  refine ⟨i, z, fun n => s.getD n und, hF, (lit_of hl).trans ?_⟩
  show [s.getD 0 und, s.getD 1 und, s.getD 2 und, s.getD 3 und, s.getD 4 und, s.getD 5 und, s.getD 6 und, s.getD 7 und, s.getD 8 und, s.getD 9 und, s.getD 10 und, s.getD 11 und, s.getD 12 und, s.getD 13 und] = _
  rw [e0, e1, e3, e4]

theorem rkind_has (h : Heap) (w : List UInt8) : ∃ q : Int, Has env2 .own 85 [.str w] h (.val (.int .i64 q) h) ∧ ∀ k', 1 ≤ k' → k' ≤ 22 → w = nameB k' → q = k' := by
  suffices hs : ∃ v, Has env2 .own 85 [.str w] h (.val v h) ∧ ∃ q : Int, v = .int .i64 q ∧ ∀ k', 1 ≤ k' → k' ≤ 22 → w = nameB k' → q = k' by
    obtain ⟨v, k1, q, rfl, k2⟩ := hs
    exact ⟨q, k1, k2⟩
  refine HasP.ownE (a := [.str w]) (d := fn85) rfl rfl rfl (of_decide_eq_true rfl) ?_
  apply RunP.seq
  apply RunP.region
  apply RunP.seq
  apply RunP.seq
  apply RunP.region
  apply RunP.block
  refine RunP.loop (rkI w) ?_ 22 ⟨1, _, ⟨by omega, rfl, Nat.le_refl _, fun j h1 h2 => by omega⟩, rfl, rfl, rfl, rfl, rfl⟩
  intro k st g hI
  obtain ⟨i, z, x, ⟨hik, hz, hi1, hrel⟩, rfl⟩ := rkI_lit hI
  clear hI
  subst hz
  apply RunP.seq
  apply RunP.seq
  apply RunP.region
  apply And.intro
  · intro hle
    apply RunP.condT rfl
    apply RunP.skip
    apply RunP.seq
    apply RunP.block
    apply RunP.seq
    apply RunP.region
    refine CallK.of (name_has _ (k := (i : Int)) (by omega) (by omega)) ?_
    apply And.intro
    · intro he
      apply RunP.condT rfl
      apply RunP.seq
      apply RunP.region
      apply RunP.ret
      refine ⟨rfl, _, rfl, rfl, _, rfl, fun k' h1 h2 hk => ?_⟩
      have e1 := (kindR_nameB (k := (i : Int)) (by omega) (by omega)).1
      rw [he, hk, (kindR_nameB h1 h2).1] at e1
      exact e1.symm
    · intro he
      apply RunP.condF rfl
      apply RunP.skip
      apply RunP.region
      refine ⟨k - 1, by omega, i + 1, _, ⟨by omega, wrap_up i (by omega), by omega, fun j h1 h2 => ?_⟩, rfl, rfl, rfl, rfl, rfl⟩
      by_cases hj : j = i
      · subst hj; exact he
      · exact hrel j h1 (by omega)
  · intro hgt
    apply RunP.condF rfl
    apply RunP.exit
    apply RunP.seq
    apply RunP.region
    apply RunP.ret
    refine ⟨rfl, _, rfl, rfl, _, rfl, fun k' h1 h2 hk => ?_⟩
    have := hrel k'.toNat (by omega) (by omega)
    rw [show ((k'.toNat : Nat) : Int) = k' by omega] at this
    exact absurd hk.symm this
end Go.Proofs.YtnefminojpandaaDoor

