/- Seat 13: the law PackCounted. -/
import Derived.Test.YtekmafoicobphaaDoorSbReadNum13
set_option linter.unusedVariables false
set_option linter.unusedSimpArgs false
namespace Go.Proofs.YtekmafoicobphaaDoor
open Go.Sb
set_option maxRecDepth 100000

theorem byte_lo {n : Nat} (h : n ≤ 127) : (UInt8.ofNat n).toNat = n := by simp; omega
theorem byte_hi (n : Nat) : (UInt8.ofNat (128 + n % 128)).toNat = 128 + n % 128 := by simp; omega

theorem numB_mono : ∀ (m n : Nat), m ≤ n → (numB m).length ≤ (numB n).length := by
  intro m
  induction m using Nat.strongRecOn with
  | _ m ih =>
    intro n hmn
    by_cases hm : m ≤ 127
    · rw [numB_lo hm]
      have := numB_pos n
      simp; omega
    · rw [numB_hi (by omega), numB_hi (show 127 < n by omega), List.length_cons, List.length_cons]
      have := ih (m / 128) (by omega) (n / 128) (Nat.div_le_div_right hmn)
      omega

/-- The last byte is less than 128, all others are not. -/
theorem numB_last : ∀ (n i : Nat) (c : UInt8), (numB n)[i]? = some c → (c.toNat < 128 ↔ i + 1 = (numB n).length) := by
  intro n
  induction n using Nat.strongRecOn with
  | _ n ih =>
    intro i c hc
    by_cases hn : n ≤ 127
    · rw [numB_lo hn] at hc ⊢
      cases i with
      | zero => simp at hc; subst hc; rw [byte_lo hn]; simp; omega
      | succ i => simp at hc
    · rw [numB_hi (by omega)] at hc ⊢
      cases i with
      | zero =>
        simp only [List.getElem?_cons_zero, Option.some.injEq] at hc
        subst hc
        rw [byte_hi]
        have := numB_pos (n / 128)
        simp only [List.length_cons]; omega
      | succ i =>
        have := ih (n / 128) (by omega) i c (by simpa using hc)
        simp only [List.length_cons]; omega

/-- What is read of a number's bytes. -/
theorem rd_numB (t : List UInt8) : ∀ (n out place : Nat), (0 < n ∨ place = 1) → 1 ≤ place → out + n * place ≤ 2 ^ 60 → rdN (numB n ++ t) out place = some (out + n * place, (numB n).length) := by
  intro n
  induction n using Nat.strongRecOn with
  | _ n ih =>
    intro out place h0 h1 h2
    by_cases hn : n ≤ 127
    · rw [numB_lo hn]
      show rdN (UInt8.ofNat n :: t) out place = _
      simp only [rdN, byte_lo hn]
      have hm : n % 128 = n := by omega
      have hpl : n = 0 ∨ place ≤ n * place := by
        rcases Nat.eq_zero_or_pos n with h | h
        · exact .inl h
        · exact .inr (Nat.le_mul_of_pos_left place h)
      rw [hm, if_pos (by
        rcases hpl with h | h
        · exact .inl h
        · exact .inr ⟨by omega, (Nat.le_div_iff_mul_le (by omega)).2 (by omega)⟩), if_pos (by omega), if_pos h0]
      rfl
    · rw [numB_hi (by omega), List.cons_append]
      simp only [rdN, byte_hi]
      have hdm : n = 128 * (n / 128) + n % 128 := by omega
      have hmul : n * place = n / 128 * (place * 128) + n % 128 * place := by
        calc n * place = (128 * (n / 128) + n % 128) * place := by rw [← hdm]
          _ = n / 128 * (place * 128) + n % 128 * place := by rw [Nat.add_mul]; congr 1; rw [Nat.mul_comm 128, Nat.mul_assoc, Nat.mul_comm 128 place]
      have hge : 128 * place ≤ n * place := Nat.mul_le_mul_right place (by omega)
      have hm : (128 + n % 128) % 128 = n % 128 := by omega
      rw [hm, if_pos (.inr ⟨by omega, (Nat.le_div_iff_mul_le (by omega)).2 (by omega)⟩), if_neg (by omega), if_pos (by omega)]
      rw [ih (n / 128) (by omega) _ _ (.inl (by omega)) (by omega) (by omega)]
      simp only [Option.map_some, List.length_cons, Option.some.injEq, Prod.mk.injEq, and_true]
      omega

theorem rd_cut : ∀ (n out place : Nat), rdN ((numB n).take ((numB n).length - 1)) out place = none := by
  intro n
  induction n using Nat.strongRecOn with
  | _ n ih =>
    intro out place
    by_cases hn : n ≤ 127
    · rw [numB_lo hn]; rfl
    · rw [numB_hi (by omega)]
      have hp := numB_pos (n / 128)
      rw [List.length_cons, Nat.add_sub_cancel]
      obtain ⟨m, hm⟩ : ∃ m, (numB (n / 128)).length = m + 1 := ⟨(numB (n / 128)).length - 1, by omega⟩
      have := ih (n / 128) (by omega)
      rw [hm, Nat.add_sub_cancel] at this
      rw [hm, List.take_succ_cons]
      simp only [rdN, this, Option.map_none]
      repeat' split
      all_goals first | rfl | (exfalso; rw [byte_hi] at *; omega) | skip

theorem mod_has (h : Heap) (z : Int) (hz : -9223372036854775808 ≤ z ∧ z ≤ 9223372036854775807) : ∃ m : Nat, m ≤ 2 ^ 60 ∧ Has envQ .own 5 [.int .i64 z, .int .i64 1152921504606846977] h (.val (.int .i64 m) h) := by
  have h1 : IntKind.u64.wrap z = z % 18446744073709551616 := by simp [IntKind.wrap, IntKind.signed, IntKind.bits]
  have h2 : IntKind.u64.wrap 1152921504606846977 = 1152921504606846977 := by decide
  obtain ⟨m, hm⟩ : ∃ m : Nat, (z % 18446744073709551616) % 1152921504606846977 = m := ⟨((z % 18446744073709551616) % 1152921504606846977).toNat, by omega⟩
  refine ⟨m, by omega, ?_⟩
  refine HasP.own (a := [.int .i64 z, .int .i64 1152921504606846977]) (d := fn5) rfl rfl rfl (of_decide_eq_true rfl) ?_
  apply RunP.seq
  apply RunP.region
  apply RunP.seq
  apply RunP.region
  refine And.intro rfl (And.intro (by rw [h2]; decide) ?_)
  apply RunP.ret
  have e : IntKind.i64.wrap ((IntKind.u64.wrap z).tmod (IntKind.u64.wrap 1152921504606846977)) = (m : Int) := by
    rw [h1, h2, Int.tmod_eq_emod_of_nonneg (by omega), hm, wrapS (by omega) (by omega)]
  exact ⟨rfl, congrArg (fun z => some (V.int IntKind.i64 z)) e, rfl⟩

/-- How the law stands ahead of a round. -/
def pcI (u be : List UInt8) (n : Nat) (k : Nat) (s : List V) (h : Heap) : Prop :=
  ∃ (i : Nat) (z : Int), (i + k = u.length ∧ z = i) ∧ s.length = 111 ∧ s.getD 0 und = und ∧ s.getD 1 und = .int .i64 n ∧ s.getD 2 und = .str be ∧ s.getD 5 und = .bool false ∧ s.getD 6 und = .str u ∧ s.getD 10 und = .int .i64 z
theorem pcI_lit {u be : List UInt8} {n : Nat} {k : Nat} {s : List V} {h : Heap} (hI : pcI u be n k s h) : ∃ (i : Nat) (z : Int) (x : Nat → V), (i + k = u.length ∧ z = i) ∧
    s = [und, .int .i64 n, .str be, x 3, x 4, .bool false, .str u, x 7, x 8, x 9, .int .i64 z, x 11, x 12, x 13, x 14, x 15, x 16, x 17, x 18, x 19, x 20, x 21, x 22, x 23, x 24, x 25, x 26, x 27, x 28, x 29, x 30, x 31, x 32, x 33, x 34, x 35, x 36, x 37, x 38, x 39, x 40, x 41, x 42, x 43, x 44, x 45, x 46, x 47, x 48, x 49, x 50, x 51, x 52, x 53, x 54, x 55, x 56, x 57, x 58, x 59, x 60, x 61, x 62, x 63, x 64, x 65, x 66, x 67, x 68, x 69, x 70, x 71, x 72, x 73, x 74, x 75, x 76, x 77, x 78, x 79, x 80, x 81, x 82, x 83, x 84, x 85, x 86, x 87, x 88, x 89, x 90, x 91, x 92, x 93, x 94, x 95, x 96, x 97, x 98, x 99, x 100, x 101, x 102, x 103, x 104, x 105, x 106, x 107, x 108, x 109, x 110] := by
  obtain ⟨i, z, hF, hl, e0, e1, e2, e5, e6, e10⟩ := hI
  refine ⟨i, z, fun n => s.getD n und, hF, (lit_of hl).trans ?_⟩
  show [s.getD 0 und, s.getD 1 und, s.getD 2 und, s.getD 3 und, s.getD 4 und, s.getD 5 und, s.getD 6 und, s.getD 7 und, s.getD 8 und, s.getD 9 und, s.getD 10 und, s.getD 11 und, s.getD 12 und, s.getD 13 und, s.getD 14 und, s.getD 15 und, s.getD 16 und, s.getD 17 und, s.getD 18 und, s.getD 19 und, s.getD 20 und, s.getD 21 und, s.getD 22 und, s.getD 23 und, s.getD 24 und, s.getD 25 und, s.getD 26 und, s.getD 27 und, s.getD 28 und, s.getD 29 und, s.getD 30 und, s.getD 31 und, s.getD 32 und, s.getD 33 und, s.getD 34 und, s.getD 35 und, s.getD 36 und, s.getD 37 und, s.getD 38 und, s.getD 39 und, s.getD 40 und, s.getD 41 und, s.getD 42 und, s.getD 43 und, s.getD 44 und, s.getD 45 und, s.getD 46 und, s.getD 47 und, s.getD 48 und, s.getD 49 und, s.getD 50 und, s.getD 51 und, s.getD 52 und, s.getD 53 und, s.getD 54 und, s.getD 55 und, s.getD 56 und, s.getD 57 und, s.getD 58 und, s.getD 59 und, s.getD 60 und, s.getD 61 und, s.getD 62 und, s.getD 63 und, s.getD 64 und, s.getD 65 und, s.getD 66 und, s.getD 67 und, s.getD 68 und, s.getD 69 und, s.getD 70 und, s.getD 71 und, s.getD 72 und, s.getD 73 und, s.getD 74 und, s.getD 75 und, s.getD 76 und, s.getD 77 und, s.getD 78 und, s.getD 79 und, s.getD 80 und, s.getD 81 und, s.getD 82 und, s.getD 83 und, s.getD 84 und, s.getD 85 und, s.getD 86 und, s.getD 87 und, s.getD 88 und, s.getD 89 und, s.getD 90 und, s.getD 91 und, s.getD 92 und, s.getD 93 und, s.getD 94 und, s.getD 95 und, s.getD 96 und, s.getD 97 und, s.getD 98 und, s.getD 99 und, s.getD 100 und, s.getD 101 und, s.getD 102 und, s.getD 103 und, s.getD 104 und, s.getD 105 und, s.getD 106 und, s.getD 107 und, s.getD 108 und, s.getD 109 und, s.getD 110 und] = _
  rw [e0, e1, e2, e5, e6, e10]

set_option maxHeartbeats 8000000 in
theorem packCounted_has (z : Int) (hz : -9223372036854775808 ≤ z ∧ z ≤ 9223372036854775807) (be : List UInt8) : Has envQ .own 3 [.int .i64 z, .str be] [] (.val (.bool true) []) := by
  obtain ⟨n, hn, hmod⟩ := mod_has [] z hz
  have hl1 := numB_len 8 n (by omega)
  have hl2 := numB_mono n (n + 1) (by omega)
  have hl3 := numB_pos n
  have hl4 := numB_len 8 (n + 1) (by omega)
  refine HasP.own (a := [.int .i64 z, .str be]) (d := fn3) rfl rfl rfl (of_decide_eq_true rfl) ?_
  apply RunP.seq
  apply RunP.region
  apply RunP.seq
  apply RunP.region
  refine CallK.of hmod ?_
  apply RunP.seq
  apply RunP.region
  refine CallK.of (numberN_has _ n (by omega)) ?_
  apply RunP.seq
  apply RunP.region
  have en : V.int IntKind.i64 (IntKind.i64.wrap ((n : Int) + 1)) = V.int IntKind.i64 ((n + 1 : Nat) : Int) := by rw [wrap_up n (by omega)]
  have hc2 := numberN_has [] (n + 1) (by omega)
  rw [← en] at hc2
  refine CallK.of hc2 ?_
  apply RunP.seq
  apply RunP.seq
  apply RunP.region
  refine And.intro (fun _ => ?_) (fun h0 => absurd rfl h0)
  refine And.intro (fun _ => ?_) (fun h0 => absurd rfl h0)
  refine And.intro (fun h0 => by omega) (fun _ => ?_)
  refine And.intro (fun h0 => by omega) (fun _ => ?_)
  refine And.intro (fun h0 => by omega) (fun _ => ?_)
  apply RunP.condF rfl
  apply RunP.skip
  have hnb : ∀ (i : Nat) (c : UInt8), (numB n)[i]? = some c → (c.toNat < 128 ↔ i + 1 = (numB n).length) := numB_last n
  have hr1 : ∀ h t, t.length ≤ 10 → Has envQ .own 7 [.str (numB n ++ t)] h (.val (.tup [.int .i64 n, .int .i64 (numB n).length, .int .i64 0]) h) := fun h t ht => by
    have := readNum_has h (u := numB n ++ t) (by simp; omega)
    rw [rd_numB t n 0 1 (.inr rfl) (by omega) (by omega)] at this
    simpa using this
  have hr2 : ∀ h, Has envQ .own 7 [.str ((numB n).take ((numB n).length - 1))] h (.val (.tup [.int .i64 0, .int .i64 0, .int .i64 31]) h) := fun h => by
    have := readNum_has h (u := (numB n).take ((numB n).length - 1)) (by simp; omega)
    rw [rd_cut n 0 1] at this
    exact this
  generalize numB n = u at *
  apply RunP.seq
  apply RunP.seq
  apply RunP.region
  apply RunP.block
  refine RunP.loop (pcI u be n) ?_ u.length ⟨0, _, ⟨by omega, rfl⟩, rfl, rfl, rfl, rfl, rfl, rfl, rfl⟩
  intro k st g hI
  obtain ⟨i, zz, x, ⟨hik, hzz⟩, rfl⟩ := pcI_lit hI
  clear hI
  subst hzz
  apply RunP.seq
  apply RunP.seq
  apply RunP.region
  apply And.intro
  · intro hlt
    have hi : i < u.length := by omega
    obtain ⟨c, hc⟩ : ∃ c, u[i]? = some c := ⟨_, List.getElem?_eq_getElem hi⟩
    have hiff := hnb i c hc
    apply RunP.condT rfl
    apply RunP.skip
    apply RunP.seq
    apply RunP.block
    apply RunP.seq
    apply RunP.region
    refine And.intro (by omega) (Exists.intro c (And.intro hc ?_))
    have ew : IntKind.i64.wrap ((u.length : Int) - 1) = (u.length : Int) - 1 := wrapS (by omega) (by omega)
    refine And.intro (fun h1 => ?_) (fun h1 => ?_)
    · refine And.intro (fun h2 => ?_) (fun h2 => ?_)
      · apply RunP.condF rfl
        apply RunP.skip
        apply RunP.region
        exact ⟨k - 1, by omega, i + 1, _, ⟨by omega, wrap_up i (by omega)⟩, rfl, rfl, rfl, rfl, rfl, rfl, rfl⟩
      · rw [ew] at h2; omega
    · refine And.intro (fun h2 => ?_) (fun h2 => ?_)
      · rw [ew] at h2; omega
      · apply RunP.condF rfl
        apply RunP.skip
        apply RunP.region
        exact ⟨k - 1, by omega, i + 1, _, ⟨by omega, wrap_up i (by omega)⟩, rfl, rfl, rfl, rfl, rfl, rfl, rfl⟩
  · intro hge
    apply RunP.condF rfl
    apply RunP.exit
    apply RunP.seq
    apply RunP.region
    apply And.intro
    · split <;> omega
    apply And.intro
    · split <;> omega
    have ht : ((List.drop 0 (List.take (if (10 : Int) < (be.length : Int) then (10 : Int) else (be.length : Int)).toNat be)).length : Int) ≤ 10 := by
      rw [List.drop_zero, List.length_take]
      split <;> omega
    generalize List.drop 0 (List.take (if (10 : Int) < (be.length : Int) then (10 : Int) else (be.length : Int)).toNat be) = w at ht ⊢
    refine And.intro (by omega) ?_
    refine CallK.of (hr1 _ w (by omega)) ?_
    apply RunP.seq
    apply RunP.region
    have ew : IntKind.i64.wrap ((u.length : Int) - 1) = (u.length : Int) - 1 := wrapS (by omega) (by omega)
    have et : List.drop 0 (List.take (IntKind.i64.wrap ((u.length : Int) - 1)).toNat u) = u.take (u.length - 1) := by
      rw [ew, List.drop_zero]; congr 1; omega
    refine And.intro (by rw [ew]; omega) (And.intro ⟨Nat.zero_le _, by rw [ew]; omega⟩ ?_)
    refine CallK.of (args := [.str (List.drop 0 (List.take (IntKind.i64.wrap ((u.length : Int) - 1)).toNat u))]) (by rw [et]; exact hr2 _) ?_
    apply RunP.seq
    apply RunP.region
    refine And.intro (fun _ => ?_) (fun h0 => absurd rfl h0)
    refine And.intro (fun _ => ?_) (fun h0 => absurd rfl h0)
    refine And.intro (fun _ => ?_) (fun h0 => absurd rfl h0)
    refine And.intro (fun _ => ?_) (fun h0 => absurd rfl h0)
    refine CallK.of (awake_told _) ?_
    apply RunP.ret
    exact ⟨rfl, rfl, rfl⟩
end Go.Proofs.YtekmafoicobphaaDoor
