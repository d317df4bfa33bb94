/- Seat 13: the reference's bytes of a number, its Sum, its ReadNumber. -/
import Derived.Test.YtekmafoicobphaaGreatDoorSb13ReadNum
set_option linter.unusedVariables false
set_option linter.unusedSimpArgs false
namespace Go.Proofs.YtekmafoicobphaaGreatDoor
open Go.Sb
set_option maxRecDepth 100000

theorem wrapU {x : Int} (h0 : 0 ≤ x) (h1 : x < 18446744073709551616) : IntKind.u64.wrap x = x := by
  simp [IntKind.wrap, IntKind.signed, IntKind.bits]; omega
def rnuI (h0 : Heap) (pre : List UInt8) (n : Nat) (k : Nat) (s : List V) (h : Heap) : Prop :=
  ∃ (o : V) (z : Int) (q : List UInt8), (z = k ∧ k < 2 ^ 63 ∧ InRow h 5 1 o (bv q) ∧ q ++ numB k = pre ++ numB n ∧ KeepB h0 h) ∧ s.length = 22 ∧ s.getD 0 und = und ∧ s.getD 1 und = o ∧ s.getD 2 und = .int .u64 z ∧ s.getD 5 und = .nils
theorem rnuI_lit {h0 : Heap} {pre : List UInt8} {n : Nat} {k : Nat} {s : List V} {h : Heap} (hI : rnuI h0 pre n k s h) : ∃ (o : V) (z : Int) (q : List UInt8) (x : Nat → V), (z = k ∧ k < 2 ^ 63 ∧ InRow h 5 1 o (bv q) ∧ q ++ numB k = pre ++ numB n ∧ KeepB h0 h) ∧
    s = [und, o, .int .u64 z, x 3, x 4, .nils, x 6, x 7, x 8, x 9, x 10, x 11, x 12, x 13, x 14, x 15, x 16, x 17, x 18, x 19, x 20, x 21] := by
  obtain ⟨o, z, q, hF, hl, e0, e1, e2, e5⟩ := hI
  refine ⟨o, z, q, fun n => s.getD n und, hF, (lit_of hl).trans ?_⟩
  show [s.getD 0 und, s.getD 1 und, s.getD 2 und, s.getD 3 und, s.getD 4 und, s.getD 5 und, s.getD 6 und, s.getD 7 und, s.getD 8 und, s.getD 9 und, s.getD 10 und, s.getD 11 und, s.getD 12 und, s.getD 13 und, s.getD 14 und, s.getD 15 und, s.getD 16 und, s.getD 17 und, s.getD 18 und, s.getD 19 und, s.getD 20 und, s.getD 21 und] = _
  rw [e0, e1, e2, e5]

set_option maxHeartbeats 2000000 in
theorem refnumber_run {h : Heap} {o : V} {pre : List UInt8} (hr : InRow h 5 1 o (bv pre)) (n : Nat) (hn : n < 2 ^ 63) (hl : pre.length ≤ 2 ^ 39) :
    RunP envQ fn37.md fn37.body (initT 21 [o, .int .u64 n]) h (endK envQ fn37 fun w g => InRow g 5 1 w (bv (pre ++ numB n)) ∧ KeepB h g) := by
  apply RunP.seq
  apply RunP.region
  apply RunP.seq
  apply RunP.block
  refine RunP.loop (rnuI h pre n) ?_ n ⟨o, _, pre, ⟨rfl, hn, hr, rfl, KeepB.refl h⟩, rfl, rfl, rfl, rfl, rfl⟩
  intro k st g hI
  obtain ⟨o, z, q, x, ⟨hz, hk, hrow, hq, hkeep⟩, rfl⟩ := rnuI_lit hI
  clear hI
  subst hz
  have hql : q.length + (numB k).length = pre.length + (numB n).length := by
    have := congrArg List.length hq; simpa using this
  have hnl := numB_len 9 n (by omega)
  have hkp := numB_pos k
  apply RunP.seq
  apply RunP.seq
  apply RunP.region
  apply And.intro
  · intro hgt
    have hk7 : 127 < k := by omega
    repeat (first | apply RunP.seq | apply RunP.region | apply RunP.condT rfl | apply RunP.condF rfl | apply RunP.skip | apply RunP.block | apply RunP.exit | apply RunP.ret)
    refine And.intro rfl (And.intro (by decide) ?_)
    have e1 : IntKind.u8.wrap (IntKind.u64.wrap (128 + (k : Int).tmod 128)) = ((UInt8.ofNat (128 + k % 128)).toNat : Int) := by
      rw [Int.tmod_eq_emod_of_nonneg (by omega), wrapU (by omega) (by omega), wrap8 _ (by omega) (by omega)]
      rw [show ((128 : Int) + (k : Int) % 128).toNat = 128 + k % 128 from by omega]
    obtain ⟨v', g', a1, a2, a3⟩ := append_byte e1 hrow (by omega)
    refine bindR_of (congrArg valH a1) ?_
    apply RunP.region
    refine And.intro rfl (And.intro (by decide) ?_)
    refine ⟨k / 128, by omega, v', _, q ++ [UInt8.ofNat (128 + k % 128)], ⟨?_, by omega, a2, ?_, hkeep.trans a3⟩, rfl, rfl, rfl, rfl, rfl⟩
    · rw [Int.tdiv_eq_ediv_of_nonneg (by omega), wrapU (by omega) (by omega)]; omega
    · rw [← hq, numB_hi hk7]; simp
  · intro hle
    have hk7 : k ≤ 127 := by omega
    apply RunP.condF rfl
    apply RunP.exit
    apply RunP.seq
    apply RunP.region
    have e1 : IntKind.u8.wrap (k : Int) = ((UInt8.ofNat k).toNat : Int) := by
      rw [wrap8 _ (by omega) (by omega)]; rfl
    obtain ⟨v', g', a1, a2, a3⟩ := append_byte e1 hrow (by omega)
    refine bindR_of (congrArg valH a1) ?_
    apply RunP.ret
    refine ⟨rfl, ?_, hkeep.trans a3⟩
    rw [← hq, numB_lo hk7]
    exact a2

theorem refnumber_has (h : Heap) (n : Nat) (hn : n < 2 ^ 63) : Has envQ .own 37 [.nils, .int .u64 n] h (.val (.lst 1 (bv (numB n))) h) := by
  refine HasP.own (a := [.nils, .int .u64 n]) (d := fn37) rfl rfl rfl (of_decide_eq_true rfl) ?_
  rw [forceL_iff]
  have := refnumber_run (h := []) (o := .nils) (pre := []) (.inl ⟨rfl, rfl⟩) n hn (by decide)
  obtain ⟨e, s', g, h1, h2⟩ := this.ok
  refine ⟨e, s', g, ?_, h2⟩
  have fin : ∀ w, InRow g 5 1 w (bv ([] ++ numB n)) → fz envQ g depthF w = some (.lst 1 (bv (numB n))) ∧ (V.norefs [.nils, .int .u64 n] || V.flat (.lst 1 (bv (numB n)))) = true := fun w hw =>
    ⟨fz_bytes (n := 10) hw (rfl : envQ.ty 5 = some ty5) rfl rfl (by intro hh; have := numB_pos n; rw [hh] at this; simp at this), rfl⟩
  cases e with
  | normal => obtain ⟨k1, k2⟩ := h1; obtain ⟨v, k3, k4⟩ := bindK_to k2; exact ⟨k1, bindK_of k3 (fin v k4.1)⟩
  | ret => obtain ⟨k1, k2⟩ := h1; obtain ⟨v, k3, k4⟩ := bindK_to k2; exact ⟨k1, bindK_of k3 (fin v k4.1)⟩
  | _ => exact (show False from h1).elim

theorem refNumber_has (h : Heap) (n : Nat) (hn : n < 2 ^ 63) : Has envQ .own 19 [.int .i64 n] h (.val (.str (numB n)) h) := by
  refine HasP.own (a := [.int .i64 n]) (d := fn19) rfl rfl rfl (of_decide_eq_true rfl) ?_
  have hc := refnumber_has [] n hn
  have e : IntKind.u64.wrap (n : Int) = n := wrapU (by omega) (by omega)
  rw [← e] at hc
  repeat (first | apply RunP.seq | apply RunP.region | apply RunP.condT rfl | apply RunP.condF rfl | apply RunP.skip | apply RunP.block | apply RunP.exit | apply RunP.ret)
  refine CallK.of hc ?_
  refine bindP_of (v := .str (numB n)) (h := []) ?_ ?_
  · show ((contents [] 1 (.lst 1 (bv (numB n)))).bind fun c => (bytesV c.2).map fun l => (V.str l, ([] : Heap))) = _
    simp [contents, bv_cells, bytesV_bv]
  repeat (first | apply RunP.seq | apply RunP.region | apply RunP.condT rfl | apply RunP.condF rfl | apply RunP.skip | apply RunP.block | apply RunP.exit | apply RunP.ret)
  exact ⟨rfl, rfl, rfl⟩
def rsuI (u : List UInt8) (k : Nat) (s : List V) (h : Heap) : Prop :=
  ∃ (i : Nat) (z a b : Int), (i + k = u.length ∧ z = i ∧ a = (sumS (u.take i)).1 ∧ b = (sumS (u.take i)).2) ∧ s.length = 28 ∧ s.getD 0 und = und ∧ s.getD 1 und = .str u ∧ s.getD 3 und = .int .i64 0 ∧ s.getD 4 und = .int .i64 a ∧ s.getD 5 und = .int .i64 b ∧ s.getD 6 und = .int .i64 z
theorem rsuI_lit {u : List UInt8} {k : Nat} {s : List V} {h : Heap} (hI : rsuI u k s h) : ∃ (i : Nat) (z a b : Int) (x : Nat → V), (i + k = u.length ∧ z = i ∧ a = (sumS (u.take i)).1 ∧ b = (sumS (u.take i)).2) ∧
    s = [und, .str u, x 2, .int .i64 0, .int .i64 a, .int .i64 b, .int .i64 z, x 7, x 8, x 9, x 10, x 11, x 12, x 13, x 14, x 15, x 16, x 17, x 18, x 19, x 20, x 21, x 22, x 23, x 24, x 25, x 26, x 27] := by
  obtain ⟨i, z, a, b, hF, hl, e0, e1, e3, e4, e5, e6⟩ := hI
  refine ⟨i, z, a, b, fun n => s.getD n und, hF, (lit_of hl).trans ?_⟩
  show [s.getD 0 und, s.getD 1 und, s.getD 2 und, s.getD 3 und, s.getD 4 und, s.getD 5 und, s.getD 6 und, s.getD 7 und, s.getD 8 und, s.getD 9 und, s.getD 10 und, s.getD 11 und, s.getD 12 und, s.getD 13 und, s.getD 14 und, s.getD 15 und, s.getD 16 und, s.getD 17 und, s.getD 18 und, s.getD 19 und, s.getD 20 und, s.getD 21 und, s.getD 22 und, s.getD 23 und, s.getD 24 und, s.getD 25 und, s.getD 26 und, s.getD 27 und] = _
  rw [e0, e1, e3, e4, e5, e6]

set_option maxHeartbeats 2000000 in
theorem refSum_has (h : Heap) (s : List UInt8) (hl : s.length ≤ 2 ^ 38) : Has envQ .own 17 [.str s] h (.val (.int .i64 (sumB s)) h) := by
  refine HasP.own (a := [.str s]) (d := fn17) rfl rfl rfl (of_decide_eq_true rfl) ?_
  repeat (first | apply RunP.seq | apply RunP.region | apply RunP.condT rfl | apply RunP.condF rfl | apply RunP.skip | apply RunP.block | apply RunP.exit | apply RunP.ret)
  refine RunP.loop (rsuI s) ?_ s.length ⟨0, _, _, _, ⟨by omega, rfl, rfl, rfl⟩, rfl, rfl, rfl, rfl, rfl, rfl, rfl⟩
  intro k st g hI
  obtain ⟨i, z, a, b, x, ⟨hik, hz, ha, hb⟩, rfl⟩ := rsuI_lit hI
  clear hI
  subst hz
  have hr := sumS_range (s.take i)
  rw [← ha, ← hb] at hr
  have hiz : (0 : Int) ≤ (i : Int) := by omega
  repeat (first | apply RunP.seq | apply RunP.region | apply RunP.condT rfl | apply RunP.condF rfl | apply RunP.skip | apply RunP.block | apply RunP.exit | apply RunP.ret)
  refine And.intro (fun hlt => ?_) (fun hge => ?_)
  · have hi : i < s.length := by omega
    obtain ⟨c, hc⟩ : ∃ c, s[i]? = some c := ⟨_, List.getElem?_eq_getElem hi⟩
    have hcl : c.toNat < 256 := c.toNat_lt
    repeat (first | apply RunP.seq | apply RunP.region | apply RunP.condT rfl | apply RunP.condF rfl | apply RunP.skip | apply RunP.block | apply RunP.exit | apply RunP.ret)
    refine And.intro hiz (Exists.intro c (And.intro hc ?_))
    have e1 : IntKind.i64.wrap (a + IntKind.i64.wrap (c.toNat : Int)) = a + c.toNat := by rw [wrapS (x := (c.toNat : Int)) (by omega) (by omega), wrapS (by omega) (by omega)]
    have e2 : (IntKind.i64.wrap (a + IntKind.i64.wrap (c.toNat : Int))).tmod 65521 = (a + c.toNat) % 65521 := by rw [e1, Int.tmod_eq_emod_of_nonneg (by omega)]
    have e3 : (IntKind.i64.wrap (b + (IntKind.i64.wrap (a + IntKind.i64.wrap (c.toNat : Int))).tmod 65521)).tmod 65521 = (b + (a + c.toNat) % 65521) % 65521 := by
      rw [e2, wrapS (by omega) (by omega), Int.tmod_eq_emod_of_nonneg (by omega)]
    refine And.intro rfl (And.intro (by decide) ?_)
    repeat (first | apply RunP.seq | apply RunP.region | apply RunP.condT rfl | apply RunP.condF rfl | apply RunP.skip | apply RunP.block | apply RunP.exit | apply RunP.ret)
    refine And.intro rfl (And.intro (by decide) ?_)
    repeat (first | apply RunP.seq | apply RunP.region | apply RunP.condT rfl | apply RunP.condF rfl | apply RunP.skip | apply RunP.block | apply RunP.exit | apply RunP.ret)
    have ht : sumS (s.take (i + 1)) = ((a + c.toNat) % 65521, (b + (a + c.toNat) % 65521) % 65521) := by
      rw [List.take_add_one, hc]
      simp only [Option.toList_some]
      rw [sumS_snoc, ← ha, ← hb]
    refine ⟨k - 1, by omega, i + 1, _, _, _, ⟨by omega, wrap_up i (by omega), by rw [ht]; exact e2, by rw [ht]; exact e3⟩, rfl, rfl, rfl, rfl, rfl, rfl, rfl⟩
  · repeat (first | apply RunP.seq | apply RunP.region | apply RunP.condT rfl | apply RunP.condF rfl | apply RunP.skip | apply RunP.block | apply RunP.exit | apply RunP.ret)
    have hi : i = s.length := by omega
    rw [hi, List.take_length] at ha hb
    refine ⟨rfl, ?_, rfl⟩
    have e5 : IntKind.i64.wrap (IntKind.i64.wrap (b * 65536) + a) = sumB s := by
      rw [wrapS (x := b * 65536) (by omega) (by omega), wrapS (by omega) (by omega), sumB, ha, hb]
    exact congrArg (fun z => some (V.int IntKind.i64 z)) e5

/-- A number read, as the reference reads it. -/
def refN : List UInt8 → Nat → Nat → Option (Nat × Nat)
  | [], _, _ => none
  | c :: r, out, i => if 9 ≤ i then none else if c.toNat < 128 then (if (0 < c.toNat ∨ i = 0) ∧ out + c.toNat % 128 * 128 ^ i ≤ 2 ^ 60 then some (out + c.toNat % 128 * 128 ^ i, 1) else none)
      else (refN r (out + c.toNat % 128 * 128 ^ i) (i + 1)).map (fun p => (p.1, p.2 + 1))
theorem refN_big : ∀ (r : List UInt8) (out i : Nat), 2 ^ 60 < out → refN r out i = none
  | [], _, _, _ => rfl
  | c :: r, out, i, h => by
    have := Nat.zero_le (c.toNat % 128 * 128 ^ i)
    rw [refN]
    split
    · rfl
    · split
      · rw [if_neg (by omega)]
      · rw [refN_big r _ _ (by omega)]; rfl
theorem rdN_ref : ∀ (r : List UInt8) (out i : Nat), out ≤ 2 ^ 60 → i < 9 → rdN r out (128 ^ i) = refN r out i
  | [], _, _, _, _ => rfl
  | c :: r, out, i, ho, hi => by
    obtain ⟨hp1, hp2, hp3⟩ := pow128 hi
    have hpe : 128 ^ i = 1 ↔ i = 0 := by
      constructor
      · intro h
        rcases Nat.eq_zero_or_pos i with h0 | h0
        · exact h0
        · have : 128 ^ 1 ≤ 128 ^ i := Nat.pow_le_pow_right (by decide) h0
          omega
      · rintro rfl; rfl
    have hC : (c.toNat % 128 = 0 ∨ (128 ^ i ≤ 2 ^ 60 ∧ c.toNat % 128 ≤ (2 ^ 60 - out) / 128 ^ i)) ↔ out + c.toNat % 128 * 128 ^ i ≤ 2 ^ 60 := by
      rw [Nat.le_div_iff_mul_le (by omega)]
      constructor
      · rintro (h | ⟨_, h⟩)
        · rw [h, Nat.zero_mul]; omega
        · omega
      · intro h; exact .inr ⟨by omega, by omega⟩
    rw [rdN, refN, if_neg (by omega : ¬ 9 ≤ i)]
    by_cases hb : out + c.toNat % 128 * 128 ^ i ≤ 2 ^ 60
    · rw [if_pos (hC.2 hb)]
      by_cases hc : c.toNat < 128
      · have hcond : (0 < c.toNat ∨ 128 ^ i = 1) ↔ (0 < c.toNat ∨ i = 0) := by rw [hpe]
        rw [if_pos hc, if_pos hc]
        by_cases h0 : 0 < c.toNat ∨ i = 0
        · rw [if_pos (hcond.2 h0), if_pos ⟨h0, hb⟩]
        · rw [if_neg (fun q => h0 (hcond.1 q)), if_neg (fun q => h0 q.1)]
      · rw [if_neg hc, if_neg hc]
        by_cases h8 : i < 8
        · have hle : 128 ^ i ≤ 2 ^ 53 := by
            have : 128 ^ i ≤ 128 ^ 7 := Nat.pow_le_pow_right (by decide) (by omega)
            exact Nat.le_trans this (by decide)
          rw [if_pos hle, ← Nat.pow_succ, rdN_ref r _ (i + 1) hb (by omega)]
        · have e8 : i = 8 := by omega
          subst e8
          rw [if_neg (by decide)]
          cases r with
          | nil => rfl
          | cons d r => rw [refN, if_pos (by decide)]; rfl
    · rw [if_neg (fun q => hb (hC.1 q))]
      by_cases hc : c.toNat < 128
      · rw [if_pos hc, if_neg (fun q => hb q.2)]
      · rw [if_neg hc, refN_big _ _ _ (by omega)]; rfl
theorem refN_nine (r : List UInt8) (out i : Nat) (h : 9 ≤ i) : refN r out i = none := by
  cases r with
  | nil => rfl
  | cons c r => rw [refN, if_pos h]
def rrdI (u : List UInt8) (k : Nat) (s : List V) (h : Heap) : Prop :=
  ∃ (i out : Nat) (z y t : Int), (i + k = u.length ∧ i ≤ 9 ∧ z = i ∧ y = out ∧ out < 128 ^ i ∧ t = ((128 ^ (min i 8) : Nat) : Int) ∧ refN u 0 0 = (refN (u.drop i) out i).map (fun p => (p.1, p.2 + i))) ∧ s.length = 49 ∧ s.getD 0 und = und ∧ s.getD 1 und = .str u ∧ s.getD 3 und = .int .i64 0 ∧ s.getD 4 und = .int .i64 0 ∧ s.getD 5 und = .bool false ∧ s.getD 6 und = .int .i64 y ∧ s.getD 7 und = .int .i64 t ∧ s.getD 8 und = .int .i64 z
theorem rrdI_lit {u : List UInt8} {k : Nat} {s : List V} {h : Heap} (hI : rrdI u k s h) : ∃ (i out : Nat) (z y t : Int) (x : Nat → V), (i + k = u.length ∧ i ≤ 9 ∧ z = i ∧ y = out ∧ out < 128 ^ i ∧ t = ((128 ^ (min i 8) : Nat) : Int) ∧ refN u 0 0 = (refN (u.drop i) out i).map (fun p => (p.1, p.2 + i))) ∧
    s = [und, .str u, x 2, .int .i64 0, .int .i64 0, .bool false, .int .i64 y, .int .i64 t, .int .i64 z, x 9, x 10, x 11, x 12, x 13, x 14, x 15, x 16, x 17, x 18, x 19, x 20, x 21, x 22, x 23, x 24, x 25, x 26, x 27, x 28, x 29, x 30, x 31, x 32, x 33, x 34, x 35, x 36, x 37, x 38, x 39, x 40, x 41, x 42, x 43, x 44, x 45, x 46, x 47, x 48] := by
  obtain ⟨i, out, z, y, t, hF, hl, e0, e1, e3, e4, e5, e6, e7, e8⟩ := hI
  refine ⟨i, out, z, y, t, fun n => s.getD n und, hF, (lit_of hl).trans ?_⟩
  show [s.getD 0 und, s.getD 1 und, s.getD 2 und, s.getD 3 und, s.getD 4 und, s.getD 5 und, s.getD 6 und, s.getD 7 und, s.getD 8 und, s.getD 9 und, s.getD 10 und, s.getD 11 und, s.getD 12 und, s.getD 13 und, s.getD 14 und, s.getD 15 und, s.getD 16 und, s.getD 17 und, s.getD 18 und, s.getD 19 und, s.getD 20 und, s.getD 21 und, s.getD 22 und, s.getD 23 und, s.getD 24 und, s.getD 25 und, s.getD 26 und, s.getD 27 und, s.getD 28 und, s.getD 29 und, s.getD 30 und, s.getD 31 und, s.getD 32 und, s.getD 33 und, s.getD 34 und, s.getD 35 und, s.getD 36 und, s.getD 37 und, s.getD 38 und, s.getD 39 und, s.getD 40 und, s.getD 41 und, s.getD 42 und, s.getD 43 und, s.getD 44 und, s.getD 45 und, s.getD 46 und, s.getD 47 und, s.getD 48 und] = _
  rw [e0, e1, e3, e4, e5, e6, e7, e8]

theorem pow_cases {i : Nat} (h : i < 9) : i = 0 ∨ i = 1 ∨ i = 2 ∨ i = 3 ∨ i = 4 ∨ i = 5 ∨ i = 6 ∨ i = 7 ∨ i = 8 := by omega
set_option maxHeartbeats 4000000 in
theorem refRead_has (h : Heap) (s : List UInt8) (hl : s.length ≤ 2 ^ 38) : ∃ v, Has envQ .own 21 [.str s] h (.val v h) ∧ ((∃ p : Nat × Nat, rdN s 0 1 = some p ∧ v = .tup [.int .i64 p.1, .int .i64 p.2, .bool true]) ∨ (rdN s 0 1 = none ∧ ∃ a b : Int, v = .tup [.int .i64 a, .int .i64 b, .bool false])) := by
  rw [show rdN s 0 1 = refN s 0 0 from rdN_ref s 0 0 (by decide) (by decide)]
  refine HasP.ownE (a := [.str s]) (d := fn21) rfl rfl rfl (of_decide_eq_true rfl) ?_
  repeat (first | apply RunP.seq | apply RunP.region | apply RunP.condT rfl | apply RunP.condF rfl | apply RunP.skip | apply RunP.block | apply RunP.exit | apply RunP.ret)
  refine RunP.loop (rrdI s) ?_ s.length ⟨0, 0, _, _, _, ⟨by omega, by omega, rfl, rfl, by decide, rfl, by simp⟩, rfl, rfl, rfl, rfl, rfl, rfl, rfl, rfl, rfl⟩
  intro k st g hI
  obtain ⟨i, out, z, y, t, x, ⟨hik, hi9, hz, hy, hout, ht, hrd⟩, rfl⟩ := rrdI_lit hI
  clear hI
  subst hz hy
  repeat (first | apply RunP.seq | apply RunP.region | apply RunP.condT rfl | apply RunP.condF rfl | apply RunP.skip | apply RunP.block | apply RunP.exit | apply RunP.ret)
  by_cases hend : i < s.length ∧ i < 9
  case neg =>
    have hno : refN s 0 0 = none := by
      rw [hrd]
      rcases Nat.lt_or_ge i s.length with q | q
      · rw [refN_nine _ _ _ (by omega)]; rfl
      · rw [List.drop_eq_nil_of_le q]; rfl
    refine And.intro (fun hlt => ?_) (fun hge => ?_)
    · refine And.intro (fun h9 => absurd ⟨by omega, by omega⟩ hend) (fun _ => ?_)
      repeat (first | apply RunP.seq | apply RunP.region | apply RunP.condT rfl | apply RunP.condF rfl | apply RunP.skip | apply RunP.block | apply RunP.exit | apply RunP.ret)
      exact ⟨rfl, _, rfl, rfl, .inr ⟨hno, _, _, rfl⟩⟩
    · repeat (first | apply RunP.seq | apply RunP.region | apply RunP.condT rfl | apply RunP.condF rfl | apply RunP.skip | apply RunP.block | apply RunP.exit | apply RunP.ret)
      exact ⟨rfl, _, rfl, rfl, .inr ⟨hno, _, _, rfl⟩⟩
  obtain ⟨hlt, h9⟩ := hend
  refine And.intro (fun _ => ?_) (fun w => absurd w (by omega))
  refine And.intro (fun _ => ?_) (fun w => absurd w (by omega))
  obtain ⟨c, hc⟩ : ∃ c, s[i]? = some c := ⟨_, List.getElem?_eq_getElem hlt⟩
  have hdrop : s.drop i = c :: s.drop (i + 1) := by
    obtain ⟨h1, h2⟩ := List.getElem?_eq_some_iff.1 hc
    rw [List.drop_eq_getElem_cons h1, h2]
  rw [hdrop, refN, if_neg (by omega)] at hrd
  have hcl : c.toNat < 256 := c.toNat_lt
  have hmin : min i 8 = i := by omega
  rw [hmin] at ht
  have hp1 : 128 ^ i ≤ 2 ^ 56 := (pow128 h9).1
  have hp2 : 128 ^ (i + 1) = 128 * 128 ^ i := by rw [Nat.pow_succ, Nat.mul_comm]
  have hp3 : i < 8 → 128 ^ i ≤ 2 ^ 49 := fun h => Nat.le_trans (Nat.pow_le_pow_right (by decide) (by omega : i ≤ 7)) (by decide)
  generalize hP : 128 ^ i = pl at *
  have hm1 : c.toNat % 128 * pl ≤ 127 * pl := Nat.mul_le_mul_right pl (by omega)
  repeat (first | apply RunP.seq | apply RunP.region | apply RunP.condT rfl | apply RunP.condF rfl | apply RunP.skip | apply RunP.block | apply RunP.exit | apply RunP.ret)
  refine And.intro (by omega) (Exists.intro c (And.intro hc ?_))
  generalize hcn : c.toNat = m at *
  have e0 : IntKind.i64.wrap (m : Int) = (m : Int) := wrapS (by omega) (by omega)
  have em : IntKind.i64.wrap ((IntKind.i64.wrap (m : Int)).tmod 128 * t) = ((m % 128 * pl : Nat) : Int) := by
    rw [e0, ht, Int.tmod_eq_emod_of_nonneg (by omega), show (m : Int) % 128 = ((m % 128 : Nat) : Int) from by omega, ← Int.natCast_mul, wrapS (by omega) (by omega)]
  have ea : IntKind.i64.wrap ((out : Int) + IntKind.i64.wrap ((IntKind.i64.wrap (m : Int)).tmod 128 * t)) = ((out + m % 128 * pl : Nat) : Int) := by
    rw [em, wrapS (by omega) (by omega)]; omega
  have eu : IntKind.i64.wrap ((i : Int) + 1) = ((i + 1 : Nat) : Int) := wrap_up i (by omega)
  repeat (first | apply RunP.seq | apply RunP.region | apply RunP.condT rfl | apply RunP.condF rfl | apply RunP.skip | apply RunP.block | apply RunP.exit | apply RunP.ret)
  refine And.intro rfl (And.intro (by decide) ?_)
  repeat (first | apply RunP.seq | apply RunP.region | apply RunP.condT rfl | apply RunP.condF rfl | apply RunP.skip | apply RunP.block | apply RunP.exit | apply RunP.ret)
  by_cases hlo : m < 128
  · refine And.intro (fun _ => ?_) (fun w => absurd w (by rw [e0]; omega))
    rw [if_pos hlo] at hrd
    repeat (first | apply RunP.seq | apply RunP.region | apply RunP.condT rfl | apply RunP.condF rfl | apply RunP.skip | apply RunP.block | apply RunP.exit | apply RunP.ret)
    by_cases h0 : 0 < m ∨ i = 0
    · by_cases hsm : out + m % 128 * pl ≤ 2 ^ 60
      · rw [if_pos ⟨h0, hsm⟩] at hrd
        replace hrd : refN s 0 0 = some (out + m % 128 * pl, i + 1) := by rw [hrd]; simp [Nat.add_comm]
        refine And.intro (fun _ => ?_) (fun w => ?_)
        · refine And.intro (fun _ => ?_) (fun w => absurd w (by rw [ea]; omega))
          repeat (first | apply RunP.seq | apply RunP.region | apply RunP.condT rfl | apply RunP.condF rfl | apply RunP.skip | apply RunP.block | apply RunP.exit | apply RunP.ret)
          exact ⟨rfl, _, rfl, rfl, .inl ⟨_, hrd, by rw [ea, eu]; rfl⟩⟩
        · refine And.intro (fun _ => ?_) (fun w => absurd w (by rw [e0] at *; omega))
          refine And.intro (fun _ => ?_) (fun w => absurd w (by rw [ea]; omega))
          repeat (first | apply RunP.seq | apply RunP.region | apply RunP.condT rfl | apply RunP.condF rfl | apply RunP.skip | apply RunP.block | apply RunP.exit | apply RunP.ret)
          exact ⟨rfl, _, rfl, rfl, .inl ⟨_, hrd, by rw [ea, eu]; rfl⟩⟩
      · rw [if_neg (fun q => hsm q.2)] at hrd
        refine And.intro (fun _ => ?_) (fun w => ?_)
        · refine And.intro (fun w => absurd w (by rw [ea]; omega)) (fun _ => ?_)
          repeat (first | apply RunP.seq | apply RunP.region | apply RunP.condT rfl | apply RunP.condF rfl | apply RunP.skip | apply RunP.block | apply RunP.exit | apply RunP.ret)
          exact ⟨rfl, _, rfl, rfl, .inr ⟨hrd, _, _, rfl⟩⟩
        · refine And.intro (fun _ => ?_) (fun w => absurd w (by rw [e0] at *; omega))
          refine And.intro (fun w => absurd w (by rw [ea]; omega)) (fun _ => ?_)
          repeat (first | apply RunP.seq | apply RunP.region | apply RunP.condT rfl | apply RunP.condF rfl | apply RunP.skip | apply RunP.block | apply RunP.exit | apply RunP.ret)
          exact ⟨rfl, _, rfl, rfl, .inr ⟨hrd, _, _, rfl⟩⟩
    · rw [if_neg (fun q => h0 q.1)] at hrd
      refine And.intro (fun w => absurd w (by rw [e0]; omega)) (fun _ => ?_)
      refine And.intro (fun w => absurd w (by omega)) (fun _ => ?_)
      repeat (first | apply RunP.seq | apply RunP.region | apply RunP.condT rfl | apply RunP.condF rfl | apply RunP.skip | apply RunP.block | apply RunP.exit | apply RunP.ret)
      exact ⟨rfl, _, rfl, rfl, .inr ⟨hrd, _, _, rfl⟩⟩
  · refine And.intro (fun w => absurd w (by rw [e0]; omega)) (fun _ => ?_)
    rw [if_neg hlo, Option.map_map] at hrd
    have hrd2 : refN s 0 0 = (refN (s.drop (i + 1)) (out + m % 128 * pl) (i + 1)).map (fun p => (p.1, p.2 + (i + 1))) := by
      rw [hrd]; congr 1; funext p; simp only [Function.comp]; rw [show p.2 + 1 + i = p.2 + (i + 1) from by omega]
    repeat (first | apply RunP.seq | apply RunP.region | apply RunP.condT rfl | apply RunP.condF rfl | apply RunP.skip | apply RunP.block | apply RunP.exit | apply RunP.ret)
    refine And.intro (fun h8 => ?_) (fun h8 => ?_)
    · repeat (first | apply RunP.seq | apply RunP.region | apply RunP.condT rfl | apply RunP.condF rfl | apply RunP.skip | apply RunP.block | apply RunP.exit | apply RunP.ret)
      refine ⟨k - 1, by omega, i + 1, out + m % 128 * pl, _, _, _, ⟨by omega, by omega, eu, ea, by rw [hp2]; omega, ?_, hrd2⟩, rfl, rfl, rfl, rfl, rfl, rfl, rfl, rfl, rfl⟩
      have := hp3 (by omega)
      rw [ht, show min (i + 1) 8 = i + 1 from by omega, hp2, wrapS (by omega) (by omega)]; omega
    · repeat (first | apply RunP.seq | apply RunP.region | apply RunP.condT rfl | apply RunP.condF rfl | apply RunP.skip | apply RunP.block | apply RunP.exit | apply RunP.ret)
      refine ⟨k - 1, by omega, i + 1, out + m % 128 * pl, _, _, _, ⟨by omega, by omega, eu, ea, by rw [hp2]; omega, ?_, hrd2⟩, rfl, rfl, rfl, rfl, rfl, rfl, rfl, rfl, rfl⟩
      rw [ht, show min (i + 1) 8 = i from by omega, hP]
end Go.Proofs.YtekmafoicobphaaGreatDoor
