/- The decimal text of a number: the reference's. -/
import Derived.Test.YtkjhnpmgieplgaaGreatDoorSbVal
import Derived.Test.YtkjhnpmgieplgaaGreatDoorSbNum
import Derived.Test.YtkjhnpmgieplgaaGreatDoorSbNum2
import Derived.Test.YtkjhnpmgieplgaaGreatDoorSbBytes
import Derived.Test.YtkjhnpmgieplgaaGreatDoorSbDraw2
set_option linter.unusedVariables false
set_option linter.unusedSimpArgs false
namespace Go.Proofs.YtkjhnpmgieplgaaGreatDoor
open Go.Sb
set_option maxRecDepth 100000
def dgI (n : Int) (m : Nat) (k : Nat) (s : List V) (h : Heap) : Prop :=
  ∃ (z : Int) (w : Bs), (z = k ∧ k ≤ 18446744073709551615 ∧ w.length ≤ 20 ∧ (if k = 0 then w else Lib.decDigits k ++ w) = Lib.decDigits m) ∧ s.length = 37 ∧ s.getD 0 und = und ∧ s.getD 1 und = .int .i64 n ∧ s.getD 4 und = .int .u64 z ∧ s.getD 5 und = .str w
theorem dgI_lit {n : Int} {m : Nat} {k : Nat} {s : List V} {h : Heap} (hI : dgI n m k s h) : ∃ (z : Int) (w : Bs) (x : Nat → V), (z = k ∧ k ≤ 18446744073709551615 ∧ w.length ≤ 20 ∧ (if k = 0 then w else Lib.decDigits k ++ w) = Lib.decDigits m) ∧
    s = [und, .int .i64 n, x 2, x 3, .int .u64 z, .str w, x 6, x 7, x 8, x 9, x 10, x 11, x 12, x 13, x 14, x 15, x 16, x 17, x 18, x 19, x 20, x 21, x 22, x 23, x 24, x 25, x 26, x 27, x 28, x 29, x 30, x 31, x 32, x 33, x 34, x 35, x 36] := by
  obtain ⟨z, w, hF, hl, e0, e1, e4, e5⟩ := hI
  refine ⟨z, w, fun n => s.getD n und, hF, (lit_of hl).trans ?_⟩
  show [s.getD 0 und, s.getD 1 und, s.getD 2 und, s.getD 3 und, s.getD 4 und, s.getD 5 und, s.getD 6 und, s.getD 7 und, s.getD 8 und, s.getD 9 und, s.getD 10 und, s.getD 11 und, s.getD 12 und, s.getD 13 und, s.getD 14 und, s.getD 15 und, s.getD 16 und, s.getD 17 und, s.getD 18 und, s.getD 19 und, s.getD 20 und, s.getD 21 und, s.getD 22 und, s.getD 23 und, s.getD 24 und, s.getD 25 und, s.getD 26 und, s.getD 27 und, s.getD 28 und, s.getD 29 und, s.getD 30 und, s.getD 31 und, s.getD 32 und, s.getD 33 und, s.getD 34 und, s.getD 35 und, s.getD 36 und] = _
  rw [e0, e1, e4, e5]

theorem dec_len : ∀ (k m : Nat), m < 10 ^ (k + 1) → (Lib.decDigits m).length ≤ k + 1
  | 0, m, h => by rw [Lib.decDigits, dif_pos (by omega)]; simp
  | k + 1, m, h => by
    rw [Lib.decDigits]
    split
    · simp
    · have := dec_len k (m / 10) (by rw [Nat.pow_succ] at h; omega)
      rw [List.length_append, List.length_cons, List.length_nil]; omega
theorem one_byte {h : Heap} {T : TypeId} {x : Int} {c : UInt8} (hx : x = c.toNat) : InRow (Sb.push h (.cells T [.int .u8 x])) T 1 (.sl h.length 0 1 1 1 1) (bv [c]) := by
  subst hx; exact .inr ⟨h.length, rfl, push_last _ _, by simp [bv]⟩
theorem u64_mod (x : Int) : IntKind.u64.wrap x = x % 18446744073709551616 := rfl
theorem u8_mod (x : Int) : IntKind.u8.wrap x = x % 256 := rfl
theorem wrapU {x : Int} (h0 : 0 ≤ x) (h1 : x ≤ 18446744073709551615) : IntKind.u64.wrap x = x := by
  rw [u64_mod]; omega
theorem wrapU_neg {x : Int} (h0 : x < 0) (h1 : -9223372036854775808 ≤ x) : IntKind.u64.wrap (0 - IntKind.u64.wrap x) = -x := by
  rw [u64_mod, u64_mod]; omega
theorem wrapU8 {x : Int} (h0 : 0 ≤ x) (h1 : x ≤ 255) : IntKind.u8.wrap x = x := by
  rw [u8_mod]; omega
/-- The last digit. -/
theorem last_dig (q : Nat) (hq : q ≤ 18446744073709551615) : IntKind.u8.wrap (IntKind.u64.wrap (48 + ((q : Int).tmod 10))) = ((UInt8.ofNat (48 + q % 10)).toNat : Int) := by
  have h1 : (q : Int).tmod 10 = ((q % 10 : Nat) : Int) := rfl
  rw [h1, wrapU (by omega) (by omega), wrapU8 (by omega) (by omega)]
  simp
  omega
theorem quo_dig (q : Nat) (hq : q ≤ 18446744073709551615) : IntKind.u64.wrap ((q : Int).tdiv 10) = ((q / 10 : Nat) : Int) := by
  have h1 : (q : Int).tdiv 10 = ((q / 10 : Nat) : Int) := rfl
  rw [h1, wrapU (by omega) (by omega)]
theorem dig_step {q m : Nat} {w : List UInt8} (hq : 0 < q) (h : Lib.decDigits q ++ w = Lib.decDigits m) : (if q / 10 = 0 then UInt8.ofNat (48 + q % 10) :: w else Lib.decDigits (q / 10) ++ (UInt8.ofNat (48 + q % 10) :: w)) = Lib.decDigits m := by
  rw [← h]
  by_cases h0 : q / 10 = 0
  · rw [if_pos h0, show Lib.decDigits q = [UInt8.ofNat (48 + q % 10)] from by rw [Lib.decDigits, dif_pos (by omega), Nat.mod_eq_of_lt (by omega)]]; rfl
  · rw [if_neg h0, show Lib.decDigits q = Lib.decDigits (q / 10) ++ [UInt8.ofNat (48 + q % 10)] from by conv => lhs; rw [Lib.decDigits, dif_neg (by omega)]]
    rw [List.append_assoc]; rfl
theorem dig_first (m : Nat) : (if m / 10 = 0 then [UInt8.ofNat (48 + m % 10)] else Lib.decDigits (m / 10) ++ [UInt8.ofNat (48 + m % 10)]) = Lib.decDigits m := by
  by_cases h : m / 10 = 0
  · rw [if_pos h, Lib.decDigits, dif_pos (by omega), Nat.mod_eq_of_lt (by omega)]
  · rw [if_neg h]; conv => rhs; rw [Lib.decDigits, dif_neg (by omega)]
set_option maxHeartbeats 4000000 in
theorem Digits_has (h : Heap) (n : Int) (hn : -9223372036854775808 ≤ n ∧ n ≤ 9223372036854775807) : Has envQ .own 46 [.int .i64 n] h (.val (.str (Lib.itoa n)) h) := by
  refine HasP.own (a := [.int .i64 n]) (d := fn46) rfl rfl rfl (of_decide_eq_true rfl) ?_
  generalize ([] : Heap) = g0
  have hm : n.natAbs ≤ 18446744073709551615 := by omega
  have hl := dec_len 19 n.natAbs (by omega)
  repeat (first | apply RunP.seq | apply RunP.region | apply RunP.condT rfl | apply RunP.condF rfl | apply RunP.skip | apply RunP.block | apply RunP.exit | apply RunP.ret)
  refine And.intro (fun hneg => ?_) (fun hneg => ?_)
  · have eu : IntKind.u64.wrap (0 - IntKind.u64.wrap n) = ((n.natAbs : Nat) : Int) := by rw [wrapU_neg hneg hn.1]; omega
    have hd := last_dig n.natAbs hm
    have hq := quo_dig n.natAbs hm
    rw [← eu] at hd hq
    repeat (first | apply RunP.seq | apply RunP.condT rfl | apply RunP.condF rfl | apply RunP.skip)
    refine RunP.regionR _ (fun K => rfl) ?_
    refine ops_sl (s' := [_,_,_,_,_,_,_,_,_,_,_,_,_,_,_,_,_,_,_,_,_,_,_,_,_,_,_,_,_,_,_,_,_,_,_,_,_]) rfl (fun K hK => hK) rfl ?_
    refine ops_sl (s' := [_,_,_,_,_,_,_,_,_,_,_,_,_,_,_,_,_,_,_,_,_,_,_,_,_,_,_,_,_,_,_,_,_,_,_,_,_]) rfl (fun K hK => hK) rfl ?_
    refine ops_sl (s' := [_,_,_,_,_,_,_,_,_,_,_,_,_,_,_,_,_,_,_,_,_,_,_,_,_,_,_,_,_,_,_,_,_,_,_,_,_]) rfl (fun K hK => hK) rfl ?_
    repeat (first | apply RunP.seq | apply RunP.condT rfl | apply RunP.condF rfl | apply RunP.skip)
    refine RunP.regionR _ (fun K => rfl) ?_
    refine ops_sl (s' := [_,_,_,_,_,_,_,_,_,_,_,_,_,_,_,_,_,_,_,_,_,_,_,_,_,_,_,_,_,_,_,_,_,_,_,_,_]) rfl (fun K hK => hK) rfl ?_
    refine ops_sl (s' := [_,_,_,_,_,_,_,_,_,_,_,_,_,_,_,_,_,_,_,_,_,_,_,_,_,_,_,_,_,_,_,_,_,_,_,_,_]) rfl (fun K hK => And.intro rfl (And.intro (by decide) hK)) rfl ?_
    refine ops_sl (s' := [_,_,_,_,_,_,_,_,_,_,_,_,_,_,_,_,_,_,_,_,_,_,_,_,_,_,_,_,_,_,_,_,_,_,_,_,_]) rfl (fun K hK => hK) rfl ?_
    refine ops_sl (s' := [_,_,_,_,_,_,_,_,_,_,_,_,_,_,_,_,_,_,_,_,_,_,_,_,_,_,_,_,_,_,_,_,_,_,_,_,_]) rfl (fun K hK => hK) rfl ?_
    refine ops_sl (v := .sl (_ : Heap).length 0 1 1 1 1) (g := Sb.push _ (.cells 5 [.int .u8 (IntKind.u8.wrap (IntKind.u64.wrap (48 + (IntKind.u64.wrap (0 - IntKind.u64.wrap n)).tmod 10)))])) (s' := [_,_,_,_,_,_,_,_,_,_,_,_,_,_,_,_,_,_,_,_,_,_,_,_,_,_,_,_,_,_,_,_,_,_,_,_,_]) rfl (fun K hK => hK) rfl ?_
    refine ops_sl (s' := [_,_,_,_,_,_,_,_,_,_,_,_,_,_,_,_,_,_,_,_,_,_,_,_,_,_,_,_,_,_,_,_,_,_,_,_,_]) rfl (fun K hK => conv_bytesK (E := envQ) (T := 5) (t := 107) (st := 9) rfl rfl rfl rfl rfl rfl rfl (one_byte hd) hK) rfl ?_
    refine ops_sl (s' := [_,_,_,_,_,_,_,_,_,_,_,_,_,_,_,_,_,_,_,_,_,_,_,_,_,_,_,_,_,_,_,_,_,_,_,_,_]) rfl (fun K hK => hK) rfl ?_
    repeat (first | apply RunP.seq | apply RunP.region | apply RunP.condT rfl | apply RunP.condF rfl | apply RunP.skip | apply RunP.block | apply RunP.exit | apply RunP.ret)
    refine And.intro rfl (And.intro (by decide) ?_)
    repeat (first | apply RunP.seq | apply RunP.region | apply RunP.condT rfl | apply RunP.condF rfl | apply RunP.skip | apply RunP.block | apply RunP.exit | apply RunP.ret)
    refine RunP.loop (dgI n n.natAbs) ?_ (n.natAbs / 10) ⟨_, _, ⟨hq, by omega, by simp, dig_first n.natAbs⟩, rfl, rfl, rfl, rfl, rfl⟩
    clear hd hq
    intro k st g hI
    obtain ⟨z, w, x, ⟨hz, hk, hw, hdig⟩, rfl⟩ := dgI_lit hI
    clear hI
    subst hz
    repeat (first | apply RunP.seq | apply RunP.region | apply RunP.condT rfl | apply RunP.condF rfl | apply RunP.skip | apply RunP.block | apply RunP.exit | apply RunP.ret)
    refine And.intro (fun hlt => ?_) (fun hge => ?_)
    · have hd := last_dig k hk
      have hq := quo_dig k hk
      rw [if_neg (by omega)] at hdig
      have hlen := congrArg List.length hdig
      have hne : 0 < (Lib.decDigits k).length := by
        have := dec_ne k
        cases hc : Lib.decDigits k with | nil => exact absurd hc this | cons a b => simp
      rw [List.length_append] at hlen
      repeat (first | apply RunP.condT rfl | apply RunP.condF rfl | apply RunP.skip | apply RunP.exit | apply RunP.seq | apply RunP.block)
      refine RunP.regionR _ (fun K => rfl) ?_
      refine ops_sl (s' := [_,_,_,_,_,_,_,_,_,_,_,_,_,_,_,_,_,_,_,_,_,_,_,_,_,_,_,_,_,_,_,_,_,_,_,_,_]) rfl (fun K hK => hK) rfl ?_
      refine ops_sl (s' := [_,_,_,_,_,_,_,_,_,_,_,_,_,_,_,_,_,_,_,_,_,_,_,_,_,_,_,_,_,_,_,_,_,_,_,_,_]) rfl (fun K hK => And.intro rfl (And.intro (by decide) hK)) rfl ?_
      refine ops_sl (s' := [_,_,_,_,_,_,_,_,_,_,_,_,_,_,_,_,_,_,_,_,_,_,_,_,_,_,_,_,_,_,_,_,_,_,_,_,_]) rfl (fun K hK => hK) rfl ?_
      refine ops_sl (s' := [_,_,_,_,_,_,_,_,_,_,_,_,_,_,_,_,_,_,_,_,_,_,_,_,_,_,_,_,_,_,_,_,_,_,_,_,_]) rfl (fun K hK => hK) rfl ?_
      refine ops_sl (v := .sl (g : Heap).length 0 1 1 1 1) (g := Sb.push _ (.cells 5 [.int .u8 (IntKind.u8.wrap (IntKind.u64.wrap (48 + ((k : Int)).tmod 10)))])) (s' := [_,_,_,_,_,_,_,_,_,_,_,_,_,_,_,_,_,_,_,_,_,_,_,_,_,_,_,_,_,_,_,_,_,_,_,_,_]) rfl (fun K hK => hK) rfl ?_
      refine ops_sl (s' := [_,_,_,_,_,_,_,_,_,_,_,_,_,_,_,_,_,_,_,_,_,_,_,_,_,_,_,_,_,_,_,_,_,_,_,_,_]) rfl (fun K hK => conv_bytesK (E := envQ) (T := 5) (t := 107) (st := 9) rfl rfl rfl rfl rfl rfl rfl (one_byte hd) hK) rfl ?_
      refine ops_sl (s' := [_,_,_,_,_,_,_,_,_,_,_,_,_,_,_,_,_,_,_,_,_,_,_,_,_,_,_,_,_,_,_,_,_,_,_,_,_]) rfl (fun K hK => hK) rfl ?_
      refine ops_sl (s' := [_,_,_,_,_,_,_,_,_,_,_,_,_,_,_,_,_,_,_,_,_,_,_,_,_,_,_,_,_,_,_,_,_,_,_,_,_]) rfl (fun K hK => And.intro (by simp only [List.length_cons, List.length_nil]; omega) hK) rfl ?_
      refine ops_sl (s' := [_,_,_,_,_,_,_,_,_,_,_,_,_,_,_,_,_,_,_,_,_,_,_,_,_,_,_,_,_,_,_,_,_,_,_,_,_]) rfl (fun K hK => hK) rfl ?_
      repeat (first | apply RunP.seq | apply RunP.region | apply RunP.condT rfl | apply RunP.condF rfl | apply RunP.skip | apply RunP.block | apply RunP.exit | apply RunP.ret)
      refine And.intro rfl (And.intro (by decide) ?_)
      repeat (first | apply RunP.seq | apply RunP.region | apply RunP.condT rfl | apply RunP.condF rfl | apply RunP.skip | apply RunP.block | apply RunP.exit | apply RunP.ret)
      exact ⟨k / 10, by omega, _, _, ⟨hq, by omega, by simp only [List.length_append, List.length_cons, List.length_nil]; omega, dig_step (by omega) hdig⟩, rfl, rfl, rfl, rfl, rfl⟩
    · rw [if_pos (by omega)] at hdig
      subst hdig
      repeat (first | apply RunP.seq | apply RunP.region | apply RunP.condT rfl | apply RunP.condF rfl | apply RunP.skip | apply RunP.block | apply RunP.exit | apply RunP.ret)
      refine And.intro (fun _ => ?_) (fun w => absurd w (by omega))
      repeat (first | apply RunP.seq | apply RunP.region | apply RunP.condT rfl | apply RunP.condF rfl | apply RunP.skip | apply RunP.block | apply RunP.exit | apply RunP.ret)
      refine And.intro (by simp only [List.length_cons, List.length_nil]; omega) ?_
      repeat (first | apply RunP.seq | apply RunP.region | apply RunP.condT rfl | apply RunP.condF rfl | apply RunP.skip | apply RunP.block | apply RunP.exit | apply RunP.ret)
      exact ⟨rfl, congrArg (fun v => some (V.str v)) (show [45] ++ Lib.decDigits n.natAbs = Lib.itoa n from by unfold Lib.itoa; rw [if_pos hneg]; rfl), rfl⟩
  · have eu : IntKind.u64.wrap n = ((n.natAbs : Nat) : Int) := by rw [wrapU hneg (by omega)]; omega
    have hd := last_dig n.natAbs hm
    have hq := quo_dig n.natAbs hm
    rw [← eu] at hd hq
    repeat (first | apply RunP.seq | apply RunP.condT rfl | apply RunP.condF rfl | apply RunP.skip)
    refine RunP.regionR _ (fun K => rfl) ?_
    refine ops_sl (s' := [_,_,_,_,_,_,_,_,_,_,_,_,_,_,_,_,_,_,_,_,_,_,_,_,_,_,_,_,_,_,_,_,_,_,_,_,_]) rfl (fun K hK => hK) rfl ?_
    refine ops_sl (s' := [_,_,_,_,_,_,_,_,_,_,_,_,_,_,_,_,_,_,_,_,_,_,_,_,_,_,_,_,_,_,_,_,_,_,_,_,_]) rfl (fun K hK => And.intro rfl (And.intro (by decide) hK)) rfl ?_
    refine ops_sl (s' := [_,_,_,_,_,_,_,_,_,_,_,_,_,_,_,_,_,_,_,_,_,_,_,_,_,_,_,_,_,_,_,_,_,_,_,_,_]) rfl (fun K hK => hK) rfl ?_
    refine ops_sl (s' := [_,_,_,_,_,_,_,_,_,_,_,_,_,_,_,_,_,_,_,_,_,_,_,_,_,_,_,_,_,_,_,_,_,_,_,_,_]) rfl (fun K hK => hK) rfl ?_
    refine ops_sl (v := .sl (_ : Heap).length 0 1 1 1 1) (g := Sb.push _ (.cells 5 [.int .u8 (IntKind.u8.wrap (IntKind.u64.wrap (48 + (IntKind.u64.wrap n).tmod 10)))])) (s' := [_,_,_,_,_,_,_,_,_,_,_,_,_,_,_,_,_,_,_,_,_,_,_,_,_,_,_,_,_,_,_,_,_,_,_,_,_]) rfl (fun K hK => hK) rfl ?_
    refine ops_sl (s' := [_,_,_,_,_,_,_,_,_,_,_,_,_,_,_,_,_,_,_,_,_,_,_,_,_,_,_,_,_,_,_,_,_,_,_,_,_]) rfl (fun K hK => conv_bytesK (E := envQ) (T := 5) (t := 107) (st := 9) rfl rfl rfl rfl rfl rfl rfl (one_byte hd) hK) rfl ?_
    refine ops_sl (s' := [_,_,_,_,_,_,_,_,_,_,_,_,_,_,_,_,_,_,_,_,_,_,_,_,_,_,_,_,_,_,_,_,_,_,_,_,_]) rfl (fun K hK => hK) rfl ?_
    repeat (first | apply RunP.seq | apply RunP.region | apply RunP.condT rfl | apply RunP.condF rfl | apply RunP.skip | apply RunP.block | apply RunP.exit | apply RunP.ret)
    refine And.intro rfl (And.intro (by decide) ?_)
    repeat (first | apply RunP.seq | apply RunP.region | apply RunP.condT rfl | apply RunP.condF rfl | apply RunP.skip | apply RunP.block | apply RunP.exit | apply RunP.ret)
    refine RunP.loop (dgI n n.natAbs) ?_ (n.natAbs / 10) ⟨_, _, ⟨hq, by omega, by simp, dig_first n.natAbs⟩, rfl, rfl, rfl, rfl, rfl⟩
    clear hd hq
    intro k st g hI
    obtain ⟨z, w, x, ⟨hz, hk, hw, hdig⟩, rfl⟩ := dgI_lit hI
    clear hI
    subst hz
    repeat (first | apply RunP.seq | apply RunP.region | apply RunP.condT rfl | apply RunP.condF rfl | apply RunP.skip | apply RunP.block | apply RunP.exit | apply RunP.ret)
    refine And.intro (fun hlt => ?_) (fun hge => ?_)
    · have hd := last_dig k hk
      have hq := quo_dig k hk
      rw [if_neg (by omega)] at hdig
      have hlen := congrArg List.length hdig
      have hne : 0 < (Lib.decDigits k).length := by
        have := dec_ne k
        cases hc : Lib.decDigits k with | nil => exact absurd hc this | cons a b => simp
      rw [List.length_append] at hlen
      repeat (first | apply RunP.condT rfl | apply RunP.condF rfl | apply RunP.skip | apply RunP.exit | apply RunP.seq | apply RunP.block)
      refine RunP.regionR _ (fun K => rfl) ?_
      refine ops_sl (s' := [_,_,_,_,_,_,_,_,_,_,_,_,_,_,_,_,_,_,_,_,_,_,_,_,_,_,_,_,_,_,_,_,_,_,_,_,_]) rfl (fun K hK => hK) rfl ?_
      refine ops_sl (s' := [_,_,_,_,_,_,_,_,_,_,_,_,_,_,_,_,_,_,_,_,_,_,_,_,_,_,_,_,_,_,_,_,_,_,_,_,_]) rfl (fun K hK => And.intro rfl (And.intro (by decide) hK)) rfl ?_
      refine ops_sl (s' := [_,_,_,_,_,_,_,_,_,_,_,_,_,_,_,_,_,_,_,_,_,_,_,_,_,_,_,_,_,_,_,_,_,_,_,_,_]) rfl (fun K hK => hK) rfl ?_
      refine ops_sl (s' := [_,_,_,_,_,_,_,_,_,_,_,_,_,_,_,_,_,_,_,_,_,_,_,_,_,_,_,_,_,_,_,_,_,_,_,_,_]) rfl (fun K hK => hK) rfl ?_
      refine ops_sl (v := .sl (g : Heap).length 0 1 1 1 1) (g := Sb.push _ (.cells 5 [.int .u8 (IntKind.u8.wrap (IntKind.u64.wrap (48 + ((k : Int)).tmod 10)))])) (s' := [_,_,_,_,_,_,_,_,_,_,_,_,_,_,_,_,_,_,_,_,_,_,_,_,_,_,_,_,_,_,_,_,_,_,_,_,_]) rfl (fun K hK => hK) rfl ?_
      refine ops_sl (s' := [_,_,_,_,_,_,_,_,_,_,_,_,_,_,_,_,_,_,_,_,_,_,_,_,_,_,_,_,_,_,_,_,_,_,_,_,_]) rfl (fun K hK => conv_bytesK (E := envQ) (T := 5) (t := 107) (st := 9) rfl rfl rfl rfl rfl rfl rfl (one_byte hd) hK) rfl ?_
      refine ops_sl (s' := [_,_,_,_,_,_,_,_,_,_,_,_,_,_,_,_,_,_,_,_,_,_,_,_,_,_,_,_,_,_,_,_,_,_,_,_,_]) rfl (fun K hK => hK) rfl ?_
      refine ops_sl (s' := [_,_,_,_,_,_,_,_,_,_,_,_,_,_,_,_,_,_,_,_,_,_,_,_,_,_,_,_,_,_,_,_,_,_,_,_,_]) rfl (fun K hK => And.intro (by simp only [List.length_cons, List.length_nil]; omega) hK) rfl ?_
      refine ops_sl (s' := [_,_,_,_,_,_,_,_,_,_,_,_,_,_,_,_,_,_,_,_,_,_,_,_,_,_,_,_,_,_,_,_,_,_,_,_,_]) rfl (fun K hK => hK) rfl ?_
      repeat (first | apply RunP.seq | apply RunP.region | apply RunP.condT rfl | apply RunP.condF rfl | apply RunP.skip | apply RunP.block | apply RunP.exit | apply RunP.ret)
      refine And.intro rfl (And.intro (by decide) ?_)
      repeat (first | apply RunP.seq | apply RunP.region | apply RunP.condT rfl | apply RunP.condF rfl | apply RunP.skip | apply RunP.block | apply RunP.exit | apply RunP.ret)
      exact ⟨k / 10, by omega, _, _, ⟨hq, by omega, by simp only [List.length_append, List.length_cons, List.length_nil]; omega, dig_step (by omega) hdig⟩, rfl, rfl, rfl, rfl, rfl⟩
    · rw [if_pos (by omega)] at hdig
      subst hdig
      repeat (first | apply RunP.seq | apply RunP.region | apply RunP.condT rfl | apply RunP.condF rfl | apply RunP.skip | apply RunP.block | apply RunP.exit | apply RunP.ret)
      refine And.intro (fun w => absurd w (by omega)) (fun _ => ?_)
      repeat (first | apply RunP.seq | apply RunP.region | apply RunP.condT rfl | apply RunP.condF rfl | apply RunP.skip | apply RunP.block | apply RunP.exit | apply RunP.ret)
      exact ⟨rfl, congrArg (fun v => some (V.str v)) (show Lib.decDigits n.natAbs = Lib.itoa n from by unfold Lib.itoa; rw [if_neg (by omega), show n.toNat = n.natAbs from by omega]), rfl⟩
end Go.Proofs.YtkjhnpmgieplgaaGreatDoor
