/- The decimal text of a number: the reference's. -/
import Derived.Test.YtkjhnpmgieplgaaGreatDoorSbVal
import Derived.Test.YtkjhnpmgieplgaaGreatDoorSbNum
import Derived.Test.YtkjhnpmgieplgaaGreatDoorSbNum2
import Derived.Test.YtkjhnpmgieplgaaGreatDoorSbBytes
import Derived.Test.YtkjhnpmgieplgaaGreatDoorSbDraw2
set_option linter.unusedVariables false
set_option linter.unusedSimpArgs false
namespace Go.Proofs.YtkjhnpmgieplgaaGreatDoor
open Go.Sb
set_option maxRecDepth 100000
def dgI (n : Int) (m : Nat) (k : Nat) (s : List V) (h : Heap) : Prop :=
  ∃ (z : Int) (w : Bs), (z = k ∧ k ≤ 18446744073709551615 ∧ w.length ≤ 20 ∧ (if k = 0 then w else Lib.decDigits k ++ w) = Lib.decDigits m) ∧ s.length = 37 ∧ s.getD 0 und = und ∧ s.getD 1 und = .int .i64 n ∧ s.getD 4 und = .int .u64 z ∧ s.getD 5 und = .str w
theorem dgI_lit {n : Int} {m : Nat} {k : Nat} {s : List V} {h : Heap} (hI : dgI n m k s h) : ∃ (z : Int) (w : Bs) (x : Nat → V), (z = k ∧ k ≤ 18446744073709551615 ∧ w.length ≤ 20 ∧ (if k = 0 then w else Lib.decDigits k ++ w) = Lib.decDigits m) ∧
    s = [und, .int .i64 n, x 2, x 3, .int .u64 z, .str w, x 6, x 7, x 8, x 9, x 10, x 11, x 12, x 13, x 14, x 15, x 16, x 17, x 18, x 19, x 20, x 21, x 22, x 23, x 24, x 25, x 26, x 27, x 28, x 29, x 30, x 31, x 32, x 33, x 34, x 35, x 36] := by
  obtain ⟨z, w, hF, hl, e0, e1, e4, e5⟩ := hI
  refine ⟨z, w, fun n => s.getD n und, hF, (lit_of hl).trans ?_⟩
  show [s.getD 0 und, s.getD 1 und, s.getD 2 und, s.getD 3 und, s.getD 4 und, s.getD 5 und, s.getD 6 und, s.getD 7 und, s.getD 8 und, s.getD 9 und, s.getD 10 und, s.getD 11 und, s.getD 12 und, s.getD 13 und, s.getD 14 und, s.getD 15 und, s.getD 16 und, s.getD 17 und, s.getD 18 und, s.getD 19 und, s.getD 20 und, s.getD 21 und, s.getD 22 und, s.getD 23 und, s.getD 24 und, s.getD 25 und, s.getD 26 und, s.getD 27 und, s.getD 28 und, s.getD 29 und, s.getD 30 und, s.getD 31 und, s.getD 32 und, s.getD 33 und, s.getD 34 und, s.getD 35 und, s.getD 36 und] = _
  rw [e0, e1, e4, e5]

theorem dec_len : ∀ (k m : Nat), m < 10 ^ (k + 1) → (Lib.decDigits m).length ≤ k + 1
  | 0, m, h => by rw [Lib.decDigits, dif_pos (by omega)]; simp
  | k + 1, m, h => by
    rw [Lib.decDigits]
    split
    · simp
    · have := dec_len k (m / 10) (by rw [Nat.pow_succ] at h; omega)
      rw [List.length_append, List.length_cons, List.length_nil]; omega
theorem one_byte {h : Heap} {T : TypeId} {x : Int} {c : UInt8} (hx : x = c.toNat) : InRow (Sb.push h (.cells T [.int .u8 x])) T 1 (.sl h.length 0 1 1 1 1) (bv [c]) := by
  subst hx; exact .inr ⟨h.length, rfl, push_last _ _, by simp [bv]⟩
theorem u64_mod (x : Int) : IntKind.u64.wrap x = x % 18446744073709551616 := rfl
theorem u8_mod (x : Int) : IntKind.u8.wrap x = x % 256 := rfl
theorem wrapU {x : Int} (h0 : 0 ≤ x) (h1 : x ≤ 18446744073709551615) : IntKind.u64.wrap x = x := by
  rw [u64_mod]; omega
theorem wrapU_neg {x : Int} (h0 : x < 0) (h1 : -9223372036854775808 ≤ x) : IntKind.u64.wrap (0 - IntKind.u64.wrap x) = -x := by
  rw [u64_mod, u64_mod]; omega
theorem wrapU8 {x : Int} (h0 : 0 ≤ x) (h1 : x ≤ 255) : IntKind.u8.wrap x = x := by
  rw [u8_mod]; omega
/-- The last digit. -/
theorem last_dig (q : Nat) (hq : q ≤ 18446744073709551615) : IntKind.u8.wrap (IntKind.u64.wrap (48 + ((q : Int).tmod 10))) = ((UInt8.ofNat (48 + q % 10)).toNat : Int) := by
  have h1 : (q : Int).tmod 10 = ((q % 10 : Nat) : Int) := rfl
  rw [h1, wrapU (by omega) (by omega), wrapU8 (by omega) (by omega)]
  simp
  omega
theorem quo_dig (q : Nat) (hq : q ≤ 18446744073709551615) : IntKind.u64.wrap ((q : Int).tdiv 10) = ((q / 10 : Nat) : Int) := by
  have h1 : (q : Int).tdiv 10 = ((q / 10 : Nat) : Int) := rfl
  rw [h1, wrapU (by omega) (by omega)]
theorem dig_step {q m : Nat} {w : List UInt8} (hq : 0 < q) (h : Lib.decDigits q ++ w = Lib.decDigits m) : (if q / 10 = 0 then UInt8.ofNat (48 + q % 10) :: w else Lib.decDigits (q / 10) ++ (UInt8.ofNat (48 + q % 10) :: w)) = Lib.decDigits m := by
  rw [← h]
  by_cases h0 : q / 10 = 0
  · rw [if_pos h0, show Lib.decDigits q = [UInt8.ofNat (48 + q % 10)] from by rw [Lib.decDigits, dif_pos (by omega), Nat.mod_eq_of_lt (by omega)]]; rfl
  · rw [if_neg h0, show Lib.decDigits q = Lib.decDigits (q / 10) ++ [UInt8.ofNat (48 + q % 10)] from by conv => lhs; rw [Lib.decDigits, dif_neg (by omega)]]
    rw [List.append_assoc]; rfl
theorem dig_first (m : Nat) : (if m / 10 = 0 then [UInt8.ofNat (48 + m % 10)] else Lib.decDigits (m / 10) ++ [UInt8.ofNat (48 + m % 10)]) = Lib.decDigits m := by
  by_cases h : m / 10 = 0
  · rw [if_pos h, Lib.decDigits, dif_pos (by omega), Nat.mod_eq_of_lt (by omega)]
  · rw [if_neg h]; conv => rhs; rw [Lib.decDigits, dif_neg (by omega)]
set_option maxHeartbeats 4000000 in
theorem Digits_has (h : Heap) (n : Int) (hn : -9223372036854775808 ≤ n ∧ n ≤ 9223372036854775807) : Has envQ .own 46 [.int .i64 n] h (.val (.str (Lib.itoa n)) h) := by
  refine HasP.own (a := [.int .i64 n]) (d := fn46) rfl rfl rfl (of_decide_eq_true rfl) ?_
  generalize ([] : Heap) = g0
  have hm : n.natAbs ≤ 18446744073709551615 := by omega
  have hl := dec_len 19 n.natAbs (by omega)
  repeat (first | apply RunP.seq | apply RunP.region | apply RunP.condT rfl | apply RunP.condF rfl | apply RunP.skip | apply RunP.block | apply RunP.exit | apply RunP.ret)
  refine And.intro (fun hneg => ?_) (fun hneg => ?_)
  · have eu : IntKind.u64.wrap (0 - IntKind.u64.wrap n) = ((n.natAbs : Nat) : Int) := by rw [wrapU_neg hneg hn.1]; omega
    have hd := last_dig n.natAbs hm
    have hq := quo_dig n.natAbs hm
    rw [← eu] at hd hq
    repeat (first | apply RunP.seq | apply RunP.condT rfl | apply RunP.condF rfl | apply RunP.skip)
    refine RunP.regionR _ (fun K => rfl) ?_
    refine ops_sl (s' := [_,_,_,_,_,_,_,_,_,_,_,_,_,_,_,_,_,_,_,_,_,_,_,_,_,_,_,_,_,_,_,_,_,_,_,_,_]) rfl (fun K hK => hK) rfl ?_
    refine ops_sl (s' := [_,_,_,_,_,_,_,_,_,_,_,_,_,_,_,_,_,_,_,_,_,_,_,_,_,_,_,_,_,_,_,_,_,_,_,_,_]) rfl (fun K hK => hK) rfl ?_
    refine ops_sl (s' := [_,_,_,_,_,_,_,_,_,_,_,_,_,_,_,_,_,_,_,_,_,_,_,_,_,_,_,_,_,_,_,_,_,_,_,_,_]) rfl (fun K hK => hK) rfl ?_
    repeat (first | apply RunP.seq | apply RunP.condT rfl | apply RunP.condF rfl | apply RunP.skip)
    refine RunP.regionR _ (fun K => rfl) ?_
    refine ops_sl (s' := [_,_,_,_,_,_,_,_,_,_,_,_,_,_,_,_,_,_,_,_,_,_,_,_,_,_,_,_,_,_,_,_,_,_,_,_,_]) rfl (fun K hK => hK) rfl ?_
    refine ops_sl (s' := [_,_,_,_,_,_,_,_,_,_,_,_,_,_,_,_,_,_,_,_,_,_,_,_,_,_,_,_,_,_,_,_,_,_,_,_,_]) rfl (fun K hK => And.intro rfl (And.intro (by decide) hK)) rfl ?_
    refine ops_sl (s' := [_,_,_,_,_,_,_,_,_,_,_,_,_,_,_,_,_,_,_,_,_,_,_,_,_,_,_,_,_,_,_,_,_,_,_,_,_]) rfl (fun K hK => hK) rfl ?_
    refine ops_sl (s' := [_,_,_,_,_,_,_,_,_,_,_,_,_,_,_,_,_,_,_,_,_,_,_,_,_,_,_,_,_,_,_,_,_,_,_,_,_]) rfl (fun K hK => hK) rfl ?_
    refine ops_sl (v := .sl (_ : Heap).length 0 1 1 1 1) (g := Sb.push _ (.cells 5 [.int .u8 (IntKind.u8.wrap (IntKind.u64.wrap (48 + (IntKind.u64.wrap (0 - IntKind.u64.wrap n)).tmod 10)))])) (s' := [_,_,_,_,_,_,_,_,_,_,_,_,_,_,_,_,_,_,_,_,_,_,_,_,_,_,_,_,_,_,_,_,_,_,_,_,_]) rfl (fun K hK => hK) rfl ?_
    refine ops_sl (s' := [_,_,_,_,_,_,_,_,_,_,_,_,_,_,_,_,_,_,_,_,_,_,_,_,_,_,_,_,_,_,_,_,_,_,_,_,_]) rfl (fun K hK => conv_bytesK (E := envQ) (T := 5) (t := 107) (st := 9) rfl rfl rfl rfl rfl rfl rfl (one_byte hd) hK) rfl ?_
    refine ops_sl (s' := [_,_,_,_,_,_,_,_,_,_,_,_,_,_,_,_,_,_,_,_,_,_,_,_,_,_,_,_,_,_,_,_,_,_,_,_,_]) rfl (fun K hK => hK) rfl ?_
    repeat (first | apply RunP.seq | apply RunP.region | apply RunP.condT rfl | apply RunP.condF rfl | apply RunP.skip | apply RunP.block | apply RunP.exit | apply RunP.ret)
    refine And.intro rfl (And.intro (by decide) ?_)
    repeat (first | apply RunP.seq | apply RunP.region | apply RunP.condT rfl | apply RunP.condF rfl | apply RunP.skip | apply RunP.block | apply RunP.exit | apply RunP.ret)
    refine RunP.loop (dgI n n.natAbs) ?_ (n.natAbs / 10) ⟨_, _, ⟨hq, by omega, by simp, dig_first n.natAbs⟩, rfl, rfl, rfl, rfl, rfl⟩
    clear hd hq
    intro k st g hI
    obtain ⟨z, w, x, ⟨hz, hk, hw, hdig⟩, rfl⟩ := dgI_lit hI
    clear hI
    subst hz
    repeat (first | apply RunP.seq | apply RunP.region | apply RunP.condT rfl | apply RunP.condF rfl | apply RunP.skip | apply RunP.block | apply RunP.exit | apply RunP.ret)
    refine And.intro (fun hlt => ?_) (fun hge => ?_)
    · have hd := last_dig k hk
      have hq := quo_dig k hk
      rw [if_neg (by omega)] at hdig
      have hlen := congrArg List.length hdig
      have hne : 0 < (Lib.decDigits k).length := by
        have := dec_ne k
        cases hc : Lib.decDigits k with | nil => exact absurd hc this | cons a b => simp
      rw [List.length_append] at hlen
      repeat (first | apply RunP.condT rfl | apply RunP.condF rfl | apply RunP.skip | apply RunP.exit | apply RunP.seq | apply RunP.block)
      refine RunP.regionR _ (fun K => rfl) ?_
      refine ops_sl (s' := [_,_,_,_,_,_,_,_,_,_,_,_,_,_,_,_,_,_,_,_,_,_,_,_,_,_,_,_,_,_,_,_,_,_,_,_,_]) rfl (fun K hK => hK) rfl ?_
      refine ops_sl (s' := [_,_,_,_,_,_,_,_,_,_,_,_,_,_,_,_,_,_,_,_,_,_,_,_,_,_,_,_,_,_,_,_,_,_,_,_,_]) rfl (fun K hK => And.intro rfl (And.intro (by decide) hK)) rfl ?_
      refine ops_sl (s' := [_,_,_,_,_,_,_,_,_,_,_,_,_,_,_,_,_,_,_,_,_,_,_,_,_,_,_,_,_,_,_,_,_,_,_,_,_]) rfl (fun K hK => hK) rfl ?_
      refine ops_sl (s' := [_,_,_,_,_,_,_,_,_,_,_,_,_,_,_,_,_,_,_,_,_,_,_,_,_,_,_,_,_,_,_,_,_,_,_,_,_]) rfl (fun K hK => hK) rfl ?_
      refine ops_sl (v := .sl (g : Heap).length 0 1 1 1 1) (g := Sb.push _ (.cells 5 [.int .u8 (IntKind.u8.wrap (IntKind.u64.wrap (48 + ((k : Int)).tmod 10)))])) (s' := [_,_,_,_,_,_,_,_,_,_,_,_,_,_,_,_,_,_,_,_,_,_,_,_,_,_,_,_,_,_,_,_,_,_,_,_,_]) rfl (fun K hK => hK) rfl ?_
      refine ops_sl (s' := [_,_,_,_,_,_,_,_,_,_,_,_,_,_,_,_,_,_,_,_,_,_,_,_,_,_,_,_,_,_,_,_,_,_,_,_,_]) rfl (fun K hK => conv_bytesK (E := envQ) (T := 5) (t := 107) (st := 9) rfl rfl rfl rfl rfl rfl rfl (one_byte hd) hK) rfl ?_
      refine ops_sl (s' := [_,_,_,_,_,_,_,_,_,_,_,_,_,_,_,_,_,_,_,_,_,_,_,_,_,_,_,_,_,_,_,_,_,_,_,_,_]) rfl (fun K hK => hK) rfl ?_
      refine ops_sl (s' := [_,_,_,_,_,_,_,_,_,_,_,_,_,_,_,_,_,_,_,_,_,_,_,_,_,_,_,_,_,_,_,_,_,_,_,_,_]) rfl (fun K hK => And.intro (by simp only [List.length_cons, List.length_nil]; omega) hK) rfl ?_
      refine ops_sl (s' := [_,_,_,_,_,_,_,_,_,_,_,_,_,_,_,_,_,_,_,_,_,_,_,_,_,_,_,_,_,_,_,_,_,_,_,_,_]) rfl (fun K hK => hK) rfl ?_
      repeat (first | apply RunP.seq | apply RunP.region | apply RunP.condT rfl | apply RunP.condF rfl | apply RunP.skip | apply RunP.block | apply RunP.exit | apply RunP.ret)
      refine And.intro rfl (And.intro (by decide) ?_)
      repeat (first | apply RunP.seq | apply RunP.region | apply RunP.condT rfl | apply RunP.condF rfl | apply RunP.skip | apply RunP.block | apply RunP.exit | apply RunP.ret)
      exact ⟨k / 10, by omega, _, _, ⟨hq, by omega, by simp only [List.length_append, List.length_cons, List.length_nil]; omega, dig_step (by omega) hdig⟩, rfl, rfl, rfl, rfl, rfl⟩
    · rw [if_pos (by omega)] at hdig
      subst hdig
      repeat (first | apply RunP.seq | apply RunP.region | apply RunP.condT rfl | apply RunP.condF rfl | apply RunP.skip | apply RunP.block | apply RunP.exit | apply RunP.ret)
      refine And.intro (fun _ => ?_) (fun w => absurd w (by omega))
      repeat (first | apply RunP.seq | apply RunP.region | apply RunP.condT rfl | apply RunP.condF rfl | apply RunP.skip | apply RunP.block | apply RunP.exit | apply RunP.ret)
      refine And.intro (by simp only [List.length_cons, List.length_nil]; omega) ?_
      repeat (first | apply RunP.seq | apply RunP.region | apply RunP.condT rfl | apply RunP.condF rfl | apply RunP.skip | apply RunP.block | apply RunP.exit | apply RunP.ret)
      exact ⟨rfl, congrArg (fun v => some (V.str v)) (show [45] ++ Lib.decDigits n.natAbs = Lib.itoa n from by unfold Lib.itoa; rw [if_pos hneg]; rfl), rfl⟩
  · have eu : IntKind.u64.wrap n = ((n.natAbs : Nat) : Int) := by rw [wrapU hneg (by omega)]; omega
    have hd := last_dig n.natAbs hm
    have hq := quo_dig n.natAbs hm
    rw [← eu] at hd hq
    repeat (first | apply RunP.seq | apply RunP.condT rfl | apply RunP.condF rfl | apply RunP.skip)
    refine RunP.regionR _ (fun K => rfl) ?_
    refine ops_sl (s' := [_,_,_,_,_,_,_,_,_,_,_,_,_,_,_,_,_,_,_,_,_,_,_,_,_,_,_,_,_,_,_,_,_,_,_,_,_]) rfl (fun K hK => hK) rfl ?_
    refine ops_sl (s' := [_,_,_,_,_,_,_,_,_,_,_,_,_,_,_,_,_,_,_,_,_,_,_,_,_,_,_,_,_,_,_,_,_,_,_,_,_]) rfl (fun K hK => And.intro rfl (And.intro (by decide) hK)) rfl ?_
    refine ops_sl (s' := [_,_,_,_,_,_,_,_,_,_,_,_,_,_,_,_,_,_,_,_,_,_,_,_,_,_,_,_,_,_,_,_,_,_,_,_,_]) rfl (fun K hK => hK) rfl ?_
    refine ops_sl (s' := [_,_,_,_,_,_,_,_,_,_,_,_,_,_,_,_,_,_,_,_,_,_,_,_,_,_,_,_,_,_,_,_,_,_,_,_,_]) rfl (fun K hK => hK) rfl ?_
    refine ops_sl (v := .sl (_ : Heap).length 0 1 1 1 1) (g := Sb.push _ (.cells 5 [.int .u8 (IntKind.u8.wrap (IntKind.u64.wrap (48 + (IntKind.u64.wrap n).tmod 10)))])) (s' := [_,_,_,_,_,_,_,_,_,_,_,_,_,_,_,_,_,_,_,_,_,_,_,_,_,_,_,_,_,_,_,_,_,_,_,_,_]) rfl (fun K hK => hK) rfl ?_
    refine ops_sl (s' := [_,_,_,_,_,_,_,_,_,_,_,_,_,_,_,_,_,_,_,_,_,_,_,_,_,_,_,_,_,_,_,_,_,_,_,_,_]) rfl (fun K hK => conv_bytesK (E := envQ) (T := 5) (t := 107) (st := 9) rfl rfl rfl rfl rfl rfl rfl (one_byte hd) hK) rfl ?_
    refine ops_sl (s' := [_,_,_,_,_,_,_,_,_,_,_,_,_,_,_,_,_,_,_,_,_,_,_,_,_,_,_,_,_,_,_,_,_,_,_,_,_]) rfl (fun K hK => hK) rfl ?_
    repeat (first | apply RunP.seq | apply RunP.region | apply RunP.condT rfl | apply RunP.condF rfl | apply RunP.skip | apply RunP.block | apply RunP.exit | apply RunP.ret)
    refine And.intro rfl (And.intro (by decide) ?_)
    repeat (first | apply RunP.seq | apply RunP.region | apply RunP.condT rfl | apply RunP.condF rfl | apply RunP.skip | apply RunP.block | apply RunP.exit | apply RunP.ret)
    refine RunP.loop (dgI n n.natAbs) ?_ (n.natAbs / 10) ⟨_, _, ⟨hq, by omega, by simp, dig_first n.natAbs⟩, rfl, rfl, rfl, rfl, rfl⟩
    clear hd hq
    intro k st g hI
    obtain ⟨z, w, x, ⟨hz, hk, hw, hdig⟩, rfl⟩ := dgI_lit hI
    clear hI
    subst hz
    repeat (first | apply RunP.seq | apply RunP.region | apply RunP.condT rfl | apply RunP.condF rfl | apply RunP.skip | apply RunP.block | apply RunP.exit | apply RunP.ret)
    refine And.intro (fun hlt => ?_) (fun hge => ?_)
    · have hd := last_dig k hk
      have hq := quo_dig k hk
      rw [if_neg (by omega)] at hdig
      have hlen := congrArg List.length hdig
      have hne : 0 < (Lib.decDigits k).length := by
        have := dec_ne k
        cases hc : Lib.decDigits k with | nil => exact absurd hc this | cons a b => simp
      rw [List.length_append] at hlen
      repeat (first | apply RunP.condT rfl | apply RunP.condF rfl | apply RunP.skip | apply RunP.exit | apply RunP.seq | apply RunP.block)
      refine RunP.regionR _ (fun K => rfl) ?_
      refine ops_sl (s' := [_,_,_,_,_,_,_,_,_,_,_,_,_,_,_,_,_,_,_,_,_,_,_,_,_,_,_,_,_,_,_,_,_,_,_,_,_]) rfl (fun K hK => hK) rfl ?_
      refine ops_sl (s' := [_,_,_,_,_,_,_,_,_,_,_,_,_,_,_,_,_,_,_,_,_,_,_,_,_,_,_,_,_,_,_,_,_,_,_,_,_]) rfl (fun K hK => And.intro rfl (And.intro (by decide) hK)) rfl ?_
      refine ops_sl (s' := [_,_,_,_,_,_,_,_,_,_,_,_,_,_,_,_,_,_,_,_,_,_,_,_,_,_,_,_,_,_,_,_,_,_,_,_,_]) rfl (fun K hK => hK) rfl ?_
      refine ops_sl (s' := [_,_,_,_,_,_,_,_,_,_,_,_,_,_,_,_,_,_,_,_,_,_,_,_,_,_,_,_,_,_,_,_,_,_,_,_,_]) rfl (fun K hK => hK) rfl ?_
      refine ops_sl (v := .sl (g : Heap).length 0 1 1 1 1) (g := Sb.push _ (.cells 5 [.int .u8 (IntKind.u8.wrap (IntKind.u64.wrap (48 + ((k : Int)).tmod 10)))])) (s' := [_,_,_,_,_,_,_,_,_,_,_,_,_,_,_,_,_,_,_,_,_,_,_,_,_,_,_,_,_,_,_,_,_,_,_,_,_]) rfl (fun K hK => hK) rfl ?_
      refine ops_sl (s' := [_,_,_,_,_,_,_,_,_,_,_,_,_,_,_,_,_,_,_,_,_,_,_,_,_,_,_,_,_,_,_,_,_,_,_,_,_]) rfl (fun K hK => conv_bytesK (E := envQ) (T := 5) (t := 107) (st := 9) rfl rfl rfl rfl rfl rfl rfl (one_byte hd) hK) rfl ?_
      refine ops_sl (s' := [_,_,_,_,_,_,_,_,_,_,_,_,_,_,_,_,_,_,_,_,_,_,_,_,_,_,_,_,_,_,_,_,_,_,_,_,_]) rfl (fun K hK => hK) rfl ?_
      refine ops_sl (s' := [_,_,_,_,_,_,_,_,_,_,_,_,_,_,_,_,_,_,_,_,_,_,_,_,_,_,_,_,_,_,_,_,_,_,_,_,_]) rfl (fun K hK => And.intro (by simp only [List.length_cons, List.length_nil]; omega) hK) rfl ?_
      refine ops_sl (s' := [_,_,_,_,_,_,_,_,_,_,_,_,_,_,_,_,_,_,_,_,_,_,_,_,_,_,_,_,_,_,_,_,_,_,_,_,_]) rfl (fun K hK => hK) rfl ?_
      repeat (first | apply RunP.seq | apply RunP.region | apply RunP.condT rfl | apply RunP.condF rfl | apply RunP.skip | apply RunP.block | apply RunP.exit | apply RunP.ret)
      refine And.intro rfl (And.intro (by decide) ?_)
      repeat (first | apply RunP.seq | apply RunP.region | apply RunP.condT rfl | apply RunP.condF rfl | apply RunP.skip | apply RunP.block | apply RunP.exit | apply RunP.ret)
      exact ⟨k / 10, by omega, _, _, ⟨hq, by omega, by simp only [List.length_append, List.length_cons, List.length_nil]; omega, dig_step (by omega) hdig⟩, rfl, rfl, rfl, rfl, rfl⟩
    · rw [if_pos (by omega)] at hdig
      subst hdig
      repeat (first | apply RunP.seq | apply RunP.region | apply RunP.condT rfl | apply RunP.condF rfl | apply RunP.skip | apply RunP.block | apply RunP.exit | apply RunP.ret)
      refine And.intro (fun w => absurd w (by omega)) (fun _ => ?_)
      repeat (first | apply RunP.seq | apply RunP.region | apply RunP.condT rfl | apply RunP.condF rfl | apply RunP.skip | apply RunP.block | apply RunP.exit | apply RunP.ret)
      exact ⟨rfl, congrArg (fun v => some (V.str v)) (show Lib.decDigits n.natAbs = Lib.itoa n from by unfold Lib.itoa; rw [if_neg (by omega), show n.toNat = n.natAbs from by omega]), rfl⟩
end Go.Proofs.YtkjhnpmgieplgaaGreatDoor

/- The text of a value: the program's and the reference's. -/

namespace Go.Proofs.YtkjhnpmgieplgaaGreatDoor
open Go.Sb
set_option maxRecDepth 100000

def nms : List (V × V) := [(.int .i64 4, .str [99, 104, 97, 110]), (.int .i64 5, .str [116, 97, 115, 107]), (.int .i64 6, .str [108, 111, 99, 107])]
theorem names_has (h : Heap) : ∃ v g, Has envQ .shared 45 [] h (.val v g) ∧ v = .mp h.length ∧ g = Sb.push h (.map nms) := by
  refine HasP.sharedE (d := fn45) rfl (of_decide_eq_true rfl) ?_
  apply RunP.seq
  apply RunP.region
  apply RunP.seq
  refine RunP.regionR _ (fun K => rfl) ?_
  refine runOps_mk (E := envQ) rfl rfl ?_
  refine runOps_ins (map_last (E := envQ) rfl rfl rfl rfl rfl) ?_
  refine runOps_ins (map_last (E := envQ) rfl rfl rfl rfl rfl) ?_
  refine runOps_ins (map_last (E := envQ) rfl rfl rfl rfl rfl) ?_
  repeat (first | apply RunP.seq | apply RunP.region | apply RunP.condT rfl | apply RunP.condF rfl | apply RunP.skip | apply RunP.block | apply RunP.exit | apply RunP.ret)
  exact ⟨rfl, rfl, rfl⟩
theorem itoa_told (h : Heap) (n : Int) (h1 : -9223372036854775808 ≤ n ∧ n ≤ 9223372036854775807) : Has envQ .own 42 [.int .i64 n] h (.val (.str (Lib.itoa n)) h) :=
  Has.told (E := envQ) (a := [.int .i64 n]) (p := tellItoa) rfl rfl (by simp only [tellItoa]; rw [if_pos h1]) rfl
theorem fmtB_has (h : Heap) (b : Bool) : Has envQ .own 43 [.bool b] h (.val (.str (if b = true then [116, 114, 117, 101] else [102, 97, 108, 115, 101])) h) := by
  have h1 : ∀ g, Has envQ .own 75 [.bool b] g (.val (.str (if b = true then [116, 114, 117, 101] else [102, 97, 108, 115, 101])) g) := fun g => by
    refine HasP.own (a := [.bool b]) (d := fn75) rfl rfl rfl (of_decide_eq_true rfl) ?_
    cases b
    · repeat (first | apply RunP.seq | apply RunP.region | apply RunP.condT rfl | apply RunP.condF rfl | apply RunP.skip | apply RunP.block | apply RunP.exit | apply RunP.ret)
      exact ⟨rfl, rfl, rfl⟩
    · repeat (first | apply RunP.seq | apply RunP.region | apply RunP.condT rfl | apply RunP.condF rfl | apply RunP.skip | apply RunP.block | apply RunP.exit | apply RunP.ret)
      exact ⟨rfl, rfl, rfl⟩
  refine HasP.own (a := [.bool b]) (d := fn43) rfl rfl rfl (of_decide_eq_true rfl) ?_
  repeat (first | apply RunP.seq | apply RunP.region | apply RunP.condT rfl | apply RunP.condF rfl | apply RunP.skip | apply RunP.block | apply RunP.exit | apply RunP.ret)
  refine CallK.of (h1 _) ?_
  repeat (first | apply RunP.seq | apply RunP.region | apply RunP.condT rfl | apply RunP.condF rfl | apply RunP.skip | apply RunP.block | apply RunP.exit | apply RunP.ret)
  exact ⟨rfl, rfl, rfl⟩
/-- The word of a numbered thing. -/
def wordL (k : Int) : List UInt8 := if k = 4 then [99, 104, 97, 110] else if k = 5 then [116, 97, 115, 107] else [108, 111, 99, 107]
/-- The text of a valid value. -/
def showL (k n : Int) (s : List UInt8) : List UInt8 :=
  if k = 0 then [117, 110, 105, 116] else if k = 1 then Lib.itoa n else if k = 2 then (if decide (n = 1) = true then [116, 114, 117, 101] else [102, 97, 108, 115, 101]) else if k = 3 then Lex.quote s else (wordL k ++ [35]) ++ Lib.itoa n
def showV (k n : Int) (s : List UInt8) : V := if ValidP k n s then .tup [.str (showL k n s), .int .i64 0] else .tup [.str [], .int .i64 2]
theorem itoa_len {n : Int} (hn : -9223372036854775808 ≤ n ∧ n ≤ 9223372036854775807) : (Lib.itoa n).length ≤ 21 := by
  unfold Lib.itoa
  have h1 := dec_len 19 n.natAbs (by omega)
  have h2 := dec_len 19 n.toNat (by omega)
  split
  · simp only [List.length_cons]; omega
  · omega
theorem look_at {E : Env} {t kt el : TypeId} {d kd y : TyD} {h : Heap} {b : Nat} {es : List (V × V)} {k v : V} (ht : E.ty t = some d) (hu : d.u = .map kt el) (hk : E.ty kt = some kd) (hy : E.ty el = some y) (hf : keyFits kd.u k = true) (hb : h[b]? = some (.map es)) (hfd : findV k es = some (some v)) : evLookup E t (.mp b) k false h = some v := by
  simp only [evLookup, ht, Option.bind_some, hu, hy, hk]
  rw [if_neg (by simp [hf]), hb]
  simp only [Option.bind_some, hfd]
theorem look_name {G : Heap} {M : Nat} {k : Int} (hmap : G[M]? = some (.map nms)) (h4 : 4 ≤ k) (h6 : k ≤ 6) : evLookup envQ 77 (.mp M) (.int .i64 k) false G = some (.str (wordL k)) := by
  have e : k = 4 ∨ k = 5 ∨ k = 6 := by omega
  have hf : findV (.int .i64 k) nms = some (some (.str (wordL k))) := by rcases e with rfl | rfl | rfl <;> rfl
  exact look_at (d := ty77) (kd := ty3) (y := ty9) (kt := 3) (el := 9) rfl rfl rfl rfl rfl hmap hf
theorem valid_n {k n : Int} {s : List UInt8} (h : ValidP k n s) : -9223372036854775808 ≤ n ∧ n ≤ 9223372036854775807 := by
  unfold ValidP at h; omega
theorem valid_k {k n : Int} {s : List UInt8} (h : ValidP k n s) (h0 : ¬ k = 0) (h1 : ¬ k = 1) (h2 : ¬ k = 2) (h3 : ¬ k = 3) : 4 ≤ k ∧ k ≤ 6 := by
  unfold ValidP at h; omega
set_option maxHeartbeats 4000000 in
theorem Show_has (h : Heap) (k n : Int) (s : List UInt8) (hs : s.length ≤ 9223372036854775807) : Has envQ .own 15 [.agg [.int .i64 k, .int .i64 n, .str s]] h (.val (showV k n s) h) := by
  suffices hx : ∃ v, Has envQ .own 15 [.agg [.int .i64 k, .int .i64 n, .str s]] h (.val v h) ∧ v = showV k n s by
    obtain ⟨v, h1, rfl⟩ := hx; exact h1
  refine HasP.ownE (a := [.agg [.int .i64 k, .int .i64 n, .str s]]) (d := fn15) rfl rfl rfl (of_decide_eq_true rfl) ?_
  have hV := fun g => evValid_has g k n s hs
  unfold showV
  by_cases hv : ValidP k n s
  · simp only [decide_eq_true hv] at hV
    have hn := valid_n hv
    have hl := itoa_len hn
    rw [if_pos hv]
    repeat (first | apply RunP.seq | apply RunP.region | apply RunP.condT rfl | apply RunP.condF rfl | apply RunP.skip | apply RunP.block | apply RunP.exit | apply RunP.ret)
    refine CallK.of (hV _) ?_
    clear hV
    repeat (first | apply RunP.seq | apply RunP.region | apply RunP.condT rfl | apply RunP.condF rfl | apply RunP.skip | apply RunP.block | apply RunP.exit | apply RunP.ret)
    refine And.intro (fun k0 => ?_) (fun k0 => ?_)
    · repeat (first | apply RunP.seq | apply RunP.region | apply RunP.condT rfl | apply RunP.condF rfl | apply RunP.skip | apply RunP.block | apply RunP.exit | apply RunP.ret)
      exact ⟨rfl, _, rfl, rfl, by unfold showL; rw [if_pos k0]; rfl⟩
    · repeat (first | apply RunP.seq | apply RunP.region | apply RunP.condT rfl | apply RunP.condF rfl | apply RunP.skip | apply RunP.block | apply RunP.exit | apply RunP.ret)
      refine And.intro (fun k1 => ?_) (fun k1 => ?_)
      · repeat (first | apply RunP.seq | apply RunP.region | apply RunP.condT rfl | apply RunP.condF rfl | apply RunP.skip | apply RunP.block | apply RunP.exit | apply RunP.ret)
        refine CallK.of (itoa_told _ n hn) ?_
        repeat (first | apply RunP.seq | apply RunP.region | apply RunP.condT rfl | apply RunP.condF rfl | apply RunP.skip | apply RunP.block | apply RunP.exit | apply RunP.ret)
        exact ⟨rfl, _, rfl, rfl, by unfold showL; rw [if_neg k0, if_pos k1]; rfl⟩
      · repeat (first | apply RunP.seq | apply RunP.region | apply RunP.condT rfl | apply RunP.condF rfl | apply RunP.skip | apply RunP.block | apply RunP.exit | apply RunP.ret)
        refine And.intro (fun k2 => ?_) (fun k2 => ?_)
        · repeat (first | apply RunP.seq | apply RunP.condT rfl | apply RunP.condF rfl | apply RunP.skip | apply RunP.block)
          refine RunP.regionR _ (fun K => rfl) ?_
          refine ops_sl (s' := [_,_,_,_,_,_,_,_,_,_,_,_,_,_,_,_,_,_,_,_,_,_,_,_,_,_,_,_,_,_,_,_,_,_,_,_,_,_,_]) rfl (fun K hK => hK) rfl ?_
          refine ops_sl (s' := [_,_,_,_,_,_,_,_,_,_,_,_,_,_,_,_,_,_,_,_,_,_,_,_,_,_,_,_,_,_,_,_,_,_,_,_,_,_,_]) rfl (fun K hK => hK) rfl ?_
          refine ops_sl (s' := [_,_,_,_,_,_,_,_,_,_,_,_,_,_,_,_,_,_,_,_,_,_,_,_,_,_,_,_,_,_,_,_,_,_,_,_,_,_,_]) rfl (fun K hK => cmpK (P := n = 1) hK) rfl ?_
          refine ops_sl (s' := [_,_,_,_,_,_,_,_,_,_,_,_,_,_,_,_,_,_,_,_,_,_,_,_,_,_,_,_,_,_,_,_,_,_,_,_,_,_,_]) rfl (fun K hK => CallK.of (fmtB_has _ _) hK) rfl ?_
          refine ops_sl (s' := [_,_,_,_,_,_,_,_,_,_,_,_,_,_,_,_,_,_,_,_,_,_,_,_,_,_,_,_,_,_,_,_,_,_,_,_,_,_,_]) rfl (fun K hK => hK) rfl ?_
          refine ops_sl (s' := [_,_,_,_,_,_,_,_,_,_,_,_,_,_,_,_,_,_,_,_,_,_,_,_,_,_,_,_,_,_,_,_,_,_,_,_,_,_,_]) rfl (fun K hK => hK) rfl ?_
          repeat (first | apply RunP.seq | apply RunP.region | apply RunP.condT rfl | apply RunP.condF rfl | apply RunP.skip | apply RunP.block | apply RunP.exit | apply RunP.ret)
          exact ⟨rfl, _, rfl, rfl, by unfold showL; rw [if_neg k0, if_neg k1, if_pos k2]; rfl⟩
        · repeat (first | apply RunP.seq | apply RunP.region | apply RunP.condT rfl | apply RunP.condF rfl | apply RunP.skip | apply RunP.block | apply RunP.exit | apply RunP.ret)
          refine And.intro (fun k3 => ?_) (fun k3 => ?_)
          · have ht : Lex.isText s = true := by unfold ValidP at hv; exact textI_iff.1 (by omega)
            have hq := fun g => Quote_has g s hs
            simp only [quoteV_yes ht] at hq
            repeat (first | apply RunP.seq | apply RunP.region | apply RunP.condT rfl | apply RunP.condF rfl | apply RunP.skip | apply RunP.block | apply RunP.exit | apply RunP.ret)
            refine CallK.of (hq _) ?_
            repeat (first | apply RunP.seq | apply RunP.region | apply RunP.condT rfl | apply RunP.condF rfl | apply RunP.skip | apply RunP.block | apply RunP.exit | apply RunP.ret)
            exact ⟨rfl, _, rfl, rfl, by unfold showL; rw [if_neg k0, if_neg k1, if_neg k2, if_pos k3]; rfl⟩
          · obtain ⟨h4, h6⟩ := valid_k hv k0 k1 k2 k3
            repeat (first | apply RunP.seq | apply RunP.condT rfl | apply RunP.condF rfl | apply RunP.skip | apply RunP.block)
            refine RunP.drawn2R _ (by decide +kernel) (by decide +kernel) (fun K => rfl) ?_
            generalize hG0 : Sb.push [] (Blk.cells 23 (V.agg [V.int IntKind.i64 k, V.int IntKind.i64 n, V.str s]).cells) = G0
            obtain ⟨v1, g1, q1, rfl, rfl⟩ := names_has G0
            have hcell0 : G0[0]? = some (.cells 23 [.int .i64 k, .int .i64 n, .str s]) := by rw [← hG0]; rfl
            have hcell : (Sb.push G0 (.map nms))[0]? = some (.cells 23 [.int .i64 k, .int .i64 n, .str s]) := push_old hcell0
            have hmap : (Sb.push G0 (.map nms))[G0.length]? = some (.map nms) := push_last _ _
            clear hG0
            have hw : (wordL k).length ≤ 4 := by unfold wordL; split; decide; split; decide; decide
            refine draw2_w (s' := [_,_,_,_,_,_,_,_,_,_,_,_,_,_,_,_,_,_,_,_,_,_,_,_,_,_,_,_,_,_,_,_,_,_,_,_,_,_,_]) rfl (fun K hK => CallK.of q1 hK) (by decide +kernel) rfl ?_
            generalize Sb.push G0 (.map nms) = G at hcell hmap q1 ⊢
            generalize G0.length = M at hmap q1 ⊢
            clear q1
            refine draw2_z (s' := [_,_,_,_,_,_,_,_,_,_,_,_,_,_,_,_,_,_,_,_,_,_,_,_,_,_,_,_,_,_,_,_,_,_,_,_,_,_,_]) rfl (fun K hK => hK) (by decide +kernel) rfl ?_
            refine draw2_r (s' := [_,_,_,_,_,_,_,_,_,_,_,_,_,_,_,_,_,_,_,_,_,_,_,_,_,_,_,_,_,_,_,_,_,_,_,_,_,_,_]) rfl (fun K hK => bindK_of (load_at (E := envQ) (t := 3) (n := 3) hcell rfl) hK) (by decide +kernel) (was_read (StillK.of (bindK_of (load_at (E := envQ) (t := 3) (n := 3) hcell0 rfl) rfl)) (was_nil trivial)) rfl ?_
            refine draw2_r (s' := [_,_,_,_,_,_,_,_,_,_,_,_,_,_,_,_,_,_,_,_,_,_,_,_,_,_,_,_,_,_,_,_,_,_,_,_,_,_,_]) rfl (fun K hK => bindR_of (congrArg (fun x => val x G) (look_name hmap h4 h6)) hK) (by decide +kernel) (was_yes (by decide +kernel) (was_nil trivial)) rfl ?_
            refine draw2_z (s' := [_,_,_,_,_,_,_,_,_,_,_,_,_,_,_,_,_,_,_,_,_,_,_,_,_,_,_,_,_,_,_,_,_,_,_,_,_,_,_]) rfl (fun K hK => And.intro (by simp only [List.length_cons, List.length_nil]; omega) hK) (by decide +kernel) rfl ?_
            refine draw2_z (s' := [_,_,_,_,_,_,_,_,_,_,_,_,_,_,_,_,_,_,_,_,_,_,_,_,_,_,_,_,_,_,_,_,_,_,_,_,_,_,_]) rfl (fun K hK => hK) (by decide +kernel) rfl ?_
            refine draw2_r (s' := [_,_,_,_,_,_,_,_,_,_,_,_,_,_,_,_,_,_,_,_,_,_,_,_,_,_,_,_,_,_,_,_,_,_,_,_,_,_,_]) rfl (fun K hK => bindK_of (load_at (E := envQ) (t := 3) (n := 3) hcell rfl) hK) (by decide +kernel) (was_read (StillK.of (bindK_of (load_at (E := envQ) (t := 3) (n := 3) hcell0 rfl) rfl)) (was_nil trivial)) rfl ?_
            refine draw2_r (s' := [_,_,_,_,_,_,_,_,_,_,_,_,_,_,_,_,_,_,_,_,_,_,_,_,_,_,_,_,_,_,_,_,_,_,_,_,_,_,_]) rfl (fun K hK => CallK.of (itoa_told _ n hn) hK) (by decide +kernel) (was_read (StillK.of (CallK.of (itoa_told _ n hn) rfl)) (was_nil trivial)) rfl ?_
            refine draw2_z (s' := [_,_,_,_,_,_,_,_,_,_,_,_,_,_,_,_,_,_,_,_,_,_,_,_,_,_,_,_,_,_,_,_,_,_,_,_,_,_,_]) rfl (fun K hK => And.intro (by simp only [List.length_append, List.length_cons, List.length_nil]; omega) hK) (by decide +kernel) rfl ?_
            refine draw2_z (s' := [_,_,_,_,_,_,_,_,_,_,_,_,_,_,_,_,_,_,_,_,_,_,_,_,_,_,_,_,_,_,_,_,_,_,_,_,_,_,_]) rfl (fun K hK => hK) (by decide +kernel) rfl ?_
            refine draw2_z (s' := [_,_,_,_,_,_,_,_,_,_,_,_,_,_,_,_,_,_,_,_,_,_,_,_,_,_,_,_,_,_,_,_,_,_,_,_,_,_,_]) rfl (fun K hK => hK) (by decide +kernel) rfl ?_
            repeat (first | apply RunP.seq | apply RunP.region | apply RunP.condT rfl | apply RunP.condF rfl | apply RunP.skip | apply RunP.block | apply RunP.exit | apply RunP.ret)
            exact ⟨rfl, _, rfl, rfl, by unfold showL; rw [if_neg k0, if_neg k1, if_neg k2, if_neg k3]; rfl⟩
  · simp only [decide_eq_false hv] at hV
    rw [if_neg hv]
    repeat (first | apply RunP.seq | apply RunP.region | apply RunP.condT rfl | apply RunP.condF rfl | apply RunP.skip | apply RunP.block | apply RunP.exit | apply RunP.ret)
    refine CallK.of (hV _) ?_
    repeat (first | apply RunP.seq | apply RunP.region | apply RunP.condT rfl | apply RunP.condF rfl | apply RunP.skip | apply RunP.block | apply RunP.exit | apply RunP.ret)
    exact ⟨rfl, _, rfl, rfl, rfl⟩
end Go.Proofs.YtkjhnpmgieplgaaGreatDoor
