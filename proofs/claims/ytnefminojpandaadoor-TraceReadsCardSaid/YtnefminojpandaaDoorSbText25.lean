/- The text of a value: the reference's. -/
import Derived.Test.YtnefminojpandaaDoorSbValidEv25
import Derived.Test.YtnefminojpandaaDoorSbBuilder25
set_option linter.unusedVariables false
set_option linter.unusedSimpArgs false
namespace Go.Proofs.YtnefminojpandaaDoor
open Go.Sb
set_option maxRecDepth 100000

def quoteB (s : List UInt8) : List UInt8 := s.flatMap fun b => if b = 34 ∨ b = 92 then [92, b] else [b]
def valText (k n : Int) (s : List UInt8) : List UInt8 :=
  if k = 1 then Lib.itoa n
  else if k = 2 then (if n = 1 then [116, 114, 117, 101] else [102, 97, 108, 115, 101])
  else if k = 3 then [34] ++ quoteB s ++ [34]
  else if k = 4 then [99] ++ Lib.itoa n
  else if k = 5 then [116] ++ Lib.itoa n
  else if k = 6 then [108] ++ Lib.itoa n
  else [95]

theorem itoa_has (h : Heap) {n : Int} (h0 : -9223372036854775808 ≤ n) (h1 : n ≤ 9223372036854775807) : Has env2 .own 41 [.int .i64 n] h (.val (.str (Lib.itoa n)) h) := by
  refine Has.told (a := [.int .i64 n]) (p := tellItoa) rfl rfl ?_ rfl
  simp [tellItoa, h0, h1]

theorem quoteB_cons (b : UInt8) (s : List UInt8) : quoteB (b :: s) = (if b = 34 ∨ b = 92 then [92, b] else [b]) ++ quoteB s := rfl
theorem quoteB_len (s : List UInt8) : (quoteB s).length ≤ 2 * s.length := by
  induction s with
  | nil => simp [quoteB]
  | cons b s ih =>
    rw [quoteB_cons, List.length_append, List.length_cons]
    split <;> simp <;> omega
theorem quoteB_snoc (s : List UInt8) (b : UInt8) : quoteB (s ++ [b]) = quoteB s ++ (if b = 34 ∨ b = 92 then [92, b] else [b]) := by
  simp [quoteB]
theorem quoteB_take {s : List UInt8} {i : Nat} {b : UInt8} (h : s[i]? = some b) : quoteB (s.take (i + 1)) = quoteB (s.take i) ++ (if b = 34 ∨ b = 92 then [92, b] else [b]) := by
  rw [List.take_add_one, h]; exact quoteB_snoc _ _
theorem u8_ne {b : UInt8} {n : Nat} (hn : n < 256) (h : ((b.toNat : Int)) ≠ n) : b ≠ UInt8.ofNat n := fun e => h (by subst e; simp; omega)
theorem u8_eq {b : UInt8} {n : Nat} (hn : n < 256) (h : ((b.toNat : Int)) = n) : b = UInt8.ofNat n := by
  apply UInt8.toNat_inj.1; simp; omega

theorem slice_one {s : List UInt8} {i : Nat} {b : UInt8} (h : s[i]? = some b) : (s.take ((i + 1 : Nat) : Int).toNat).drop (i : Int).toNat = [b] := by
  have hi := (List.getElem?_eq_some_iff.1 h).1
  have hl : (s.take i).length = i := by rw [List.length_take]; omega
  rw [Int.toNat_natCast, Int.toNat_natCast, List.take_add_one, h, List.drop_append, List.drop_of_length_le (by rw [hl]; exact Nat.le_refl _), hl, Nat.sub_self]
  rfl

/-- How the reference's Value stands ahead of a round over a text. -/
def rvI (s0 : List UInt8) (k n : Int) (m : Nat) (s : List V) (h : Heap) : Prop :=
  ∃ (i : Nat) (z : Int) (w : List UInt8) (x5 x6 x7 x8 x9 x10 x11 x12 x13 x14 x15 x16 x17 x18 x19 x20 x21 x22 x23 x24 x25 x26 x27 x28 x29 x30 x31 x32 x33 x34 x35 x36 x37 x38 x39 x40 x41 x42 x43 x44 x45 x46 x47 x48 x49 x50 x51 x52 x53 x54 x55 x56 x57 x58 x59 x60 x61 x62 x63 x64 x65 x66 x67 : V), i + m = s0.length ∧ z = i ∧ w = [34] ++ quoteB (s0.take i) ∧ h = [.cells 23 [.int .i64 k, .int .i64 n, .str s0]] ∧
    s = [und, valV k n s0, .ptr 0 0 3, .str [], (.str w), .int .i64 z, x5, x6, x7, x8, x9, x10, x11, x12, x13, x14, x15, x16, x17, x18, x19, x20, x21, x22, x23, x24, x25, x26, x27, x28, x29, x30, x31, x32, x33, x34, x35, x36, x37, x38, x39, x40, x41, x42, x43, x44, x45, x46, x47, x48, x49, x50, x51, x52, x53, x54, x55, x56, x57, x58, x59, x60, x61, x62, x63, x64, x65, x66, x67]

theorem rval_has (h : Heap) (k n : Int) (s : List UInt8) (ho : okVal k n s = true) (hn0 : -9223372036854775808 ≤ n) (hn1 : n ≤ 9223372036854775807) : Has env2 .own 15 [valV k n s] h (.val (.str (valText k n s)) h) := by
  refine HasP.own (a := [valV k n s]) (d := fn15) rfl rfl rfl (of_decide_eq_true rfl) ?_
  have fin : ∀ {x : List UInt8}, x = valText k n s → some (V.str x) = some (V.str (valText k n s)) := fun h => by rw [h]
  have hl := Lib.itoa_length_le n hn0 hn1
  apply RunP.seq
  apply RunP.region
  apply RunP.seq
  apply RunP.seq
  apply RunP.region
  apply RunP.block
  apply RunP.seq
  apply RunP.region
  apply And.intro
  · intro c1
    apply RunP.condT rfl
    apply RunP.seq
    apply RunP.region
    refine CallK.of (itoa_has _ hn0 hn1) ?_
    apply RunP.ret
    exact And.intro rfl (And.intro (fin (by rw [valText, if_pos c1])) rfl)
  intro c1
  apply RunP.condF rfl
  apply RunP.seq
  apply RunP.region
  apply And.intro
  · intro c2
    apply RunP.condT rfl
    apply RunP.seq
    apply RunP.seq
    apply RunP.region
    apply And.intro
    · intro d
      apply RunP.condT rfl
      apply RunP.seq
      apply RunP.region
      apply RunP.ret
      exact And.intro rfl (And.intro (fin (by rw [valText, if_neg c1, if_pos c2, if_pos d])) rfl)
    · intro d
      apply RunP.condF rfl
      apply RunP.skip
      apply RunP.seq
      apply RunP.region
      apply RunP.ret
      exact And.intro rfl (And.intro (fin (by rw [valText, if_neg c1, if_pos c2, if_neg d])) rfl)
  intro c2
  apply RunP.condF rfl
  apply RunP.seq
  apply RunP.region
  apply And.intro
  · intro c3
    have hs : s.length ≤ 60 := by
      have : okText s = true := by simp [okVal, c3] at ho; exact ho.2
      unfold okText at this
      simp at this; exact this.1
    apply RunP.condT rfl
    apply RunP.seq
    apply RunP.region
    apply RunP.seq
    apply RunP.seq
    apply RunP.region
    apply RunP.block
    refine RunP.loop (rvI s k n) ?_ s.length ⟨0, _, _, _, _, _, _, _, _, _, _, _, _, _, _, _, _, _, _, _, _, _, _, _, _, _, _, _, _, _, _, _, _, _, _, _, _, _, _, _, _, _, _, _, _, _, _, _, _, _, _, _, _, _, _, _, _, _, _, _, _, _, _, _, _, _, by omega, rfl, rfl, rfl, rfl⟩
    rintro m st g ⟨i, z, w, x5, x6, x7, x8, x9, x10, x11, x12, x13, x14, x15, x16, x17, x18, x19, x20, x21, x22, x23, x24, x25, x26, x27, x28, x29, x30, x31, x32, x33, x34, x35, x36, x37, x38, x39, x40, x41, x42, x43, x44, x45, x46, x47, x48, x49, x50, x51, x52, x53, x54, x55, x56, x57, x58, x59, x60, x61, x62, x63, x64, x65, x66, x67, him, hz, hw0, rfl, rfl⟩
    have hwl : w.length ≤ 121 := by rw [hw0, List.length_append]; have := quoteB_len (s.take i); rw [List.length_take] at this; simp; omega
    have hq := quoteB_len (s.take i)
    rw [List.length_take] at hq
    apply RunP.seq
    apply RunP.seq
    apply RunP.region
    apply And.intro
    · intro hlt
      have hi : i < s.length := by omega
      have hb : s[i]? = some s[i] := List.getElem?_eq_getElem hi
      subst hz
      apply RunP.condT rfl
      apply RunP.skip
      apply RunP.seq
      apply RunP.block
      apply RunP.seq
      apply RunP.seq
      apply RunP.region
      apply And.intro
      · omega
      refine Exists.intro s[i] (And.intro hb ?_)
      have hw := wrap_up i (by omega)
      apply And.intro
      · intro d
        apply RunP.condT rfl
        apply RunP.region
        apply And.intro
        · simp; omega
        apply RunP.region
        apply And.intro
        · rw [hw]; omega
        apply And.intro
        · omega
        apply And.intro
        · rw [hw]; constructor
          · omega
          · simp; omega
        rw [hw]
        rw [slice_one hb]
        apply And.intro
        · simp; omega
        apply RunP.region
        refine ⟨m - 1, by omega, i + 1, _, _, _, _, _, _, _, _, _, _, _, _, _, _, _, _, _, _, _, _, _, _, _, _, _, _, _, _, _, _, _, _, _, _, _, _, _, _, _, _, _, _, _, _, _, _, _, _, _, _, _, _, _, _, _, _, _, _, _, _, _, _, _, _, _, by omega, hw, ?_, rfl, rfl⟩
        rw [quoteB_take hb, if_pos (.inl (u8_eq (n := 34) (by omega) d))]
        simp [hw0, List.append_assoc]
      · intro d
        apply And.intro
        · omega
        refine Exists.intro s[i] (And.intro hb ?_)
        apply And.intro
        · intro d2
          apply RunP.condT rfl
          apply RunP.region
          apply And.intro
          · simp; omega
          apply RunP.region
          apply And.intro
          · rw [hw]; omega
          apply And.intro
          · omega
          apply And.intro
          · rw [hw]; constructor
            · omega
            · simp; omega
          rw [hw]
          rw [slice_one hb]
          apply And.intro
          · simp; omega
          apply RunP.region
          refine ⟨m - 1, by omega, i + 1, _, _, _, _, _, _, _, _, _, _, _, _, _, _, _, _, _, _, _, _, _, _, _, _, _, _, _, _, _, _, _, _, _, _, _, _, _, _, _, _, _, _, _, _, _, _, _, _, _, _, _, _, _, _, _, _, _, _, _, _, _, _, _, _, _, by omega, hw, ?_, rfl, rfl⟩
          rw [quoteB_take hb, if_pos (.inr (u8_eq (n := 92) (by omega) d2))]
          simp [hw0, List.append_assoc]
        · intro d2
          apply RunP.condF rfl
          apply RunP.skip
          apply RunP.region
          apply And.intro
          · rw [hw]; omega
          apply And.intro
          · omega
          apply And.intro
          · rw [hw]; constructor
            · omega
            · simp; omega
          rw [hw]
          rw [slice_one hb]
          apply And.intro
          · simp; omega
          apply RunP.region
          refine ⟨m - 1, by omega, i + 1, _, _, _, _, _, _, _, _, _, _, _, _, _, _, _, _, _, _, _, _, _, _, _, _, _, _, _, _, _, _, _, _, _, _, _, _, _, _, _, _, _, _, _, _, _, _, _, _, _, _, _, _, _, _, _, _, _, _, _, _, _, _, _, _, _, by omega, hw, ?_, rfl, rfl⟩
          rw [quoteB_take hb, if_neg (fun h => h.elim (u8_ne (n := 34) (by omega) d) (u8_ne (n := 92) (by omega) d2))]
          simp [hw0, List.append_assoc]
    · intro hge
      have hi : i = s.length := by omega
      apply RunP.condF rfl
      apply RunP.exit
      apply RunP.seq
      apply RunP.region
      apply And.intro
      · simp; omega
      apply RunP.ret
      exact And.intro rfl (And.intro (fin (by rw [valText, if_neg c1, if_neg c2, if_pos c3, ← List.take_length (l := s), ← hi, ← hw0])) rfl)
  intro c3
  apply RunP.condF rfl
  apply RunP.seq
  apply RunP.region
  apply And.intro
  · intro c4
    apply RunP.condT rfl
    apply RunP.seq
    apply RunP.region
    refine CallK.of (itoa_has _ hn0 hn1) ?_
    apply And.intro
    · simp; omega
    apply RunP.ret
    exact And.intro rfl (And.intro (fin (by rw [valText, if_neg c1, if_neg c2, if_neg c3, if_pos c4])) rfl)
  intro c4
  apply RunP.condF rfl
  apply RunP.seq
  apply RunP.region
  apply And.intro
  · intro c5
    apply RunP.condT rfl
    apply RunP.seq
    apply RunP.region
    refine CallK.of (itoa_has _ hn0 hn1) ?_
    apply And.intro
    · simp; omega
    apply RunP.ret
    exact And.intro rfl (And.intro (fin (by rw [valText, if_neg c1, if_neg c2, if_neg c3, if_neg c4, if_pos c5])) rfl)
  intro c5
  apply RunP.condF rfl
  apply RunP.seq
  apply RunP.region
  apply And.intro
  · intro c6
    apply RunP.condT rfl
    apply RunP.seq
    apply RunP.region
    refine CallK.of (itoa_has _ hn0 hn1) ?_
    apply And.intro
    · simp; omega
    apply RunP.ret
    exact And.intro rfl (And.intro (fin (by rw [valText, if_neg c1, if_neg c2, if_neg c3, if_neg c4, if_neg c5, if_pos c6])) rfl)
  intro c6
  apply RunP.condF rfl
  apply RunP.skip
  apply RunP.seq
  apply RunP.region
  apply RunP.ret
  exact And.intro rfl (And.intro (fin (by rw [valText, if_neg c1, if_neg c2, if_neg c3, if_neg c4, if_neg c5, if_neg c6])) rfl)
end Go.Proofs.YtnefminojpandaaDoor
