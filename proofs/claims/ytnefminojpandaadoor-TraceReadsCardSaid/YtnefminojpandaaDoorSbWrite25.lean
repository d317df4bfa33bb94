/- The program's own text of a value, written into a builder. -/
import Derived.Test.YtnefminojpandaaDoorSbText25
set_option linter.unusedVariables false
set_option linter.unusedSimpArgs false
namespace Go.Proofs.YtnefminojpandaaDoor
open Go.Sb
set_option maxRecDepth 100000

theorem Bld.push {h : Heap} {b : Nat} {bs : List UInt8} (hb : Bld h b bs) (k : Blk) : Bld (push h k) b bs := by
  obtain ⟨p, v, h1, h2, h3⟩ := hb
  exact ⟨p, v, push_old h1, h2, h3.push k⟩

def vI (s0 : List UInt8) (k n : Int) (h0 : Heap) (b p : Nat) (bs : List UInt8) (m : Nat) (s : List V) (h : Heap) : Prop :=
  ∃ (i : Nat) (z : Int) (x4 x5 x6 x7 x8 x9 x10 x11 x12 x13 x14 x15 x16 x17 x18 x19 x20 x21 x22 x23 x24 x25 x26 x27 x28 x29 x30 x31 x32 x33 x34 x35 x36 x37 x38 x39 x40 x41 x42 x45 x46 x47 x48 x49 x50 x51 x52 x53 x54 x55 x56 x57 x58 x59 x60 x61 x62 x63 x64 x65 x66 x67 x68 x69 : V), i + m = s0.length ∧ z = i ∧ Bld h b (bs ++ ([34] ++ quoteB (s0.take i))) ∧ Keep h0 h ∧ h[p]? = some (.cells 23 [.int .i64 k, .int .i64 n, .str s0]) ∧
    s = [und, .ptr b 0 2, valV k n s0, und, .ptr p 0 3, x4, x5, x6, x7, x8, x9, x10, x11, x12, x13, x14, x15, x16, x17, x18, x19, x20, x21, x22, x23, x24, x25, x26, x27, x28, x29, x30, x31, x32, x33, x34, x35, x36, x37, x38, x39, x40, x41, x42, .int .i64 s0.length, .int .i64 z, x45, x46, x47, x48, x49, x50, x51, x52, x53, x54, x55, x56, x57, x58, x59, x60, x61, x62, x63, x64, x65, x66, x67, x68, x69]

theorem bool_has (h : Heap) (t : Bool) : Has env2 .own 63 [.bool t] h (.val (.str (if t = true then [116, 114, 117, 101] else [102, 97, 108, 115, 101])) h) := by
  have in86 : ∀ h, Has env2 .own 86 [.bool t] h (.val (.str (if t = true then [116, 114, 117, 101] else [102, 97, 108, 115, 101])) h) := fun h => by
    refine HasP.own (a := [.bool t]) (d := fn86) rfl rfl rfl (of_decide_eq_true rfl) ?_
    cases t
    · exact RunP.of (by exact ⟨rfl, rfl, rfl⟩)
    · exact RunP.of (by exact ⟨rfl, rfl, rfl⟩)
  refine HasP.own (a := [.bool t]) (d := fn63) rfl rfl rfl (of_decide_eq_true rfl) ?_
  apply RunP.seq
  apply RunP.region
  apply RunP.seq
  apply RunP.region
  refine CallK.of (in86 _) ?_
  apply RunP.ret
  exact ⟨rfl, rfl, rfl⟩

theorem wvalue_has {h : Heap} {b : Nat} {bs : List UInt8} (k n : Int) (s : List UInt8) (ho : okVal k n s = true) (hn0 : -9223372036854775808 ≤ n) (hn1 : n ≤ 9223372036854775807) (hb : Bld h b bs) (hr : bs.length ≤ 2 ^ 39) :
    ∃ w g, Has env2 .shared 37 [.ptr b 0 2, valV k n s] h (.val w g) ∧ (Bld g b (bs ++ valText k n s) ∧ Keep h g) := by
  refine HasP.sharedE (d := fn37) rfl (of_decide_eq_true rfl) ?_
  have hl := Lib.itoa_length_le n hn0 hn1
  have hb1 := hb.push (.cells 23 [.int .i64 k, .int .i64 n, .str s])
  have hk1 := Keep.push h (.cells 23 [.int .i64 k, .int .i64 n, .str s])
  have hp : (Sb.push h (.cells 23 [.int .i64 k, .int .i64 n, .str s]))[h.length]? = some (.cells 23 [.int .i64 k, .int .i64 n, .str s]) := by simp [Sb.push]
  apply RunP.seq
  apply RunP.region
  apply RunP.seq
  apply RunP.region
  refine bindK_of (load_last (E := env2) (t := 3) (n := 3) rfl) ?_
  apply RunP.block
  apply RunP.seq
  apply RunP.region
  apply And.intro
  · intro c0
    apply RunP.condT rfl
    apply RunP.region
    obtain ⟨w, g, g1, g2, g3⟩ := wb_has (95 : UInt8) hb1 (by omega)
    refine CallK.of g1 ?_
    exact ⟨rfl, by rw [valText, if_neg (by omega), if_neg (by omega), if_neg (by omega), if_neg (by omega), if_neg (by omega), if_neg (by omega)]; exact g2, hk1.trans g3⟩
  intro c0
  apply RunP.condF rfl
  apply RunP.seq
  apply RunP.region
  apply And.intro
  · intro c1
    apply RunP.condT rfl
    apply RunP.region
    refine bindK_of (load_last (E := env2) (t := 3) (n := 3) rfl) ?_
    refine CallK.of (itoa_has _ hn0 hn1) ?_
    obtain ⟨w, g, g1, g2, g3⟩ := ws_has (s := Lib.itoa n) hb1 (by omega)
    refine CallK.of g1 ?_
    exact ⟨rfl, by rw [valText, if_pos c1]; exact g2, hk1.trans g3⟩
  intro c1
  apply RunP.condF rfl
  apply RunP.seq
  apply RunP.region
  apply And.intro
  · intro c2
    apply RunP.condT rfl
    apply RunP.region
    refine bindK_of (load_last (E := env2) (t := 3) (n := 3) rfl) ?_
    apply And.intro
    · intro d
      refine CallK.of (bool_has _ true) ?_
      obtain ⟨w, g, g1, g2, g3⟩ := ws_has (s := [116, 114, 117, 101]) hb1 (by simp; omega)
      refine CallK.of g1 ?_
      exact ⟨rfl, by rw [valText, if_neg c1, if_pos c2, if_pos d]; exact g2, hk1.trans g3⟩
    · intro d
      refine CallK.of (bool_has _ false) ?_
      obtain ⟨w, g, g1, g2, g3⟩ := ws_has (s := [102, 97, 108, 115, 101]) hb1 (by simp; omega)
      refine CallK.of g1 ?_
      exact ⟨rfl, by rw [valText, if_neg c1, if_pos c2, if_neg d]; exact g2, hk1.trans g3⟩
  intro c2
  apply RunP.condF rfl
  apply RunP.seq
  apply RunP.region
  apply And.intro
  · intro c3
    have hs : s.length ≤ 60 := by
      have : okText s = true := by simp [okVal, c3] at ho; exact ho.2
      unfold okText at this
      simp at this; exact this.1
    apply RunP.condT rfl
    apply RunP.seq
    apply RunP.region
    obtain ⟨w, g, g1, g2, g3⟩ := wb_has (34 : UInt8) hb1 (by omega)
    refine CallK.of g1 ?_
    have hpg := g3.2 _ _ _ hp (by decide) (by decide)
    apply RunP.seq
    apply RunP.seq
    apply RunP.region
    refine bindK_of (load_at (E := env2) (t := 9) hpg rfl) ?_
    apply RunP.block
    refine RunP.loop (vI s k n h b h.length bs) ?_ s.length ⟨0, _, _, _, _, _, _, _, _, _, _, _, _, _, _, _, _, _, _, _, _, _, _, _, _, _, _, _, _, _, _, _, _, _, _, _, _, _, _, _, _, _, _, _, _, _, _, _, _, _, _, _, _, _, _, _, _, _, _, _, _, _, _, _, _, _, by omega, rfl, g2, hk1.trans g3, hpg, rfl⟩
    rintro m st gg ⟨i, z, x4, x5, x6, x7, x8, x9, x10, x11, x12, x13, x14, x15, x16, x17, x18, x19, x20, x21, x22, x23, x24, x25, x26, x27, x28, x29, x30, x31, x32, x33, x34, x35, x36, x37, x38, x39, x40, x41, x42, x45, x46, x47, x48, x49, x50, x51, x52, x53, x54, x55, x56, x57, x58, x59, x60, x61, x62, x63, x64, x65, x66, x67, x68, x69, him, hz, HB, HK, HP, rfl⟩
    have hq := quoteB_len (s.take i)
    rw [List.length_take] at hq
    apply RunP.seq
    apply RunP.region
    apply And.intro
    · intro hlt
      have hi : i < s.length := by omega
      have hbb : s[i]? = some s[i] := List.getElem?_eq_getElem hi
      subst hz
      have hw := wrap_up i (by omega)
      apply RunP.seq
      apply RunP.condT rfl
      apply RunP.skip
      apply RunP.seq
      apply RunP.block
      apply RunP.seq
      apply RunP.region
      apply RunP.seq
      apply RunP.seq
      apply RunP.region
      refine bindK_of (load_at (E := env2) (t := 9) HP rfl) ?_
      apply And.intro
      · omega
      refine Exists.intro s[i] (And.intro hbb ?_)
      apply And.intro
      · intro d
        apply RunP.condT rfl
        apply RunP.region
        obtain ⟨w1, g5, r1, r2, r3⟩ := wb_has (92 : UInt8) HB (by simp; omega)
        refine CallK.of r1 ?_
        replace HB := r2
        have HK := HK.trans r3
        replace HP := r3.2 _ _ _ HP (by decide) (by decide)
        obtain ⟨w2, g2, q1, q2, q3⟩ := wb_has s[i] HB (by simp; omega)
        apply RunP.region
        refine bindK_of (load_at (E := env2) (t := 9) HP rfl) ?_
        apply And.intro
        · omega
        refine Exists.intro s[i] (And.intro hbb ?_)
        refine CallK.of q1 ?_
        apply RunP.region
        refine ⟨m - 1, by omega, i + 1, _, _, _, _, _, _, _, _, _, _, _, _, _, _, _, _, _, _, _, _, _, _, _, _, _, _, _, _, _, _, _, _, _, _, _, _, _, _, _, _, _, _, _, _, _, _, _, _, _, _, _, _, _, _, _, _, _, _, _, _, _, _, _, _, _, by omega, hw, ?_, HK.trans q3, q3.2 _ _ _ HP (by decide) (by decide), rfl⟩
        rw [quoteB_take hbb, if_pos (.inl (u8_eq (n := 34) (by omega) d))]
        simpa [List.append_assoc] using q2
      · intro d
        refine bindK_of (load_at (E := env2) (t := 9) HP rfl) ?_
        apply And.intro
        · omega
        refine Exists.intro s[i] (And.intro hbb ?_)
        apply And.intro
        · intro d2
          apply RunP.condT rfl
          apply RunP.region
          obtain ⟨w1, g5, r1, r2, r3⟩ := wb_has (92 : UInt8) HB (by simp; omega)
          refine CallK.of r1 ?_
          replace HB := r2
          have HK := HK.trans r3
          replace HP := r3.2 _ _ _ HP (by decide) (by decide)
          obtain ⟨w2, g2, q1, q2, q3⟩ := wb_has s[i] HB (by simp; omega)
          apply RunP.region
          refine bindK_of (load_at (E := env2) (t := 9) HP rfl) ?_
          apply And.intro
          · omega
          refine Exists.intro s[i] (And.intro hbb ?_)
          refine CallK.of q1 ?_
          apply RunP.region
          refine ⟨m - 1, by omega, i + 1, _, _, _, _, _, _, _, _, _, _, _, _, _, _, _, _, _, _, _, _, _, _, _, _, _, _, _, _, _, _, _, _, _, _, _, _, _, _, _, _, _, _, _, _, _, _, _, _, _, _, _, _, _, _, _, _, _, _, _, _, _, _, _, _, _, by omega, hw, ?_, HK.trans q3, q3.2 _ _ _ HP (by decide) (by decide), rfl⟩
          rw [quoteB_take hbb, if_pos (.inr (u8_eq (n := 92) (by omega) d2))]
          simpa [List.append_assoc] using q2
        · intro d2
          apply RunP.condF rfl
          apply RunP.skip
          obtain ⟨w2, g2, q1, q2, q3⟩ := wb_has s[i] HB (by simp; omega)
          apply RunP.region
          refine bindK_of (load_at (E := env2) (t := 9) HP rfl) ?_
          apply And.intro
          · omega
          refine Exists.intro s[i] (And.intro hbb ?_)
          refine CallK.of q1 ?_
          apply RunP.region
          refine ⟨m - 1, by omega, i + 1, _, _, _, _, _, _, _, _, _, _, _, _, _, _, _, _, _, _, _, _, _, _, _, _, _, _, _, _, _, _, _, _, _, _, _, _, _, _, _, _, _, _, _, _, _, _, _, _, _, _, _, _, _, _, _, _, _, _, _, _, _, _, _, _, _, by omega, hw, ?_, HK.trans q3, q3.2 _ _ _ HP (by decide) (by decide), rfl⟩
          rw [quoteB_take hbb, if_neg (fun h => h.elim (u8_ne (n := 34) (by omega) d) (u8_ne (n := 92) (by omega) d2))]
          simpa [List.append_assoc] using q2
    · intro hge
      have hi : i = s.length := by omega
      apply RunP.seq
      apply RunP.condF rfl
      apply RunP.exit
      apply RunP.region
      obtain ⟨w2, g2, q1, q2, q3⟩ := wb_has (34 : UInt8) HB (by simp; omega)
      refine CallK.of q1 ?_
      refine ⟨rfl, ?_, HK.trans q3⟩
      rw [hi, List.take_length] at q2
      rw [valText, if_neg c1, if_neg c2, if_pos c3]
      simpa [List.append_assoc] using q2
  intro c3
  have hk : k = 4 ∨ k = 5 ∨ k = 6 := by
    by_cases hk : k = 4 ∨ k = 5 ∨ k = 6
    · exact hk
    · simp [okVal, c0, c1, c2, c3, hk] at ho
  apply RunP.condF rfl
  apply RunP.seq
  apply RunP.region
  refine bindK_of (load_last (E := env2) (t := 3) (n := 3) rfl) ?_
  have ctl : ∃ c : UInt8, 0 ≤ IntKind.i64.wrap (k - 4) ∧ ([99, 116, 108] : List UInt8)[(IntKind.i64.wrap (k - 4)).toNat]? = some c ∧ valText k n s = [c] ++ Lib.itoa n := by
    rcases hk with rfl | rfl | rfl
    · exact ⟨99, by decide, rfl, rfl⟩
    · exact ⟨116, by decide, rfl, rfl⟩
    · exact ⟨108, by decide, rfl, rfl⟩
  obtain ⟨c, t1, t2, t3⟩ := ctl
  apply And.intro
  · exact t1
  refine Exists.intro c (And.intro t2 ?_)
  obtain ⟨w, g, g1, g2, g3⟩ := wb_has c hb1 (by omega)
  refine CallK.of g1 ?_
  have hpg := g3.2 _ _ _ hp (by decide) (by decide)
  apply RunP.region
  refine bindK_of (load_at (E := env2) (t := 3) hpg rfl) ?_
  refine CallK.of (itoa_has _ hn0 hn1) ?_
  obtain ⟨w2, g2', q1, q2, q3⟩ := ws_has (s := Lib.itoa n) g2 (by simp; omega)
  refine CallK.of q1 ?_
  refine ⟨rfl, ?_, (hk1.trans g3).trans q3⟩
  rw [t3]
  simpa [List.append_assoc] using q2
end Go.Proofs.YtnefminojpandaaDoor
