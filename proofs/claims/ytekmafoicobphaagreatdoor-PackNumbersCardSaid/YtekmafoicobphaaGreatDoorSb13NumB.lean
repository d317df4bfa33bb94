/- Seat 13: the bytes of a number: the program's. -/
import Derived.Test.YtekmafoicobphaaGreatDoorSb13Sum
import Derived.Test.YtekmafoicobphaaGreatDoorSbOwnE
set_option linter.unusedVariables false
set_option linter.unusedSimpArgs false
namespace Go.Proofs.YtekmafoicobphaaGreatDoor
open Go.Sb
set_option maxRecDepth 100000

/-- The bytes of a number. -/
def numB (n : Nat) : List UInt8 := if n ≤ 127 then [UInt8.ofNat n] else UInt8.ofNat (128 + n % 128) :: numB (n / 128)
termination_by n
theorem numB_lo {n : Nat} (h : n ≤ 127) : numB n = [UInt8.ofNat n] := by rw [numB, if_pos h]
theorem numB_hi {n : Nat} (h : 127 < n) : numB n = UInt8.ofNat (128 + n % 128) :: numB (n / 128) := by rw [numB, if_neg (by omega)]
theorem numB_len : ∀ (k n : Nat), n < 128 ^ (k + 1) → (numB n).length ≤ k + 1
  | 0, n, h => by rw [numB_lo (by omega)]; simp
  | k + 1, n, h => by
    by_cases hn : n ≤ 127
    · rw [numB_lo hn]; simp
    · rw [numB_hi (by omega), List.length_cons]
      have := numB_len k (n / 128) (by rw [Nat.div_lt_iff_lt_mul (by omega)]; rwa [Nat.pow_succ] at h)
      omega
theorem numB_pos (n : Nat) : 0 < (numB n).length := by
  by_cases hn : n ≤ 127
  · rw [numB_lo hn]; simp
  · rw [numB_hi (by omega)]; simp

/-- What holds no bytes stays. -/
def KeepB (h h' : Heap) : Prop := h.length ≤ h'.length ∧ ∀ (i : Nat) (U : TypeId) (cs : List V), h[i]? = some (Blk.cells U cs) → U ≠ 5 → h'[i]? = some (Blk.cells U cs)
theorem KeepB.refl (h : Heap) : KeepB h h := ⟨Nat.le_refl _, fun _ _ _ h _ => h⟩
theorem KeepB.trans {a b c : Heap} (h1 : KeepB a b) (h2 : KeepB b c) : KeepB a c := ⟨Nat.le_trans h1.1 h2.1, fun i U cs h u => h2.2 i U cs (h1.2 i U cs h u) u⟩
theorem KeepB.push (h : Heap) (k : Blk) : KeepB h (Sb.push h k) := ⟨by simp [Sb.push], fun i U cs hi _ => push_old hi⟩

theorem roomy_b {n : Nat} (h : n ≤ 2 ^ 40) : roomy 1 n = true := by
  simp [roomy]; omega

theorem fz_bytes {E : Env} {h : Heap} {n : Nat} {T : TypeId} {d : TyD} {v : V} {l : List UInt8} (hr : InRow h T 1 v (bv l)) (hT : E.ty T = some d) (hd : d.size = 1) (ha : d.agg = false) (hl : l ≠ []) : fz E h (n + 2) v = some (.lst 1 (bv l)) := by
  rcases hr with ⟨_, h2⟩ | ⟨b, rfl, hb, _⟩
  · exact absurd (List.map_eq_nil_iff.1 h2) hl
  · rw [bv_cells] at hb
    have hca : cellsAt h b ((bv l).length * 1) = some (T, bv l) := by simp [cellsAt, hb]
    rw [fz_sl]
    simp only [hca, Option.bind_some, hT]
    rw [if_pos ⟨hd, by omega, by omega, Nat.le_refl _⟩, if_neg (by simp [ha]), if_pos trivial, List.drop_zero, List.take_length, mapM_leaf]
    · rfl
    · intro c hc
      obtain ⟨b, _, rfl⟩ := List.mem_map.1 hc
      rfl

/-- One byte more. -/
theorem append_byte {h : Heap} {o : V} {q : List UInt8} {X : Int} {c : UInt8} (hX : X = c.toNat) (hr : InRow h 5 1 o (bv q)) (hl : q.length + 1 ≤ 2 ^ 40) : ∃ v' h', evAppend envQ 49 o (.sl h.length 0 1 1 1 1) (push h (.cells 5 [.int .u8 X])) = some (v', h') ∧ InRow h' 5 1 v' (bv (q ++ [c])) ∧ KeepB h h' := by
  obtain ⟨v', g2, a1, a2, a3, a4⟩ := append_row (E := envQ) (t := 49) (T := 5) (e := 1) (es' := bv [c]) (k := 1) (x := .sl h.length 0 1 1 1 1) rfl rfl rfl rfl (by omega) (hr.push (.cells 5 [.int .u8 X])) (by rw [bv_cells]; simp) (by rw [bv_cells, hX]; exact contents_last (n := 1) h 5 [.int .u8 c.toNat] rfl) rfl (roomy_b (by simpa [bv] using hl))
  refine ⟨v', g2, a1, by simpa [bv] using a2, (KeepB.push h _).trans ⟨a3, a4⟩⟩

theorem wrap8 (x : Int) (h0 : 0 ≤ x) (h1 : x < 256) : IntKind.u8.wrap x = ((UInt8.ofNat x.toNat).toNat : Int) := by
  simp [IntKind.wrap, IntKind.signed, IntKind.bits]
  omega

/-- How number stands ahead of a round. -/
def nuI (h0 : Heap) (pre : List UInt8) (n : Nat) (k : Nat) (s : List V) (h : Heap) : Prop :=
  ∃ (o : V) (z : Int) (q : List UInt8), (z = k ∧ k < 2 ^ 63 ∧ InRow h 5 1 o (bv q) ∧ q ++ numB k = pre ++ numB n ∧ KeepB h0 h) ∧ s.length = 22 ∧ s.getD 0 und = und ∧ s.getD 1 und = o ∧ s.getD 2 und = .int .i64 z ∧ s.getD 5 und = .nils
theorem nuI_lit {h0 : Heap} {pre : List UInt8} {n : Nat} {k : Nat} {s : List V} {h : Heap} (hI : nuI h0 pre n k s h) : ∃ (o : V) (z : Int) (q : List UInt8) (x : Nat → V), (z = k ∧ k < 2 ^ 63 ∧ InRow h 5 1 o (bv q) ∧ q ++ numB k = pre ++ numB n ∧ KeepB h0 h) ∧
    s = [und, o, .int .i64 z, x 3, x 4, .nils, x 6, x 7, x 8, x 9, x 10, x 11, x 12, x 13, x 14, x 15, x 16, x 17, x 18, x 19, x 20, x 21] := by
  obtain ⟨o, z, q, hF, hl, e0, e1, e2, e5⟩ := hI
  refine ⟨o, z, q, fun n => s.getD n und, hF, (lit_of hl).trans ?_⟩
  show [s.getD 0 und, s.getD 1 und, s.getD 2 und, s.getD 3 und, s.getD 4 und, s.getD 5 und, s.getD 6 und, s.getD 7 und, s.getD 8 und, s.getD 9 und, s.getD 10 und, s.getD 11 und, s.getD 12 und, s.getD 13 und, s.getD 14 und, s.getD 15 und, s.getD 16 und, s.getD 17 und, s.getD 18 und, s.getD 19 und, s.getD 20 und, s.getD 21 und] = _
  rw [e0, e1, e2, e5]

set_option maxHeartbeats 2000000 in
theorem number_run {h : Heap} {o : V} {pre : List UInt8} (hr : InRow h 5 1 o (bv pre)) (n : Nat) (hn : n < 2 ^ 63) (hl : pre.length ≤ 2 ^ 39) :
    RunP envQ fn36.md fn36.body (initT 21 [o, .int .i64 n]) h (endK envQ fn36 fun w g => InRow g 5 1 w (bv (pre ++ numB n)) ∧ KeepB h g) := by
  apply RunP.seq
  apply RunP.region
  apply RunP.seq
  apply RunP.block
  refine RunP.loop (nuI h pre n) ?_ n ⟨o, _, pre, ⟨rfl, hn, hr, rfl, KeepB.refl h⟩, rfl, rfl, rfl, rfl, rfl⟩
  intro k st g hI
  obtain ⟨o, z, q, x, ⟨hz, hk, hrow, hq, hkeep⟩, rfl⟩ := nuI_lit hI
  clear hI
  subst hz
  have hql : q.length + (numB k).length = pre.length + (numB n).length := by
    have := congrArg List.length hq; simpa using this
  have hnl := numB_len 9 n (by omega)
  have hkp := numB_pos k
  apply RunP.seq
  apply RunP.seq
  apply RunP.region
  apply And.intro
  · intro hgt
    have hk7 : 127 < k := by omega
    apply RunP.condT rfl
    apply RunP.skip
    apply RunP.seq
    apply RunP.block
    apply RunP.region
    refine And.intro rfl (And.intro (by decide) ?_)
    have e1 : IntKind.u8.wrap (IntKind.i64.wrap (128 + (k : Int).tmod 128)) = ((UInt8.ofNat (128 + k % 128)).toNat : Int) := by
      rw [Int.tmod_eq_emod_of_nonneg (by omega), wrapS (by omega) (by omega), wrap8 _ (by omega) (by omega)]
      rw [show ((128 : Int) + (k : Int) % 128).toNat = 128 + k % 128 from by omega]
    obtain ⟨v', g', a1, a2, a3⟩ := append_byte e1 hrow (by omega)
    refine bindR_of (congrArg valH a1) ?_
    apply RunP.region
    refine And.intro rfl (And.intro (by decide) ?_)
    refine ⟨k / 128, by omega, v', _, q ++ [UInt8.ofNat (128 + k % 128)], ⟨?_, by omega, a2, ?_, hkeep.trans a3⟩, rfl, rfl, rfl, rfl, rfl⟩
    · rw [Int.tdiv_eq_ediv_of_nonneg (by omega), wrapS (by omega) (by omega)]; omega
    · rw [← hq, numB_hi hk7]; simp
  · intro hle
    have hk7 : k ≤ 127 := by omega
    apply RunP.condF rfl
    apply RunP.exit
    apply RunP.seq
    apply RunP.region
    have e1 : IntKind.u8.wrap (k : Int) = ((UInt8.ofNat k).toNat : Int) := by
      rw [wrap8 _ (by omega) (by omega)]; rfl
    obtain ⟨v', g', a1, a2, a3⟩ := append_byte e1 hrow (by omega)
    refine bindR_of (congrArg valH a1) ?_
    apply RunP.ret
    refine ⟨rfl, ?_, hkeep.trans a3⟩
    rw [← hq, numB_lo hk7]
    exact a2

theorem number_has (h : Heap) (n : Nat) (hn : n < 2 ^ 63) : Has envQ .own 36 [.nils, .int .i64 n] h (.val (.lst 1 (bv (numB n))) h) := by
  refine HasP.own (a := [.nils, .int .i64 n]) (d := fn36) rfl rfl rfl (of_decide_eq_true rfl) ?_
  rw [forceL_iff]
  have := number_run (h := []) (o := .nils) (pre := []) (.inl ⟨rfl, rfl⟩) n hn (by decide)
  obtain ⟨e, s', g, h1, h2⟩ := this.ok
  refine ⟨e, s', g, ?_, h2⟩
  have fin : ∀ w, InRow g 5 1 w (bv ([] ++ numB n)) → fz envQ g depthF w = some (.lst 1 (bv (numB n))) ∧ (V.norefs [.nils, .int .i64 n] || V.flat (.lst 1 (bv (numB n)))) = true := fun w hw =>
    ⟨fz_bytes (n := 10) hw (rfl : envQ.ty 5 = some ty5) rfl rfl (by intro hh; have := numB_pos n; rw [hh] at this; simp at this), rfl⟩
  cases e with
  | normal => obtain ⟨k1, k2⟩ := h1; obtain ⟨v, k3, k4⟩ := bindK_to k2; exact ⟨k1, bindK_of k3 (fin v k4.1)⟩
  | ret => obtain ⟨k1, k2⟩ := h1; obtain ⟨v, k3, k4⟩ := bindK_to k2; exact ⟨k1, bindK_of k3 (fin v k4.1)⟩
  | _ => exact (show False from h1).elim

/-- pack.Number -/
theorem numberN_has (h : Heap) (n : Nat) (hn : n < 2 ^ 63) : Has envQ .own 18 [.int .i64 n] h (.val (.tup [.str (numB n), .int .i64 0]) h) := by
  refine HasP.own (a := [.int .i64 n]) (d := fn18) rfl rfl rfl (of_decide_eq_true rfl) ?_
  apply RunP.seq
  apply RunP.region
  apply RunP.seq
  apply RunP.seq
  apply RunP.region
  refine And.intro (fun hlt => by omega) (fun _ => ?_)
  apply RunP.condF rfl
  apply RunP.skip
  apply RunP.seq
  apply RunP.region
  refine CallK.of (number_has _ n hn) ?_
  refine bindP_of (v := .str (numB n)) (h := []) ?_ ?_
  · show ((contents [] 1 (.lst 1 (bv (numB n)))).bind fun c => (bytesV c.2).map fun l => (V.str l, ([] : Heap))) = _
    simp [contents, bv_cells, bytesV_bv]
  apply RunP.ret
  exact ⟨rfl, rfl, rfl⟩
theorem numberN_neg (h : Heap) (z : Int) (hz : z < 0) : Has envQ .own 18 [.int .i64 z] h (.val (.tup [.str [], .int .i64 30]) h) := by
  refine HasP.own (a := [.int .i64 z]) (d := fn18) rfl rfl rfl (of_decide_eq_true rfl) ?_
  apply RunP.seq
  apply RunP.region
  apply RunP.seq
  apply RunP.seq
  apply RunP.region
  refine And.intro (fun _ => ?_) (fun hle => by omega)
  apply RunP.condT rfl
  apply RunP.seq
  apply RunP.region
  apply RunP.ret
  exact ⟨rfl, rfl, rfl⟩
end Go.Proofs.YtekmafoicobphaaGreatDoor
