/- Seat 13: the sum of bytes; the law PackSums (awake told). -/
import Derived.Test.YtekmafoicobphaaGreatDoorSb13Base
import Derived.Test.YtekmafoicobphaaGreatDoorSbOwnE
import Derived.Test.YtekmafoicobphaaGreatDoorSbLex3
import Derived.Test.YtekmafoicobphaaGreatDoorSb10Chk1
import Derived.Test.YtekmafoicobphaaGreatDoorSbIter
set_option linter.unusedVariables false
set_option linter.unusedSimpArgs false
namespace Go.Proofs.YtekmafoicobphaaGreatDoor
open Go.Sb
set_option maxRecDepth 100000
def sumS (l : List UInt8) : Int × Int := l.foldl (fun p c => ((p.1 + c.toNat) % 65521, (p.2 + (p.1 + c.toNat) % 65521) % 65521)) (1, 0)
theorem ywy (l : List UInt8) (c : UInt8) : sumS (l ++ [c]) = (((sumS l).1 + c.toNat) % 65521, ((sumS l).2 + ((sumS l).1 + c.toNat) % 65521) % 65521) := by
 simp [sumS, List.foldl_append]
theorem ykk (l : List UInt8) : (0 ≤ (sumS l).1 ∧ (sumS l).1 < 65521) ∧ (0 ≤ (sumS l).2 ∧ (sumS l).2 < 65521) := by
 have h : ∀ (r : List UInt8) (p : Int × Int), (0 ≤ p.1 ∧ p.1 < 65521) ∧ (0 ≤ p.2 ∧ p.2 < 65521) → (0 ≤ (r.foldl (fun p c => ((p.1 + (c.toNat : Int)) % 65521, (p.2 + (p.1 + c.toNat) % 65521) % 65521)) p).1 ∧ (r.foldl (fun p c => ((p.1 + (c.toNat : Int)) % 65521, (p.2 + (p.1 + c.toNat) % 65521) % 65521)) p).1 < 65521) ∧ (0 ≤ (r.foldl (fun p c => ((p.1 + (c.toNat : Int)) % 65521, (p.2 + (p.1 + c.toNat) % 65521) % 65521)) p).2 ∧ (r.foldl (fun p c => ((p.1 + (c.toNat : Int)) % 65521, (p.2 + (p.1 + c.toNat) % 65521) % 65521)) p).2 < 65521) := by
  intro r
  induction r with
  | nil => intro p hp; exact hp
  | cons c r ih =>
   intro p hp
   simp only [List.foldl_cons]
   exact ih _ ⟨by simp only; omega, by simp only; omega⟩
 exact h l (1, 0) ⟨by decide, by decide⟩
def sumB (l : List UInt8) : Int := (sumS l).2 * 65536 + (sumS l).1
theorem sum_append (x z : List UInt8) : sumS (x ++ z) = z.foldl (fun p c => ((p.1 + (c.toNat : Int)) % 65521, (p.2 + (p.1 + c.toNat) % 65521) % 65521)) (sumS x) := by
 simp [sumS, List.foldl_append]
theorem sumB_inj {x y : List UInt8} (h : sumB x = sumB y) : sumS x = sumS y := by
 have h1 := ykk x
 have h2 := ykk y
 unfold sumB at h
 exact Prod.ext (by omega) (by omega)
def suI (u : List UInt8) (k : Nat) (s : List V) (h : Heap) : Prop :=
 ∃ (i : Nat) (z a b : Int), (i + k = u.length ∧ z = i ∧ a = (sumS (u.take i)).1 ∧ b = (sumS (u.take i)).2) ∧ s.length = 28 ∧ s.getD 0 und = und ∧ s.getD 1 und = .str u ∧ s.getD 3 und = .int .i64 0 ∧ s.getD 4 und = .int .i64 a ∧ s.getD 5 und = .int .i64 b ∧ s.getD 7 und = .str u ∧ s.getD 8 und = .int .i64 u.length ∧ s.getD 9 und = .int .i64 z
theorem suI_lit {u : List UInt8} {k : Nat} {s : List V} {h : Heap} (hI : suI u k s h) : ∃ (i : Nat) (z a b : Int) (x : Nat → V), (i + k = u.length ∧ z = i ∧ a = (sumS (u.take i)).1 ∧ b = (sumS (u.take i)).2) ∧
  s = [und, .str u, x 2, .int .i64 0, .int .i64 a, .int .i64 b, x 6, .str u, .int .i64 u.length, .int .i64 z, x 10, x 11, x 12, x 13, x 14, x 15, x 16, x 17, x 18, x 19, x 20, x 21, x 22, x 23, x 24, x 25, x 26, x 27] := by
 obtain ⟨i, z, a, b, hF, hl, e0, e1, e3, e4, e5, e7, e8, e9⟩ := hI
 refine ⟨i, z, a, b, fun n => s.getD n und, hF, (ybd hl).trans ?_⟩
 simp only [List.range, List.range.loop, List.map_cons, List.map_nil]
 rw [e0, e1, e3, e4, e5, e7, e8, e9]
set_option maxHeartbeats 2000000 in
theorem sum_has (h : Heap) (s : List UInt8) (hl : s.length ≤ 2 ^ 38) : Has envQ .own 16 [.str s] h (.val (.int .i64 (sumB s)) h) := by
 refine HasP.own (a := [.str s]) (d := fn16) rfl rfl rfl (jT rfl) ?_
 apply jA
 apply jB
 apply jA
 apply jB
 apply jA
 apply jA
 apply jB
 apply jF
 refine RunP.loop (suI s) ?_ s.length ⟨0, _, _, _, ⟨by omega, rfl, rfl, rfl⟩, rfl, rfl, rfl, rfl, rfl, rfl, rfl, rfl, rfl⟩
 intro k st g hI
 obtain ⟨i, z, a, b, x, ⟨hik, hz, ha, hb⟩, rfl⟩ := suI_lit hI
 clear hI
 subst hz
 have hr := ykk (s.take i)
 rw [← ha, ← hb] at hr
 have hiz : (0 : Int) ≤ (i : Int) := by omega
 apply jA
 apply jB
 apply jI
 ·intro hlt
  have hi : i < s.length := by omega
  obtain ⟨c, hc⟩ : ∃ c, s[i]? = some c := ⟨_, List.getElem?_eq_getElem hi⟩
  have hcl : c.toNat < 256 := c.toNat_lt
  apply jA
  apply jC rfl
  apply jE
  apply jA
  apply jF
  apply jA
  apply jB
  apply jA
  apply jB
  refine jI hiz (Exists.intro c (jI hc ?_))
  have e1 : IntKind.i64.wrap (a + IntKind.i64.wrap (c.toNat : Int)) = a + c.toNat := by rw [wrapS (x := (c.toNat : Int)) (by omega) (by omega), wrapS (by omega) (by omega)]
  have e2 : (IntKind.i64.wrap (a + IntKind.i64.wrap (c.toNat : Int))).tmod 65521 = (a + c.toNat) % 65521 := by rw [e1, Int.tmod_eq_emod_of_nonneg (by omega)]
  refine jI rfl (jI (by decide) ?_)
  apply jB
  refine jI rfl (jI (by decide) ?_)
  have e3 : (IntKind.i64.wrap (b + (IntKind.i64.wrap (a + IntKind.i64.wrap (c.toNat : Int))).tmod 65521)).tmod 65521 = (b + (a + c.toNat) % 65521) % 65521 := by
   rw [e2, wrapS (by omega) (by omega), Int.tmod_eq_emod_of_nonneg (by omega)]
  apply jB
  have ht : sumS (s.take (i + 1)) = ((a + c.toNat) % 65521, (b + (a + c.toNat) % 65521) % 65521) := by
   rw [List.take_add_one, hc]
   simp only [Option.toList_some]
   rw [ywy, ← ha, ← hb]
  refine ⟨k - 1, by omega, i + 1, _, _, _, ⟨by omega, ycp i (by omega), by rw [ht]; exact e2, by rw [ht]; exact e3⟩, rfl, rfl, rfl, rfl, rfl, rfl, rfl, rfl, rfl⟩
 ·intro hge
  apply jA
  apply jD rfl
  apply jG
  have hi : i = s.length := by omega
  rw [hi, List.take_length] at ha hb
  apply jA
  apply jB
  apply jI
  ·omega
  apply jH
  refine ⟨rfl, ?_, rfl⟩
  have e5 : IntKind.i64.wrap (IntKind.i64.wrap (b * 2 ^ (min (16 : Int).toNat IntKind.i64.bits)) + a) = sumB s := by
   rw [show min (16 : Int).toNat IntKind.i64.bits = 16 from rfl, wrapS (x := b * 2 ^ 16) (by omega) (by omega), wrapS (by omega) (by omega), sumB, ha, hb, show (2 : Int) ^ 16 = 65536 from by decide]
  exact congrArg (fun z => some (V.int IntKind.i64 z)) e5
end Go.Proofs.YtekmafoicobphaaGreatDoor

/- Seat 13: the bytes of a number: the program's. -/

namespace Go.Proofs.YtekmafoicobphaaGreatDoor
open Go.Sb
set_option maxRecDepth 100000
def numB (n : Nat) : List UInt8 := if n ≤ 127 then [UInt8.ofNat n] else UInt8.ofNat (128 + n % 128) :: numB (n / 128)
termination_by n
theorem yih {n : Nat} (h : n ≤ 127) : numB n = [UInt8.ofNat n] := by rw [numB, if_pos h]
theorem ykl {n : Nat} (h : 127 < n) : numB n = UInt8.ofNat (128 + n % 128) :: numB (n / 128) := by rw [numB, if_neg (by omega)]
theorem ynh : ∀ (k n : Nat), n < 128 ^ (k + 1) → (numB n).length ≤ k + 1
 | 0, n, h => by rw [yih (by omega)]; simp
 | k + 1, n, h => by
  by_cases hn : n ≤ 127
  ·rw [yih hn]; simp
  ·rw [ykl (by omega), List.length_cons]
   have := ynh k (n / 128) (by rw [Nat.div_lt_iff_lt_mul (by omega)]; rwa [Nat.pow_succ] at h)
   omega
theorem yni (n : Nat) : 0 < (numB n).length := by
 by_cases hn : n ≤ 127
 ·rw [yih hn]; simp
 ·rw [ykl (by omega)]; simp
def KeepB (h h' : Heap) : Prop := h.length ≤ h'.length ∧ ∀ (i : Nat) (U : TypeId) (cs : List V), h[i]? = some (Blk.cells U cs) → U ≠ 5 → h'[i]? = some (Blk.cells U cs)
theorem KeepB.refl (h : Heap) : KeepB h h := ⟨Nat.le_refl _, fun _ _ _ h _ => h⟩
theorem KeepB.trans {a b c : Heap} (h1 : KeepB a b) (h2 : KeepB b c) : KeepB a c := ⟨Nat.le_trans h1.1 h2.1, fun i U cs h u => h2.2 i U cs (h1.2 i U cs h u) u⟩
theorem KeepB.push (h : Heap) (k : Blk) : KeepB h (Sb.push h k) := ⟨by simp [Sb.push], fun i U cs hi _ => yam hi⟩
theorem yrd {n : Nat} (h : n ≤ 2 ^ 40) : roomy 1 n = true := by
 simp [roomy]; omega
theorem ynj {E : Env} {h : Heap} {n : Nat} {T : TypeId} {d : TyD} {v : V} {l : List UInt8} (hr : InRow h T 1 v (bv l)) (hT : E.ty T = some d) (hd : d.size = 1) (ha : d.agg = false) (hl : l ≠ []) : fz E h (n + 2) v = some (.lst 1 (bv l)) := by
 rcases hr with ⟨_, h2⟩ | ⟨b, rfl, hb, _⟩
 ·exact absurd (List.map_eq_nil_iff.1 h2) hl
 ·rw [yds] at hb
  have hca : yaz h b ((bv l).length * 1) = some (T, bv l) := by simp [yaz, hb]
  rw [fz_sl]
  simp only [hca, Option.bind_some, hT]
  rw [if_pos ⟨hd, by omega, by omega, Nat.le_refl _⟩, if_neg (by simp [ha]), if_pos trivial, List.drop_zero, List.take_length, ygy]
  ·rfl
  ·intro c hc
   obtain ⟨b, _, rfl⟩ := List.mem_map.1 hc
   rfl
theorem ykm {h : Heap} {o : V} {q : List UInt8} {X : Int} {c : UInt8} (hX : X = c.toNat) (hr : InRow h 5 1 o (bv q)) (hl : q.length + 1 ≤ 2 ^ 40) : ∃ v' h', ycz envQ 49 o (.sl h.length 0 1 1 1 1) (push h (.cells 5 [.int .u8 X])) = some (v', h') ∧ InRow h' 5 1 v' (bv (q ++ [c])) ∧ KeepB h h' := by
 obtain ⟨v', g2, a1, a2, a3, a4⟩ := yqt (E := envQ) (t := 49) (T := 5) (e := 1) (es' := bv [c]) (k := 1) (x := .sl h.length 0 1 1 1 1) rfl rfl rfl rfl (by omega) (hr.push (.cells 5 [.int .u8 X])) (by rw [yds]; simp) (by rw [yds, hX]; exact yic (n := 1) h 5 [.int .u8 c.toNat] rfl) rfl (yrd (by simpa [bv] using hl))
 refine ⟨v', g2, a1, by simpa [bv] using a2, (KeepB.push h _).trans ⟨a3, a4⟩⟩
theorem wrap8 (x : Int) (h0 : 0 ≤ x) (h1 : x < 256) : IntKind.u8.wrap x = ((UInt8.ofNat x.toNat).toNat : Int) := by
 simp [IntKind.wrap, IntKind.signed, IntKind.bits]
 omega
def nuI (h0 : Heap) (pre : List UInt8) (n : Nat) (k : Nat) (s : List V) (h : Heap) : Prop :=
 ∃ (o : V) (z : Int) (q : List UInt8), (z = k ∧ k < 2 ^ 63 ∧ InRow h 5 1 o (bv q) ∧ q ++ numB k = pre ++ numB n ∧ KeepB h0 h) ∧ s.length = 22 ∧ s.getD 0 und = und ∧ s.getD 1 und = o ∧ s.getD 2 und = .int .i64 z ∧ s.getD 5 und = .nils
theorem nuI_lit {h0 : Heap} {pre : List UInt8} {n : Nat} {k : Nat} {s : List V} {h : Heap} (hI : nuI h0 pre n k s h) : ∃ (o : V) (z : Int) (q : List UInt8) (x : Nat → V), (z = k ∧ k < 2 ^ 63 ∧ InRow h 5 1 o (bv q) ∧ q ++ numB k = pre ++ numB n ∧ KeepB h0 h) ∧
  s = [und, o, .int .i64 z, x 3, x 4, .nils, x 6, x 7, x 8, x 9, x 10, x 11, x 12, x 13, x 14, x 15, x 16, x 17, x 18, x 19, x 20, x 21] := by
 obtain ⟨o, z, q, hF, hl, e0, e1, e2, e5⟩ := hI
 refine ⟨o, z, q, fun n => s.getD n und, hF, (ybd hl).trans ?_⟩
 simp only [List.range, List.range.loop, List.map_cons, List.map_nil]
 rw [e0, e1, e2, e5]
set_option maxHeartbeats 2000000 in
theorem ywz {h : Heap} {o : V} {pre : List UInt8} (hr : InRow h 5 1 o (bv pre)) (n : Nat) (hn : n < 2 ^ 63) (hl : pre.length ≤ 2 ^ 39) :
  RunP envQ fn36.md fn36.body (initT 21 [o, .int .i64 n]) h (endK envQ fn36 fun w g => InRow g 5 1 w (bv (pre ++ numB n)) ∧ KeepB h g) := by
 apply jA
 apply jB
 apply jA
 apply jF
 refine RunP.loop (nuI h pre n) ?_ n ⟨o, _, pre, ⟨rfl, hn, hr, rfl, KeepB.refl h⟩, rfl, rfl, rfl, rfl, rfl⟩
 intro k st g hI
 obtain ⟨o, z, q, x, ⟨hz, hk, hrow, hq, hkeep⟩, rfl⟩ := nuI_lit hI
 clear hI
 subst hz
 have hql : q.length + (numB k).length = pre.length + (numB n).length := by
  have := congrArg List.length hq; simpa using this
 have hnl := ynh 9 n (by omega)
 have hkp := yni k
 apply jA
 apply jA
 apply jB
 apply jI
 ·intro hgt
  have hk7 : 127 < k := by omega
  apply jC rfl
  apply jE
  apply jA
  apply jF
  apply jB
  refine jI rfl (jI (by decide) ?_)
  have e1 : IntKind.u8.wrap (IntKind.i64.wrap (128 + (k : Int).tmod 128)) = ((UInt8.ofNat (128 + k % 128)).toNat : Int) := by
   rw [Int.tmod_eq_emod_of_nonneg (by omega), wrapS (by omega) (by omega), wrap8 _ (by omega) (by omega)]
   rw [show ((128 : Int) + (k : Int) % 128).toNat = 128 + k % 128 from by omega]
  obtain ⟨v', g', a1, a2, a3⟩ := ykm e1 hrow (by omega)
  refine ycn (congrArg valH a1) ?_
  apply jB
  refine jI rfl (jI (by decide) ?_)
  refine ⟨k / 128, by omega, v', _, q ++ [UInt8.ofNat (128 + k % 128)], ⟨?_, by omega, a2, ?_, hkeep.trans a3⟩, rfl, rfl, rfl, rfl, rfl⟩
  ·rw [Int.tdiv_eq_ediv_of_nonneg (by omega), wrapS (by omega) (by omega)]; omega
  ·rw [← hq, ykl hk7]; simp
 ·intro hle
  have hk7 : k ≤ 127 := by omega
  apply jD rfl
  apply jG
  apply jA
  apply jB
  have e1 : IntKind.u8.wrap (k : Int) = ((UInt8.ofNat k).toNat : Int) := by
   rw [wrap8 _ (by omega) (by omega)]; rfl
  obtain ⟨v', g', a1, a2, a3⟩ := ykm e1 hrow (by omega)
  refine ycn (congrArg valH a1) ?_
  apply jH
  refine ⟨rfl, ?_, hkeep.trans a3⟩
  rw [← hq, yih hk7]
  exact a2
end Go.Proofs.YtekmafoicobphaaGreatDoor

/- Packed codes: their bytes in plain words. -/

namespace Go.Proofs.YtekmafoicobphaaGreatDoor
open Go.Sb
set_option maxRecDepth 100000
def intB (n : Int) : List UInt8 := numB (if n < 0 then (-2 * n - 1).toNat else (2 * n).toNat)
def txtB (s : List UInt8) : List UInt8 := numB s.length ++ s
def natB (n : Int) : List UInt8 := numB n.toNat
def lstB {α : Type} (f : α → List UInt8) (l : Option (List α)) : List UInt8 := numB (lenO l) ++ (l.getD []).flatMap f
def byB (n : Int) : UInt8 := UInt8.ofNat n.toNat
def insPB (x : Ins) : List UInt8 := byB x.op :: (intB x.a ++ (intB x.b ++ (intB x.c ++ (byB x.k :: (intB x.n ++ (txtB x.s ++ lstB intB x.l))))))
def grdPB (g : Grd) : List UInt8 := natB g.f ++ (natB g.t ++ (natB g.p ++ natB g.s))
def fncPB (f : Fnc) : List UInt8 := txtB f.nm ++ (natB f.p ++ (natB f.s ++ (lstB insPB f.cd ++ lstB grdPB f.gd)))
def codPB (c : Cod) : List UInt8 := [115, 98, 49] ++ lstB fncPB c
def BI (n : Int) : Prop := -1 ≤ n ∧ n ≤ 4000
def BndI (x : Ins) : Prop := (1 ≤ x.op ∧ x.op ≤ 14) ∧ BI x.a ∧ BI x.b ∧ BI x.c ∧ ybm x.k x.n x.s ∧ ∀ n ∈ x.l.getD [], BI n
def BN (n : Int) : Prop := 0 ≤ n ∧ n ≤ 4000
def BndG (g : Grd) : Prop := BN g.f ∧ BN g.t ∧ BN g.p ∧ BN g.s
def BndF (f : Fnc) : Prop := f.nm.length ≤ 12 ∧ BN f.p ∧ BN f.s ∧ (∀ x ∈ f.cd.getD [], BndI x) ∧ (∀ g ∈ f.gd.getD [], BndG g) ∧ lenO f.cd ≤ 4000 ∧ lenO f.gd ≤ 400
def BndC (c : Cod) : Prop := lenO c ≤ 16 ∧ ∀ f ∈ c.getD [], BndF f
theorem ynk {k n : Int} {s : List UInt8} (h : ybm k n s) : (0 ≤ k ∧ k ≤ 6) ∧ (-1000000000000 ≤ n ∧ n ≤ 1000000000000) ∧ s.length ≤ 60 := by
 have ht : textI s = 1 → s.length ≤ 60 := fun q => by
  have := textI_iff.1 q
  unfold Lex.isText at this
  simp only [Bool.and_eq_true, decide_eq_true_eq] at this
  exact this.2
 unfold ybm at h
 rcases h with h | h | h | h | h
 ·omega
 ·omega
 ·omega
 ·have := ht h.2.2; omega
 ·omega
def sumL (u : List UInt8) : List UInt8 := [UInt8.ofNat ((sumB u).toNat / 16777216), UInt8.ofNat ((sumB u).toNat / 65536), UInt8.ofNat ((sumB u).toNat / 256), UInt8.ofNat (sumB u).toNat]
def sealB (u : List UInt8) : List UInt8 := u ++ sumL u
theorem ykn {x : Int} (h0 : 0 ≤ x) : IntKind.u8.wrap x = ((UInt8.ofNat x.toNat).toNat : Int) := by
 simp [IntKind.wrap, IntKind.signed, IntKind.bits]
 omega
theorem ynl (u : List UInt8) : 0 ≤ sumB u ∧ sumB u < 4294967296 := by
 have := ykk u
 unfold sumB
 omega
theorem yre : ∀ n, yca [V.int .u8 0] n = bv (List.replicate n 0)
 | 0 => rfl
 | n + 1 => by rw [yca, yre n]; rfl
theorem yko (a b : List UInt8) (x c : UInt8) {n : Nat} (hn : n = a.length) : splice (bv (a ++ x :: b)) n [.int .u8 c.toNat] = bv (a ++ c :: b) := by
 subst hn
 unfold splice bv
 rw [List.map_append, List.map_append, List.take_append_of_le_length (by simp), List.take_of_length_le (by simp)]
 rw [List.drop_append, List.drop_of_length_le (by simp)]
 simp
theorem conv_lst (h : Heap) (u : List UInt8) : ydn envQ 49 9 (.lst 1 (bv u)) h = some (.str u, h) := by
 show ((contents h 1 (.lst 1 (bv u))).bind fun c => (yct c.2).map fun l => (V.str l, h)) = _
 simp [contents, yds, yqu]
end Go.Proofs.YtekmafoicobphaaGreatDoor

/- Seat 13: the reader: a byte, or a panic. -/

namespace Go.Proofs.YtekmafoicobphaaGreatDoor
open Go.Sb
set_option maxRecDepth 100000
def yby : V := .ifc 92 (.agg [])
theorem ydi (h : Heap) (r : V) : Has envQ .shared 55 [r, .bool true] h (.val und h) := by
 obtain ⟨v, g, k1, rfl, rfl⟩ := HasP.sharedE (E := envQ) (f := 55) (args := [r, .bool true]) (h := h) (d := fn55) (R := fun v g => v = und ∧ g = h) rfl (jT rfl) (by
  apply jA
  apply jB
  apply jD rfl
  apply jE
  exact ⟨rfl, rfl, rfl⟩)
 exact k1
theorem ydw (h : Heap) (r : V) : Has envQ .shared 55 [r, .bool false] h (.pan yby h) := by
 obtain ⟨v, g, k1, rfl, rfl⟩ := HasP.sharedP (E := envQ) (f := 55) (args := [r, .bool false]) (h := h) (d := fn55) (R := fun v g => v = yby ∧ g = h) rfl (jT rfl) (by
  apply jA
  apply jB
  apply jC rfl
  refine RunP.regionP 2 ?_
  exact ⟨_, rfl, rfl, rfl, rfl⟩)
 exact k1
def rdr (s : List UInt8) (i : Int) : Blk := .cells 76 [.str s, .int .i64 i]
set_option maxHeartbeats 2000000 in
theorem yrf {h : Heap} {b : Nat} {s : List UInt8} {i : Nat} (hb : h[b]? = some (rdr s i)) {c : UInt8} (hc : s[i]? = some c) (hs : s.length ≤ 2 ^ 62) : Has envQ .shared 61 [.ptr b 0 2] h (.val (.int .i64 c.toNat) (h.set b (rdr s (i + 1 : Nat)))) := by
 have hi : i < s.length := (List.getElem?_eq_some_iff.1 hc).1
 have hcl : c.toNat < 256 := c.toNat_lt
 obtain ⟨v, g, k1, rfl, rfl⟩ := HasP.sharedE (E := envQ) (f := 61) (args := [.ptr b 0 2]) (h := h) (d := fn61) (R := fun v g => v = .int .i64 c.toNat ∧ g = h.set b (rdr s (i + 1 : Nat))) rfl (jT rfl) (by
  apply jA
  apply jB
  apply jA
  apply RunP.drawn
  ·decide +kernel
  refine yab (yae (E := envQ) (t := 3) (n := 2) hb rfl) ?_
  refine yab (yae (E := envQ) (t := 9) (n := 2) hb rfl) ?_
  refine jI (fun _ => ?_) (fun hge => by omega)
  refine drawZ (by decide +kernel) (by decide +kernel) ?_
  refine CallK.of (ydi _ _) ?_
  refine drawW (by decide +kernel) (by kernel_rfl) ?_
  apply jA
  apply jB
  refine yab (yae (E := envQ) (t := 3) (n := 2) hb rfl) ?_
  refine yab (ybw (E := envQ) (t := 3) (n := 2) hb rfl rfl rfl rfl (by decide)) ?_
  have e1 : splice [V.str s, .int .i64 (i : Int)] 1 (V.int .i64 (IntKind.i64.wrap ((i : Int) + 1))).cells = [V.str s, .int .i64 ((i + 1 : Nat) : Int)] := by
   rw [ycp i (by omega)]; rfl
  have hb2 : (h.set b (.cells 76 (splice [V.str s, .int .i64 (i : Int)] 1 (V.int .i64 (IntKind.i64.wrap ((i : Int) + 1))).cells)))[b]? = some (rdr s (i + 1 : Nat)) := by
   rw [ybs hb, e1]; rfl
  apply jA
  apply RunP.drawn
  ·decide +kernel
  refine yab (yae (E := envQ) (t := 9) (n := 2) hb2 rfl) ?_
  refine yab (yae (E := envQ) (t := 3) (n := 2) hb2 rfl) ?_
  have e2 : IntKind.i64.wrap (((i + 1 : Nat) : Int) - 1) = (i : Int) := by rw [wrapS (by omega) (by omega)]; omega
  refine jI (by rw [e2]; omega) (Exists.intro c (jI (by rw [e2]; exact hc) ?_))
  refine drawZ (by decide +kernel) (by decide +kernel) ?_
  apply jH
  refine ⟨rfl, ?_, ?_⟩
  ·show V.int IntKind.i64 (IntKind.i64.wrap (c.toNat : Int)) = _
   rw [wrapS (by omega) (by omega)]
  ·exact congrArg (fun l => h.set b (.cells 76 l)) e1)
 exact k1
set_option maxHeartbeats 2000000 in
theorem yrg {h : Heap} {b : Nat} {s : List UInt8} {i : Nat} (hb : h[b]? = some (rdr s i)) (hc : s.length ≤ i) : Has envQ .shared 61 [.ptr b 0 2] h (.pan yby h) := by
 obtain ⟨v, g, k1, rfl, rfl⟩ := HasP.sharedP (E := envQ) (f := 61) (args := [.ptr b 0 2]) (h := h) (d := fn61) (R := fun v g => v = yby ∧ g = h) rfl (jT rfl) (by
  apply jA
  apply jB
  apply jA
  apply RunP.drawnP
  ·decide +kernel
  refine yab (yae (E := envQ) (t := 3) (n := 2) hb rfl) ?_
  refine yab (yae (E := envQ) (t := 9) (n := 2) hb rfl) ?_
  refine jI (fun hlt => by omega) (fun _ => ?_)
  refine drawZ (by decide +kernel) (by decide +kernel) ?_
  refine jI ⟨rfl, by decide +kernel⟩ (CallP.of (ydw _ _) ?_)
  exact ⟨_, rfl, rfl, rfl, rfl⟩)
 exact k1
end Go.Proofs.YtekmafoicobphaaGreatDoor
