/- Seat 13: the sum of bytes; the law PackSums (awake told). -/
import Derived.Test.YtekmafoicobphaaGreatDoorSb13Base
import Derived.Test.YtekmafoicobphaaGreatDoorSbOwnE
import Derived.Test.YtekmafoicobphaaGreatDoorSbLex3
set_option linter.unusedVariables false
set_option linter.unusedSimpArgs false
namespace Go.Proofs.YtekmafoicobphaaGreatDoor
open Go.Sb
set_option maxRecDepth 100000
def sumS (l : List UInt8) : Int × Int := l.foldl (fun p c => ((p.1 + c.toNat) % 65521, (p.2 + (p.1 + c.toNat) % 65521) % 65521)) (1, 0)
theorem yqk (l : List UInt8) (c : UInt8) : sumS (l ++ [c]) = (((sumS l).1 + c.toNat) % 65521, ((sumS l).2 + ((sumS l).1 + c.toNat) % 65521) % 65521) := by
 simp [sumS, List.foldl_append]
theorem ymg (l : List UInt8) : (0 ≤ (sumS l).1 ∧ (sumS l).1 < 65521) ∧ (0 ≤ (sumS l).2 ∧ (sumS l).2 < 65521) := by
 have h : ∀ (r : List UInt8) (p : Int × Int), (0 ≤ p.1 ∧ p.1 < 65521) ∧ (0 ≤ p.2 ∧ p.2 < 65521) → (0 ≤ (r.foldl (fun p c => ((p.1 + (c.toNat : Int)) % 65521, (p.2 + (p.1 + c.toNat) % 65521) % 65521)) p).1 ∧ (r.foldl (fun p c => ((p.1 + (c.toNat : Int)) % 65521, (p.2 + (p.1 + c.toNat) % 65521) % 65521)) p).1 < 65521) ∧ (0 ≤ (r.foldl (fun p c => ((p.1 + (c.toNat : Int)) % 65521, (p.2 + (p.1 + c.toNat) % 65521) % 65521)) p).2 ∧ (r.foldl (fun p c => ((p.1 + (c.toNat : Int)) % 65521, (p.2 + (p.1 + c.toNat) % 65521) % 65521)) p).2 < 65521) := by
  intro r
  induction r with
  | nil => intro p hp; exact hp
  | cons c r ih =>
   intro p hp
   simp only [List.foldl_cons]
   exact ih _ ⟨by simp only; omega, by simp only; omega⟩
 exact h l (1, 0) ⟨by decide, by decide⟩
def sumB (l : List UInt8) : Int := (sumS l).2 * 65536 + (sumS l).1
def suI (u : List UInt8) (k : Nat) (s : List V) (h : Heap) : Prop :=
 ∃ (i : Nat) (z a b : Int), (i + k = u.length ∧ z = i ∧ a = (sumS (u.take i)).1 ∧ b = (sumS (u.take i)).2) ∧ s.length = 28 ∧ s.getD 0 und = und ∧ s.getD 1 und = .str u ∧ s.getD 3 und = .int .i64 0 ∧ s.getD 4 und = .int .i64 a ∧ s.getD 5 und = .int .i64 b ∧ s.getD 7 und = .str u ∧ s.getD 8 und = .int .i64 u.length ∧ s.getD 9 und = .int .i64 z
theorem suI_lit {u : List UInt8} {k : Nat} {s : List V} {h : Heap} (hI : suI u k s h) : ∃ (i : Nat) (z a b : Int) (x : Nat → V), (i + k = u.length ∧ z = i ∧ a = (sumS (u.take i)).1 ∧ b = (sumS (u.take i)).2) ∧
  s = [und, .str u, x 2, .int .i64 0, .int .i64 a, .int .i64 b, x 6, .str u, .int .i64 u.length, .int .i64 z, x 10, x 11, x 12, x 13, x 14, x 15, x 16, x 17, x 18, x 19, x 20, x 21, x 22, x 23, x 24, x 25, x 26, x 27] := by
 obtain ⟨i, z, a, b, hF, hl, e0, e1, e3, e4, e5, e7, e8, e9⟩ := hI
 refine ⟨i, z, a, b, fun n => s.getD n und, hF, (ybc hl).trans ?_⟩
 simp only [List.range, List.range.loop, List.map_cons, List.map_nil]
 rw [e0, e1, e3, e4, e5, e7, e8, e9]
set_option maxHeartbeats 2000000 in
theorem sum_has (h : Heap) (s : List UInt8) (hl : s.length ≤ 2 ^ 38) : Has envQ .own 16 [.str s] h (.val (.int .i64 (sumB s)) h) := by
 refine HasP.own (a := [.str s]) (d := fn16) rfl rfl rfl (jT rfl) ?_
 apply jA
 apply jB
 apply jA
 apply jB
 apply jA
 apply jA
 apply jB
 apply jF
 refine RunP.loop (suI s) ?_ s.length ⟨0, _, _, _, ⟨by omega, rfl, rfl, rfl⟩, rfl, rfl, rfl, rfl, rfl, rfl, rfl, rfl, rfl⟩
 intro k st g hI
 obtain ⟨i, z, a, b, x, ⟨hik, hz, ha, hb⟩, rfl⟩ := suI_lit hI
 clear hI
 subst hz
 have hr := ymg (s.take i)
 rw [← ha, ← hb] at hr
 have hiz : (0 : Int) ≤ (i : Int) := by omega
 apply jA
 apply jB
 apply jI
 ·intro hlt
  have hi : i < s.length := by omega
  obtain ⟨c, hc⟩ : ∃ c, s[i]? = some c := ⟨_, List.getElem?_eq_getElem hi⟩
  have hcl : c.toNat < 256 := c.toNat_lt
  apply jA
  apply jC rfl
  apply jE
  apply jA
  apply jF
  apply jA
  apply jB
  apply jA
  apply jB
  refine jI hiz (Exists.intro c (jI hc ?_))
  have e1 : IntKind.i64.wrap (a + IntKind.i64.wrap (c.toNat : Int)) = a + c.toNat := by rw [wrapS (x := (c.toNat : Int)) (by omega) (by omega), wrapS (by omega) (by omega)]
  have e2 : (IntKind.i64.wrap (a + IntKind.i64.wrap (c.toNat : Int))).tmod 65521 = (a + c.toNat) % 65521 := by rw [e1, Int.tmod_eq_emod_of_nonneg (by omega)]
  refine jI rfl (jI (by decide) ?_)
  apply jB
  refine jI rfl (jI (by decide) ?_)
  have e3 : (IntKind.i64.wrap (b + (IntKind.i64.wrap (a + IntKind.i64.wrap (c.toNat : Int))).tmod 65521)).tmod 65521 = (b + (a + c.toNat) % 65521) % 65521 := by
   rw [e2, wrapS (by omega) (by omega), Int.tmod_eq_emod_of_nonneg (by omega)]
  apply jB
  have ht : sumS (s.take (i + 1)) = ((a + c.toNat) % 65521, (b + (a + c.toNat) % 65521) % 65521) := by
   rw [List.take_add_one, hc]
   simp only [Option.toList_some]
   rw [yqk, ← ha, ← hb]
  refine ⟨k - 1, by omega, i + 1, _, _, _, ⟨by omega, ydo i (by omega), by rw [ht]; exact e2, by rw [ht]; exact e3⟩, rfl, rfl, rfl, rfl, rfl, rfl, rfl, rfl, rfl⟩
 ·intro hge
  apply jA
  apply jD rfl
  apply jG
  have hi : i = s.length := by omega
  rw [hi, List.take_length] at ha hb
  apply jA
  apply jB
  apply jI
  ·omega
  apply jH
  refine ⟨rfl, ?_, rfl⟩
  have e5 : IntKind.i64.wrap (IntKind.i64.wrap (b * 2 ^ (min (16 : Int).toNat IntKind.i64.bits)) + a) = sumB s := by
   rw [show min (16 : Int).toNat IntKind.i64.bits = 16 from rfl, wrapS (x := b * 2 ^ 16) (by omega) (by omega), wrapS (by omega) (by omega), sumB, ha, hb, show (2 : Int) ^ 16 = 65536 from by decide]
  exact congrArg (fun z => some (V.int IntKind.i64 z)) e5
end Go.Proofs.YtekmafoicobphaaGreatDoor
