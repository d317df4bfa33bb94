/- Seat 13: the reader: a byte, or a panic. -/
import Derived.Test.YtekmafoicobphaaGreatDoorSb13NumB
import Derived.Test.YtekmafoicobphaaGreatDoorSbPan
set_option linter.unusedVariables false
set_option linter.unusedSimpArgs false
namespace Go.Proofs.YtekmafoicobphaaGreatDoor
open Go.Sb
set_option maxRecDepth 100000

/-- What is reported by a panic. -/
def trouble : V := .ifc 92 (.agg [])

theorem demand_ok (h : Heap) (r : V) : Has envQ .shared 55 [r, .bool true] h (.val und h) := by
  obtain ⟨v, g, k1, rfl, rfl⟩ := HasP.sharedE (E := envQ) (f := 55) (args := [r, .bool true]) (h := h) (d := fn55) (R := fun v g => v = und ∧ g = h) rfl (of_decide_eq_true rfl) (by
    apply RunP.seq
    apply RunP.region
    apply RunP.condF rfl
    apply RunP.skip
    exact ⟨rfl, rfl, rfl⟩)
  exact k1

theorem demand_pan (h : Heap) (r : V) : Has envQ .shared 55 [r, .bool false] h (.pan trouble h) := by
  obtain ⟨v, g, k1, rfl, rfl⟩ := HasP.sharedP (E := envQ) (f := 55) (args := [r, .bool false]) (h := h) (d := fn55) (R := fun v g => v = trouble ∧ g = h) rfl (of_decide_eq_true rfl) (by
    apply RunP.seq
    apply RunP.region
    apply RunP.condT rfl
    refine RunP.regionP 2 ?_
    exact ⟨_, rfl, rfl, rfl, rfl⟩)
  exact k1

/-- A reader of s at i. -/
def rdr (s : List UInt8) (i : Int) : Blk := .cells 76 [.str s, .int .i64 i]

set_option maxHeartbeats 2000000 in
theorem next_ok {h : Heap} {b : Nat} {s : List UInt8} {i : Nat} (hb : h[b]? = some (rdr s i)) {c : UInt8} (hc : s[i]? = some c) (hs : s.length ≤ 2 ^ 62) : Has envQ .shared 61 [.ptr b 0 2] h (.val (.int .i64 c.toNat) (h.set b (rdr s (i + 1 : Nat)))) := by
  have hi : i < s.length := (List.getElem?_eq_some_iff.1 hc).1
  have hcl : c.toNat < 256 := c.toNat_lt
  obtain ⟨v, g, k1, rfl, rfl⟩ := HasP.sharedE (E := envQ) (f := 61) (args := [.ptr b 0 2]) (h := h) (d := fn61) (R := fun v g => v = .int .i64 c.toNat ∧ g = h.set b (rdr s (i + 1 : Nat))) rfl (of_decide_eq_true rfl) (by
    apply RunP.seq
    apply RunP.region
    apply RunP.seq
    apply RunP.drawn
    · decide +kernel
    refine bindK_of (load_at (E := envQ) (t := 3) (n := 2) hb rfl) ?_
    refine bindK_of (load_at (E := envQ) (t := 9) (n := 2) hb rfl) ?_
    refine And.intro (fun _ => ?_) (fun hge => by omega)
    refine drawZ (by decide +kernel) (by decide +kernel) ?_
    refine CallK.of (demand_ok _ _) ?_
    refine drawW (by decide +kernel) (by kernel_rfl) ?_
    apply RunP.seq
    apply RunP.region
    refine bindK_of (load_at (E := envQ) (t := 3) (n := 2) hb rfl) ?_
    refine bindK_of (store_at (E := envQ) (t := 3) (n := 2) hb rfl rfl rfl rfl (by decide)) ?_
    have e1 : splice [V.str s, .int .i64 (i : Int)] 1 (V.int .i64 (IntKind.i64.wrap ((i : Int) + 1))).cells = [V.str s, .int .i64 ((i + 1 : Nat) : Int)] := by
      rw [wrap_up i (by omega)]; rfl
    have hb2 : (h.set b (.cells 76 (splice [V.str s, .int .i64 (i : Int)] 1 (V.int .i64 (IntKind.i64.wrap ((i : Int) + 1))).cells)))[b]? = some (rdr s (i + 1 : Nat)) := by
      rw [set_same hb, e1]; rfl
    apply RunP.seq
    apply RunP.drawn
    · decide +kernel
    refine bindK_of (load_at (E := envQ) (t := 9) (n := 2) hb2 rfl) ?_
    refine bindK_of (load_at (E := envQ) (t := 3) (n := 2) hb2 rfl) ?_
    have e2 : IntKind.i64.wrap (((i + 1 : Nat) : Int) - 1) = (i : Int) := by rw [wrapS (by omega) (by omega)]; omega
    refine And.intro (by rw [e2]; omega) (Exists.intro c (And.intro (by rw [e2]; exact hc) ?_))
    refine drawZ (by decide +kernel) (by decide +kernel) ?_
    apply RunP.ret
    refine ⟨rfl, ?_, ?_⟩
    · show V.int IntKind.i64 (IntKind.i64.wrap (c.toNat : Int)) = _
      rw [wrapS (by omega) (by omega)]
    · exact congrArg (fun l => h.set b (.cells 76 l)) e1)
  exact k1

set_option maxHeartbeats 2000000 in
theorem next_pan {h : Heap} {b : Nat} {s : List UInt8} {i : Nat} (hb : h[b]? = some (rdr s i)) (hc : s.length ≤ i) : Has envQ .shared 61 [.ptr b 0 2] h (.pan trouble h) := by
  obtain ⟨v, g, k1, rfl, rfl⟩ := HasP.sharedP (E := envQ) (f := 61) (args := [.ptr b 0 2]) (h := h) (d := fn61) (R := fun v g => v = trouble ∧ g = h) rfl (of_decide_eq_true rfl) (by
    apply RunP.seq
    apply RunP.region
    apply RunP.seq
    apply RunP.drawnP
    · decide +kernel
    refine bindK_of (load_at (E := envQ) (t := 3) (n := 2) hb rfl) ?_
    refine bindK_of (load_at (E := envQ) (t := 9) (n := 2) hb rfl) ?_
    refine And.intro (fun hlt => by omega) (fun _ => ?_)
    refine drawZ (by decide +kernel) (by decide +kernel) ?_
    refine And.intro ⟨rfl, by decide +kernel⟩ (CallP.of (demand_pan _ _) ?_)
    exact ⟨_, rfl, rfl, rfl, rfl⟩)
  exact k1
end Go.Proofs.YtekmafoicobphaaGreatDoor
