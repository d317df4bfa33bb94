/- Which texts, values, faults and events may be: the program's word and the reference's. -/
import Derived.Test.YtnefminojpandaaDoorSbEvents25
set_option linter.unusedVariables false
set_option linter.unusedSimpArgs false
namespace Go.Proofs.YtnefminojpandaaDoor
open Go.Sb
set_option maxRecDepth 100000

def okByte (b : UInt8) : Bool := !(decide ((b.toNat : Int) < 32) || decide ((b.toNat : Int) > 126))
def okText (s : List UInt8) : Bool := decide (s.length ≤ 60) && s.all okByte

/-- How valid.Text stands ahead of a round. -/
def textI (s0 : List UInt8) (k : Nat) (s : List V) (h : Heap) : Prop :=
  ∃ (i : Nat) (z : Int) (x3 x4 x5 x6 x7 x10 x11 x12 x13 x14 x15 x16 x17 x18 x19 x20 x21 x22 : V), i + k = s0.length ∧ z = i ∧ (s0.take i).all okByte = true ∧ h = [] ∧
    s = [und, .str s0, und, .bool false, x3, x4, x5, x6, x7, .int .i64 s0.length, .int .i64 z, x10, x11, x12, x13, x14, x15, x16, x17, x18, x19, x20, x21, x22]

theorem take_all {s0 : List UInt8} {i : Nat} {b : UInt8} (h : (s0.take i).all okByte = true) (hb : s0[i]? = some b) (ho : okByte b = true) : (s0.take (i + 1)).all okByte = true := by
  rw [List.take_add_one, hb, List.all_append, h]; simp [ho]

theorem all_no {s0 : List UInt8} {i : Nat} {b : UInt8} (hb : s0[i]? = some b) (ho : okByte b = false) : s0.all okByte = false := by
  rw [Bool.eq_false_iff]
  intro h
  have := List.all_eq_true.1 h b (List.mem_of_getElem? hb)
  rw [ho] at this; cases this

theorem text_has (h : Heap) (s0 : List UInt8) : Has env2 .own 61 [.str s0] h (.val (.bool (okText s0)) h) := by
  refine Has.own (a := [.str s0]) (d := fn61) rfl rfl rfl ?_
  apply And.intro
  · exact of_decide_eq_true rfl
  apply And.intro
  · intro hgt
    have : 60 < s0.length := by omega
    have e : okText s0 = false := by unfold okText; rw [decide_eq_false (by omega)]; rfl
    rw [e]
    exact ⟨rfl, rfl, rfl⟩
  intro hle
  have hle : s0.length ≤ 60 := by omega
  refine LoopK.of (textI s0) ?_ s0.length _ _ ⟨0, _, _, _, _, _, _, _, _, _, _, _, _, _, _, _, _, _, _, _, by omega, rfl, rfl, rfl, rfl⟩
  rintro k s g ⟨i, z, x3, x4, x5, x6, x7, x10, x11, x12, x13, x14, x15, x16, x17, x18, x19, x20, x21, x22, hik, hz, hall, rfl, rfl⟩
  apply And.intro
  · intro hlt
    have hi : i < s0.length := by omega
    have hb : s0[i]? = some s0[i] := List.getElem?_eq_getElem hi
    subst hz
    apply And.intro
    · omega
    refine Exists.intro s0[i] (And.intro hb ?_)
    have step : ∀ {c : Bool}, okByte s0[i] = c → c = true → (s0.take (i + 1)).all okByte = true := fun h1 h2 => take_all hall hb (h1.trans h2)
    have no : okByte s0[i] = false → okText s0 = false := fun h => by unfold okText; rw [all_no hb h, Bool.and_false]
    apply And.intro
    · intro c1
      have : okByte s0[i] = false := by unfold okByte; rw [decide_eq_true c1]; rfl
      rw [no this]
      exact ⟨rfl, rfl, rfl⟩
    · intro c1
      apply And.intro
      · omega
      refine Exists.intro s0[i] (And.intro hb ?_)
      apply And.intro
      · intro c2
        have : okByte s0[i] = false := by unfold okByte; rw [decide_eq_true (show (s0[i].toNat : Int) > 126 from c2), Bool.or_true]; rfl
        rw [no this]
        exact ⟨rfl, rfl, rfl⟩
      · intro c2
        have : okByte s0[i] = true := by unfold okByte; rw [decide_eq_false (by omega), decide_eq_false (by omega)]; rfl
        exact ⟨k - 1, by omega, i + 1, _, _, _, _, _, _, _, _, _, _, _, _, _, _, _, _, _, _, _, by omega, wrap_up i (by omega), step this rfl, rfl, rfl⟩
  · intro hge
    have hi : i = s0.length := by omega
    have e : okText s0 = true := by unfold okText; rw [hi, List.take_length] at hall; rw [hall, decide_eq_true hle]; rfl
    rw [e]
    exact ⟨rfl, rfl, rfl⟩
/-- How the reference's Text stands ahead of a round. -/
def rtextI (s0 : List UInt8) (k : Nat) (s : List V) (h : Heap) : Prop :=
  ∃ (i : Nat) (z : Int) (x4 x5 x6 x7 x8 x9 x10 x11 x12 x13 x14 x15 x16 x17 x18 x19 x20 x21 x22 : V), i + k = s0.length ∧ z = i ∧ (s0.take i).all okByte = true ∧ h = [] ∧
    s = [und, .str s0, und, .bool false, .int .i64 z, x4, x5, x6, x7, x8, x9, x10, x11, x12, x13, x14, x15, x16, x17, x18, x19, x20, x21, x22]

theorem rtext_has (h : Heap) (s0 : List UInt8) : Has env2 .own 64 [.str s0] h (.val (.bool (okText s0)) h) := by
  refine Has.own (a := [.str s0]) (d := fn64) rfl rfl rfl ?_
  apply And.intro
  · exact of_decide_eq_true rfl
  apply And.intro
  · intro hgt
    have : 60 < s0.length := by omega
    have e : okText s0 = false := by unfold okText; rw [decide_eq_false (by omega)]; rfl
    rw [e]
    exact ⟨rfl, rfl, rfl⟩
  intro hle
  have hle : s0.length ≤ 60 := by omega
  refine LoopK.of (rtextI s0) ?_ s0.length _ _ ⟨0, _, _, _, _, _, _, _, _, _, _, _, _, _, _, _, _, _, _, _, _, by omega, rfl, rfl, rfl, rfl⟩
  rintro k s g ⟨i, z, x4, x5, x6, x7, x8, x9, x10, x11, x12, x13, x14, x15, x16, x17, x18, x19, x20, x21, x22, hik, hz, hall, rfl, rfl⟩
  apply And.intro
  · intro hlt
    have hi : i < s0.length := by omega
    have hb : s0[i]? = some s0[i] := List.getElem?_eq_getElem hi
    subst hz
    apply And.intro
    · omega
    refine Exists.intro s0[i] (And.intro hb ?_)
    have step : ∀ {c : Bool}, okByte s0[i] = c → c = true → (s0.take (i + 1)).all okByte = true := fun h1 h2 => take_all hall hb (h1.trans h2)
    have no : okByte s0[i] = false → okText s0 = false := fun h => by unfold okText; rw [all_no hb h, Bool.and_false]
    apply And.intro
    · intro c1
      have : okByte s0[i] = false := by unfold okByte; rw [decide_eq_true c1]; rfl
      rw [no this]
      exact ⟨rfl, rfl, rfl⟩
    · intro c1
      apply And.intro
      · omega
      refine Exists.intro s0[i] (And.intro hb ?_)
      apply And.intro
      · intro c2
        have : okByte s0[i] = false := by unfold okByte; rw [decide_eq_true (show (s0[i].toNat : Int) > 126 from c2), Bool.or_true]; rfl
        rw [no this]
        exact ⟨rfl, rfl, rfl⟩
      · intro c2
        have : okByte s0[i] = true := by unfold okByte; rw [decide_eq_false (by omega), decide_eq_false (by omega)]; rfl
        exact ⟨k - 1, by omega, i + 1, _, _, _, _, _, _, _, _, _, _, _, _, _, _, _, _, _, _, _, _, by omega, wrap_up i (by omega), step this rfl, rfl, rfl⟩
  · intro hge
    have hi : i = s0.length := by omega
    have e : okText s0 = true := by unfold okText; rw [hi, List.take_length] at hall; rw [hall, decide_eq_true hle]; rfl
    rw [e]
    exact ⟨rfl, rfl, rfl⟩

/-- A value. -/
def okVal (k n : Int) (s : List UInt8) : Bool :=
  if k = 0 then n == 0 && s == []
  else if k = 1 then s == [] && decide (n ≥ -1000000000000) && decide (n ≤ 1000000000000)
  else if k = 2 then s == [] && (n == 0 || n == 1)
  else if k = 3 then n == 0 && okText s
  else if k = 4 ∨ k = 5 ∨ k = 6 then s == [] && decide (n ≥ 1) && decide (n ≤ 1000000000000)
  else false
def valV (k n : Int) (s : List UInt8) : V := .agg [.int .i64 k, .int .i64 n, .str s]

theorem ev_eq_val (n : Nat) (a b c d : Int) (x y : List UInt8) : evBin env2 .eql 23 (.agg [.int .i64 a, .int .i64 b, .str x]) (.agg [.int .i64 c, .int .i64 d, .str y]) = some (.bool (a == c && (b == d && (x == y && true)))) := by
  show ((eqT envB plainS 20 23 (.agg _) (.agg _)).map V.bool) = _
  rw [eq_value 18]; rfl

set_option maxHeartbeats 2000000 in
theorem value_has (h : Heap) (k n : Int) (s : List UInt8) : Has env2 .own 36 [valV k n s] h (.val (.bool (okVal k n s)) h) := by
  refine Has.own (a := [valV k n s]) (d := fn36) rfl rfl rfl ?_
  have fin : ∀ {x : Bool}, x = okVal k n s → some (V.bool x) = some (V.bool (okVal k n s)) := fun h => by rw [h]
  apply And.intro
  · exact of_decide_eq_true rfl
  repeat' first
    | (apply And.intro <;> intro _)
    | refine CallK.of (text_has _ s) ?_
    | refine bindK_of (ev_eq_val 18 k n 0 0 s []) ?_
    | refine And.intro rfl (And.intro (fin ?_) rfl)
  all_goals first | (simp_all [okVal]; done) | (simp_all [okVal]; intros; omega)

set_option maxHeartbeats 2000000 in
theorem rvalue_has (h : Heap) (k n : Int) (s : List UInt8) : Has env2 .own 39 [valV k n s] h (.val (.bool (okVal k n s)) h) := by
  refine Has.own (a := [valV k n s]) (d := fn39) rfl rfl rfl ?_
  have fin : ∀ {x : Bool}, x = okVal k n s → some (V.bool x) = some (V.bool (okVal k n s)) := fun h => by rw [h]
  apply And.intro
  · exact of_decide_eq_true rfl
  repeat' first
    | (apply And.intro <;> intro _)
    | refine CallK.of (rtext_has _ s) ?_
    | refine And.intro rfl (And.intro (fin ?_) rfl)
  all_goals first | (simp_all [okVal]; done) | (simp_all [okVal]; intros; omega)

def okFault (k : Int) (s : List UInt8) : Bool := if k = 0 ∨ k = 2 then s == [] else if k = 1 then okText s else false
def faultV (k : Int) (s : List UInt8) : V := .agg [.int .i64 k, .str s]

theorem fault_has (h : Heap) (k : Int) (s : List UInt8) : Has env2 .own 43 [faultV k s] h (.val (.bool (okFault k s)) h) := by
  refine Has.own (a := [faultV k s]) (d := fn43) rfl rfl rfl ?_
  have fin : ∀ {x : Bool}, x = okFault k s → some (V.bool x) = some (V.bool (okFault k s)) := fun h => by rw [h]
  apply And.intro
  · exact of_decide_eq_true rfl
  repeat' first
    | (apply And.intro <;> intro _)
    | refine CallK.of (text_has _ s) ?_
    | refine And.intro rfl (And.intro (fin ?_) rfl)
  all_goals first | (simp_all [okFault]; done) | (simp_all [okFault]; intros; omega)

theorem rfault_has (h : Heap) (k : Int) (s : List UInt8) : Has env2 .own 40 [faultV k s] h (.val (.bool (okFault k s)) h) := by
  refine Has.own (a := [faultV k s]) (d := fn40) rfl rfl rfl ?_
  have fin : ∀ {x : Bool}, x = okFault k s → some (V.bool x) = some (V.bool (okFault k s)) := fun h => by rw [h]
  apply And.intro
  · exact of_decide_eq_true rfl
  repeat' first
    | (apply And.intro <;> intro _)
    | refine CallK.of (rtext_has _ s) ?_
    | refine And.intro rfl (And.intro (fin ?_) rfl)
  all_goals first | (simp_all [okFault]; done) | (simp_all [okFault]; intros; omega)

end Go.Proofs.YtnefminojpandaaDoor
