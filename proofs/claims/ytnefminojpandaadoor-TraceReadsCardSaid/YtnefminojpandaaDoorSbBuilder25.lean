/- strings.Builder, run by the evaluator: in its caller's memory. -/
import Derived.Test.YtnefminojpandaaDoorSbRow
import Derived.Test.YtnefminojpandaaDoorSbAwake25
set_option linter.unusedVariables false
set_option linter.unusedSimpArgs false
namespace Go.Proofs.YtnefminojpandaaDoor
open Go.Sb
set_option maxRecDepth 100000

/-- A builder that holds these bytes. -/
def Bld (h : Heap) (b : Nat) (bs : List UInt8) : Prop := ∃ p v, h[b]? = some (.cells 60 [p, v]) ∧ (p = .nilp ∨ p = .ptr b 0 2) ∧ InRow h 5 1 v (bv bs)

/-- What is neither a builder nor a row of bytes stays. -/
def Keep (h h' : Heap) : Prop := h.length ≤ h'.length ∧ ∀ (i : Nat) (U : TypeId) (cs : List V), h[i]? = some (.cells U cs) → U ≠ 5 → U ≠ 60 → h'[i]? = some (.cells U cs)
theorem Keep.refl (h : Heap) : Keep h h := ⟨Nat.le_refl _, fun _ _ _ h _ _ => h⟩
theorem Keep.trans {a b c : Heap} (h1 : Keep a b) (h2 : Keep b c) : Keep a c := ⟨Nat.le_trans h1.1 h2.1, fun i U cs h u w => h2.2 i U cs (h1.2 i U cs h u w) u w⟩
theorem Keep.push (h : Heap) (k : Blk) : Keep h (push h k) := ⟨by simp [Sb.push], fun i U cs hi _ _ => push_old hi⟩

theorem copy_has {h : Heap} {b : Nat} {bs : List UInt8} (hb : Bld h b bs) : ∃ w g, Has env2 .shared 66 [.ptr b 0 2] h (.val w g) ∧ (Bld g b bs ∧ Keep h g) := by
  obtain ⟨p, v, h1, h2, h3⟩ := hb
  refine Has.sharedE (d := fn66) rfl ?_
  apply And.intro
  · exact of_decide_eq_true rfl
  refine bindK_of (load_at (E := env2) (t := 57) h1 rfl) ?_
  rcases h2 with rfl | rfl
  · · refine bindP_of (v := .ptr b 0 2) (h := h) ?_ ?_
      · show ((cellsAt h b 2).bind fun _ => if 0 < 2 ∧ ty60.size ≠ 0 then some (V.ptr b 0 2, h) else none) = _
        rw [cellsAt_at' (n := 2) h1 rfl]; rfl
      refine bindP_of (v := .ptr b 0 2) (h := h) ?_ ?_
      · show ((cellsAt h b 2).bind fun p => if p.1 = 60 ∧ 0 + ty60.size ≤ 2 ∧ 0 % ty60.size = 0 ∧ ty60.size ≠ 0 then some (V.ptr b 0 2, h) else none) = _
        rw [cellsAt_at' (n := 2) h1 rfl]; rfl
      refine bindK_of (store_at (E := env2) (t := 57) h1 rfl rfl rfl rfl (by decide)) ?_
      refine ⟨rfl, ⟨.ptr b 0 2, v, set_same h1, .inr rfl, h3.keep fun i cs hi => ?_⟩, by simp, fun i U cs hi u5 u60 => ?_⟩
      · rw [set_other (fun e => by subst e; rw [h1] at hi; cases hi)]; exact hi
      · rw [set_other (fun e => by subst e; rw [h1] at hi; cases hi; exact u60 rfl)]; exact hi
  · · refine bindK_of (load_at (E := env2) (t := 57) h1 rfl) ?_
      refine bindK_of (v := .bool false) ?_ ?_
      · show (if b = b ∧ (2:Nat) = 2 ∧ ty60.size ≠ 0 then (cellsAt h b 2).bind fun _ => some (V.bool !((0:Nat) == 0)) else none) = _
        rw [if_pos ⟨rfl, rfl, by decide⟩, cellsAt_at' (n := 2) h1 rfl]; rfl
      · exact ⟨rfl, ⟨.ptr b 0 2, v, h1, .inr rfl, h3⟩, Keep.refl h⟩

theorem roomy_b {n : Nat} (h : n ≤ 2 ^ 40) : roomy 1 n = true := by
  simp [roomy]; omega

theorem ws_has {h : Heap} {b : Nat} {bs s : List UInt8} (hb : Bld h b bs) (hr : bs.length + s.length ≤ 2 ^ 40) : ∃ w g, Has env2 .shared 45 [.ptr b 0 2, .str s] h (.val w g) ∧ (Bld g b (bs ++ s) ∧ Keep h g) := by
  obtain ⟨w1, g1, c1, ⟨p, v, k1, k2, k3⟩, k4⟩ := copy_has hb
  refine Has.sharedE (d := fn45) rfl ?_
  apply And.intro
  · exact of_decide_eq_true rfl
  refine CallK.of c1 ?_
  refine bindK_of (load_at (E := env2) (t := 58) k1 rfl) ?_
  obtain ⟨v', g2, a1, a2, a3, a4⟩ := append_row (E := env2) (t := 58) (T := 5) (e := 1) (x := .str s) (es' := bv s) (k := s.length) rfl rfl rfl rfl (by omega) k3 (by rw [bv_cells]; simp) (by rw [bv_cells]; rfl) (by simp [bv]) (roomy_b (by simpa [bv] using hr))
  refine bindR_of (congrArg valH a1) ?_
  refine bindK_of (store_at (E := env2) (t := 58) (a4 _ _ _ k1 (by decide)) rfl rfl (by rcases a2 with ⟨rfl, _⟩ | ⟨_, rfl, _⟩ <;> rfl) (by rcases a2 with ⟨rfl, _⟩ | ⟨_, rfl, _⟩ <;> rfl) (by decide)) ?_
  have hcell : v'.cells = [v'] := by rcases a2 with ⟨rfl, _⟩ | ⟨_, rfl, _⟩ <;> rfl
  refine ⟨rfl, ⟨p, v', ?_, k2, ?_⟩, ?_⟩
  · rw [set_same (a4 _ _ _ k1 (by decide)), hcell]; rfl
  · have : bv bs ++ bv s = bv (bs ++ s) := by simp [bv]
    rw [← this]
    exact a2.keep fun i cs hi => by rw [set_other (fun e => by subst e; rw [a4 _ _ _ k1 (by decide)] at hi; cases hi)]; exact hi
  · refine k4.trans ⟨by simpa using a3, fun i U cs hi u5 u60 => ?_⟩
    rw [set_other (fun e => by subst e; rw [k1] at hi; cases hi; exact u60 rfl)]
    exact a4 _ _ _ hi u5

theorem wb_has {h : Heap} {b : Nat} {bs : List UInt8} (c : UInt8) (hb : Bld h b bs) (hr : bs.length + 1 ≤ 2 ^ 40) : ∃ w g, Has env2 .shared 62 [.ptr b 0 2, .int .u8 c.toNat] h (.val w g) ∧ (Bld g b (bs ++ [c]) ∧ Keep h g) := by
  obtain ⟨w1, g1, c1, ⟨p, v, k1, k2, k3⟩, k4⟩ := copy_has hb
  refine Has.sharedE (d := fn62) rfl ?_
  apply And.intro
  · exact of_decide_eq_true rfl
  refine CallK.of c1 ?_
  refine bindK_of (load_at (E := env2) (t := 58) k1 rfl) ?_
  have k1' := push_old (k := .cells 5 [.int .u8 c.toNat]) k1
  obtain ⟨v', g2, a1, a2, a3, a4⟩ := append_row (E := env2) (t := 58) (T := 5) (e := 1) (es' := bv [c]) (k := 1) rfl rfl rfl rfl (by omega) (k3.push (.cells 5 [.int .u8 c.toNat])) (by rw [bv_cells]; simp) (by rw [bv_cells]; exact contents_last (n := 1) g1 5 [.int .u8 c.toNat] rfl) rfl (roomy_b (by simpa [bv] using hr))
  refine bindR_of (congrArg valH a1) ?_
  refine bindK_of (store_at (E := env2) (t := 58) (a4 _ _ _ k1' (by decide)) rfl rfl (by rcases a2 with ⟨rfl, _⟩ | ⟨_, rfl, _⟩ <;> rfl) (by rcases a2 with ⟨rfl, _⟩ | ⟨_, rfl, _⟩ <;> rfl) (by decide)) ?_
  have hcell : v'.cells = [v'] := by rcases a2 with ⟨rfl, _⟩ | ⟨_, rfl, _⟩ <;> rfl
  refine ⟨rfl, ⟨p, v', ?_, k2, ?_⟩, ?_⟩
  · rw [set_same (a4 _ _ _ k1' (by decide)), hcell]; rfl
  · have : bv bs ++ bv [c] = bv (bs ++ [c]) := by simp [bv]
    rw [← this]
    exact a2.keep fun i cs hi => by rw [set_other (fun e => by subst e; rw [a4 _ _ _ k1' (by decide)] at hi; cases hi)]; exact hi
  · refine k4.trans ((Keep.push _ _).trans ⟨by simpa using a3, fun i U cs hi u5 u60 => ?_⟩)
    rw [set_other (fun e => by subst e; rw [k1'] at hi; cases hi; exact u60 rfl)]
    exact a4 _ _ _ hi u5

theorem string_has {h : Heap} {b : Nat} {bs : List UInt8} (hb : Bld h b bs) (hr : bs.length ≤ 2 ^ 40) : ∃ w g, Has env2 .shared 38 [.ptr b 0 2] h (.val w g) ∧ (w = .str bs ∧ h.length ≤ g.length) := by
  obtain ⟨p, v, k1, k2, k3⟩ := hb
  refine Has.sharedE (d := fn38) rfl ?_
  apply And.intro
  · exact of_decide_eq_true rfl
  apply And.intro
  · decide +kernel
  refine bindK_of (load_at (E := env2) (t := 58) k1 rfl) ?_
  rcases k3 with ⟨rfl, he⟩ | ⟨r, rfl, hr1, hr2⟩
  · have : bs = [] := by simpa [bv] using he
    subst this
    refine bindK_of (load_at (E := env2) (t := 58) k1 rfl) ?_
    exact ⟨rfl, rfl, Nat.le_refl _⟩
  · rw [bv_cells] at hr1
    have hlen : (bv bs).length = bs.length := by simp [bv]
    have hpos : 0 < bs.length := by
      cases bs with
      | nil => exact absurd rfl hr2
      | cons a l => simp
    have hc : cellsAt h r ((bv bs).length * 1) = some (5, bv bs) := cellsAt_at' hr1 (by simp)
    refine bindR_of (v := .ptr r 0 ((bv bs).length * 1)) (h := h) ?_ ?_
    · show val ((cellsAt h r ((bv bs).length * 1)).bind fun _ => if (bv bs).length = 0 then none else some (V.ptr r 0 ((bv bs).length * 1))) h = _
      rw [hc, Option.bind_some, if_neg (by omega)]; rfl
    refine bindK_of (load_at (E := env2) (t := 58) k1 rfl) ?_
    refine bindR_of (v := .str bs) (h := h.set r .dead) ?_ ?_
    · show valH (evUnsafeString env2 89 (.ptr r 0 ((bv bs).length * 1)) (.int .i64 (bv bs).length) h) = _
      have : evUnsafeString env2 89 (.ptr r 0 ((bv bs).length * 1)) (.int .i64 (bv bs).length) h = some (.str bs, h.set r .dead) := by
        show (if ((bv bs).length : Int) = 0 then some (V.str [], h) else (cellsAt h r ((bv bs).length * 1)).bind fun q =>
          if q.1 = 5 ∧ ty5.size = 1 ∧ 0 < ((bv bs).length : Int) ∧ ((bv bs).length : Int) ≤ 2 ^ 62 ∧ 0 + ((bv bs).length : Int).toNat ≤ (bv bs).length * 1 then (bytesV ((q.2.drop 0).take ((bv bs).length : Int).toNat)).map fun l => (V.str l, h.set r .dead) else none) = _
        rw [if_neg (by omega), hc]
        simp only [Option.bind_some]
        rw [if_pos ⟨trivial, rfl, by omega, by omega, by omega⟩]
        simp [List.take_of_length_le, bytesV_bv]
      rw [this]; rfl
    exact ⟨rfl, rfl, by simp⟩
end Go.Proofs.YtnefminojpandaaDoor
