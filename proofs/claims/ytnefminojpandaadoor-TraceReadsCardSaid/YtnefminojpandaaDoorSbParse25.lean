/- The program's Parse. -/
import Derived.Test.YtnefminojpandaaDoorSbReadEvent25
import Derived.Test.YtnefminojpandaaDoorSbOwnE
set_option linter.unusedVariables false
set_option linter.unusedSimpArgs false
namespace Go.Proofs.YtnefminojpandaaDoor
open Go.Sb
set_option maxRecDepth 100000

theorem idx118_has (h : Heap) (s : List UInt8) (c : UInt8) : Has env2 .own 118 [.str s, .int .u8 c.toNat] h (.val (.int .i64 (idxB s c)) h) := by
  refine HasP.own (a := [.str s, .int .u8 c.toNat]) (d := fn118) rfl rfl rfl (of_decide_eq_true rfl) ?_
  apply RunP.seq
  apply RunP.region
  apply RunP.seq
  apply RunP.region
  apply RunP.ret
  exact ⟨rfl, by
    show some (V.int IntKind.i64 (idxB s ((c.toNat : Int)).toNat.toUInt8)) = some (V.int IntKind.i64 (idxB s c))
    rw [u8_back], rfl⟩

theorem index1_has (h : Heap) (s : List UInt8) : Has env2 .own 102 [.str s, .str [10]] h (.val (.int .i64 (idxB s 10)) h) := by
  refine HasP.own (a := [.str s, .str [10]]) (d := fn102) rfl rfl rfl (of_decide_eq_true rfl) ?_
  apply RunP.seq
  apply RunP.region
  apply RunP.seq
  apply RunP.region
  apply RunP.seq
  apply RunP.block
  apply RunP.seq
  apply RunP.region
  refine And.intro (fun hc => absurd hc (by decide)) (fun _ => ?_)
  apply And.intro
  · intro he
    subst he
    apply RunP.condT rfl
    apply RunP.seq
    apply RunP.region
    apply RunP.ret
    exact ⟨rfl, rfl, rfl⟩
  intro he
  apply RunP.condF rfl
  apply RunP.seq
  apply RunP.region
  refine And.intro (fun _ => ?_) (fun hc => absurd rfl hc)
  apply RunP.condT rfl
  apply RunP.seq
  apply RunP.region
  apply And.intro
  · omega
  refine Exists.intro 10 (And.intro rfl ?_)
  refine CallK.of (idx118_has _ s 10) ?_
  apply RunP.ret
  exact ⟨rfl, rfl, rfl⟩

/-- What stands before and behind the first line feed. -/
def cutB (s : List UInt8) : List UInt8 × List UInt8 × Bool := if 10 ∈ s then (s.takeWhile (· != 10), (s.dropWhile (· != 10)).drop 1, true) else (s, [], false)

theorem cut_has (h : Heap) (s : List UInt8) (hl : s.length ≤ 2 ^ 38) : Has env2 .own 58 [.str s, .str [10]] h (.val (.tup [.str (cutB s).1, .str (cutB s).2.1, .bool (cutB s).2.2]) h) := by
  have in74 : ∀ h, Has env2 .own 74 [.str s, .str [10]] h (.val (.tup [.str (cutB s).1, .str (cutB s).2.1, .bool (cutB s).2.2]) h) := fun h => by
    refine HasP.own (a := [.str s, .str [10]]) (d := fn74) rfl rfl rfl (of_decide_eq_true rfl) ?_
    have fin : ∀ (a b : List UInt8) (t : Bool), cutB s = (a, b, t) → some (V.tup [.str a, .str b, .bool t]) = some (V.tup [.str (cutB s).1, .str (cutB s).2.1, .bool (cutB s).2.2]) := fun a b t e => by rw [e]
    apply RunP.seq
    apply RunP.region
    apply RunP.seq
    apply RunP.seq
    apply RunP.region
    refine CallK.of (index1_has _ s) ?_
    apply RunP.seq
    apply RunP.region
    rcases idx_cases s 10 with ⟨e, hm⟩ | ⟨i, e, hi, ht, hd, hc⟩
    · rw [e]
      refine And.intro (fun hc => absurd hc (by decide)) (fun _ => ?_)
      apply RunP.condF rfl
      apply RunP.skip
      apply RunP.seq
      apply RunP.region
      apply RunP.ret
      exact ⟨rfl, fin _ _ _ (by unfold cutB; rw [if_neg hm]), rfl⟩
    · rw [e]
      have hm : 10 ∈ s := List.mem_of_getElem? hc
      apply And.intro
      · intro _
        apply RunP.condT rfl
        apply RunP.seq
        apply RunP.drawn
        · decide +kernel
        have hw : IntKind.i64.wrap ((i : Int) + (([10] : List UInt8).length : Nat)) = ((i + 1 : Nat) : Int) := wrap_up i (by omega)
        apply And.intro
        · omega
        apply And.intro
        · omega
        apply And.intro
        · rw [hw]; omega
        apply And.intro
        · rw [hw]; omega
        apply RunP.ret
        exact ⟨rfl, fin _ _ _ (by unfold cutB; rw [if_pos hm, ← ht, ← hd, hw]; simp), rfl⟩
      · intro hn; omega
  refine HasP.own (a := [.str s, .str [10]]) (d := fn58) rfl rfl rfl (of_decide_eq_true rfl) ?_
  apply RunP.seq
  apply RunP.region
  apply RunP.seq
  apply RunP.region
  refine CallK.of (in74 _) ?_
  apply RunP.ret
  exact ⟨rfl, rfl, rfl⟩

/-- What Parse reads. -/
def parseR : Nat → List UInt8 → Option (List Ev)
  | _, [] => some []
  | 0, _ :: _ => none
  | n + 1, c :: r => if (cutB (c :: r)).2.2 = true then (if (evR (cutB (c :: r)).1).2 = true then (parseR n (cutB (c :: r)).2.1).map ((evR (cutB (c :: r)).1).1 :: ·) else none) else none

theorem cut_len {s : List UInt8} : (cutB s).1.length ≤ s.length ∧ ((cutB s).2.2 = true → (cutB s).2.1.length < s.length) := by
  unfold cutB
  split
  · rename_i h
    have h1 := congrArg List.length (List.takeWhile_append_dropWhile (p := (· != (10 : UInt8))) (l := s))
    rw [List.length_append] at h1
    refine ⟨by simp only; omega, fun _ => ?_⟩
    simp only [List.length_drop]
    have : s.length ≠ 0 := fun h0 => by rw [List.length_eq_zero_iff.1 h0] at h; cases h
    by_cases h0 : (s.dropWhile (· != 10)).length = 0 <;> omega
  · exact ⟨Nat.le_refl _, fun h => by cases h⟩

theorem cut_join {s a b : List UInt8} (h : cutB s = (a, b, true)) : s = a ++ 10 :: b := by
  unfold cutB at h
  split at h
  · rename_i hm
    simp only [Prod.mk.injEq] at h
    obtain ⟨rfl, rfl, _⟩ := h
    rcases idx_cases s 10 with ⟨_, hn⟩ | ⟨i, _, hi, ht, hd, hc⟩
    · exact absurd hm hn
    · have h1 := (List.takeWhile_append_dropWhile (p := (· != (10 : UInt8))) (l := s)).symm
      have h2 : s.dropWhile (· != 10) = 10 :: s.drop (i + 1) := by rw [← hd]; exact drop_cons hc
      rw [h2] at h1 ⊢
      exact h1
  · simp at h

theorem cut_at {a b : List UInt8} (h : ∀ c ∈ a, c ≠ 10) : cutB (a ++ 10 :: b) = (a, b, true) := by
  unfold cutB
  rw [if_pos (by simp)]
  have h1 : ∀ c ∈ a, (c != 10) = true := by simpa using h
  rw [List.takeWhile_append_of_pos h1, List.dropWhile_append_of_pos h1]
  simp

theorem body_min (e : Ev) : 10 ≤ (bodyB e).length := by
  have h : ∀ n, 1 ≤ (Lib.itoa n).length := fun n => by
    cases hd : Lib.itoa n with
    | nil => exact absurd hd (itoa_ne n)
    | cons c r => simp
  have h1 := h e.at_
  have h2 := h e.task
  have h3 := h e.n
  have h4 := h e.m
  unfold bodyB
  simp only [List.length_append, List.length_cons]
  omega

theorem parse_sound : ∀ (n : Nat) (s : List UInt8) (l : List Ev), parseR n s = some l → s = l.flatMap lineB ∧ l.all okEv = true
  | n, [], l, h => by
    cases n <;> (simp only [parseR, Option.some.injEq] at h; subst h; simp)
  | 0, c :: r, l, h => by cases h
  | n + 1, c :: r, l, h => by
    rw [parseR] at h
    split at h
    · rename_i hc
      split at h
      · rename_i he
        obtain ⟨l', h1, rfl⟩ := Option.map_eq_some_iff.1 h
        obtain ⟨h2, h3⟩ := parse_sound n _ l' h1
        obtain ⟨h4, h5⟩ := evR_ok (s := (cutB (c :: r)).1) (e := (evR (cutB (c :: r)).1).1) (Prod.ext rfl he)
        have h6 := cut_join (s := c :: r) (a := (cutB (c :: r)).1) (b := (cutB (c :: r)).2.1) (Prod.ext rfl (Prod.ext rfl hc))
        refine ⟨?_, by simp [h3, h5]⟩
        rw [List.flatMap_cons, lineB, ← h4, ← h2]
        simpa using h6
      · cases h
    · cases h

theorem parse_lines : ∀ (l : List Ev) (n : Nat), l.all okEv = true → (l.flatMap lineB).length ≤ n → parseR n (l.flatMap lineB) = some l
  | [], n, _, _ => by cases n <;> rfl
  | e :: l, n, ho, hn => by
    simp only [List.all_cons, Bool.and_eq_true] at ho
    have hs : (e :: l).flatMap lineB = bodyB e ++ 10 :: l.flatMap lineB := by simp [lineB]
    rw [hs] at hn ⊢
    have hmin := body_min e
    simp only [List.length_append, List.length_cons] at hn
    have hcut := cut_at (b := l.flatMap lineB) (body_ne10 ho.1)
    have ih := parse_lines l (n - 1) ho.2 (by omega)
    obtain ⟨n, rfl⟩ : ∃ m, n = m + 1 := ⟨n - 1, by omega⟩
    cases hd : bodyB e ++ 10 :: l.flatMap lineB with
    | nil => simp at hd
    | cons c r =>
      rw [hd] at hcut
      rw [parseR, hcut]
      simp only [if_true, evR_body ho.1]
      simp only [Nat.add_sub_cancel] at ih
      rw [ih]; rfl

theorem roomy_ev2 {n : Nat} (h : n ≤ 20000) : roomy 96 n = true := by
  simp [roomy]; omega

/-- How Parse stands ahead of a round. -/
def paI (s0 : List UInt8) (k : Nat) (s : List V) (h : Heap) : Prop :=
  ∃ (rest : List UInt8) (l : List Ev) (o : V) (c : Int), (k + l.length = s0.length ∧ c = l.length ∧ rest.length ≤ k ∧ 11 * l.length + rest.length ≤ s0.length ∧ parseR s0.length s0 = (parseR k rest).map (l ++ ·) ∧ InRow h 27 10 o (evs l)) ∧ s.length = 41 ∧ s.getD 0 und = und ∧ s.getD 1 und = .str rest ∧ s.getD 3 und = .nils ∧ s.getD 4 und = .int .i64 0 ∧ s.getD 5 und = o ∧ s.getD 6 und = .int .i64 c
theorem paI_lit {s0 : List UInt8} {k : Nat} {s : List V} {h : Heap} (hI : paI s0 k s h) : ∃ (rest : List UInt8) (l : List Ev) (o : V) (c : Int) (x : Nat → V), (k + l.length = s0.length ∧ c = l.length ∧ rest.length ≤ k ∧ 11 * l.length + rest.length ≤ s0.length ∧ parseR s0.length s0 = (parseR k rest).map (l ++ ·) ∧ InRow h 27 10 o (evs l)) ∧
    s = [und, .str rest, x 2, .nils, .int .i64 0, o, .int .i64 c, x 7, x 8, x 9, x 10, x 11, x 12, x 13, x 14, x 15, x 16, x 17, x 18, x 19, x 20, x 21, x 22, x 23, x 24, x 25, x 26, x 27, x 28, x 29, x 30, x 31, x 32, x 33, x 34, x 35, x 36, x 37, x 38, x 39, x 40] := by
  obtain ⟨rest, l, o, c, hF, hl, e0, e1, e3, e4, e5, e6⟩ := hI
  refine ⟨rest, l, o, c, fun n => s.getD n und, hF, (lit_of hl).trans ?_⟩
  show [s.getD 0 und, s.getD 1 und, s.getD 2 und, s.getD 3 und, s.getD 4 und, s.getD 5 und, s.getD 6 und, s.getD 7 und, s.getD 8 und, s.getD 9 und, s.getD 10 und, s.getD 11 und, s.getD 12 und, s.getD 13 und, s.getD 14 und, s.getD 15 und, s.getD 16 und, s.getD 17 und, s.getD 18 und, s.getD 19 und, s.getD 20 und, s.getD 21 und, s.getD 22 und, s.getD 23 und, s.getD 24 und, s.getD 25 und, s.getD 26 und, s.getD 27 und, s.getD 28 und, s.getD 29 und, s.getD 30 und, s.getD 31 und, s.getD 32 und, s.getD 33 und, s.getD 34 und, s.getD 35 und, s.getD 36 und, s.getD 37 und, s.getD 38 und, s.getD 39 und, s.getD 40 und] = _
  rw [e0, e1, e3, e4, e5, e6]

theorem fz_tup2 {E : Env} {h : Heap} {n : Nat} {a b v w : V} (h1 : fz E h n a = some v) (h2 : fz E h n b = some w) : fz E h (n + 1) (.tup [a, b]) = some (.tup [v, w]) := by
  simp [fz, h1, h2]

set_option maxHeartbeats 4000000 in
theorem parse_has (h0 : Heap) {s0 : List UInt8} (hl : s0.length ≤ 90000) : ∃ v, Has env2 .own 34 [.str s0] h0 (.val (.tup [v, .int .i64 (if (parseR s0.length s0).isSome = true then 0 else 4)]) h0) ∧ Fr 10 v (evs ((parseR s0.length s0).getD [])) := by
  have hR0 : parseR s0.length s0 = (parseR s0.length s0).map (([] : List Ev) ++ ·) := by cases parseR s0.length s0 <;> simp
  suffices hs : ∃ w, Has env2 .own 34 [.str s0] h0 (.val w h0) ∧ ∃ v, w = .tup [v, .int .i64 (if (parseR s0.length s0).isSome = true then 0 else 4)] ∧ Fr 10 v (evs ((parseR s0.length s0).getD [])) by
    obtain ⟨w, k1, v, rfl, k2⟩ := hs
    exact ⟨v, k1, k2⟩
  refine HasP.ownE (a := [.str s0]) (d := fn34) rfl rfl rfl (of_decide_eq_true rfl) ?_
  apply RunP.seq
  apply RunP.region
  apply RunP.seq
  apply RunP.region
  apply RunP.seq
  apply RunP.region
  apply RunP.seq
  apply RunP.block
  refine RunP.loop (paI s0) ?_ s0.length ⟨s0, [], .nils, 0, ⟨by simp, rfl, Nat.le_refl _, by simp, hR0, .inl ⟨rfl, rfl⟩⟩, rfl, rfl, rfl, rfl, rfl, rfl, rfl⟩
  intro k st g hI
  obtain ⟨rest, l, o, c, x, ⟨hk, hc, hrl, hlen, hrel, hrow⟩, rfl⟩ := paI_lit hI
  clear hI hR0
  generalize hP : parseR s0.length s0 = P at hrel ⊢
  subst hc
  apply RunP.seq
  apply RunP.seq
  apply RunP.region
  apply And.intro
  · intro hpos
    apply RunP.condT rfl
    apply RunP.skip
    obtain ⟨k, rfl⟩ : ∃ k', k = k' + 1 := ⟨k - 1, by omega⟩
    have hcl := cut_len (s := rest)
    have hstep : parseR (k + 1) rest = if (cutB rest).2.2 = true then (if (evR (cutB rest).1).2 = true then (parseR k (cutB rest).2.1).map ((evR (cutB rest).1).1 :: ·) else none) else none := by
      cases rest with
      | nil => simp at hpos
      | cons c r => rfl
    apply RunP.block
    apply RunP.seq
    apply RunP.region
    refine CallK.of (cut_has _ rest (by omega)) ?_
    have hjoin := fun a b => cut_join (s := rest) (a := a) (b := b)
    generalize cutB rest = C at hcl hstep hjoin ⊢
    obtain ⟨a, b, ok⟩ := C
    simp only at hcl hstep
    apply RunP.seq
    apply RunP.seq
    apply RunP.region
    cases ok
    · apply RunP.condT rfl
      apply RunP.seq
      apply RunP.region
      apply RunP.ret
      have hnone : P = none := by rw [hrel, hstep]; simp
      subst hnone
      exact ⟨rfl, _, rfl, rfl, .nils, rfl, .inl ⟨.inl rfl, rfl⟩⟩
    apply RunP.condF rfl
    apply RunP.skip
    apply RunP.seq
    apply RunP.region
    apply RunP.seq
    apply RunP.region
    refine CallK.of (event_has _ (s0 := a) (by omega)) ?_
    refine bindK_of (store_last (E := env2) (t := 27) (n := 10) rfl rfl rfl rfl rfl) ?_
    apply RunP.seq
    apply RunP.seq
    apply RunP.region
    have hmin : (evR a).2 = true → 10 ≤ a.length := fun h => by
      have := (evR_ok (s := a) (e := (evR a).1) (Prod.ext rfl h)).1
      rw [this]; exact body_min _
    have hjl := congrArg List.length (hjoin a b rfl)
    simp only [List.length_append, List.length_cons] at hjl
    generalize evR a = Z at hstep hmin ⊢
    obtain ⟨e, eok⟩ := Z
    simp only [if_true] at hstep
    cases eok
    · apply RunP.condT rfl
      apply RunP.seq
      apply RunP.region
      apply RunP.ret
      have hnone : P = none := by rw [hrel, hstep]; simp
      subst hnone
      exact ⟨rfl, _, rfl, rfl, .nils, rfl, .inl ⟨.inl rfl, rfl⟩⟩
    apply RunP.condF rfl
    apply RunP.skip
    apply RunP.seq
    apply RunP.region
    apply RunP.seq
    apply RunP.region
    have hw : IntKind.i64.wrap ((l.length : Int) + 1) = ((l.length + 1 : Nat) : Int) := wrap_up l.length (by omega)
    apply And.intro
    · intro _
      apply RunP.condT rfl
      apply RunP.region
      refine bindK_of (load_last (E := env2) (t := 27) (n := 10) rfl) ?_
      obtain ⟨o', h', e1, e2, _⟩ := append_one (E := env2) (t := 34) (T := 27) (e := 10) rfl rfl rfl rfl (by omega) ((hrow.push (.cells 27 e.cells)).push (.cells 27 e.cells)) (evs_elem _) (ev_elem e) (contents_last (n := 10) _ _ _ rfl) (roomy_ev2 (by rw [evs_len]; omega))
      refine bindR_of (congrArg valH e1) ?_
      have hlt := hcl.2 rfl
      have hm10 := hmin rfl
      refine ⟨k, by omega, b, l ++ [e], o', _, ⟨by simp; omega, ?_, by omega, by simp; omega, ?_, ?_⟩, rfl, rfl, rfl, rfl, rfl, rfl, rfl⟩
      · rw [hw]; simp
      · rw [hP, hrel, hstep]
        cases parseR k b <;> simp
      · simpa [evs, show ty27.size = 10 from rfl] using e2
    · intro hgt; rw [hw] at hgt; omega
  · intro hz
    apply RunP.condF rfl
    apply RunP.exit
    have hrest : rest = [] := List.length_eq_zero_iff.1 (by omega)
    subst hrest
    have hsome : P = some l := by rw [hrel]; cases k <;> simp [parseR]
    subst hsome
    apply RunP.seq
    apply RunP.seq
    apply RunP.region
    apply And.intro
    · intro hgt; omega
    intro _
    apply RunP.condF rfl
    apply RunP.skip
    apply RunP.seq
    apply RunP.region
    apply RunP.ret
    obtain ⟨r, r1, r2⟩ := hrow.fr (E := env2) (n := 9) rfl rfl rfl (by omega) (evs_elem _)
    exact ⟨rfl, _, fz_tup2 r1 rfl, rfl, r, rfl, r2⟩
end Go.Proofs.YtnefminojpandaaDoor

