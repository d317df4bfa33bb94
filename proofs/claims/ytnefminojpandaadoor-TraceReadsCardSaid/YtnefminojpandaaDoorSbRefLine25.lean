/- The reference's reader: a line. -/
import Derived.Test.YtnefminojpandaaDoorSbRefFault25
set_option linter.unusedVariables false
set_option linter.unusedSimpArgs false
namespace Go.Proofs.YtnefminojpandaaDoor
open Go.Sb
set_option maxRecDepth 100000

/-- Words, a blank behind each. -/
def jn : List (List UInt8) → List UInt8 → List UInt8
  | [], t => t
  | f :: fs, t => f ++ 32 :: jn fs t
def fieldsB (e : Ev) : List (List UInt8) := [Lib.itoa e.at_, Lib.itoa e.task, nameB e.kind, Lib.itoa e.n, Lib.itoa e.m]
def tailB (e : Ev) : List UInt8 := valText e.vk e.vn e.vs ++ 32 :: faultText e.fk e.ft
theorem line_jn (e : Ev) (rest : List UInt8) : lineB e ++ rest = jn (fieldsB e) (tailB e) ++ 10 :: rest := by
  simp [lineB, bodyB, jn, fieldsB, tailB]
theorem fields_plain {e : Ev} (ho : okEv e = true) : ∀ f ∈ fieldsB e, ∀ c ∈ f, c ≠ 32 ∧ c ≠ 10 := by
  obtain ⟨_, _, h3, _⟩ := okEv_nums ho
  have it : ∀ n, ∀ c ∈ Lib.itoa n, c ≠ 32 ∧ c ≠ 10 := fun n c hc => ⟨itoa_noblank n c hc, itoa_ne10 n c hc⟩
  have hn := (kindR_nameB h3.1 h3.2).2
  intro f hf c hc
  simp only [fieldsB, List.mem_cons, List.not_mem_nil, or_false] at hf
  rcases hf with rfl | rfl | rfl | rfl | rfl
  · exact it _ c hc
  · exact it _ c hc
  · exact ⟨words_noblank _ hn c hc, names_ne10 _ hn c hc⟩
  · exact it _ c hc
  · exact it _ c hc

theorem strs_cells (ws : List (List UInt8)) : (ws.map V.str).flatMap V.cells = ws.map V.str := by
  induction ws with
  | nil => rfl
  | cons w ws ih => simp only [List.map_cons, List.flatMap_cons, ih]; rfl

theorem row_len {h : Heap} {o : V} {es : List V} (hr : InRow h 9 1 o es) (h' : Heap) : evLen env2 90 o h' = some (.int .i64 es.length) := by
  rcases hr with ⟨rfl, rfl⟩ | ⟨b, rfl, _, _⟩
  · rfl
  · rfl

theorem res3 {E : Env} {s : List V} {h : Heap} {a t c d : Nat} {v : V} (hl : evLoad E t (getT s a) h = some v) : evResults E [.cell a t, .tmp c, .tmp d] s h = some (.tup [v, getT s c, getT s d]) := by
  simp [evResults, evResult, hl]

theorem Has.anyHeap {E : Env} {f : FuncId} {args a : List V} {h h' : Heap} {v : V} (h1 : args.mapM (fz E h depthF) = some a) (h2 : args.mapM (fz E h' depthF) = some a) (hh : Has E .own f args h (.val v h)) : Has E .own f args h' (.val v h') := by
  obtain ⟨N, hN⟩ := hh
  refine ⟨N + 1, fun n hn => ?_⟩
  obtain ⟨n, rfl⟩ : ∃ m, n = m + 1 := ⟨n - 1, by omega⟩
  have := hN (n + 1) (by omega)
  simp only [callN, h1, Option.bind_some] at this
  simp only [callN, h2, Option.bind_some]
  split at this
  · rename_i p hp
    obtain ⟨w, hw, hx⟩ := Option.bind_eq_some_iff.1 this
    rw [hw]
    simp only [Option.bind_some]
    split at hx
    · rename_i hc; cases hx; rw [if_pos hc]
    · cases hx
  · rename_i hp
    obtain ⟨d, hd, hx⟩ := Option.bind_eq_some_iff.1 this
    obtain ⟨r, hr, hx⟩ := Option.bind_eq_some_iff.1 hx
    rw [hd]
    simp only [Option.bind_some, hr]
    cases r with
    | val w k =>
      simp only [giveBack] at hx ⊢
      obtain ⟨q, hq, hx⟩ := Option.bind_eq_some_iff.1 hx
      rw [hq]
      simp only [Option.bind_some]
      split at hx
      · rename_i hc; cases hx; rw [if_pos hc]
      · cases hx
    | pan w k =>
      simp only [giveBack] at hx
      obtain ⟨q, hq, hx⟩ := Option.bind_eq_some_iff.1 hx
      split at hx <;> cases hx

/-- Of a state only so much. -/
theorem RunP.gen {E : Env} {md : FuncId → Sb.Mode} {c : Code} {s : List V} {h : Heap} {Q : Ex → List V → Heap → Prop} (P : List V → Prop) (hP : P s) (hr : ∀ st, P st → RunP E md c st h Q) : RunP E md c s h Q := hr s hP

/-- How the reference's readLine stands ahead of a word. -/
def rlI (u : List UInt8) (a : Nat) (k : Nat) (s : List V) (h : Heap) : Prop :=
  ∃ (p : Nat) (z : Int) (o : V) (ws : List (List UInt8)), (ws.length + k = 5 ∧ z = p ∧ a ≤ p ∧ p ≤ u.length ∧ InRow h 9 1 o (ws.map V.str) ∧ h[0]? = some (.cells 27 z27) ∧ (∀ w ∈ ws, w.length ≤ u.length) ∧ ∀ e rest, okEv e = true → u.drop a = lineB e ++ rest → ∃ fs, fieldsB e = ws ++ fs ∧ u.drop p = jn fs (tailB e) ++ 10 :: rest) ∧ s.length = 173 ∧ s.getD 0 und = und ∧ s.getD 1 und = .str u ∧ s.getD 2 und = .int .i64 z ∧ s.getD 5 und = .ptr 0 0 10 ∧ s.getD 6 und = .int .i64 0 ∧ s.getD 7 und = .bool false ∧ s.getD 8 und = o ∧ s.getD 9 und = .int .i64 a
theorem rlI_lit {u : List UInt8} {a : Nat} {k : Nat} {s : List V} {h : Heap} (hI : rlI u a k s h) : ∃ (p : Nat) (z : Int) (o : V) (ws : List (List UInt8)) (x : Nat → V), (ws.length + k = 5 ∧ z = p ∧ a ≤ p ∧ p ≤ u.length ∧ InRow h 9 1 o (ws.map V.str) ∧ h[0]? = some (.cells 27 z27) ∧ (∀ w ∈ ws, w.length ≤ u.length) ∧ ∀ e rest, okEv e = true → u.drop a = lineB e ++ rest → ∃ fs, fieldsB e = ws ++ fs ∧ u.drop p = jn fs (tailB e) ++ 10 :: rest) ∧
    s = [und, .str u, .int .i64 z, x 3, x 4, .ptr 0 0 10, .int .i64 0, .bool false, o, .int .i64 a, x 10, x 11, x 12, x 13, x 14, x 15, x 16, x 17, x 18, x 19, x 20, x 21, x 22, x 23, x 24, x 25, x 26, x 27, x 28, x 29, x 30, x 31, x 32, x 33, x 34, x 35, x 36, x 37, x 38, x 39, x 40, x 41, x 42, x 43, x 44, x 45, x 46, x 47, x 48, x 49, x 50, x 51, x 52, x 53, x 54, x 55, x 56, x 57, x 58, x 59, x 60, x 61, x 62, x 63, x 64, x 65, x 66, x 67, x 68, x 69, x 70, x 71, x 72, x 73, x 74, x 75, x 76, x 77, x 78, x 79, x 80, x 81, x 82, x 83, x 84, x 85, x 86, x 87, x 88, x 89, x 90, x 91, x 92, x 93, x 94, x 95, x 96, x 97, x 98, x 99, x 100, x 101, x 102, x 103, x 104, x 105, x 106, x 107, x 108, x 109, x 110, x 111, x 112, x 113, x 114, x 115, x 116, x 117, x 118, x 119, x 120, x 121, x 122, x 123, x 124, x 125, x 126, x 127, x 128, x 129, x 130, x 131, x 132, x 133, x 134, x 135, x 136, x 137, x 138, x 139, x 140, x 141, x 142, x 143, x 144, x 145, x 146, x 147, x 148, x 149, x 150, x 151, x 152, x 153, x 154, x 155, x 156, x 157, x 158, x 159, x 160, x 161, x 162, x 163, x 164, x 165, x 166, x 167, x 168, x 169, x 170, x 171, x 172] := by
  obtain ⟨p, z, o, ws, hF, hl, e0, e1, e2, e5, e6, e7, e8, e9⟩ := hI
  refine ⟨p, z, o, ws, fun n => s.getD n und, hF, (lit_of hl).trans ?_⟩
  show [s.getD 0 und, s.getD 1 und, s.getD 2 und, s.getD 3 und, s.getD 4 und, s.getD 5 und, s.getD 6 und, s.getD 7 und, s.getD 8 und, s.getD 9 und, s.getD 10 und, s.getD 11 und, s.getD 12 und, s.getD 13 und, s.getD 14 und, s.getD 15 und, s.getD 16 und, s.getD 17 und, s.getD 18 und, s.getD 19 und, s.getD 20 und, s.getD 21 und, s.getD 22 und, s.getD 23 und, s.getD 24 und, s.getD 25 und, s.getD 26 und, s.getD 27 und, s.getD 28 und, s.getD 29 und, s.getD 30 und, s.getD 31 und, s.getD 32 und, s.getD 33 und, s.getD 34 und, s.getD 35 und, s.getD 36 und, s.getD 37 und, s.getD 38 und, s.getD 39 und, s.getD 40 und, s.getD 41 und, s.getD 42 und, s.getD 43 und, s.getD 44 und, s.getD 45 und, s.getD 46 und, s.getD 47 und, s.getD 48 und, s.getD 49 und, s.getD 50 und, s.getD 51 und, s.getD 52 und, s.getD 53 und, s.getD 54 und, s.getD 55 und, s.getD 56 und, s.getD 57 und, s.getD 58 und, s.getD 59 und, s.getD 60 und, s.getD 61 und, s.getD 62 und, s.getD 63 und, s.getD 64 und, s.getD 65 und, s.getD 66 und, s.getD 67 und, s.getD 68 und, s.getD 69 und, s.getD 70 und, s.getD 71 und, s.getD 72 und, s.getD 73 und, s.getD 74 und, s.getD 75 und, s.getD 76 und, s.getD 77 und, s.getD 78 und, s.getD 79 und, s.getD 80 und, s.getD 81 und, s.getD 82 und, s.getD 83 und, s.getD 84 und, s.getD 85 und, s.getD 86 und, s.getD 87 und, s.getD 88 und, s.getD 89 und, s.getD 90 und, s.getD 91 und, s.getD 92 und, s.getD 93 und, s.getD 94 und, s.getD 95 und, s.getD 96 und, s.getD 97 und, s.getD 98 und, s.getD 99 und, s.getD 100 und, s.getD 101 und, s.getD 102 und, s.getD 103 und, s.getD 104 und, s.getD 105 und, s.getD 106 und, s.getD 107 und, s.getD 108 und, s.getD 109 und, s.getD 110 und, s.getD 111 und, s.getD 112 und, s.getD 113 und, s.getD 114 und, s.getD 115 und, s.getD 116 und, s.getD 117 und, s.getD 118 und, s.getD 119 und, s.getD 120 und, s.getD 121 und, s.getD 122 und, s.getD 123 und, s.getD 124 und, s.getD 125 und, s.getD 126 und, s.getD 127 und, s.getD 128 und, s.getD 129 und, s.getD 130 und, s.getD 131 und, s.getD 132 und, s.getD 133 und, s.getD 134 und, s.getD 135 und, s.getD 136 und, s.getD 137 und, s.getD 138 und, s.getD 139 und, s.getD 140 und, s.getD 141 und, s.getD 142 und, s.getD 143 und, s.getD 144 und, s.getD 145 und, s.getD 146 und, s.getD 147 und, s.getD 148 und, s.getD 149 und, s.getD 150 und, s.getD 151 und, s.getD 152 und, s.getD 153 und, s.getD 154 und, s.getD 155 und, s.getD 156 und, s.getD 157 und, s.getD 158 und, s.getD 159 und, s.getD 160 und, s.getD 161 und, s.getD 162 und, s.getD 163 und, s.getD 164 und, s.getD 165 und, s.getD 166 und, s.getD 167 und, s.getD 168 und, s.getD 169 und, s.getD 170 und, s.getD 171 und, s.getD 172 und] = _
  rw [e0, e1, e2, e5, e6, e7, e8, e9]

set_option maxHeartbeats 16000000 in
theorem rline60_has (h : Heap) (s : List UInt8) {a : Nat} (ha : a ≤ s.length) (hl : s.length ≤ 2 ^ 38) : ∃ (e : Ev) (to : Nat) (ok : Bool), Has env2 .own 60 [.str s, .int .i64 a] h (.val (.tup [e.v, .int .i64 to, .bool ok]) h) ∧ (ok = true → okEv e = true ∧ s.drop a = lineB e ++ s.drop to ∧ a < to ∧ to ≤ s.length) ∧
    ∀ e' rest, okEv e' = true → s.drop a = lineB e' ++ rest → e = e' ∧ ok = true ∧ to + rest.length = s.length := by
  suffices hs : ∃ w, Has env2 .own 60 [.str s, .int .i64 a] h (.val w h) ∧ ∃ (e : Ev) (to : Nat) (ok : Bool), w = .tup [e.v, .int .i64 to, .bool ok] ∧ (ok = true → okEv e = true ∧ s.drop a = lineB e ++ s.drop to ∧ a < to ∧ to ≤ s.length) ∧
    ∀ e' rest, okEv e' = true → s.drop a = lineB e' ++ rest → e = e' ∧ ok = true ∧ to + rest.length = s.length by
    obtain ⟨w, k1, e, to, ok, rfl, k2⟩ := hs
    exact ⟨e, to, ok, k1, k2⟩
  refine HasP.ownE (a := [.str s, .int .i64 a]) (d := fn60) rfl rfl rfl (of_decide_eq_true rfl) ?_
  apply RunP.seq
  apply RunP.region
  apply RunP.seq
  apply RunP.region
  apply RunP.seq
  apply RunP.region
  apply RunP.seq
  apply RunP.block
  refine RunP.loop (rlI s a) ?_ 5 ⟨a, _, .nils, [], ⟨rfl, rfl, Nat.le_refl _, ha, .inl ⟨rfl, rfl⟩, rfl, (fun w hw => by cases hw), fun e rest _ hd => ⟨fieldsB e, rfl, hd.trans (line_jn e rest)⟩⟩, rfl, rfl, rfl, rfl, rfl, rfl, rfl, rfl, rfl⟩
  intro k st g hI
  obtain ⟨p, z, o, ws, x, ⟨hk, hz, hap, hp, hrow, h0, hwl, hrel⟩, rfl⟩ := rlI_lit hI
  clear hI
  subst hz
  apply RunP.seq
  apply RunP.seq
  apply RunP.region
  refine bindR_of (v := .int .i64 (ws.map V.str).length) (h := g) (congrArg (val · g) (row_len hrow g)) ?_
  rw [List.length_map]
  apply And.intro
  · intro hlt
    have hwle : p + (wordQ (s.drop p)).length ≤ s.length := by
      have : (wordQ (s.drop p)).length ≤ (s.drop p).length := (List.takeWhile_prefix _).length_le
      rw [List.length_drop] at this; omega
    have hnext : ∀ e rest, okEv e = true → s.drop a = lineB e ++ rest → s[(p + (wordQ (s.drop p)).length)]? = some 32 ∧ ∃ fs, fieldsB e = ws ++ [(wordQ (s.drop p))] ++ fs ∧ s.drop ((p + (wordQ (s.drop p)).length) + 1) = jn fs (tailB e) ++ 10 :: rest := fun e rest ho hd => by
      obtain ⟨fs, e1, e2⟩ := hrel e rest ho hd
      cases fs with
      | nil =>
        have := congrArg List.length e1
        simp [fieldsB] at this; omega
      | cons f fs =>
        simp only [jn] at e2
        have e3 : s.drop p = f ++ 32 :: (jn fs (tailB e) ++ 10 :: rest) := by rw [e2]; simp
        have hf : (wordQ (s.drop p)) = f := by
          rw [e3]
          exact wordQ_app (fields_plain ho f (by rw [e1]; simp)) (.inl rfl)
        rw [hf]
        refine ⟨by rw [← List.getElem?_drop, e3]; simp, fs, by rw [e1]; simp, ?_⟩
        rw [Nat.add_assoc, ← List.drop_drop, e3, ← List.drop_drop]
        simp
    have hwl2 : ∀ w ∈ ws ++ [(wordQ (s.drop p))], w.length ≤ s.length := by
      intro w hw
      rcases List.mem_append.1 hw with hw | hw
      · exact hwl w hw
      · simp only [List.mem_singleton] at hw
        rw [hw]; omega
    apply RunP.condT rfl
    apply RunP.skip
    apply RunP.block
    apply RunP.seq
    apply RunP.region
    refine CallK.of (rword_has _ s hp hl) ?_
    apply RunP.seq
    apply RunP.seq
    apply RunP.region
    have hto : (0 : Int) ≤ (((p + (wordQ (s.drop p)).length) : Nat) : Int) := by omega
    apply And.intro
    · intro hge
      apply RunP.condT rfl
      apply RunP.seq
      apply RunP.region
      refine bindK_of (store_at (E := env2) (t := 27) (n := 10) h0 rfl rfl rfl rfl (by decide)) ?_
      apply RunP.ret
      refine ⟨rfl, bindK_of (res3 (load_at (E := env2) (t := 27) (n := 10) (set_same h0) rfl)) ?_⟩
      refine ⟨_, rfl, rfl, ⟨0, 0, 0, 0, 0, 0, 0, [], 0, []⟩, p, false, rfl, (fun h => by cases h), fun e' rest ho hd => absurd hd (fun hd => ?_)⟩
      have := (hnext e' rest ho hd).1; rw [List.getElem?_eq_none (by omega)] at this; cases this
    intro hlt2
    obtain ⟨c, hc⟩ : ∃ c, s[(p + (wordQ (s.drop p)).length)]? = some c := ⟨_, List.getElem?_eq_getElem (by omega)⟩
    refine And.intro hto (Exists.intro c (And.intro hc ?_))
    apply And.intro
    · intro h32
      apply RunP.condF rfl
      apply RunP.skip
      apply RunP.seq
      apply RunP.region
      obtain ⟨o', g2, a1, a2, a3, a4⟩ := append_row (E := env2) (t := 90) (T := 9) (e := 1) (es' := [.str (wordQ (s.drop p))]) (k := 1) rfl rfl rfl rfl (by omega) (hrow.push (.cells 9 [.str (wordQ (s.drop p))])) (by rw [strs_cells]; simp) (contents_last (n := 1) _ 9 [.str (wordQ (s.drop p))] rfl) rfl (by rw [List.length_map]; simp [roomy, show ty9.bytes = 16 from rfl]; omega)
      refine bindR_of (congrArg valH a1) ?_
      apply RunP.region
      refine ⟨k - 1, by omega, (p + (wordQ (s.drop p)).length) + 1, _, o', ws ++ [(wordQ (s.drop p))], ⟨by simp; omega, wrap_up _ (by omega), by omega, by omega, by simpa using a2, a4 _ _ _ (push_old h0) (by decide), hwl2, fun e rest ho hd => (hnext e rest ho hd).2⟩, rfl, rfl, rfl, rfl, rfl, rfl, rfl, rfl, rfl⟩
    · intro h32
      have n32 := b8_ne (c := c) (d := 32) h32
      apply RunP.condT rfl
      apply RunP.seq
      apply RunP.region
      refine bindK_of (store_at (E := env2) (t := 27) (n := 10) h0 rfl rfl rfl rfl (by decide)) ?_
      apply RunP.ret
      refine ⟨rfl, bindK_of (res3 (load_at (E := env2) (t := 27) (n := 10) (set_same h0) rfl)) ?_⟩
      refine ⟨_, rfl, rfl, ⟨0, 0, 0, 0, 0, 0, 0, [], 0, []⟩, p, false, rfl, (fun h => by cases h), fun e' rest ho hd => absurd hd (fun hd => ?_)⟩
      have := (hnext e' rest ho hd).1; rw [hc] at this; exact n32 (Option.some.inj this)
  · intro hge
    have hw5 : ws.length = 5 := by omega
    apply RunP.condF rfl
    apply RunP.exit
    obtain ⟨w0, w1, w2, w3, w4, rfl⟩ : ∃ w0 w1 w2 w3 w4, ws = [w0, w1, w2, w3, w4] := by
      match ws, hw5 with
      | [a, b, c, d, e], _ => exact ⟨a, b, c, d, e, rfl⟩
    rcases hrow with ⟨_, he⟩ | ⟨b, rfl, hb, _⟩
    · cases he
    have hb : g[b]? = some (.cells 9 [.str w0, .str w1, .str w2, .str w3, .str w4]) := hb
    have hrel2 : ∀ e rest, okEv e = true → s.drop a = lineB e ++ rest → w0 = Lib.itoa e.at_ ∧ w1 = Lib.itoa e.task ∧ w2 = nameB e.kind ∧ w3 = Lib.itoa e.n ∧ w4 = Lib.itoa e.m ∧ s.drop p = valText e.vk e.vn e.vs ++ 32 :: (faultText e.fk e.ft ++ 10 :: rest) := fun e rest ho hd => by
      obtain ⟨fs, e1, e2⟩ := hrel e rest ho hd
      cases fs with
      | nil =>
        simp only [fieldsB, List.append_nil, List.cons.injEq, and_true] at e1
        obtain ⟨r0, r1, r2, r3, r4⟩ := e1
        exact ⟨r0.symm, r1.symm, r2.symm, r3.symm, r4.symm, by rw [e2]; simp [jn, tailB]⟩
      | cons f fs =>
        have := congrArg List.length e1
        simp [fieldsB] at this
    have hlen : ∀ (j : Nat) (w : List UInt8), [w0, w1, w2, w3, w4][j]? = some w → w.length ≤ 2 ^ 38 := fun j w hj => Nat.le_trans (hwl w (List.mem_of_getElem? hj)) hl
    obtain ⟨n0, b0, c0, r0, u0, v0⟩ := rnum_has g w0 (hlen 0 w0 rfl)
    apply RunP.seq
    apply RunP.region
    refine And.intro ⟨by omega, by simp⟩ (And.intro rfl ?_)
    refine bindK_of (load_at (E := env2) (t := 9) (n := 5) hb rfl) ?_
    refine CallK.of c0 ?_
    obtain ⟨n1, b1, c1, r1, u1, v1⟩ := rnum_has g w1 (hlen 1 w1 rfl)
    apply RunP.seq
    apply RunP.region
    refine And.intro ⟨by omega, by simp⟩ (And.intro rfl ?_)
    refine bindK_of (load_at (E := env2) (t := 9) (n := 5) hb rfl) ?_
    refine CallK.of c1 ?_
    obtain ⟨n3, b3, c3, r3, u3, v3⟩ := rnum_has g w3 (hlen 3 w3 rfl)
    apply RunP.seq
    apply RunP.region
    refine And.intro ⟨by omega, by simp⟩ (And.intro rfl ?_)
    refine bindK_of (load_at (E := env2) (t := 9) (n := 5) hb rfl) ?_
    refine CallK.of c3 ?_
    obtain ⟨n4, b4, c4, r4, u4, v4⟩ := rnum_has g w4 (hlen 4 w4 rfl)
    apply RunP.seq
    apply RunP.region
    refine And.intro ⟨by omega, by simp⟩ (And.intro rfl ?_)
    refine bindK_of (load_at (E := env2) (t := 9) (n := 5) hb rfl) ?_
    refine CallK.of c4 ?_
    apply RunP.seq
    apply RunP.region
    obtain ⟨vk, vn, vs, vto, vok, cv, rv, uv, hv⟩ := rreadval_has g s hp hl
    refine CallK.of cv ?_
    refine bindK_of (store_last (E := env2) (t := 23) (n := 3) rfl rfl rfl rfl rfl) ?_
    have h01 : (Sb.push g (.cells 23 [.int .i64 vk, .int .i64 vn, .str vs]))[0]? = some (.cells 27 z27) := push_old h0
    have hall : ∀ e rest, okEv e = true → s.drop a = lineB e ++ rest → (n0 = e.at_ ∧ b0 = true) ∧ (n1 = e.task ∧ b1 = true) ∧ (n3 = e.n ∧ b3 = true) ∧ (n4 = e.m ∧ b4 = true) ∧ w2 = nameB e.kind ∧ (vk = e.vk ∧ vn = e.vn ∧ vs = e.vs) ∧ vok = true ∧ s[vto]? = some 32 ∧ s.drop (vto + 1) = faultText e.fk e.ft ++ 10 :: rest := fun e rest ho hd => by
      obtain ⟨r0', r1', r2', r3', r4', hdp⟩ := hrel2 e rest ho hd
      obtain ⟨k1, k2, k3, k4, k5, k6, k7⟩ := okEv_nums ho
      obtain ⟨y1, y2, y3⟩ := hv _ _ _ 32 _ k6 (.inl rfl) hdp
      have hlen2 := congrArg List.length hdp
      rw [List.length_append, List.length_drop, List.length_cons] at hlen2
      have hvt : vto = p + (valText e.vk e.vn e.vs).length := by omega
      have hd32 : s.drop vto = 32 :: (faultText e.fk e.ft ++ 10 :: rest) := by
        rw [hvt, ← List.drop_drop, hdp]; simp
      refine ⟨v0 _ (by omega) (by omega) r0', v1 _ (by omega) (by omega) r1', v3 _ (by omega) (by omega) r3', v4 _ (by omega) (by omega) r4', r2', y1, y2, ?_, ?_⟩
      · have := congrArg List.head? hd32
        rwa [List.head?_drop] at this
      · rw [← List.drop_drop, hd32]; rfl
    apply RunP.seq
    apply RunP.seq
    apply RunP.region
    cases b0
    · apply RunP.condT rfl
      apply RunP.seq
      apply RunP.region
      refine bindK_of (store_at (E := env2) (t := 27) (n := 10) h01 rfl rfl rfl rfl (by decide)) ?_
      apply RunP.ret
      refine ⟨rfl, bindK_of (res3 (load_at (E := env2) (t := 27) (n := 10) (set_same h01) rfl)) ?_⟩
      refine ⟨_, rfl, rfl, ⟨0, 0, 0, 0, 0, 0, 0, [], 0, []⟩, p, false, rfl, (fun h => by cases h), fun e' rest ho hd => absurd hd (fun hd => ?_)⟩
      have := (hall e' rest ho hd).1.2; cases this
    cases b1
    · apply RunP.condT rfl
      apply RunP.seq
      apply RunP.region
      refine bindK_of (store_at (E := env2) (t := 27) (n := 10) h01 rfl rfl rfl rfl (by decide)) ?_
      apply RunP.ret
      refine ⟨rfl, bindK_of (res3 (load_at (E := env2) (t := 27) (n := 10) (set_same h01) rfl)) ?_⟩
      refine ⟨_, rfl, rfl, ⟨0, 0, 0, 0, 0, 0, 0, [], 0, []⟩, p, false, rfl, (fun h => by cases h), fun e' rest ho hd => absurd hd (fun hd => ?_)⟩
      have := (hall e' rest ho hd).2.1.2; cases this
    cases b3
    · apply RunP.condT rfl
      apply RunP.seq
      apply RunP.region
      refine bindK_of (store_at (E := env2) (t := 27) (n := 10) h01 rfl rfl rfl rfl (by decide)) ?_
      apply RunP.ret
      refine ⟨rfl, bindK_of (res3 (load_at (E := env2) (t := 27) (n := 10) (set_same h01) rfl)) ?_⟩
      refine ⟨_, rfl, rfl, ⟨0, 0, 0, 0, 0, 0, 0, [], 0, []⟩, p, false, rfl, (fun h => by cases h), fun e' rest ho hd => absurd hd (fun hd => ?_)⟩
      have := (hall e' rest ho hd).2.2.1.2; cases this
    cases b4
    · apply RunP.condT rfl
      apply RunP.seq
      apply RunP.region
      refine bindK_of (store_at (E := env2) (t := 27) (n := 10) h01 rfl rfl rfl rfl (by decide)) ?_
      apply RunP.ret
      refine ⟨rfl, bindK_of (res3 (load_at (E := env2) (t := 27) (n := 10) (set_same h01) rfl)) ?_⟩
      refine ⟨_, rfl, rfl, ⟨0, 0, 0, 0, 0, 0, 0, [], 0, []⟩, p, false, rfl, (fun h => by cases h), fun e' rest ho hd => absurd hd (fun hd => ?_)⟩
      have := (hall e' rest ho hd).2.2.2.1.2; cases this
    cases vok
    · apply RunP.condT rfl
      apply RunP.seq
      apply RunP.region
      refine bindK_of (store_at (E := env2) (t := 27) (n := 10) h01 rfl rfl rfl rfl (by decide)) ?_
      apply RunP.ret
      refine ⟨rfl, bindK_of (res3 (load_at (E := env2) (t := 27) (n := 10) (set_same h01) rfl)) ?_⟩
      refine ⟨_, rfl, rfl, ⟨0, 0, 0, 0, 0, 0, 0, [], 0, []⟩, p, false, rfl, (fun h => by cases h), fun e' rest ho hd => absurd hd (fun hd => ?_)⟩
      have := (hall e' rest ho hd).2.2.2.2.2.2.1; cases this
    have hvb := uv rfl
    have hvz : (0 : Int) ≤ (vto : Int) := by omega
    apply And.intro
    · intro hge2
      apply RunP.condT rfl
      apply RunP.seq
      apply RunP.region
      refine bindK_of (store_at (E := env2) (t := 27) (n := 10) h01 rfl rfl rfl rfl (by decide)) ?_
      apply RunP.ret
      refine ⟨rfl, bindK_of (res3 (load_at (E := env2) (t := 27) (n := 10) (set_same h01) rfl)) ?_⟩
      refine ⟨_, rfl, rfl, ⟨0, 0, 0, 0, 0, 0, 0, [], 0, []⟩, p, false, rfl, (fun h => by cases h), fun e' rest ho hd => absurd hd (fun hd => ?_)⟩
      have := (hall e' rest ho hd).2.2.2.2.2.2.2.1; rw [List.getElem?_eq_none (by omega)] at this; cases this
    intro hlt2
    obtain ⟨c, hc⟩ : ∃ c, s[vto]? = some c := ⟨_, List.getElem?_eq_getElem (by omega)⟩
    refine And.intro hvz (Exists.intro c (And.intro hc ?_))
    apply And.intro
    rotate_left
    · intro h32
      have n32 := b8_ne (c := c) (d := 32) h32
      apply RunP.condT rfl
      apply RunP.seq
      apply RunP.region
      refine bindK_of (store_at (E := env2) (t := 27) (n := 10) h01 rfl rfl rfl rfl (by decide)) ?_
      apply RunP.ret
      refine ⟨rfl, bindK_of (res3 (load_at (E := env2) (t := 27) (n := 10) (set_same h01) rfl)) ?_⟩
      refine ⟨_, rfl, rfl, ⟨0, 0, 0, 0, 0, 0, 0, [], 0, []⟩, p, false, rfl, (fun h => by cases h), fun e' rest ho hd => absurd hd (fun hd => ?_)⟩
      have := (hall e' rest ho hd).2.2.2.2.2.2.2.1; rw [hc] at this; exact n32 (Option.some.inj this)
    intro h32
    apply RunP.condF rfl
    apply RunP.skip
    refine RunP.gen (fun st => st.length = 173 ∧ st.getD 0 und = und ∧ st.getD 1 und = .str s ∧ st.getD 2 und = .int .i64 p ∧ st.getD 5 und = .ptr 0 0 10 ∧ st.getD 6 und = .int .i64 0 ∧ st.getD 7 und = .bool false ∧ st.getD 8 und = .sl b 0 1 5 5 (5 * 1) ∧ st.getD 9 und = .int .i64 a ∧ st.getD 12 und = .int .i64 n0 ∧ st.getD 14 und = .int .i64 n1 ∧ st.getD 16 und = .int .i64 n3 ∧ st.getD 18 und = .int .i64 n4 ∧ st.getD 20 und = .ptr g.length 0 3 ∧ st.getD 21 und = .int .i64 vto) ?_ ?_
    · exact ⟨rfl, rfl, rfl, rfl, rfl, rfl, rfl, rfl, rfl, rfl, rfl, rfl, rfl, rfl, rfl⟩
    rintro st ⟨hl9, e0, e1, e2, e5, e6, e7, e8, e9, e12, e14, e16, e18, e20, e21⟩
    obtain ⟨x, rfl⟩ : ∃ x : Nat → V, st = [und, .str s, .int .i64 p, x 3, x 4, .ptr 0 0 10, .int .i64 0, .bool false, .sl b 0 1 5 5 (5 * 1), .int .i64 a, x 10, x 11, .int .i64 n0, x 13, .int .i64 n1, x 15, .int .i64 n3, x 17, .int .i64 n4, x 19, .ptr g.length 0 3, .int .i64 vto, x 22, x 23, x 24, x 25, x 26, x 27, x 28, x 29, x 30, x 31, x 32, x 33, x 34, x 35, x 36, x 37, x 38, x 39, x 40, x 41, x 42, x 43, x 44, x 45, x 46, x 47, x 48, x 49, x 50, x 51, x 52, x 53, x 54, x 55, x 56, x 57, x 58, x 59, x 60, x 61, x 62, x 63, x 64, x 65, x 66, x 67, x 68, x 69, x 70, x 71, x 72, x 73, x 74, x 75, x 76, x 77, x 78, x 79, x 80, x 81, x 82, x 83, x 84, x 85, x 86, x 87, x 88, x 89, x 90, x 91, x 92, x 93, x 94, x 95, x 96, x 97, x 98, x 99, x 100, x 101, x 102, x 103, x 104, x 105, x 106, x 107, x 108, x 109, x 110, x 111, x 112, x 113, x 114, x 115, x 116, x 117, x 118, x 119, x 120, x 121, x 122, x 123, x 124, x 125, x 126, x 127, x 128, x 129, x 130, x 131, x 132, x 133, x 134, x 135, x 136, x 137, x 138, x 139, x 140, x 141, x 142, x 143, x 144, x 145, x 146, x 147, x 148, x 149, x 150, x 151, x 152, x 153, x 154, x 155, x 156, x 157, x 158, x 159, x 160, x 161, x 162, x 163, x 164, x 165, x 166, x 167, x 168, x 169, x 170, x 171, x 172] := by
      refine ⟨fun n => st.getD n und, (lit_of hl9).trans ?_⟩
      show [st.getD 0 und, st.getD 1 und, st.getD 2 und, st.getD 3 und, st.getD 4 und, st.getD 5 und, st.getD 6 und, st.getD 7 und, st.getD 8 und, st.getD 9 und, st.getD 10 und, st.getD 11 und, st.getD 12 und, st.getD 13 und, st.getD 14 und, st.getD 15 und, st.getD 16 und, st.getD 17 und, st.getD 18 und, st.getD 19 und, st.getD 20 und, st.getD 21 und, st.getD 22 und, st.getD 23 und, st.getD 24 und, st.getD 25 und, st.getD 26 und, st.getD 27 und, st.getD 28 und, st.getD 29 und, st.getD 30 und, st.getD 31 und, st.getD 32 und, st.getD 33 und, st.getD 34 und, st.getD 35 und, st.getD 36 und, st.getD 37 und, st.getD 38 und, st.getD 39 und, st.getD 40 und, st.getD 41 und, st.getD 42 und, st.getD 43 und, st.getD 44 und, st.getD 45 und, st.getD 46 und, st.getD 47 und, st.getD 48 und, st.getD 49 und, st.getD 50 und, st.getD 51 und, st.getD 52 und, st.getD 53 und, st.getD 54 und, st.getD 55 und, st.getD 56 und, st.getD 57 und, st.getD 58 und, st.getD 59 und, st.getD 60 und, st.getD 61 und, st.getD 62 und, st.getD 63 und, st.getD 64 und, st.getD 65 und, st.getD 66 und, st.getD 67 und, st.getD 68 und, st.getD 69 und, st.getD 70 und, st.getD 71 und, st.getD 72 und, st.getD 73 und, st.getD 74 und, st.getD 75 und, st.getD 76 und, st.getD 77 und, st.getD 78 und, st.getD 79 und, st.getD 80 und, st.getD 81 und, st.getD 82 und, st.getD 83 und, st.getD 84 und, st.getD 85 und, st.getD 86 und, st.getD 87 und, st.getD 88 und, st.getD 89 und, st.getD 90 und, st.getD 91 und, st.getD 92 und, st.getD 93 und, st.getD 94 und, st.getD 95 und, st.getD 96 und, st.getD 97 und, st.getD 98 und, st.getD 99 und, st.getD 100 und, st.getD 101 und, st.getD 102 und, st.getD 103 und, st.getD 104 und, st.getD 105 und, st.getD 106 und, st.getD 107 und, st.getD 108 und, st.getD 109 und, st.getD 110 und, st.getD 111 und, st.getD 112 und, st.getD 113 und, st.getD 114 und, st.getD 115 und, st.getD 116 und, st.getD 117 und, st.getD 118 und, st.getD 119 und, st.getD 120 und, st.getD 121 und, st.getD 122 und, st.getD 123 und, st.getD 124 und, st.getD 125 und, st.getD 126 und, st.getD 127 und, st.getD 128 und, st.getD 129 und, st.getD 130 und, st.getD 131 und, st.getD 132 und, st.getD 133 und, st.getD 134 und, st.getD 135 und, st.getD 136 und, st.getD 137 und, st.getD 138 und, st.getD 139 und, st.getD 140 und, st.getD 141 und, st.getD 142 und, st.getD 143 und, st.getD 144 und, st.getD 145 und, st.getD 146 und, st.getD 147 und, st.getD 148 und, st.getD 149 und, st.getD 150 und, st.getD 151 und, st.getD 152 und, st.getD 153 und, st.getD 154 und, st.getD 155 und, st.getD 156 und, st.getD 157 und, st.getD 158 und, st.getD 159 und, st.getD 160 und, st.getD 161 und, st.getD 162 und, st.getD 163 und, st.getD 164 und, st.getD 165 und, st.getD 166 und, st.getD 167 und, st.getD 168 und, st.getD 169 und, st.getD 170 und, st.getD 171 und, st.getD 172 und] = _
      rw [e0, e1, e2, e5, e6, e7, e8, e9, e12, e14, e16, e18, e20, e21]
    clear hl9 e0 e1 e2 e5 e6 e7 e8 e9 e12 e14 e16 e18 e20 e21
    apply RunP.seq
    apply RunP.region
    obtain ⟨fk, ft, fto, fok, cf, uf, hf⟩ := rreadfault_has (Sb.push g (.cells 23 [.int .i64 vk, .int .i64 vn, .str vs])) s (a := vto + 1) (by omega) hl
    have hwr : IntKind.i64.wrap ((vto : Int) + 1) = ((vto + 1 : Nat) : Int) := wrap_up _ (by omega)
    refine CallK.of (E := env2) (v := .tup [faultV fk ft, .int .i64 fto, .bool fok]) (g := (Sb.push g (.cells 23 [.int .i64 vk, .int .i64 vn, .str vs]))) (by rw [hwr]; exact cf) ?_
    refine bindK_of (store_last (E := env2) (t := 25) (n := 2) rfl rfl rfl rfl rfl) ?_
    have h02 : (Sb.push (Sb.push g (.cells 23 [.int .i64 vk, .int .i64 vn, .str vs])) (.cells 25 [.int .i64 fk, .str ft]))[0]? = some (.cells 27 z27) := push_old h01
    have hb2 : (Sb.push (Sb.push g (.cells 23 [.int .i64 vk, .int .i64 vn, .str vs])) (.cells 25 [.int .i64 fk, .str ft]))[b]? = some (.cells 9 [.str w0, .str w1, .str w2, .str w3, .str w4]) := push_old (push_old hb)
    obtain ⟨kq, ck, hkq⟩ := rkind_has (Sb.push (Sb.push g (.cells 23 [.int .i64 vk, .int .i64 vn, .str vs])) (.cells 25 [.int .i64 fk, .str ft])) w2
    have ck' := fun h' => Has.anyHeap (h' := h') (a := [.str w2]) rfl rfl ck
    apply RunP.seq
    apply RunP.drawn
    · decide +kernel
    refine And.intro ⟨by omega, by simp⟩ (And.intro rfl ?_)
    refine bindK_of (load_at (E := env2) (t := 9) (n := 5) hb2 rfl) ?_
    refine CallK.of ck ?_
    refine drawR (by decide +kernel) (by decide +kernel) ?_
    have hv2 : (Sb.push (Sb.push g (.cells 23 [.int .i64 vk, .int .i64 vn, .str vs])) (.cells 25 [.int .i64 fk, .str ft]))[g.length]? = some (.cells 23 [.int .i64 vk, .int .i64 vn, .str vs]) := push_old (by simp [Sb.push])
    refine bindK_of (load_at (E := env2) (t := 23) (n := 3) hv2 rfl) ?_
    refine bindK_of (load_last (E := env2) (t := 25) (n := 2) rfl) ?_
    refine drawR (by decide +kernel) (by decide +kernel) ?_
    have hf2 : (Sb.push (Sb.push g (.cells 23 [.int .i64 vk, .int .i64 vn, .str vs])) (.cells 25 [.int .i64 fk, .str ft]))[(Sb.push g (.cells 23 [.int .i64 vk, .int .i64 vn, .str vs])).length]? = some (.cells 25 [.int .i64 fk, .str ft]) := by simp [Sb.push]
    refine And.intro (StillK.of (bindK_of (load_at (E := env2) (t := 25) (n := 2) (push_old hf2) rfl) rfl)) ?_
    refine And.intro (StillK.of (bindK_of (load_at (E := env2) (t := 23) (n := 3) (push_old hv2) rfl) rfl)) ?_
    refine And.intro (StillK.of (CallK.of (ck' _) rfl)) ?_
    refine And.intro (StillK.of (bindK_of (load_at (E := env2) (t := 9) (n := 5) (push_old hb2) rfl) rfl)) ?_
    refine bindK_of (store_last (E := env2) (t := 27) (n := 10) rfl rfl rfl rfl rfl) ?_
    refine drawW (by decide +kernel) (by kernel_rfl) ?_
    have h03 : (Sb.push (Sb.push (Sb.push g (.cells 23 [.int .i64 vk, .int .i64 vn, .str vs])) (.cells 25 [.int .i64 fk, .str ft])) (.cells 27 (Ev.cells (⟨n0, n1, kq, n3, n4, vk, vn, vs, fk, ft⟩ : Ev))))[0]? = some (.cells 27 z27) := push_old h02
    have hall2 : ∀ e rest, okEv e = true → s.drop a = lineB e ++ rest → (⟨n0, n1, kq, n3, n4, vk, vn, vs, fk, ft⟩ : Ev) = e ∧ fok = true ∧ s[fto]? = some 10 ∧ fto + 1 + rest.length = s.length := fun e rest ho hd => by
      obtain ⟨⟨x1, _⟩, ⟨x2, _⟩, ⟨x3, _⟩, ⟨x4, _⟩, x5, ⟨x6, x7, x8⟩, _, _, hdv⟩ := hall e rest ho hd
      obtain ⟨k1, k2, k3, k4, k5, k6, k7⟩ := okEv_nums ho
      obtain ⟨⟨y1, y2⟩, y3, y4⟩ := hf _ _ _ k7 hdv
      have hk := hkq _ k3.1 k3.2 x5
      have hlen3 := congrArg List.length hdv
      rw [List.length_append, List.length_drop, List.length_cons] at hlen3
      have hft : fto = vto + 1 + (faultText e.fk e.ft).length := by omega
      have hd10 : s.drop fto = 10 :: rest := by
        rw [hft, ← List.drop_drop, hdv]; simp
      refine ⟨?_, y3, ?_, by omega⟩
      · rw [x1, x2, hk, x3, x4, x6, x7, x8, y1, y2]
      · have := congrArg List.head? hd10
        rwa [List.head?_drop] at this
    refine RunP.gen (fun st => st.length = 173 ∧ st.getD 0 und = und ∧ st.getD 1 und = .str s ∧ st.getD 2 und = .int .i64 p ∧ st.getD 5 und = .ptr 0 0 10 ∧ st.getD 6 und = .int .i64 0 ∧ st.getD 7 und = .bool false ∧ st.getD 9 und = .int .i64 a ∧ st.getD 24 und = .int .i64 fto ∧ st.getD 25 und = .bool fok ∧ st.getD 26 und = .ptr (List.length (Sb.push (Sb.push g (.cells 23 [.int .i64 vk, .int .i64 vn, .str vs])) (.cells 25 [.int .i64 fk, .str ft]))) 0 10) ?_ ?_
    · exact ⟨rfl, rfl, rfl, rfl, rfl, rfl, rfl, rfl, rfl, rfl, rfl⟩
    rintro st ⟨hl9, e0, e1, e2, e5, e6, e7, e9, e24, e25, e26⟩
    obtain ⟨x, rfl⟩ : ∃ x : Nat → V, st = [und, .str s, .int .i64 p, x 3, x 4, .ptr 0 0 10, .int .i64 0, .bool false, x 8, .int .i64 a, x 10, x 11, x 12, x 13, x 14, x 15, x 16, x 17, x 18, x 19, x 20, x 21, x 22, x 23, .int .i64 fto, .bool fok, .ptr (List.length (Sb.push (Sb.push g (.cells 23 [.int .i64 vk, .int .i64 vn, .str vs])) (.cells 25 [.int .i64 fk, .str ft]))) 0 10, x 27, x 28, x 29, x 30, x 31, x 32, x 33, x 34, x 35, x 36, x 37, x 38, x 39, x 40, x 41, x 42, x 43, x 44, x 45, x 46, x 47, x 48, x 49, x 50, x 51, x 52, x 53, x 54, x 55, x 56, x 57, x 58, x 59, x 60, x 61, x 62, x 63, x 64, x 65, x 66, x 67, x 68, x 69, x 70, x 71, x 72, x 73, x 74, x 75, x 76, x 77, x 78, x 79, x 80, x 81, x 82, x 83, x 84, x 85, x 86, x 87, x 88, x 89, x 90, x 91, x 92, x 93, x 94, x 95, x 96, x 97, x 98, x 99, x 100, x 101, x 102, x 103, x 104, x 105, x 106, x 107, x 108, x 109, x 110, x 111, x 112, x 113, x 114, x 115, x 116, x 117, x 118, x 119, x 120, x 121, x 122, x 123, x 124, x 125, x 126, x 127, x 128, x 129, x 130, x 131, x 132, x 133, x 134, x 135, x 136, x 137, x 138, x 139, x 140, x 141, x 142, x 143, x 144, x 145, x 146, x 147, x 148, x 149, x 150, x 151, x 152, x 153, x 154, x 155, x 156, x 157, x 158, x 159, x 160, x 161, x 162, x 163, x 164, x 165, x 166, x 167, x 168, x 169, x 170, x 171, x 172] := by
      refine ⟨fun n => st.getD n und, (lit_of hl9).trans ?_⟩
      show [st.getD 0 und, st.getD 1 und, st.getD 2 und, st.getD 3 und, st.getD 4 und, st.getD 5 und, st.getD 6 und, st.getD 7 und, st.getD 8 und, st.getD 9 und, st.getD 10 und, st.getD 11 und, st.getD 12 und, st.getD 13 und, st.getD 14 und, st.getD 15 und, st.getD 16 und, st.getD 17 und, st.getD 18 und, st.getD 19 und, st.getD 20 und, st.getD 21 und, st.getD 22 und, st.getD 23 und, st.getD 24 und, st.getD 25 und, st.getD 26 und, st.getD 27 und, st.getD 28 und, st.getD 29 und, st.getD 30 und, st.getD 31 und, st.getD 32 und, st.getD 33 und, st.getD 34 und, st.getD 35 und, st.getD 36 und, st.getD 37 und, st.getD 38 und, st.getD 39 und, st.getD 40 und, st.getD 41 und, st.getD 42 und, st.getD 43 und, st.getD 44 und, st.getD 45 und, st.getD 46 und, st.getD 47 und, st.getD 48 und, st.getD 49 und, st.getD 50 und, st.getD 51 und, st.getD 52 und, st.getD 53 und, st.getD 54 und, st.getD 55 und, st.getD 56 und, st.getD 57 und, st.getD 58 und, st.getD 59 und, st.getD 60 und, st.getD 61 und, st.getD 62 und, st.getD 63 und, st.getD 64 und, st.getD 65 und, st.getD 66 und, st.getD 67 und, st.getD 68 und, st.getD 69 und, st.getD 70 und, st.getD 71 und, st.getD 72 und, st.getD 73 und, st.getD 74 und, st.getD 75 und, st.getD 76 und, st.getD 77 und, st.getD 78 und, st.getD 79 und, st.getD 80 und, st.getD 81 und, st.getD 82 und, st.getD 83 und, st.getD 84 und, st.getD 85 und, st.getD 86 und, st.getD 87 und, st.getD 88 und, st.getD 89 und, st.getD 90 und, st.getD 91 und, st.getD 92 und, st.getD 93 und, st.getD 94 und, st.getD 95 und, st.getD 96 und, st.getD 97 und, st.getD 98 und, st.getD 99 und, st.getD 100 und, st.getD 101 und, st.getD 102 und, st.getD 103 und, st.getD 104 und, st.getD 105 und, st.getD 106 und, st.getD 107 und, st.getD 108 und, st.getD 109 und, st.getD 110 und, st.getD 111 und, st.getD 112 und, st.getD 113 und, st.getD 114 und, st.getD 115 und, st.getD 116 und, st.getD 117 und, st.getD 118 und, st.getD 119 und, st.getD 120 und, st.getD 121 und, st.getD 122 und, st.getD 123 und, st.getD 124 und, st.getD 125 und, st.getD 126 und, st.getD 127 und, st.getD 128 und, st.getD 129 und, st.getD 130 und, st.getD 131 und, st.getD 132 und, st.getD 133 und, st.getD 134 und, st.getD 135 und, st.getD 136 und, st.getD 137 und, st.getD 138 und, st.getD 139 und, st.getD 140 und, st.getD 141 und, st.getD 142 und, st.getD 143 und, st.getD 144 und, st.getD 145 und, st.getD 146 und, st.getD 147 und, st.getD 148 und, st.getD 149 und, st.getD 150 und, st.getD 151 und, st.getD 152 und, st.getD 153 und, st.getD 154 und, st.getD 155 und, st.getD 156 und, st.getD 157 und, st.getD 158 und, st.getD 159 und, st.getD 160 und, st.getD 161 und, st.getD 162 und, st.getD 163 und, st.getD 164 und, st.getD 165 und, st.getD 166 und, st.getD 167 und, st.getD 168 und, st.getD 169 und, st.getD 170 und, st.getD 171 und, st.getD 172 und] = _
      rw [e0, e1, e2, e5, e6, e7, e9, e24, e25, e26]
    clear hl9 e0 e1 e2 e5 e6 e7 e9 e24 e25 e26
    apply RunP.seq
    apply RunP.seq
    apply RunP.region
    cases fok
    · apply RunP.condT rfl
      apply RunP.seq
      apply RunP.region
      refine bindK_of (store_at (E := env2) (t := 27) (n := 10) h03 rfl rfl rfl rfl (by decide)) ?_
      apply RunP.ret
      refine ⟨rfl, bindK_of (res3 (load_at (E := env2) (t := 27) (n := 10) (set_same h03) rfl)) ?_⟩
      refine ⟨_, rfl, rfl, ⟨0, 0, 0, 0, 0, 0, 0, [], 0, []⟩, p, false, rfl, (fun h => by cases h), fun e' rest ho hd => absurd hd (fun hd => ?_)⟩
      have := (hall2 e' rest ho hd).2.1; cases this
    have hfb := uf rfl
    have hfz : (0 : Int) ≤ (fto : Int) := by omega
    apply And.intro
    · intro hge3
      apply RunP.condT rfl
      apply RunP.seq
      apply RunP.region
      refine bindK_of (store_at (E := env2) (t := 27) (n := 10) h03 rfl rfl rfl rfl (by decide)) ?_
      apply RunP.ret
      refine ⟨rfl, bindK_of (res3 (load_at (E := env2) (t := 27) (n := 10) (set_same h03) rfl)) ?_⟩
      refine ⟨_, rfl, rfl, ⟨0, 0, 0, 0, 0, 0, 0, [], 0, []⟩, p, false, rfl, (fun h => by cases h), fun e' rest ho hd => absurd hd (fun hd => ?_)⟩
      have := (hall2 e' rest ho hd).2.2.1; rw [List.getElem?_eq_none (by omega)] at this; cases this
    intro hlt3
    obtain ⟨c2, hc2⟩ : ∃ c2, s[fto]? = some c2 := ⟨_, List.getElem?_eq_getElem (by omega)⟩
    refine And.intro hfz (Exists.intro c2 (And.intro hc2 ?_))
    apply And.intro
    rotate_left
    · intro h10
      have n10 := b8_ne (c := c2) (d := 10) h10
      apply RunP.condT rfl
      apply RunP.seq
      apply RunP.region
      refine bindK_of (store_at (E := env2) (t := 27) (n := 10) h03 rfl rfl rfl rfl (by decide)) ?_
      apply RunP.ret
      refine ⟨rfl, bindK_of (res3 (load_at (E := env2) (t := 27) (n := 10) (set_same h03) rfl)) ?_⟩
      refine ⟨_, rfl, rfl, ⟨0, 0, 0, 0, 0, 0, 0, [], 0, []⟩, p, false, rfl, (fun h => by cases h), fun e' rest ho hd => absurd hd (fun hd => ?_)⟩
      have := (hall2 e' rest ho hd).2.2.1; rw [hc2] at this; exact n10 (Option.some.inj this)
    intro h10
    refine bindK_of (load_last (E := env2) (t := 27) (n := 10) rfl) ?_
    cases hoe : okEv (⟨n0, n1, kq, n3, n4, vk, vn, vs, fk, ft⟩ : Ev)
    · refine CallK.of (rvalid_t _ hoe) ?_
      apply RunP.condT rfl
      apply RunP.seq
      apply RunP.region
      refine bindK_of (store_at (E := env2) (t := 27) (n := 10) h03 rfl rfl rfl rfl (by decide)) ?_
      apply RunP.ret
      refine ⟨rfl, bindK_of (res3 (load_at (E := env2) (t := 27) (n := 10) (set_same h03) rfl)) ?_⟩
      refine ⟨_, rfl, rfl, ⟨0, 0, 0, 0, 0, 0, 0, [], 0, []⟩, p, false, rfl, (fun h => by cases h), fun e' rest ho hd => absurd hd (fun hd => ?_)⟩
      have := (hall2 e' rest ho hd).1; rw [this, ho] at hoe; cases hoe
    refine CallK.of (rvalid_t _ hoe) ?_
    apply RunP.condF rfl
    apply RunP.skip
    apply RunP.seq
    apply RunP.drawn
    · decide +kernel
    refine bindK_of (load_last (E := env2) (t := 27) (n := 10) rfl) ?_
    refine drawR (by decide +kernel) (by decide +kernel) ?_
    refine bindK_of (load_last (E := env2) (t := 27) (n := 10) rfl) ?_
    try refine drawR (by decide +kernel) (by decide +kernel) ?_
    refine CallK.of (rline_has _ _ hoe) ?_
    refine drawR (by decide +kernel) (by decide +kernel) ?_
    have hwf : IntKind.i64.wrap ((fto : Int) + 1) = ((fto + 1 : Nat) : Int) := wrap_up _ (by omega)
    have hsl : List.drop ((a : Int)).toNat (List.take (IntKind.i64.wrap ((fto : Int) + 1)).toNat s) = (s.take (fto + 1)).drop a := by rw [hwf]; simp
    apply And.intro
    · rw [hwf]; omega
    apply And.intro
    · omega
    apply And.intro
    · exact ⟨by rw [hwf]; simp; omega, by rw [hwf]; simp; omega⟩
    have hjoin : s.drop a = (s.take (fto + 1)).drop a ++ s.drop (fto + 1) := by
      have := congrArg (List.drop a) (List.take_append_drop (fto + 1) s).symm
      rwa [List.drop_append_of_le_length (by simp; omega)] at this
    have ldz : evLoad env2 27 (.ptr 0 0 10) ((Sb.push (Sb.push (Sb.push g (.cells 23 [.int .i64 vk, .int .i64 vn, .str vs])) (.cells 25 [.int .i64 fk, .str ft])) (.cells 27 (Ev.cells (⟨n0, n1, kq, n3, n4, vk, vn, vs, fk, ft⟩ : Ev)))).set 0 (.cells 27 (Ev.cells (⟨n0, n1, kq, n3, n4, vk, vn, vs, fk, ft⟩ : Ev)))) = some (Ev.v (⟨n0, n1, kq, n3, n4, vk, vn, vs, fk, ft⟩ : Ev)) := load_at (E := env2) (t := 27) (n := 10) (set_same h03) rfl
    have fint : ∀ ok : Bool, some (V.tup [Ev.v (⟨n0, n1, kq, n3, n4, vk, vn, vs, fk, ft⟩ : Ev), .int .i64 (IntKind.i64.wrap ((fto : Int) + 1)), .bool ok]) = some (V.tup [Ev.v (⟨n0, n1, kq, n3, n4, vk, vn, vs, fk, ft⟩ : Ev), .int .i64 ((fto + 1 : Nat) : Int), .bool ok]) := fun ok => by rw [hwf]
    apply And.intro
    · intro heq
      try refine drawZ (by decide +kernel) (by decide +kernel) ?_
      refine bindK_of (v := (Sb.push (Sb.push (Sb.push g (.cells 23 [.int .i64 vk, .int .i64 vn, .str vs])) (.cells 25 [.int .i64 fk, .str ft])) (.cells 27 (Ev.cells (⟨n0, n1, kq, n3, n4, vk, vn, vs, fk, ft⟩ : Ev)))).set 0 (.cells 27 (Ev.cells (⟨n0, n1, kq, n3, n4, vk, vn, vs, fk, ft⟩ : Ev)))) (store_at (E := env2) (t := 27) (n := 10) h03 rfl rfl rfl rfl (by decide)) ?_
      refine drawW (by decide +kernel) (by kernel_rfl) ?_
      apply RunP.ret
      refine ⟨rfl, bindK_of (res3 ldz) ?_⟩
      have heq2 : (s.take (fto + 1)).drop a = lineB (⟨n0, n1, kq, n3, n4, vk, vn, vs, fk, ft⟩ : Ev) := hsl.symm.trans heq.symm
      refine ⟨_, fint true, rfl, (⟨n0, n1, kq, n3, n4, vk, vn, vs, fk, ft⟩ : Ev), fto + 1, true, rfl, (fun _ => ⟨hoe, by rw [← heq2]; exact hjoin, by omega, by omega⟩), fun e' rest ho hd => ?_⟩
      obtain ⟨z1, _, _, z4⟩ := hall2 e' rest ho hd
      exact ⟨z1, rfl, z4⟩
    · intro hne
      try refine drawZ (by decide +kernel) (by decide +kernel) ?_
      refine bindK_of (v := (Sb.push (Sb.push (Sb.push g (.cells 23 [.int .i64 vk, .int .i64 vn, .str vs])) (.cells 25 [.int .i64 fk, .str ft])) (.cells 27 (Ev.cells (⟨n0, n1, kq, n3, n4, vk, vn, vs, fk, ft⟩ : Ev)))).set 0 (.cells 27 (Ev.cells (⟨n0, n1, kq, n3, n4, vk, vn, vs, fk, ft⟩ : Ev)))) (store_at (E := env2) (t := 27) (n := 10) h03 rfl rfl rfl rfl (by decide)) ?_
      refine drawW (by decide +kernel) (by kernel_rfl) ?_
      apply RunP.ret
      refine ⟨rfl, bindK_of (res3 ldz) ?_⟩
      refine ⟨_, fint false, rfl, (⟨n0, n1, kq, n3, n4, vk, vn, vs, fk, ft⟩ : Ev), fto + 1, false, rfl, (fun h => by cases h), fun e' rest ho hd => ?_⟩
      obtain ⟨z1, _, _, z4⟩ := hall2 e' rest ho hd
      exfalso
      apply hne
      refine Eq.trans ?_ hsl.symm
      have hlen4 := congrArg List.length hd
      rw [List.length_append, List.length_drop] at hlen4
      rw [List.drop_take, hd, List.take_append_of_le_length (by omega), List.take_of_length_le (by omega), z1]
end Go.Proofs.YtnefminojpandaaDoor

