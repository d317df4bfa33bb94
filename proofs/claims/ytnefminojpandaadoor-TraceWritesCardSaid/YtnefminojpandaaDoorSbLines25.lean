/- All, Text: of the program and of the reference. -/
import Derived.Test.YtnefminojpandaaDoorSbLineOf25
set_option linter.unusedVariables false
set_option linter.unusedSimpArgs false
namespace Go.Proofs.YtnefminojpandaaDoor
open Go.Sb
set_option maxRecDepth 100000

def allI (l : List Ev) (v : V) (k : Nat) (s : List V) (h : Heap) : Prop :=
  ∃ (i : Nat) (z : Int) (x4 x8 x9 x10 x11 x12 x13 x14 : V), i + k = l.length ∧ z = i ∧ (l.take i).all okEv = true ∧
    s = [und, v, und, .int .i64 0, und, x4, v, .int .i64 l.length, .int .i64 z, x8, x9, x10, x11, x12, x13, x14]


theorem take_ok {l : List Ev} {i : Nat} (hi : i < l.length) (h : (l.take i).all okEv = true) (ho : okEv l[i] = true) : (l.take (i + 1)).all okEv = true := by
  rw [List.take_add_one, List.getElem?_eq_getElem hi, List.all_append, h]; simp [ho]
theorem all_not {l : List Ev} {i : Nat} (hi : i < l.length) (ho : okEv l[i] = false) : l.all okEv = false := by
  rw [List.all_eq_false]
  exact ⟨l[i], List.getElem_mem hi, by simp [ho]⟩

theorem check_ok (h : Heap) {e : Ev} (ho : okEv e = true) : Has env2 .own 17 [e.v] h (.val (.int .i64 0) h) := by
  have := check_has h e
  rwa [if_pos ho] at this
theorem check_bad (h : Heap) {e : Ev} (ho : okEv e = false) : Has env2 .own 17 [e.v] h (.val (.int .i64 2) h) := by
  have := check_has h e
  rwa [if_neg (by simp [ho])] at this
theorem rvalid_t (h : Heap) {e : Ev} {b : Bool} (ho : okEv e = b) : Has env2 .own 13 [e.v] h (.val (.bool b) h) := by
  have := rvalid_has h e
  rwa [ho] at this

theorem all_has {v : V} {l : List Ev} (h : Heap) (hv : Fr 10 v (evs l)) (hl : l.length ≤ 20000) : Has env2 .own 44 [v] h (.val (.int .i64 (if l.all okEv = true then 0 else 2)) h) := by
  refine HasP.own (a := [v]) (d := fn44) (leaf_args (by simp [hv.leaf])) rfl rfl (of_decide_eq_true rfl) ?_
  have nr : (V.norefs [v] || V.flat (.int .i64 (if l.all okEv = true then 0 else 2))) = true := by simp [V.norefs, hv.noref]
  apply RunP.seq
  apply RunP.region
  apply RunP.seq
  apply RunP.seq
  apply RunP.region
  refine bindR_of (v := .int .i64 l.length) (h := []) (congrArg (val · []) (fr_len hv [])) ?_
  apply RunP.block
  refine RunP.loop (allI l v) ?_ l.length ⟨0, 0, und, und, und, und, und, und, und, und, by omega, rfl, by simp, rfl⟩
  rintro k s g ⟨i, z, x4, x8, x9, x10, x11, x12, x13, x14, hik, hz, hok, rfl⟩
  apply RunP.seq
  apply RunP.region
  apply And.intro
  · intro hlt
    have hi : i < l.length := by omega
    have := fr_lst hv hi; subst this
    apply RunP.seq
    apply RunP.condT rfl
    apply RunP.skip
    apply RunP.seq
    apply RunP.block
    apply RunP.seq
    apply RunP.region
    apply And.intro
    · omega
    apply And.intro
    · rfl
    refine Exists.intro (l[i]).v (And.intro (by subst hz; simp [evs, hi]) ?_)
    refine bindK_of (store_last (E := env2) (t := 27) (n := 10) rfl rfl rfl rfl rfl) ?_
    apply RunP.seq
    apply RunP.region
    refine bindK_of (load_last (E := env2) (t := 27) (n := 10) rfl) ?_
    cases ho : okEv l[i]
    · refine CallK.of (check_bad _ ho) ?_
      refine And.intro (fun hc => absurd hc (by decide)) (fun _ => ?_)
      apply RunP.condT rfl
      apply RunP.seq
      apply RunP.region
      apply RunP.ret
      exact ⟨rfl, by rw [if_neg (by simp [all_not hi ho])]; rfl, nr⟩
    · refine CallK.of (check_ok _ ho) ?_
      refine And.intro (fun _ => ?_) (fun hc => absurd rfl hc)
      apply RunP.condF rfl
      apply RunP.skip
      apply RunP.region
      refine ⟨k - 1, by omega, i + 1, _, _, _, _, _, _, _, _, _, by omega, ?_, take_ok hi hok ho, rfl⟩
      subst hz; exact wrap_up i (by omega)
  · intro hge
    apply RunP.seq
    apply RunP.condF rfl
    apply RunP.exit
    have hi : i = l.length := by omega
    rw [hi, List.take_length] at hok
    apply RunP.seq
    apply RunP.region
    apply RunP.ret
    exact ⟨rfl, by rw [if_pos hok]; rfl, nr⟩

def text18I (l : List Ev) (v : V) (k : Nat) (s : List V) (h : Heap) : Prop :=
  ∃ (i : Nat) (z : Int) (x4 x7 x8 x9 x10 x11 x12 x13 x14 x15 x19 x20 x21 x22 x23 x24 x25 x26 : V), i + k = l.length ∧ z = i ∧ Bld h 0 ((l.take i).flatMap lineB) ∧
    s = [und, v, und, .str [], .int .i64 0, x4, .ptr 0 0 2, und, x7, x8, x9, x10, x11, x12, x13, x14, x15, v, .int .i64 l.length, .int .i64 z, x19, x20, x21, x22, x23, x24, x25, x26]


theorem lines_len {l : List Ev} (h : l.all okEv = true) : (l.flatMap lineB).length ≤ 701 * l.length := by
  induction l with
  | nil => simp
  | cons e l ih =>
    simp only [List.all_cons, Bool.and_eq_true] at h
    have h1 := body_len h.1
    have h2 := ih h.2
    simp only [List.flatMap_cons, List.length_append, List.length_cons, lineB, List.length_nil]
    omega

theorem all_at {l : List Ev} {i : Nat} (h : l.all okEv = true) (hi : i < l.length) : okEv l[i] = true := List.all_eq_true.1 h _ (List.getElem_mem hi)
theorem all_take {l : List Ev} {i : Nat} (h : l.all okEv = true) : (l.take i).all okEv = true := List.all_eq_true.2 fun e he => List.all_eq_true.1 h e (List.mem_of_mem_take he)
theorem lines_take {l : List Ev} {i : Nat} (hi : i < l.length) : (l.take (i + 1)).flatMap lineB = (l.take i).flatMap lineB ++ lineB l[i] := by
  rw [List.take_add_one, List.getElem?_eq_getElem hi, List.flatMap_append]; simp

def textV (l : List Ev) : V := .tup [.str (if l.all okEv = true then l.flatMap lineB else []), .int .i64 (if l.all okEv = true then 0 else 2)]

set_option maxHeartbeats 1000000 in
theorem text18_has {v : V} {l : List Ev} (h : Heap) (hv : Fr 10 v (evs l)) (hl : l.length ≤ 20000) : Has env2 .own 18 [v] h (.val (textV l) h) := by
  refine HasP.own (a := [v]) (d := fn18) (leaf_args (by simp [hv.leaf])) rfl rfl (of_decide_eq_true rfl) ?_
  have nr : (V.norefs [v] || V.flat (textV l)) = true := by simp [V.norefs, hv.noref]
  apply RunP.seq
  apply RunP.region
  apply RunP.seq
  apply RunP.seq
  apply RunP.region
  refine bindR_of (v := .int .i64 l.length) (h := []) (congrArg (val · []) (fr_len hv [])) ?_
  apply And.intro
  · intro c; omega
  intro _
  apply RunP.condF rfl
  apply RunP.skip
  apply RunP.seq
  apply RunP.seq
  apply RunP.region
  refine CallK.of (all_has _ hv hl) ?_
  apply RunP.seq
  apply RunP.region
  cases hok : l.all okEv
  · refine And.intro (fun hc => absurd hc (by simp)) (fun _ => ?_)
    apply RunP.condT rfl
    apply RunP.seq
    apply RunP.region
    apply RunP.ret
    exact ⟨rfl, by rw [textV, hok]; rfl, nr⟩
  refine And.intro (fun _ => ?_) (fun hc => absurd (by simp) hc)
  apply RunP.condF rfl
  apply RunP.skip
  apply RunP.seq
  apply RunP.region
  apply RunP.seq
  apply RunP.seq
  apply RunP.region
  refine bindR_of (v := .int .i64 l.length) (h := _) (congrArg (val · _) (fr_len hv _)) ?_
  apply RunP.block
  refine RunP.loop (text18I l v) ?_ l.length ⟨0, 0, _, _, _, _, _, _, _, _, _, _, _, _, _, _, _, _, _, _, by omega, rfl, ⟨_, _, rfl, .inl rfl, .inl ⟨rfl, rfl⟩⟩, rfl⟩
  rintro k s g ⟨i, z, x4, x7, x8, x9, x10, x11, x12, x13, x14, x15, x19, x20, x21, x22, x23, x24, x25, x26, hik, hz, hb, rfl⟩
  apply RunP.seq
  apply RunP.region
  apply And.intro
  · intro hlt
    have hi : i < l.length := by omega
    have := fr_lst hv hi; subst this
    apply RunP.seq
    apply RunP.condT rfl
    apply RunP.skip
    apply RunP.seq
    apply RunP.block
    apply RunP.seq
    apply RunP.region
    apply And.intro
    · omega
    apply And.intro
    · rfl
    refine Exists.intro (l[i]).v (And.intro (by subst hz; simp [evs, hi]) ?_)
    refine bindK_of (store_last (E := env2) (t := 27) (n := 10) rfl rfl rfl rfl rfl) ?_
    apply RunP.region
    refine bindK_of (load_last (E := env2) (t := 27) (n := 10) rfl) ?_
    refine CallK.of (line_has _ _ (all_at hok hi)) ?_
    have hb1 := hb.push (.cells 27 l[i].cells)
    have e1 := lines_len (all_take (i := i) hok)
    have e2 := body_len (all_at hok hi)
    obtain ⟨w, g', g1, g2, g3⟩ := ws_has (s := lineB l[i]) hb1 (by rw [List.length_take] at e1; simp only [lineB, List.length_append, List.length_cons, List.length_nil]; omega)
    refine CallK.of g1 ?_
    apply RunP.region
    refine ⟨k - 1, by omega, i + 1, _, _, _, _, _, _, _, _, _, _, _, _, _, _, _, _, _, _, _, by omega, ?_, ?_, rfl⟩
    · subst hz; exact wrap_up i (by omega)
    · rw [lines_take hi]; exact g2
  · intro hge
    apply RunP.seq
    apply RunP.condF rfl
    apply RunP.exit
    have hi : i = l.length := by omega
    rw [hi, List.take_length] at hb
    apply RunP.seq
    apply RunP.region
    have e1 := lines_len hok
    obtain ⟨w, g', g1, g2, g3⟩ := string_has hb (by omega)
    subst g2
    refine CallK.of g1 ?_
    apply RunP.ret
    exact ⟨rfl, by rw [textV, hok]; rfl, nr⟩

def text19I (l : List Ev) (v : V) (k : Nat) (s : List V) (h : Heap) : Prop :=
  ∃ (i : Nat) (z : Int) (o : V) (x6 x7 x8 x9 x13 x14 x15 x16 x17 x18 x19 x20 x21 x22 x23 x24 x25 : V), i + k = l.length ∧ z = i ∧ (l.take i).all okEv = true ∧ InRow h 5 1 o (bv ((l.take i).flatMap lineB)) ∧
    s = [und, v, und, .str [], .int .i64 0, o, und, x6, x7, x8, x9, v, .int .i64 l.length, .int .i64 z, x13, x14, x15, x16, x17, x18, x19, x20, x21, x22, x23, x24, x25]


/-- The text of a row of bytes. -/
theorem conv_bytes {h : Heap} {v : V} {bs : List UInt8} (hr : InRow h 5 1 v (bv bs)) : evConvert env2 58 9 v h = some (.str bs, h) := by
  have hlen : (bv bs).length = bs.length := by simp [bv]
  rcases hr with ⟨rfl, he⟩ | ⟨b, rfl, hb, _⟩
  · have : bs = [] := by simpa [bv] using he
    subst this; rfl
  · rw [bv_cells] at hb
    show (if notStr (.sl b 0 1 (bv bs).length (bv bs).length ((bv bs).length * 1)) = true ∧ ty5.size = 1 then (contents h 1 (.sl b 0 1 (bv bs).length (bv bs).length ((bv bs).length * 1))).bind fun c => (bytesV c.2).map fun l => (V.str l, h) else none) = _
    rw [if_pos ⟨rfl, rfl⟩]
    have hc : contents h 1 (.sl b 0 1 (bv bs).length (bv bs).length ((bv bs).length * 1)) = some ((bv bs).length, bv bs) := by
      show (if 1 = 1 then (cellsAt h b ((bv bs).length * 1)).bind fun x => if 0 + (bv bs).length * 1 ≤ x.2.length then some ((bv bs).length, (x.2.drop 0).take ((bv bs).length * 1)) else none else none) = _
      rw [if_pos rfl, cellsAt_at' hb (by simp)]
      simp
    rw [hc]
    simp [bytesV_bv]

set_option maxHeartbeats 1000000 in
theorem lines_has {v : V} {l : List Ev} (h : Heap) (hv : Fr 10 v (evs l)) (hl : l.length ≤ 20000) : Has env2 .own 19 [v] h (.val (textV l) h) := by
  refine HasP.own (a := [v]) (d := fn19) (leaf_args (by simp [hv.leaf])) rfl rfl (of_decide_eq_true rfl) ?_
  have nr : (V.norefs [v] || V.flat (textV l)) = true := by simp [V.norefs, hv.noref]
  apply RunP.seq
  apply RunP.region
  apply RunP.seq
  apply RunP.seq
  apply RunP.region
  refine bindR_of (v := .int .i64 l.length) (h := []) (congrArg (val · []) (fr_len hv [])) ?_
  apply And.intro
  · intro c; omega
  intro _
  apply RunP.condF rfl
  apply RunP.skip
  apply RunP.seq
  apply RunP.region
  apply RunP.seq
  apply RunP.seq
  apply RunP.region
  refine bindR_of (v := .int .i64 l.length) (h := []) (congrArg (val · []) (fr_len hv [])) ?_
  apply RunP.block
  refine RunP.loop (text19I l v) ?_ l.length ⟨0, 0, .nils, _, _, _, _, _, _, _, _, _, _, _, _, _, _, _, _, _, by omega, rfl, by simp, .inl ⟨rfl, rfl⟩, rfl⟩
  rintro k s g ⟨i, z, o, x6, x7, x8, x9, x13, x14, x15, x16, x17, x18, x19, x20, x21, x22, x23, x24, x25, hik, hz, hok, hrow, rfl⟩
  apply RunP.seq
  apply RunP.region
  apply And.intro
  · intro hlt
    have hi : i < l.length := by omega
    have := fr_lst hv hi; subst this
    apply RunP.seq
    apply RunP.condT rfl
    apply RunP.skip
    apply RunP.seq
    apply RunP.block
    apply RunP.seq
    apply RunP.region
    apply And.intro
    · omega
    apply And.intro
    · rfl
    refine Exists.intro (l[i]).v (And.intro (by subst hz; simp [evs, hi]) ?_)
    refine bindK_of (store_last (E := env2) (t := 27) (n := 10) rfl rfl rfl rfl rfl) ?_
    apply RunP.seq
    apply RunP.seq
    apply RunP.region
    refine bindK_of (load_last (E := env2) (t := 27) (n := 10) rfl) ?_
    cases ho : okEv l[i]
    · refine CallK.of (rvalid_t _ ho) ?_
      apply RunP.condT rfl
      apply RunP.seq
      apply RunP.region
      apply RunP.ret
      exact ⟨rfl, by rw [textV, all_not hi ho]; rfl, nr⟩
    refine CallK.of (rvalid_t _ ho) ?_
    apply RunP.condF rfl
    apply RunP.skip
    apply RunP.region
    refine bindK_of (load_last (E := env2) (t := 27) (n := 10) rfl) ?_
    refine CallK.of (rline_has _ _ ho) ?_
    have e1 := lines_len hok
    rw [List.length_take] at e1
    have e2 := body_len ho
    have hrow2 := hrow.push (.cells 27 l[i].cells)
    obtain ⟨o', g2, a1, a2, a3, a4⟩ := append_row (E := env2) (t := 58) (T := 5) (e := 1) (x := .str (lineB l[i])) (es' := bv (lineB l[i])) (k := (lineB l[i]).length) rfl rfl rfl rfl (by omega) hrow2 (by rw [bv_cells]; simp) (by rw [bv_cells]; rfl) (by simp [bv]) (roomy_b (by simp only [lineB, bv, List.length_map, List.length_append, List.length_cons, List.length_nil]; omega))
    refine bindR_of (congrArg valH a1) ?_
    apply RunP.region
    refine ⟨k - 1, by omega, i + 1, _, o', _, _, _, _, _, _, _, _, _, _, _, _, _, _, _, _, _, by omega, ?_, take_ok hi hok ho, ?_, rfl⟩
    · subst hz; exact wrap_up i (by omega)
    · have : bv ((l.take i).flatMap lineB) ++ bv (lineB l[i]) = bv ((l.take (i + 1)).flatMap lineB) := by rw [lines_take hi]; simp [bv]
      rw [← this]; exact a2
  · intro hge
    apply RunP.seq
    apply RunP.condF rfl
    apply RunP.exit
    have hi : i = l.length := by omega
    rw [hi, List.take_length] at hok hrow
    apply RunP.seq
    apply RunP.region
    refine bindP_of (conv_bytes hrow) ?_
    apply RunP.ret
    exact ⟨rfl, by rw [textV, hok]; rfl, nr⟩

end Go.Proofs.YtnefminojpandaaDoor
