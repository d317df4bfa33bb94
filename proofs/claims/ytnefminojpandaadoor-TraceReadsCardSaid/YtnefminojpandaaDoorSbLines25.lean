/- The line of an event: the program's and the reference's. -/
import Derived.Test.YtnefminojpandaaDoorSbPlain25
import Derived.Test.YtnefminojpandaaDoorSbOwnE
set_option linter.unusedVariables false
set_option linter.unusedSimpArgs false
namespace Go.Proofs.YtnefminojpandaaDoor
open Go.Sb
set_option maxRecDepth 100000

theorem words_eq : wordsV = wordsB.map V.str := by rfl

theorem word_at {k : Int} (h0 : 1 ≤ k) (h1 : k ≤ 22) : wordsV[(k - 1).toNat]? = some (.str (nameB k)) := by
  rw [words_eq, List.getElem?_map]
  have : (k - 1).toNat < wordsB.length := by simp [wordsB]; omega
  rw [List.getElem?_eq_getElem this]
  simp only [Option.map_some, nameB]
  rw [List.getD_eq_getElem?_getD, List.getElem?_eq_getElem this, Option.getD_some]

theorem fields_has (h : Heap) : Has env2 .own 67 [.str namesB] h (.val (.lst 1 wordsV) h) :=
  Has.told (E := env2) (f := 67) (args := [.str namesB]) (a := [.str namesB]) (p := tellFields) rfl rfl rfl rfl

/-- Bounds of an event that is valid. -/
theorem okEv_nums {e : Ev} (ho : okEv e = true) : (0 ≤ e.at_ ∧ e.at_ ≤ 1000000000000) ∧ (0 ≤ e.task ∧ e.task ≤ 64) ∧ (1 ≤ e.kind ∧ e.kind ≤ 22) ∧ (-1 ≤ e.n ∧ e.n ≤ 1000000000000) ∧ (-1 ≤ e.m ∧ e.m ≤ 1000000000000) ∧ okVal e.vk e.vn e.vs = true ∧ okFault e.fk e.ft = true := by
  unfold okEv at ho
  simp only [Bool.and_eq_true, decide_eq_true_eq] at ho
  obtain ⟨⟨⟨⟨⟨⟨⟨⟨⟨⟨⟨h1, h2⟩, h3⟩, h4⟩, h5⟩, h6⟩, h7⟩, h8⟩, h9⟩, h10⟩, h11⟩, h12⟩ := ho
  exact ⟨⟨h1, h2⟩, ⟨h3, h4⟩, ⟨h5, h6⟩, ⟨h7, h8⟩, ⟨h9, h10⟩, h11, h12⟩

theorem okVal_num {k n : Int} {s : List UInt8} (ho : okVal k n s = true) : -1000000000000 ≤ n ∧ n ≤ 1000000000000 := by
  unfold okVal at ho
  split at ho
  · simp at ho; omega
  split at ho
  · simp at ho; omega
  split at ho
  · simp at ho; omega
  split at ho
  · simp at ho; omega
  split at ho
  · simp at ho; omega
  · cases ho

theorem valText_len {k n : Int} {s : List UInt8} (ho : okVal k n s = true) : (valText k n s).length ≤ 200 := by
  have hb := okVal_num ho
  have h1 := Lib.itoa_length_le n (by omega) (by omega)
  have h2 := quoteB_len s
  unfold valText
  split
  · omega
  split
  · split <;> simp
  split
  · rename_i c3
    have : okText s = true := by simp [okVal, c3] at ho; exact ho.2
    unfold okText at this
    simp at this
    simp; omega
  split
  · simp; omega
  split
  · simp; omega
  split
  · simp; omega
  · simp

theorem faultText_len {k : Int} {s : List UInt8} (ho : okFault k s = true) : (faultText k s).length ≤ 300 := by
  unfold faultText
  split
  · simp
  split
  · simp
  · rename_i h0 h2
    have : okVal 3 0 s = true := by
      unfold okFault at ho
      rw [if_neg (by simp [h0, h2])] at ho
      split at ho
      · simp [okVal, ho]
      · cases ho
    have := valText_len this
    simp; omega

theorem name_len (k : Int) : (nameB k).length ≤ 20 := by
  unfold nameB
  rw [List.getD_eq_getElem?_getD]
  rcases Nat.lt_or_ge (k - 1).toNat wordsB.length with h | h
  · rw [List.getElem?_eq_getElem h, Option.getD_some]
    have : ∀ w ∈ wordsB, w.length ≤ 20 := by decide
    exact this _ (List.getElem_mem h)
  · rw [List.getElem?_eq_none h]; simp

theorem body_len {e : Ev} (ho : okEv e = true) : (bodyB e).length ≤ 700 := by
  obtain ⟨h1, h2, h3, h4, h5, h6, h7⟩ := okEv_nums ho
  have a1 := Lib.itoa_length_le e.at_ (by omega) (by omega)
  have a2 := Lib.itoa_length_le e.task (by omega) (by omega)
  have a3 := name_len e.kind
  have a4 := Lib.itoa_length_le e.n (by omega) (by omega)
  have a5 := Lib.itoa_length_le e.m (by omega) (by omega)
  have a6 := valText_len h6
  have a7 := faultText_len h7
  unfold bodyB
  simp only [List.length_append, List.length_cons]
  omega

theorem wrap_i64 {x : Int} (h0 : -9223372036854775808 ≤ x) (h1 : x ≤ 9223372036854775807) : IntKind.i64.wrap x = x := by
  simp [IntKind.wrap, IntKind.signed, IntKind.bits]; split <;> omega

set_option maxHeartbeats 4000000 in
theorem line_has (h : Heap) (e : Ev) (ho : okEv e = true) : Has env2 .own 46 [e.v] h (.val (.str (lineB e)) h) := by
  refine HasP.own (a := [e.v]) (d := fn46) rfl rfl rfl (of_decide_eq_true rfl) ?_
  obtain ⟨h1, h2, h3, h4, h5, h6, h7⟩ := okEv_nums ho
  have a1 := Lib.itoa_length_le e.at_ (by omega) (by omega)
  have a2 := Lib.itoa_length_le e.task (by omega) (by omega)
  have a3 := name_len e.kind
  have a4 := Lib.itoa_length_le e.n (by omega) (by omega)
  have a5 := Lib.itoa_length_le e.m (by omega) (by omega)
  have a6 := valText_len h6
  have a7 := faultText_len h7
  have nb := okVal_num h6
  have fin : ∀ {x : List UInt8}, x = lineB e → some (V.str x) = some (V.str (lineB e)) := fun h => by rw [h]
  apply RunP.seq
  apply RunP.region
  apply RunP.seq
  apply RunP.region
  apply RunP.seq
  apply RunP.drawn
  · decide +kernel
  refine CallK.of (itoa_has (n := e.at_) _ (by omega) (by omega)) ?_
  refine drawR (by decide +kernel) (by decide +kernel) ?_
  refine And.intro (by simp only [List.length_append, List.length_cons, List.length_nil]; omega) ?_
  refine drawZ (by decide +kernel) (by decide +kernel) ?_
  refine CallK.of (itoa_has (n := e.task) _ (by omega) (by omega)) ?_
  refine drawR (by decide +kernel) (by decide +kernel) ?_
  refine And.intro (by simp only [List.length_append, List.length_cons, List.length_nil]; omega) ?_
  refine drawZ (by decide +kernel) (by decide +kernel) ?_
  refine And.intro (by simp only [List.length_append, List.length_cons, List.length_nil]; omega) ?_
  refine drawZ (by decide +kernel) (by decide +kernel) ?_
  refine CallK.of (fields_has _) ?_
  refine drawR (by decide +kernel) (by decide +kernel) ?_
  have hw : IntKind.i64.wrap (e.kind - 1) = e.kind - 1 := wrap_i64 (by omega) (by omega)
  apply And.intro
  · omega
  apply And.intro
  · rfl
  refine Exists.intro (.str (nameB e.kind)) (And.intro ?_ ?_)
  · exact (congrArg (fun z : Int => wordsV[z.toNat]?) hw).trans (word_at h3.1 h3.2)
  refine And.intro (by simp only [List.length_append, List.length_cons, List.length_nil]; omega) ?_
  refine drawZ (by decide +kernel) (by decide +kernel) ?_
  refine And.intro (by simp only [List.length_append, List.length_cons, List.length_nil]; omega) ?_
  refine drawZ (by decide +kernel) (by decide +kernel) ?_
  refine CallK.of (itoa_has (n := e.n) _ (by omega) (by omega)) ?_
  refine drawR (by decide +kernel) (by decide +kernel) ?_
  refine And.intro (by simp only [List.length_append, List.length_cons, List.length_nil]; omega) ?_
  refine drawZ (by decide +kernel) (by decide +kernel) ?_
  refine And.intro (by simp only [List.length_append, List.length_cons, List.length_nil]; omega) ?_
  refine drawZ (by decide +kernel) (by decide +kernel) ?_
  refine CallK.of (itoa_has (n := e.m) _ (by omega) (by omega)) ?_
  refine drawR (by decide +kernel) (by decide +kernel) ?_
  refine And.intro (by simp only [List.length_append, List.length_cons, List.length_nil]; omega) ?_
  refine drawZ (by decide +kernel) (by decide +kernel) ?_
  refine And.intro (by simp only [List.length_append, List.length_cons, List.length_nil]; omega) ?_
  refine drawZ (by decide +kernel) (by decide +kernel) ?_
  have hb : Bld [.cells 27 e.cells, .cells 60 [.nilp, .nils]] 1 [] := ⟨_, _, rfl, .inl rfl, .inl ⟨rfl, rfl⟩⟩
  obtain ⟨w, g, g1, g2, g3⟩ := ws_has (s := Lib.itoa e.at_ ++ [32] ++ Lib.itoa e.task ++ [32] ++ nameB e.kind ++ [32] ++ Lib.itoa e.n ++ [32] ++ Lib.itoa e.m ++ [32]) hb (by simp only [List.length_append, List.length_cons, List.length_nil]; omega)
  refine CallK.of g1 ?_
  refine drawW (by decide +kernel) (by kernel_rfl) ?_
  apply RunP.seq
  apply RunP.region
  have hp : g[0]? = some (.cells 27 e.cells) := g3.2 0 27 e.cells rfl (by decide) (by decide)
  refine bindK_of (load_at (E := env2) (t := 23) (n := 10) hp rfl) ?_
  obtain ⟨w2, g', q1, q2, q3⟩ := wvalue_has e.vk e.vn e.vs h6 (by omega) (by omega) g2 (by simp only [List.length_append, List.length_cons, List.length_nil]; omega)
  refine CallK.of q1 ?_
  apply RunP.seq
  apply RunP.region
  obtain ⟨w3, g4, r1, r2, r3⟩ := wb_has (32 : UInt8) q2 (by simp only [List.length_append, List.length_cons, List.length_nil]; omega)
  refine CallK.of r1 ?_
  apply RunP.seq
  apply RunP.region
  have hp4 := r3.2 _ _ _ (q3.2 _ _ _ hp (by decide) (by decide)) (by decide) (by decide)
  refine bindK_of (load_at (E := env2) (t := 25) (n := 10) hp4 rfl) ?_
  obtain ⟨w5, g5, s1, s2, s3⟩ := wfault_has e.fk e.ft h7 r2 (by simp only [List.length_append, List.length_cons, List.length_nil]; omega)
  refine CallK.of s1 ?_
  apply RunP.seq
  apply RunP.region
  obtain ⟨w6, g6, t1, t2, t3⟩ := wb_has (10 : UInt8) s2 (by simp only [List.length_append, List.length_cons, List.length_nil]; omega)
  refine CallK.of t1 ?_
  apply RunP.seq
  apply RunP.region
  obtain ⟨w7, g7, u1, u2, u3⟩ := string_has t2 (by simp only [List.length_append, List.length_cons, List.length_nil]; omega)
  subst u2
  refine CallK.of u1 ?_
  apply RunP.ret
  exact And.intro rfl (And.intro (fin (by simp [lineB, bodyB])) rfl)


theorem name_has (h : Heap) {k : Int} (h0 : 1 ≤ k) (h1 : k ≤ 22) : Has env2 .own 69 [.int .i64 k] h (.val (.str (nameB k)) h) := by
  refine HasP.own (a := [.int .i64 k]) (d := fn69) rfl rfl rfl (of_decide_eq_true rfl) ?_
  apply RunP.seq
  apply RunP.region
  apply RunP.seq
  apply RunP.region
  apply RunP.seq
  apply RunP.seq
  apply RunP.region
  apply And.intro
  · intro c; omega
  intro _
  apply And.intro
  · intro c; omega
  intro _
  apply RunP.condF rfl
  apply RunP.skip
  apply RunP.seq
  apply RunP.region
  apply And.intro
  · omega
  apply And.intro
  · omega
  refine bindK_of (v := .str (nameB k)) ?_ ?_
  · have := word_at h0 h1
    have hk : ∃ j, k = ((j + 1 : Nat) : Int) ∧ (k - 1).toNat = j := ⟨(k - 1).toNat, by omega, rfl⟩
    obtain ⟨j, rfl, hj⟩ := hk
    rw [hj] at this
    refine (load_last (E := env2) (t := 9) (n := 23) rfl).trans ?_
    show (List.drop (0 + (j + 1) * 1) (V.str [] :: wordsV)).head? = _
    rw [List.head?_drop, Nat.zero_add, Nat.mul_one, List.getElem?_cons_succ]
    exact this
  apply RunP.ret
  exact ⟨rfl, rfl, rfl⟩

theorem rfault_line (h : Heap) {k : Int} {s : List UInt8} (ho : okFault k s = true) : Has env2 .own 70 [faultV k s] h (.val (.str (faultText k s)) h) := by
  refine HasP.own (a := [faultV k s]) (d := fn70) rfl rfl rfl (of_decide_eq_true rfl) ?_
  have fin : ∀ {x : List UInt8}, x = faultText k s → some (V.str x) = some (V.str (faultText k s)) := fun h => by rw [h]
  apply RunP.seq
  apply RunP.region
  apply RunP.seq
  apply RunP.seq
  apply RunP.region
  apply RunP.block
  apply RunP.seq
  apply RunP.region
  apply And.intro
  · intro c1
    apply RunP.condT rfl
    apply RunP.seq
    apply RunP.region
    have hv : okVal 3 0 s = true := by
      simp [okFault, c1] at ho
      simp [okVal, ho]
    refine CallK.of (rval_has _ 3 0 s hv (by omega) (by omega)) ?_
    have := valText_len hv
    refine And.intro (by simp only [List.length_cons, List.length_nil]; omega) ?_
    apply RunP.ret
    exact And.intro rfl (And.intro (fin (by rw [faultText, if_neg (by omega), if_neg (by omega)])) rfl)
  intro c1
  apply RunP.condF rfl
  apply RunP.seq
  apply RunP.region
  apply And.intro
  · intro c2
    apply RunP.condT rfl
    apply RunP.seq
    apply RunP.region
    apply RunP.ret
    exact And.intro rfl (And.intro (fin (by rw [faultText, if_neg (by omega), if_pos c2])) rfl)
  intro c2
  apply RunP.condF rfl
  apply RunP.skip
  apply RunP.seq
  apply RunP.region
  apply RunP.ret
  have c0 : k = 0 := by
    by_cases h : k = 0
    · exact h
    · simp [okFault, c1, c2, h] at ho
  exact And.intro rfl (And.intro (fin (by rw [faultText, if_pos c0])) rfl)

set_option maxHeartbeats 4000000 in
theorem rline_has (h : Heap) (e : Ev) (ho : okEv e = true) : Has env2 .own 47 [e.v] h (.val (.str (lineB e)) h) := by
  refine HasP.own (a := [e.v]) (d := fn47) rfl rfl rfl (of_decide_eq_true rfl) ?_
  obtain ⟨h1, h2, h3, h4, h5, h6, h7⟩ := okEv_nums ho
  have a1 := Lib.itoa_length_le e.at_ (by omega) (by omega)
  have a2 := Lib.itoa_length_le e.task (by omega) (by omega)
  have a3 := name_len e.kind
  have a4 := Lib.itoa_length_le e.n (by omega) (by omega)
  have a5 := Lib.itoa_length_le e.m (by omega) (by omega)
  have a6 := valText_len h6
  have a7 := faultText_len h7
  have nb := okVal_num h6
  have fin : ∀ {x : List UInt8}, x = lineB e → some (V.str x) = some (V.str (lineB e)) := fun h => by rw [h]
  apply RunP.seq
  apply RunP.region
  apply RunP.seq
  apply RunP.drawn
  · decide +kernel
  refine CallK.of (itoa_has (n := e.at_) _ (by omega) (by omega)) ?_
  refine drawR (by decide +kernel) (by decide +kernel) ?_
  refine And.intro (by simp only [List.length_append, List.length_cons, List.length_nil]; omega) ?_
  refine drawZ (by decide +kernel) (by decide +kernel) ?_
  refine CallK.of (itoa_has (n := e.task) _ (by omega) (by omega)) ?_
  refine drawR (by decide +kernel) (by decide +kernel) ?_
  refine And.intro (by simp only [List.length_append, List.length_cons, List.length_nil]; omega) ?_
  refine drawZ (by decide +kernel) (by decide +kernel) ?_
  refine And.intro (by simp only [List.length_append, List.length_cons, List.length_nil]; omega) ?_
  refine drawZ (by decide +kernel) (by decide +kernel) ?_
  refine CallK.of (name_has _ h3.1 h3.2) ?_
  refine drawR (by decide +kernel) (by decide +kernel) ?_
  refine And.intro (by simp only [List.length_append, List.length_cons, List.length_nil]; omega) ?_
  refine drawZ (by decide +kernel) (by decide +kernel) ?_
  refine And.intro (by simp only [List.length_append, List.length_cons, List.length_nil]; omega) ?_
  refine drawZ (by decide +kernel) (by decide +kernel) ?_
  refine CallK.of (itoa_has (n := e.n) _ (by omega) (by omega)) ?_
  refine drawR (by decide +kernel) (by decide +kernel) ?_
  refine And.intro (by simp only [List.length_append, List.length_cons, List.length_nil]; omega) ?_
  refine drawZ (by decide +kernel) (by decide +kernel) ?_
  refine And.intro (by simp only [List.length_append, List.length_cons, List.length_nil]; omega) ?_
  refine drawZ (by decide +kernel) (by decide +kernel) ?_
  refine CallK.of (itoa_has (n := e.m) _ (by omega) (by omega)) ?_
  refine drawR (by decide +kernel) (by decide +kernel) ?_
  refine And.intro (by simp only [List.length_append, List.length_cons, List.length_nil]; omega) ?_
  refine drawZ (by decide +kernel) (by decide +kernel) ?_
  refine And.intro (by simp only [List.length_append, List.length_cons, List.length_nil]; omega) ?_
  refine drawZ (by decide +kernel) (by decide +kernel) ?_
  refine CallK.of (rval_has _ e.vk e.vn e.vs h6 (by omega) (by omega)) ?_
  refine drawR (by decide +kernel) (by decide +kernel) ?_
  refine And.intro (by simp only [List.length_append, List.length_cons, List.length_nil]; omega) ?_
  refine drawZ (by decide +kernel) (by decide +kernel) ?_
  refine And.intro (by simp only [List.length_append, List.length_cons, List.length_nil]; omega) ?_
  refine drawZ (by decide +kernel) (by decide +kernel) ?_
  refine CallK.of (rfault_line _ h7) ?_
  refine drawR (by decide +kernel) (by decide +kernel) ?_
  refine And.intro (by simp only [List.length_append, List.length_cons, List.length_nil]; omega) ?_
  refine drawZ (by decide +kernel) (by decide +kernel) ?_
  refine And.intro (by simp only [List.length_append, List.length_cons, List.length_nil]; omega) ?_
  refine drawZ (by decide +kernel) (by decide +kernel) ?_
  apply RunP.ret
  exact And.intro rfl (And.intro (fin (by simp [lineB, bodyB])) rfl)
end Go.Proofs.YtnefminojpandaaDoor

/- All, Text: of the program and of the reference. -/

namespace Go.Proofs.YtnefminojpandaaDoor
open Go.Sb
set_option maxRecDepth 100000

def allI (l : List Ev) (v : V) (k : Nat) (s : List V) (h : Heap) : Prop :=
  ∃ (i : Nat) (z : Int) (x4 x8 x9 x10 x11 x12 x13 x14 : V), i + k = l.length ∧ z = i ∧ (l.take i).all okEv = true ∧
    s = [und, v, und, .int .i64 0, und, x4, v, .int .i64 l.length, .int .i64 z, x8, x9, x10, x11, x12, x13, x14]


theorem take_ok {l : List Ev} {i : Nat} (hi : i < l.length) (h : (l.take i).all okEv = true) (ho : okEv l[i] = true) : (l.take (i + 1)).all okEv = true := by
  rw [List.take_add_one, List.getElem?_eq_getElem hi, List.all_append, h]; simp [ho]
theorem all_not {l : List Ev} {i : Nat} (hi : i < l.length) (ho : okEv l[i] = false) : l.all okEv = false := by
  rw [List.all_eq_false]
  exact ⟨l[i], List.getElem_mem hi, by simp [ho]⟩

theorem check_ok (h : Heap) {e : Ev} (ho : okEv e = true) : Has env2 .own 17 [e.v] h (.val (.int .i64 0) h) := by
  have := check_has h e
  rwa [if_pos ho] at this
theorem check_bad (h : Heap) {e : Ev} (ho : okEv e = false) : Has env2 .own 17 [e.v] h (.val (.int .i64 2) h) := by
  have := check_has h e
  rwa [if_neg (by simp [ho])] at this
theorem rvalid_t (h : Heap) {e : Ev} {b : Bool} (ho : okEv e = b) : Has env2 .own 13 [e.v] h (.val (.bool b) h) := by
  have := rvalid_has h e
  rwa [ho] at this

theorem all_has {v : V} {l : List Ev} (h : Heap) (hv : Fr 10 v (evs l)) (hl : l.length ≤ 20000) : Has env2 .own 44 [v] h (.val (.int .i64 (if l.all okEv = true then 0 else 2)) h) := by
  refine HasP.own (a := [v]) (d := fn44) (leaf_args (by simp [hv.leaf])) rfl rfl (of_decide_eq_true rfl) ?_
  have nr : (V.norefs [v] || V.flat (.int .i64 (if l.all okEv = true then 0 else 2))) = true := by simp [V.norefs, hv.noref]
  apply RunP.seq
  apply RunP.region
  apply RunP.seq
  apply RunP.seq
  apply RunP.region
  refine bindR_of (v := .int .i64 l.length) (h := []) (congrArg (val · []) (fr_len hv [])) ?_
  apply RunP.block
  refine RunP.loop (allI l v) ?_ l.length ⟨0, 0, und, und, und, und, und, und, und, und, by omega, rfl, by simp, rfl⟩
  rintro k s g ⟨i, z, x4, x8, x9, x10, x11, x12, x13, x14, hik, hz, hok, rfl⟩
  apply RunP.seq
  apply RunP.region
  apply And.intro
  · intro hlt
    have hi : i < l.length := by omega
    have := fr_lst hv hi; subst this
    apply RunP.seq
    apply RunP.condT rfl
    apply RunP.skip
    apply RunP.seq
    apply RunP.block
    apply RunP.seq
    apply RunP.region
    apply And.intro
    · omega
    apply And.intro
    · rfl
    refine Exists.intro (l[i]).v (And.intro (by subst hz; simp [evs, hi]) ?_)
    refine bindK_of (store_last (E := env2) (t := 27) (n := 10) rfl rfl rfl rfl rfl) ?_
    apply RunP.seq
    apply RunP.region
    refine bindK_of (load_last (E := env2) (t := 27) (n := 10) rfl) ?_
    cases ho : okEv l[i]
    · refine CallK.of (check_bad _ ho) ?_
      refine And.intro (fun hc => absurd hc (by decide)) (fun _ => ?_)
      apply RunP.condT rfl
      apply RunP.seq
      apply RunP.region
      apply RunP.ret
      exact ⟨rfl, by rw [if_neg (by simp [all_not hi ho])]; rfl, nr⟩
    · refine CallK.of (check_ok _ ho) ?_
      refine And.intro (fun _ => ?_) (fun hc => absurd rfl hc)
      apply RunP.condF rfl
      apply RunP.skip
      apply RunP.region
      refine ⟨k - 1, by omega, i + 1, _, _, _, _, _, _, _, _, _, by omega, ?_, take_ok hi hok ho, rfl⟩
      subst hz; exact wrap_up i (by omega)
  · intro hge
    apply RunP.seq
    apply RunP.condF rfl
    apply RunP.exit
    have hi : i = l.length := by omega
    rw [hi, List.take_length] at hok
    apply RunP.seq
    apply RunP.region
    apply RunP.ret
    exact ⟨rfl, by rw [if_pos hok]; rfl, nr⟩

def text18I (l : List Ev) (v : V) (k : Nat) (s : List V) (h : Heap) : Prop :=
  ∃ (i : Nat) (z : Int) (x4 x7 x8 x9 x10 x11 x12 x13 x14 x15 x19 x20 x21 x22 x23 x24 x25 x26 : V), i + k = l.length ∧ z = i ∧ Bld h 0 ((l.take i).flatMap lineB) ∧
    s = [und, v, und, .str [], .int .i64 0, x4, .ptr 0 0 2, und, x7, x8, x9, x10, x11, x12, x13, x14, x15, v, .int .i64 l.length, .int .i64 z, x19, x20, x21, x22, x23, x24, x25, x26]


theorem lines_len {l : List Ev} (h : l.all okEv = true) : (l.flatMap lineB).length ≤ 701 * l.length := by
  induction l with
  | nil => simp
  | cons e l ih =>
    simp only [List.all_cons, Bool.and_eq_true] at h
    have h1 := body_len h.1
    have h2 := ih h.2
    simp only [List.flatMap_cons, List.length_append, List.length_cons, lineB, List.length_nil]
    omega

theorem all_at {l : List Ev} {i : Nat} (h : l.all okEv = true) (hi : i < l.length) : okEv l[i] = true := List.all_eq_true.1 h _ (List.getElem_mem hi)
theorem all_take {l : List Ev} {i : Nat} (h : l.all okEv = true) : (l.take i).all okEv = true := List.all_eq_true.2 fun e he => List.all_eq_true.1 h e (List.mem_of_mem_take he)
theorem lines_take {l : List Ev} {i : Nat} (hi : i < l.length) : (l.take (i + 1)).flatMap lineB = (l.take i).flatMap lineB ++ lineB l[i] := by
  rw [List.take_add_one, List.getElem?_eq_getElem hi, List.flatMap_append]; simp

def textV (l : List Ev) : V := .tup [.str (if l.all okEv = true then l.flatMap lineB else []), .int .i64 (if l.all okEv = true then 0 else 2)]

set_option maxHeartbeats 1000000 in
theorem text18_has {v : V} {l : List Ev} (h : Heap) (hv : Fr 10 v (evs l)) (hl : l.length ≤ 20000) : Has env2 .own 18 [v] h (.val (textV l) h) := by
  refine HasP.own (a := [v]) (d := fn18) (leaf_args (by simp [hv.leaf])) rfl rfl (of_decide_eq_true rfl) ?_
  have nr : (V.norefs [v] || V.flat (textV l)) = true := by simp [V.norefs, hv.noref]
  apply RunP.seq
  apply RunP.region
  apply RunP.seq
  apply RunP.seq
  apply RunP.region
  refine bindR_of (v := .int .i64 l.length) (h := []) (congrArg (val · []) (fr_len hv [])) ?_
  apply And.intro
  · intro c; omega
  intro _
  apply RunP.condF rfl
  apply RunP.skip
  apply RunP.seq
  apply RunP.seq
  apply RunP.region
  refine CallK.of (all_has _ hv hl) ?_
  apply RunP.seq
  apply RunP.region
  cases hok : l.all okEv
  · refine And.intro (fun hc => absurd hc (by simp)) (fun _ => ?_)
    apply RunP.condT rfl
    apply RunP.seq
    apply RunP.region
    apply RunP.ret
    exact ⟨rfl, by rw [textV, hok]; rfl, nr⟩
  refine And.intro (fun _ => ?_) (fun hc => absurd (by simp) hc)
  apply RunP.condF rfl
  apply RunP.skip
  apply RunP.seq
  apply RunP.region
  apply RunP.seq
  apply RunP.seq
  apply RunP.region
  refine bindR_of (v := .int .i64 l.length) (h := _) (congrArg (val · _) (fr_len hv _)) ?_
  apply RunP.block
  refine RunP.loop (text18I l v) ?_ l.length ⟨0, 0, _, _, _, _, _, _, _, _, _, _, _, _, _, _, _, _, _, _, by omega, rfl, ⟨_, _, rfl, .inl rfl, .inl ⟨rfl, rfl⟩⟩, rfl⟩
  rintro k s g ⟨i, z, x4, x7, x8, x9, x10, x11, x12, x13, x14, x15, x19, x20, x21, x22, x23, x24, x25, x26, hik, hz, hb, rfl⟩
  apply RunP.seq
  apply RunP.region
  apply And.intro
  · intro hlt
    have hi : i < l.length := by omega
    have := fr_lst hv hi; subst this
    apply RunP.seq
    apply RunP.condT rfl
    apply RunP.skip
    apply RunP.seq
    apply RunP.block
    apply RunP.seq
    apply RunP.region
    apply And.intro
    · omega
    apply And.intro
    · rfl
    refine Exists.intro (l[i]).v (And.intro (by subst hz; simp [evs, hi]) ?_)
    refine bindK_of (store_last (E := env2) (t := 27) (n := 10) rfl rfl rfl rfl rfl) ?_
    apply RunP.region
    refine bindK_of (load_last (E := env2) (t := 27) (n := 10) rfl) ?_
    refine CallK.of (line_has _ _ (all_at hok hi)) ?_
    have hb1 := hb.push (.cells 27 l[i].cells)
    have e1 := lines_len (all_take (i := i) hok)
    have e2 := body_len (all_at hok hi)
    obtain ⟨w, g', g1, g2, g3⟩ := ws_has (s := lineB l[i]) hb1 (by rw [List.length_take] at e1; simp only [lineB, List.length_append, List.length_cons, List.length_nil]; omega)
    refine CallK.of g1 ?_
    apply RunP.region
    refine ⟨k - 1, by omega, i + 1, _, _, _, _, _, _, _, _, _, _, _, _, _, _, _, _, _, _, _, by omega, ?_, ?_, rfl⟩
    · subst hz; exact wrap_up i (by omega)
    · rw [lines_take hi]; exact g2
  · intro hge
    apply RunP.seq
    apply RunP.condF rfl
    apply RunP.exit
    have hi : i = l.length := by omega
    rw [hi, List.take_length] at hb
    apply RunP.seq
    apply RunP.region
    have e1 := lines_len hok
    obtain ⟨w, g', g1, g2, g3⟩ := string_has hb (by omega)
    subst g2
    refine CallK.of g1 ?_
    apply RunP.ret
    exact ⟨rfl, by rw [textV, hok]; rfl, nr⟩

def text19I (l : List Ev) (v : V) (k : Nat) (s : List V) (h : Heap) : Prop :=
  ∃ (i : Nat) (z : Int) (o : V) (x6 x7 x8 x9 x13 x14 x15 x16 x17 x18 x19 x20 x21 x22 x23 x24 x25 : V), i + k = l.length ∧ z = i ∧ (l.take i).all okEv = true ∧ InRow h 5 1 o (bv ((l.take i).flatMap lineB)) ∧
    s = [und, v, und, .str [], .int .i64 0, o, und, x6, x7, x8, x9, v, .int .i64 l.length, .int .i64 z, x13, x14, x15, x16, x17, x18, x19, x20, x21, x22, x23, x24, x25]


/-- The text of a row of bytes. -/
theorem conv_bytes {h : Heap} {v : V} {bs : List UInt8} (hr : InRow h 5 1 v (bv bs)) : evConvert env2 58 9 v h = some (.str bs, h) := by
  have hlen : (bv bs).length = bs.length := by simp [bv]
  rcases hr with ⟨rfl, he⟩ | ⟨b, rfl, hb, _⟩
  · have : bs = [] := by simpa [bv] using he
    subst this; rfl
  · rw [bv_cells] at hb
    show (if notStr (.sl b 0 1 (bv bs).length (bv bs).length ((bv bs).length * 1)) = true ∧ ty5.size = 1 then (contents h 1 (.sl b 0 1 (bv bs).length (bv bs).length ((bv bs).length * 1))).bind fun c => (bytesV c.2).map fun l => (V.str l, h) else none) = _
    rw [if_pos ⟨rfl, rfl⟩]
    have hc : contents h 1 (.sl b 0 1 (bv bs).length (bv bs).length ((bv bs).length * 1)) = some ((bv bs).length, bv bs) := by
      show (if 1 = 1 then (cellsAt h b ((bv bs).length * 1)).bind fun x => if 0 + (bv bs).length * 1 ≤ x.2.length then some ((bv bs).length, (x.2.drop 0).take ((bv bs).length * 1)) else none else none) = _
      rw [if_pos rfl, cellsAt_at' hb (by simp)]
      simp
    rw [hc]
    simp [bytesV_bv]

set_option maxHeartbeats 1000000 in
theorem lines_has {v : V} {l : List Ev} (h : Heap) (hv : Fr 10 v (evs l)) (hl : l.length ≤ 20000) : Has env2 .own 19 [v] h (.val (textV l) h) := by
  refine HasP.own (a := [v]) (d := fn19) (leaf_args (by simp [hv.leaf])) rfl rfl (of_decide_eq_true rfl) ?_
  have nr : (V.norefs [v] || V.flat (textV l)) = true := by simp [V.norefs, hv.noref]
  apply RunP.seq
  apply RunP.region
  apply RunP.seq
  apply RunP.seq
  apply RunP.region
  refine bindR_of (v := .int .i64 l.length) (h := []) (congrArg (val · []) (fr_len hv [])) ?_
  apply And.intro
  · intro c; omega
  intro _
  apply RunP.condF rfl
  apply RunP.skip
  apply RunP.seq
  apply RunP.region
  apply RunP.seq
  apply RunP.seq
  apply RunP.region
  refine bindR_of (v := .int .i64 l.length) (h := []) (congrArg (val · []) (fr_len hv [])) ?_
  apply RunP.block
  refine RunP.loop (text19I l v) ?_ l.length ⟨0, 0, .nils, _, _, _, _, _, _, _, _, _, _, _, _, _, _, _, _, _, by omega, rfl, by simp, .inl ⟨rfl, rfl⟩, rfl⟩
  rintro k s g ⟨i, z, o, x6, x7, x8, x9, x13, x14, x15, x16, x17, x18, x19, x20, x21, x22, x23, x24, x25, hik, hz, hok, hrow, rfl⟩
  apply RunP.seq
  apply RunP.region
  apply And.intro
  · intro hlt
    have hi : i < l.length := by omega
    have := fr_lst hv hi; subst this
    apply RunP.seq
    apply RunP.condT rfl
    apply RunP.skip
    apply RunP.seq
    apply RunP.block
    apply RunP.seq
    apply RunP.region
    apply And.intro
    · omega
    apply And.intro
    · rfl
    refine Exists.intro (l[i]).v (And.intro (by subst hz; simp [evs, hi]) ?_)
    refine bindK_of (store_last (E := env2) (t := 27) (n := 10) rfl rfl rfl rfl rfl) ?_
    apply RunP.seq
    apply RunP.seq
    apply RunP.region
    refine bindK_of (load_last (E := env2) (t := 27) (n := 10) rfl) ?_
    cases ho : okEv l[i]
    · refine CallK.of (rvalid_t _ ho) ?_
      apply RunP.condT rfl
      apply RunP.seq
      apply RunP.region
      apply RunP.ret
      exact ⟨rfl, by rw [textV, all_not hi ho]; rfl, nr⟩
    refine CallK.of (rvalid_t _ ho) ?_
    apply RunP.condF rfl
    apply RunP.skip
    apply RunP.region
    refine bindK_of (load_last (E := env2) (t := 27) (n := 10) rfl) ?_
    refine CallK.of (rline_has _ _ ho) ?_
    have e1 := lines_len hok
    rw [List.length_take] at e1
    have e2 := body_len ho
    have hrow2 := hrow.push (.cells 27 l[i].cells)
    obtain ⟨o', g2, a1, a2, a3, a4⟩ := append_row (E := env2) (t := 58) (T := 5) (e := 1) (x := .str (lineB l[i])) (es' := bv (lineB l[i])) (k := (lineB l[i]).length) rfl rfl rfl rfl (by omega) hrow2 (by rw [bv_cells]; simp) (by rw [bv_cells]; rfl) (by simp [bv]) (roomy_b (by simp only [lineB, bv, List.length_map, List.length_append, List.length_cons, List.length_nil]; omega))
    refine bindR_of (congrArg valH a1) ?_
    apply RunP.region
    refine ⟨k - 1, by omega, i + 1, _, o', _, _, _, _, _, _, _, _, _, _, _, _, _, _, _, _, _, by omega, ?_, take_ok hi hok ho, ?_, rfl⟩
    · subst hz; exact wrap_up i (by omega)
    · have : bv ((l.take i).flatMap lineB) ++ bv (lineB l[i]) = bv ((l.take (i + 1)).flatMap lineB) := by rw [lines_take hi]; simp [bv]
      rw [← this]; exact a2
  · intro hge
    apply RunP.seq
    apply RunP.condF rfl
    apply RunP.exit
    have hi : i = l.length := by omega
    rw [hi, List.take_length] at hok hrow
    apply RunP.seq
    apply RunP.region
    refine bindP_of (conv_bytes hrow) ?_
    apply RunP.ret
    exact ⟨rfl, by rw [textV, hok]; rfl, nr⟩

end Go.Proofs.YtnefminojpandaaDoor
