/- The line of an event: the program's and the reference's. -/
import Derived.Test.YtnefminojpandaaDoorSbPlain25
import Derived.Test.YtnefminojpandaaDoorSbDrawP
set_option linter.unusedVariables false
set_option linter.unusedSimpArgs false
namespace Go.Proofs.YtnefminojpandaaDoor
open Go.Sb
set_option maxRecDepth 100000

theorem words_eq : wordsV = wordsB.map V.str := by rfl

theorem word_at {k : Int} (h0 : 1 ≤ k) (h1 : k ≤ 22) : wordsV[(k - 1).toNat]? = some (.str (nameB k)) := by
  rw [words_eq, List.getElem?_map]
  have : (k - 1).toNat < wordsB.length := by simp [wordsB]; omega
  rw [List.getElem?_eq_getElem this]
  simp only [Option.map_some, nameB]
  rw [List.getD_eq_getElem?_getD, List.getElem?_eq_getElem this, Option.getD_some]

theorem fields_has (h : Heap) : Has env2 .own 67 [.str namesB] h (.val (.lst 1 wordsV) h) :=
  Has.told (E := env2) (f := 67) (args := [.str namesB]) (a := [.str namesB]) (p := tellFields) rfl rfl rfl rfl

/-- Bounds of an event that is valid. -/
theorem okEv_nums {e : Ev} (ho : okEv e = true) : (0 ≤ e.at_ ∧ e.at_ ≤ 1000000000000) ∧ (0 ≤ e.task ∧ e.task ≤ 64) ∧ (1 ≤ e.kind ∧ e.kind ≤ 22) ∧ (-1 ≤ e.n ∧ e.n ≤ 1000000000000) ∧ (-1 ≤ e.m ∧ e.m ≤ 1000000000000) ∧ okVal e.vk e.vn e.vs = true ∧ okFault e.fk e.ft = true := by
  unfold okEv at ho
  simp only [Bool.and_eq_true, decide_eq_true_eq] at ho
  obtain ⟨⟨⟨⟨⟨⟨⟨⟨⟨⟨⟨h1, h2⟩, h3⟩, h4⟩, h5⟩, h6⟩, h7⟩, h8⟩, h9⟩, h10⟩, h11⟩, h12⟩ := ho
  exact ⟨⟨h1, h2⟩, ⟨h3, h4⟩, ⟨h5, h6⟩, ⟨h7, h8⟩, ⟨h9, h10⟩, h11, h12⟩

theorem okVal_num {k n : Int} {s : List UInt8} (ho : okVal k n s = true) : -1000000000000 ≤ n ∧ n ≤ 1000000000000 := by
  unfold okVal at ho
  split at ho
  · simp at ho; omega
  split at ho
  · simp at ho; omega
  split at ho
  · simp at ho; omega
  split at ho
  · simp at ho; omega
  split at ho
  · simp at ho; omega
  · cases ho

theorem valText_len {k n : Int} {s : List UInt8} (ho : okVal k n s = true) : (valText k n s).length ≤ 200 := by
  have hb := okVal_num ho
  have h1 := Lib.itoa_length_le n (by omega) (by omega)
  have h2 := quoteB_len s
  unfold valText
  split
  · omega
  split
  · split <;> simp
  split
  · rename_i c3
    have : okText s = true := by simp [okVal, c3] at ho; exact ho.2
    unfold okText at this
    simp at this
    simp; omega
  split
  · simp; omega
  split
  · simp; omega
  split
  · simp; omega
  · simp

theorem faultText_len {k : Int} {s : List UInt8} (ho : okFault k s = true) : (faultText k s).length ≤ 300 := by
  unfold faultText
  split
  · simp
  split
  · simp
  · rename_i h0 h2
    have : okVal 3 0 s = true := by
      unfold okFault at ho
      rw [if_neg (by simp [h0, h2])] at ho
      split at ho
      · simp [okVal, ho]
      · cases ho
    have := valText_len this
    simp; omega

theorem name_len (k : Int) : (nameB k).length ≤ 20 := by
  unfold nameB
  rw [List.getD_eq_getElem?_getD]
  rcases Nat.lt_or_ge (k - 1).toNat wordsB.length with h | h
  · rw [List.getElem?_eq_getElem h, Option.getD_some]
    have : ∀ w ∈ wordsB, w.length ≤ 20 := by decide
    exact this _ (List.getElem_mem h)
  · rw [List.getElem?_eq_none h]; simp

theorem body_len {e : Ev} (ho : okEv e = true) : (bodyB e).length ≤ 700 := by
  obtain ⟨h1, h2, h3, h4, h5, h6, h7⟩ := okEv_nums ho
  have a1 := Lib.itoa_length_le e.at_ (by omega) (by omega)
  have a2 := Lib.itoa_length_le e.task (by omega) (by omega)
  have a3 := name_len e.kind
  have a4 := Lib.itoa_length_le e.n (by omega) (by omega)
  have a5 := Lib.itoa_length_le e.m (by omega) (by omega)
  have a6 := valText_len h6
  have a7 := faultText_len h7
  unfold bodyB
  simp only [List.length_append, List.length_cons]
  omega

theorem wrap_i64 {x : Int} (h0 : -9223372036854775808 ≤ x) (h1 : x ≤ 9223372036854775807) : IntKind.i64.wrap x = x := by
  simp [IntKind.wrap, IntKind.signed, IntKind.bits]; split <;> omega

set_option maxHeartbeats 4000000 in
theorem line_has (h : Heap) (e : Ev) (ho : okEv e = true) : Has env2 .own 46 [e.v] h (.val (.str (lineB e)) h) := by
  refine HasP.own (a := [e.v]) (d := fn46) rfl rfl rfl (of_decide_eq_true rfl) ?_
  obtain ⟨h1, h2, h3, h4, h5, h6, h7⟩ := okEv_nums ho
  have a1 := Lib.itoa_length_le e.at_ (by omega) (by omega)
  have a2 := Lib.itoa_length_le e.task (by omega) (by omega)
  have a3 := name_len e.kind
  have a4 := Lib.itoa_length_le e.n (by omega) (by omega)
  have a5 := Lib.itoa_length_le e.m (by omega) (by omega)
  have a6 := valText_len h6
  have a7 := faultText_len h7
  have nb := okVal_num h6
  have fin : ∀ {x : List UInt8}, x = lineB e → some (V.str x) = some (V.str (lineB e)) := fun h => by rw [h]
  apply RunP.seq
  apply RunP.region
  apply RunP.seq
  apply RunP.region
  apply RunP.seq
  apply RunP.drawn
  · decide +kernel
  refine CallK.of (itoa_has (n := e.at_) _ (by omega) (by omega)) ?_
  refine drawR (by decide +kernel) (by decide +kernel) ?_
  refine And.intro (by simp only [List.length_append, List.length_cons, List.length_nil]; omega) ?_
  refine drawZ (by decide +kernel) (by decide +kernel) ?_
  refine CallK.of (itoa_has (n := e.task) _ (by omega) (by omega)) ?_
  refine drawR (by decide +kernel) (by decide +kernel) ?_
  refine And.intro (by simp only [List.length_append, List.length_cons, List.length_nil]; omega) ?_
  refine drawZ (by decide +kernel) (by decide +kernel) ?_
  refine And.intro (by simp only [List.length_append, List.length_cons, List.length_nil]; omega) ?_
  refine drawZ (by decide +kernel) (by decide +kernel) ?_
  refine CallK.of (fields_has _) ?_
  refine drawR (by decide +kernel) (by decide +kernel) ?_
  have hw : IntKind.i64.wrap (e.kind - 1) = e.kind - 1 := wrap_i64 (by omega) (by omega)
  apply And.intro
  · omega
  apply And.intro
  · rfl
  refine Exists.intro (.str (nameB e.kind)) (And.intro ?_ ?_)
  · exact (congrArg (fun z : Int => wordsV[z.toNat]?) hw).trans (word_at h3.1 h3.2)
  refine And.intro (by simp only [List.length_append, List.length_cons, List.length_nil]; omega) ?_
  refine drawZ (by decide +kernel) (by decide +kernel) ?_
  refine And.intro (by simp only [List.length_append, List.length_cons, List.length_nil]; omega) ?_
  refine drawZ (by decide +kernel) (by decide +kernel) ?_
  refine CallK.of (itoa_has (n := e.n) _ (by omega) (by omega)) ?_
  refine drawR (by decide +kernel) (by decide +kernel) ?_
  refine And.intro (by simp only [List.length_append, List.length_cons, List.length_nil]; omega) ?_
  refine drawZ (by decide +kernel) (by decide +kernel) ?_
  refine And.intro (by simp only [List.length_append, List.length_cons, List.length_nil]; omega) ?_
  refine drawZ (by decide +kernel) (by decide +kernel) ?_
  refine CallK.of (itoa_has (n := e.m) _ (by omega) (by omega)) ?_
  refine drawR (by decide +kernel) (by decide +kernel) ?_
  refine And.intro (by simp only [List.length_append, List.length_cons, List.length_nil]; omega) ?_
  refine drawZ (by decide +kernel) (by decide +kernel) ?_
  refine And.intro (by simp only [List.length_append, List.length_cons, List.length_nil]; omega) ?_
  refine drawZ (by decide +kernel) (by decide +kernel) ?_
  have hb : Bld [.cells 27 e.cells, .cells 60 [.nilp, .nils]] 1 [] := ⟨_, _, rfl, .inl rfl, .inl ⟨rfl, rfl⟩⟩
  obtain ⟨w, g, g1, g2, g3⟩ := ws_has (s := Lib.itoa e.at_ ++ [32] ++ Lib.itoa e.task ++ [32] ++ nameB e.kind ++ [32] ++ Lib.itoa e.n ++ [32] ++ Lib.itoa e.m ++ [32]) hb (by simp only [List.length_append, List.length_cons, List.length_nil]; omega)
  refine CallK.of g1 ?_
  refine drawW (by decide +kernel) (by kernel_rfl) ?_
  apply RunP.seq
  apply RunP.region
  have hp : g[0]? = some (.cells 27 e.cells) := g3.2 0 27 e.cells rfl (by decide) (by decide)
  refine bindK_of (load_at (E := env2) (t := 23) (n := 10) hp rfl) ?_
  obtain ⟨w2, g', q1, q2, q3⟩ := wvalue_has e.vk e.vn e.vs h6 (by omega) (by omega) g2 (by simp only [List.length_append, List.length_cons, List.length_nil]; omega)
  refine CallK.of q1 ?_
  apply RunP.seq
  apply RunP.region
  obtain ⟨w3, g4, r1, r2, r3⟩ := wb_has (32 : UInt8) q2 (by simp only [List.length_append, List.length_cons, List.length_nil]; omega)
  refine CallK.of r1 ?_
  apply RunP.seq
  apply RunP.region
  have hp4 := r3.2 _ _ _ (q3.2 _ _ _ hp (by decide) (by decide)) (by decide) (by decide)
  refine bindK_of (load_at (E := env2) (t := 25) (n := 10) hp4 rfl) ?_
  obtain ⟨w5, g5, s1, s2, s3⟩ := wfault_has e.fk e.ft h7 r2 (by simp only [List.length_append, List.length_cons, List.length_nil]; omega)
  refine CallK.of s1 ?_
  apply RunP.seq
  apply RunP.region
  obtain ⟨w6, g6, t1, t2, t3⟩ := wb_has (10 : UInt8) s2 (by simp only [List.length_append, List.length_cons, List.length_nil]; omega)
  refine CallK.of t1 ?_
  apply RunP.seq
  apply RunP.region
  obtain ⟨w7, g7, u1, u2, u3⟩ := string_has t2 (by simp only [List.length_append, List.length_cons, List.length_nil]; omega)
  subst u2
  refine CallK.of u1 ?_
  apply RunP.ret
  exact And.intro rfl (And.intro (fin (by simp [lineB, bodyB])) rfl)


theorem name_has (h : Heap) {k : Int} (h0 : 1 ≤ k) (h1 : k ≤ 22) : Has env2 .own 69 [.int .i64 k] h (.val (.str (nameB k)) h) := by
  refine HasP.own (a := [.int .i64 k]) (d := fn69) rfl rfl rfl (of_decide_eq_true rfl) ?_
  apply RunP.seq
  apply RunP.region
  apply RunP.seq
  apply RunP.region
  apply RunP.seq
  apply RunP.seq
  apply RunP.region
  apply And.intro
  · intro c; omega
  intro _
  apply And.intro
  · intro c; omega
  intro _
  apply RunP.condF rfl
  apply RunP.skip
  apply RunP.seq
  apply RunP.region
  apply And.intro
  · omega
  apply And.intro
  · omega
  refine bindK_of (v := .str (nameB k)) ?_ ?_
  · have := word_at h0 h1
    have hk : ∃ j, k = ((j + 1 : Nat) : Int) ∧ (k - 1).toNat = j := ⟨(k - 1).toNat, by omega, rfl⟩
    obtain ⟨j, rfl, hj⟩ := hk
    rw [hj] at this
    refine (load_last (E := env2) (t := 9) (n := 23) rfl).trans ?_
    show (List.drop (0 + (j + 1) * 1) (V.str [] :: wordsV)).head? = _
    rw [List.head?_drop, Nat.zero_add, Nat.mul_one, List.getElem?_cons_succ]
    exact this
  apply RunP.ret
  exact ⟨rfl, rfl, rfl⟩

theorem rfault_line (h : Heap) {k : Int} {s : List UInt8} (ho : okFault k s = true) : Has env2 .own 70 [faultV k s] h (.val (.str (faultText k s)) h) := by
  refine HasP.own (a := [faultV k s]) (d := fn70) rfl rfl rfl (of_decide_eq_true rfl) ?_
  have fin : ∀ {x : List UInt8}, x = faultText k s → some (V.str x) = some (V.str (faultText k s)) := fun h => by rw [h]
  apply RunP.seq
  apply RunP.region
  apply RunP.seq
  apply RunP.seq
  apply RunP.region
  apply RunP.block
  apply RunP.seq
  apply RunP.region
  apply And.intro
  · intro c1
    apply RunP.condT rfl
    apply RunP.seq
    apply RunP.region
    have hv : okVal 3 0 s = true := by
      simp [okFault, c1] at ho
      simp [okVal, ho]
    refine CallK.of (rval_has _ 3 0 s hv (by omega) (by omega)) ?_
    have := valText_len hv
    refine And.intro (by simp only [List.length_cons, List.length_nil]; omega) ?_
    apply RunP.ret
    exact And.intro rfl (And.intro (fin (by rw [faultText, if_neg (by omega), if_neg (by omega)])) rfl)
  intro c1
  apply RunP.condF rfl
  apply RunP.seq
  apply RunP.region
  apply And.intro
  · intro c2
    apply RunP.condT rfl
    apply RunP.seq
    apply RunP.region
    apply RunP.ret
    exact And.intro rfl (And.intro (fin (by rw [faultText, if_neg (by omega), if_pos c2])) rfl)
  intro c2
  apply RunP.condF rfl
  apply RunP.skip
  apply RunP.seq
  apply RunP.region
  apply RunP.ret
  have c0 : k = 0 := by
    by_cases h : k = 0
    · exact h
    · simp [okFault, c1, c2, h] at ho
  exact And.intro rfl (And.intro (fin (by rw [faultText, if_pos c0])) rfl)

set_option maxHeartbeats 4000000 in
theorem rline_has (h : Heap) (e : Ev) (ho : okEv e = true) : Has env2 .own 47 [e.v] h (.val (.str (lineB e)) h) := by
  refine HasP.own (a := [e.v]) (d := fn47) rfl rfl rfl (of_decide_eq_true rfl) ?_
  obtain ⟨h1, h2, h3, h4, h5, h6, h7⟩ := okEv_nums ho
  have a1 := Lib.itoa_length_le e.at_ (by omega) (by omega)
  have a2 := Lib.itoa_length_le e.task (by omega) (by omega)
  have a3 := name_len e.kind
  have a4 := Lib.itoa_length_le e.n (by omega) (by omega)
  have a5 := Lib.itoa_length_le e.m (by omega) (by omega)
  have a6 := valText_len h6
  have a7 := faultText_len h7
  have nb := okVal_num h6
  have fin : ∀ {x : List UInt8}, x = lineB e → some (V.str x) = some (V.str (lineB e)) := fun h => by rw [h]
  apply RunP.seq
  apply RunP.region
  apply RunP.seq
  apply RunP.drawn
  · decide +kernel
  refine CallK.of (itoa_has (n := e.at_) _ (by omega) (by omega)) ?_
  refine drawR (by decide +kernel) (by decide +kernel) ?_
  refine And.intro (by simp only [List.length_append, List.length_cons, List.length_nil]; omega) ?_
  refine drawZ (by decide +kernel) (by decide +kernel) ?_
  refine CallK.of (itoa_has (n := e.task) _ (by omega) (by omega)) ?_
  refine drawR (by decide +kernel) (by decide +kernel) ?_
  refine And.intro (by simp only [List.length_append, List.length_cons, List.length_nil]; omega) ?_
  refine drawZ (by decide +kernel) (by decide +kernel) ?_
  refine And.intro (by simp only [List.length_append, List.length_cons, List.length_nil]; omega) ?_
  refine drawZ (by decide +kernel) (by decide +kernel) ?_
  refine CallK.of (name_has _ h3.1 h3.2) ?_
  refine drawR (by decide +kernel) (by decide +kernel) ?_
  refine And.intro (by simp only [List.length_append, List.length_cons, List.length_nil]; omega) ?_
  refine drawZ (by decide +kernel) (by decide +kernel) ?_
  refine And.intro (by simp only [List.length_append, List.length_cons, List.length_nil]; omega) ?_
  refine drawZ (by decide +kernel) (by decide +kernel) ?_
  refine CallK.of (itoa_has (n := e.n) _ (by omega) (by omega)) ?_
  refine drawR (by decide +kernel) (by decide +kernel) ?_
  refine And.intro (by simp only [List.length_append, List.length_cons, List.length_nil]; omega) ?_
  refine drawZ (by decide +kernel) (by decide +kernel) ?_
  refine And.intro (by simp only [List.length_append, List.length_cons, List.length_nil]; omega) ?_
  refine drawZ (by decide +kernel) (by decide +kernel) ?_
  refine CallK.of (itoa_has (n := e.m) _ (by omega) (by omega)) ?_
  refine drawR (by decide +kernel) (by decide +kernel) ?_
  refine And.intro (by simp only [List.length_append, List.length_cons, List.length_nil]; omega) ?_
  refine drawZ (by decide +kernel) (by decide +kernel) ?_
  refine And.intro (by simp only [List.length_append, List.length_cons, List.length_nil]; omega) ?_
  refine drawZ (by decide +kernel) (by decide +kernel) ?_
  refine CallK.of (rval_has _ e.vk e.vn e.vs h6 (by omega) (by omega)) ?_
  refine drawR (by decide +kernel) (by decide +kernel) ?_
  refine And.intro (by simp only [List.length_append, List.length_cons, List.length_nil]; omega) ?_
  refine drawZ (by decide +kernel) (by decide +kernel) ?_
  refine And.intro (by simp only [List.length_append, List.length_cons, List.length_nil]; omega) ?_
  refine drawZ (by decide +kernel) (by decide +kernel) ?_
  refine CallK.of (rfault_line _ h7) ?_
  refine drawR (by decide +kernel) (by decide +kernel) ?_
  refine And.intro (by simp only [List.length_append, List.length_cons, List.length_nil]; omega) ?_
  refine drawZ (by decide +kernel) (by decide +kernel) ?_
  refine And.intro (by simp only [List.length_append, List.length_cons, List.length_nil]; omega) ?_
  refine drawZ (by decide +kernel) (by decide +kernel) ?_
  apply RunP.ret
  exact And.intro rfl (And.intro (fin (by simp [lineB, bodyB])) rfl)
end Go.Proofs.YtnefminojpandaaDoor
