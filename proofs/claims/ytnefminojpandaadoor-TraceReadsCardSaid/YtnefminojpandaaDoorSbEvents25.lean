/- Events as plain values; few, Clone, Of, Equal. -/
import Derived.Test.YtnefminojpandaaDoorSbRow
import Derived.Test.YtnefminojpandaaDoorSbAwake25
set_option linter.unusedVariables false
set_option linter.unusedSimpArgs false
namespace Go.Proofs.YtnefminojpandaaDoor
open Go.Sb
set_option maxRecDepth 100000

structure Ev where
  at_ : Int
  task : Int
  kind : Int
  n : Int
  m : Int
  vk : Int
  vn : Int
  vs : List UInt8
  fk : Int
  ft : List UInt8
  deriving DecidableEq

def Ev.cells (e : Ev) : List V := [.int .i64 e.at_, .int .i64 e.task, .int .i64 e.kind, .int .i64 e.n, .int .i64 e.m, .int .i64 e.vk, .int .i64 e.vn, .str e.vs, .int .i64 e.fk, .str e.ft]
def Ev.v (e : Ev) : V := .agg e.cells
def evs (l : List Ev) : List V := l.map Ev.v

theorem ev_elem (e : Ev) : Elem 10 e.v := ⟨e.cells, rfl, rfl, by simp [Ev.cells, V.leaf]⟩
theorem evs_elem (l : List Ev) : ∀ v ∈ evs l, Elem 10 v := fun v hv => by
  obtain ⟨e, _, rfl⟩ := List.mem_map.1 hv; exact ev_elem e
theorem evs_len (l : List Ev) : (evs l).length = l.length := by simp [evs]

theorem roomy_ev {n : Nat} (h : n ≤ 6000) : roomy 96 n = true := by
  simp [roomy]; omega

/-- A copy. -/
theorem clone_has {v : V} {l : List Ev} (h : Heap) (hv : Fr 10 v (evs l)) (hl : l.length ≤ 6000) : ∃ g, Has env2 .own 22 [v] h (.val g h) ∧ Fr 10 g (evs l) := by
  refine Has.ownE (a := [v]) (d := fn22) (leaf_args (by simp [hv.leaf])) rfl rfl ?_
  rcases hv with ⟨rfl | rfl, he⟩ | rfl
  · apply And.intro
    · exact of_decide_eq_true rfl
    exact ⟨rfl, _, rfl, rfl, .inl ⟨.inl rfl, he⟩⟩
  · apply And.intro
    · exact of_decide_eq_true rfl
    exact ⟨rfl, _, rfl, rfl, .inl ⟨.inr rfl, he⟩⟩
  · apply And.intro
    · exact of_decide_eq_true rfl
    · obtain ⟨a1, a2⟩ := append_fresh (E := env2) (h := []) (t := 34) (T := 27) (s := .emp) (x := .lst 10 (evs l)) (e := 10) rfl rfl rfl rfl (by omega) (.inr rfl) (Fr.contents (.inr rfl))
      by_cases h0 : (evs l).length = 0
      · refine bindR_of (v := .emp) (h := []) (congrArg valH (a1 h0)) ?_
        exact ⟨rfl, _, rfl, rfl, .inl ⟨.inr rfl, List.length_eq_zero_iff.1 h0⟩⟩
      · refine bindR_of (congrArg valH (a2 h0 (roomy_ev (by rw [evs_len]; exact hl)))) ?_
        refine ⟨rfl, _, fz_row (n := 10) (T := 27) (e := 10) rfl rfl rfl rfl (by omega) (evs_elem l) (Nat.le_refl _), rfl, .inr rfl⟩

theorem take_evs (l : List Ev) (k : Nat) : evs (l.take k) = (evs l).take k := by simp [evs, List.map_take]

/-- The first ones. -/
theorem few_has {v : V} {l : List Ev} (h : Heap) {k : Nat} (hv : Fr 10 v (evs l)) (hk : k ≤ 6000) : ∃ g, Has env2 .own 16 [v, .int .i64 k] h (.val g h) ∧ Fr 10 g (evs (l.take k)) := by
  refine Has.ownE (a := [v, .int .i64 k]) (d := fn16) (leaf_args (by simp [hv.leaf]; rfl)) rfl rfl ?_
  have hlt : (l.take k).length ≤ 6000 := by rw [List.length_take]; omega
  rcases hv with ⟨rfl | rfl, he⟩ | rfl
  · have he' : evs (l.take k) = [] := by rw [take_evs, he]; simp
    obtain ⟨g, g1, g2⟩ := clone_has (v := .nils) (l := l.take k) [] (.inl ⟨.inl rfl, he'⟩) hlt
    apply And.intro
    · exact of_decide_eq_true rfl
    apply And.intro
    · split <;> omega
    apply And.intro
    · exact ⟨rfl, by split <;> omega⟩
    refine CallK.of g1 ?_
    exact ⟨rfl, g, fz_leaf (n := 11) g2.leaf, rfl, g2⟩
  · have he' : evs (l.take k) = [] := by rw [take_evs, he]; simp
    obtain ⟨g, g1, g2⟩ := clone_has (v := .emp) (l := l.take k) [] (.inl ⟨.inr rfl, he'⟩) hlt
    apply And.intro
    · exact of_decide_eq_true rfl
    apply And.intro
    · split <;> omega
    apply And.intro
    · exact ⟨rfl, by split <;> omega⟩
    refine CallK.of g1 ?_
    exact ⟨rfl, g, fz_leaf (n := 11) g2.leaf, rfl, g2⟩
  · obtain ⟨g, g1, g2⟩ := clone_has (v := .lst 10 (evs (l.take k))) (l := l.take k) [] (.inr rfl) hlt
    apply And.intro
    · exact of_decide_eq_true rfl
    apply And.intro
    · split <;> omega
    apply And.intro
    · rfl
    apply And.intro
    · exact ⟨Nat.zero_le _, by split <;> omega⟩
    have e : List.drop 0 (List.take (if (k : Int) < ((evs l).length : Int) then (k : Int) else ((evs l).length : Int)).toNat (evs l)) = evs (l.take k) := by
      rw [take_evs, List.drop_zero]
      split
      · simp
      · rw [Int.toNat_natCast, List.take_length, List.take_of_length_le (by omega)]
    rw [e]
    refine CallK.of g1 ?_
    exact ⟨rfl, g, fz_leaf (n := 11) g2.leaf, rfl, g2⟩
def isTask (t : Int) (e : Ev) : Bool := e.task == t

/-- How trace.Of stands ahead of a round. -/
def ofI (l : List Ev) (v : V) (t : Int) (k : Nat) (s : List V) (h : Heap) : Prop :=
  ∃ (i : Nat) (z : Int) (o x7 x11 x12 x13 x14 x15 x16 x17 x18 x19 x20 x21 x22 : V), i + k = l.length ∧ z = i ∧ InRow h 27 10 o (evs ((l.take i).filter (isTask t))) ∧
    s = [und, v, .int .i64 t, und, und, .nils, o, und, x7, v, .int .i64 l.length, .int .i64 z, x11, x12, x13, x14, x15, x16, x17, x18, x19, x20, x21, x22, und]

theorem of_has {v : V} {l : List Ev} (h : Heap) (t : Int) (hv : Fr 10 v (evs l)) (hl : l.length ≤ 6000) : ∃ g, Has env2 .own 21 [v, .int .i64 t] h (.val g h) ∧ Fr 10 g (evs (l.filter (isTask t))) := by
  refine Has.ownE (a := [v, .int .i64 t]) (d := fn21) (leaf_args (by simp [hv.leaf]; rfl)) rfl rfl ?_
  have hlen : evLen env2 34 v [] = some (.int .i64 l.length) := by
    rcases hv with ⟨rfl | rfl, he⟩ | rfl
    · have : l.length = 0 := by rw [← evs_len, he]; rfl
      rw [this]; rfl
    · have : l.length = 0 := by rw [← evs_len, he]; rfl
      rw [this]; rfl
    · rw [← evs_len]; rfl
  apply And.intro
  · exact of_decide_eq_true rfl
  refine bindR_of (v := .int .i64 l.length) (h := []) (congrArg (val · []) hlen) ?_
  refine LoopK.of (ofI l v t) ?_ l.length _ _ ⟨0, _, .nils, und, und, und, und, und, und, und, und, und, und, und, und, und, by omega, rfl, .inl ⟨rfl, rfl⟩, rfl⟩
  rintro k s g ⟨i, z, o, x7, x11, x12, x13, x14, x15, x16, x17, x18, x19, x20, x21, x22, hik, hz, hrow, rfl⟩
  apply And.intro
  · intro hlt
    have hi : i < l.length := by omega
    have hvl : v = .lst 10 (evs l) := by
      rcases hv with ⟨_, he⟩ | e
      · rw [← evs_len, he] at hi; simp at hi
      · exact e
    subst hvl
    apply And.intro
    · omega
    apply And.intro
    · rfl
    refine Exists.intro (l[i]).v (And.intro (by subst hz; simp [evs, hi]) ?_)
    refine bindK_of (store_last (E := env2) (t := 27) (n := 10) rfl rfl rfl rfl rfl) ?_
    refine bindK_of (load_last (E := env2) (t := 3) rfl) ?_
    apply And.intro
    · intro ht
      refine bindK_of (load_last (E := env2) (t := 27) (n := 10) rfl) ?_
      have hcnt : (evs ((l.take i).filter (isTask t))).length ≤ i := by
        rw [evs_len]; exact Nat.le_trans (List.length_filter_le _ _) (by rw [List.length_take]; omega)
      have hro : roomy 96 ((evs ((l.take i).filter (isTask t))).length + 1) = true := roomy_ev (by omega)
      obtain ⟨o', h', e1, e2, _⟩ := append_one (E := env2) (t := 34) (T := 27) (e := 10) rfl rfl rfl rfl (by omega) ((hrow.push (.cells 27 l[i].cells)).push (.cells 27 l[i].cells)) (evs_elem _) (ev_elem l[i]) (contents_last (n := 10) _ _ _ rfl) hro
      refine bindR_of (congrArg valH e1) ?_
      refine ⟨k - 1, by omega, i + 1, _, o', _, _, _, _, _, _, _, _, _, _, _, _, _, by omega, ?_, ?_, rfl⟩
      · subst hz; exact wrap_up i (by omega)
      · rw [List.take_add_one, List.getElem?_eq_getElem hi, List.filter_append]
        have : (Option.toList (some l[i])).filter (isTask t) = [l[i]] := by
          simp [isTask, ht]
        rw [this]
        simpa [evs, show ty27.size = 10 from rfl] using e2
    · intro ht
      refine ⟨k - 1, by omega, i + 1, _, o, _, _, _, _, _, _, _, _, _, _, _, _, _, by omega, ?_, ?_, rfl⟩
      · subst hz; exact wrap_up i (by omega)
      · rw [List.take_add_one, List.getElem?_eq_getElem hi, List.filter_append]
        have : (Option.toList (some l[i])).filter (isTask t) = [] := by
          simp [isTask, ht]
        rw [this]
        simpa using hrow.push _
  · intro hge
    have hi : i = l.length := by omega
    rw [hi, List.take_length] at hrow
    obtain ⟨r, r1, r2⟩ := hrow.fr (E := env2) (n := 10) rfl rfl rfl (by omega) (evs_elem _)
    exact ⟨rfl, r, r1, by simp [V.norefs, hv.noref]; exact .inl rfl, r2⟩
theorem eqFs_step {f : TypeId × Nat → Option Bool} {g : TypeId × Nat} {gs : List (TypeId × Nat)} {b : Bool} (h : f g = some b) : eqFs f (g :: gs) = if b = true then eqFs f gs else some false := by
  simp only [eqFs, h, Option.bind_some]
theorem and_if {b c : Bool} {x : Option Bool} (h : x = some c) : (if b = true then x else some false) = some (b && c) := by
  cases b <;> simp [h]
theorem eqT_struct {E : Env} {S : List TypeId} {n : Nat} {t : TypeId} {d : TyD} {fs : List (TypeId × Nat)} {xs ys : List V} (h1 : E.ty t = some d) (h2 : d.u = .struct fs) (h3 : S.contains t = true) :
    eqT E S (n + 1) t (.agg xs) (.agg ys) = eqFs (fun g => (partV E g.1 xs g.2).bind fun u => (partV E g.1 ys g.2).bind fun v => eqT E S n g.1 u v) fs := by
  simp only [eqT, h1, Option.bind_some, h2, h3, if_true]
theorem eq_value (n : Nat) (a b c d : Int) (x y : List UInt8) : eqT envB plainS (n + 2) 23 (.agg [.int .i64 a, .int .i64 b, .str x]) (.agg [.int .i64 c, .int .i64 d, .str y]) = some (a == c && (b == d && (x == y && true))) := by
  rw [eqT_struct (d := ty23) (fs := [(3, 0), (3, 1), (9, 2)]) rfl rfl rfl]
  rw [eqFs_step (b := a == c) rfl, eqFs_step (b := b == d) rfl, eqFs_step (b := x == y) rfl]
  exact and_if (and_if (and_if rfl))
theorem eq_fault (n : Nat) (a c : Int) (x y : List UInt8) : eqT envB plainS (n + 2) 25 (.agg [.int .i64 a, .str x]) (.agg [.int .i64 c, .str y]) = some (a == c && (x == y && true)) := by
  rw [eqT_struct (d := ty25) (fs := [(3, 0), (9, 1)]) rfl rfl rfl]
  rw [eqFs_step (b := a == c) rfl, eqFs_step (b := x == y) rfl]
  exact and_if (and_if rfl)
theorem eq_event (n : Nat) (e f : Ev) : eqT envB plainS (n + 3) 27 (.agg e.cells) (.agg f.cells) = some (e.at_ == f.at_ && (e.task == f.task && (e.kind == f.kind && (e.n == f.n && (e.m == f.m && ((e.vk == f.vk && (e.vn == f.vn && (e.vs == f.vs && true))) && ((e.fk == f.fk && (e.ft == f.ft && true)) && true))))))) := by
  rw [eqT_struct (d := ty27) (fs := [(3, 0), (3, 1), (3, 2), (3, 3), (3, 4), (23, 5), (25, 8)]) rfl rfl rfl]
  rw [eqFs_step (b := e.at_ == f.at_) rfl, eqFs_step (b := e.task == f.task) rfl, eqFs_step (b := e.kind == f.kind) rfl, eqFs_step (b := e.n == f.n) rfl, eqFs_step (b := e.m == f.m) rfl, eqFs_step (eq_value n ..), eqFs_step (eq_fault n ..)]
  exact and_if (and_if (and_if (and_if (and_if (and_if (and_if rfl))))))

/-- '==' at events is equality. -/
theorem ev_eq (e f : Ev) : eqT envB plainS 20 27 (.agg e.cells) (.agg f.cells) = some (decide (e = f)) := by
  rw [eq_event 17]
  congr 1
  cases e; cases f
  rw [Bool.eq_iff_iff]
  simp [and_assoc]

theorem ev_neq_self (e : Ev) : evBin env2 .neq 27 (.agg (List.take ty27.size e.v.cells)) (.agg (List.take ty27.size e.v.cells)) = some (.bool false) := by
  show ((eqT envB plainS 20 27 (.agg e.cells) (.agg e.cells)).map fun r => V.bool !r) = _
  rw [ev_eq]; simp
theorem fr_len {v : V} {l : List Ev} (hv : Fr 10 v (evs l)) (h : Heap) : evLen env2 34 v h = some (.int .i64 l.length) := by
  rcases hv with ⟨rfl | rfl, he⟩ | rfl
  · have : l.length = 0 := by rw [← evs_len, he]; rfl
    rw [this]; rfl
  · have : l.length = 0 := by rw [← evs_len, he]; rfl
    rw [this]; rfl
  · rw [← evs_len]; rfl

theorem fr_lst {v : V} {l : List Ev} {i : Nat} (hv : Fr 10 v (evs l)) (hi : i < l.length) : v = .lst 10 (evs l) := by
  rcases hv with ⟨_, he⟩ | e
  · rw [← evs_len, he] at hi; simp at hi
  · exact e

/-- How slices.Equal stands ahead of a round. -/
def eqI (l : List Ev) (v v' : V) (k : Nat) (s : List V) (h : Heap) : Prop :=
  ∃ (i : Nat) (z : Int) (x5 x10 x14 x15 x16 x17 x18 x19 x20 x21 x22 x23 x24 x25 : V), i + k = l.length ∧ z = i ∧ h = [] ∧
    s = [und, v, v', und, und, .bool false, x5, v, .int .i64 l.length, v', .int .i64 l.length, x10, v, .int .i64 l.length, .int .i64 z, x14, x15, x16, x17, x18, x19, x20, x21, x22, x23, x24, x25]

theorem equal_has {u u' v v' : V} {l : List Ev} (h : Heap) (hu : fz env2 h depthF u = some v) (hu' : fz env2 h depthF u' = some v') (hv : Fr 10 v (evs l)) (hv' : Fr 10 v' (evs l)) (hl : l.length ≤ 6000) : Has env2 .own 20 [u, u'] h (.val (.bool true) h) := by
  refine Has.own (a := [v, v']) (d := fn20) (by simp [hu, hu']) rfl rfl ?_
  apply And.intro
  · exact of_decide_eq_true rfl
  refine bindR_of (congrArg (val · []) (fr_len hv [])) ?_
  refine bindR_of (congrArg (val · []) (fr_len hv' [])) ?_
  refine And.intro (fun _ => ?_) (fun h => absurd rfl h)
  refine bindR_of (congrArg (val · []) (fr_len hv [])) ?_
  refine LoopK.of (eqI l v v') ?_ l.length _ _ ⟨0, _, _, _, _, _, _, _, _, _, _, _, _, _, _, _, by omega, rfl, rfl, rfl⟩
  rintro k s g ⟨i, z, x5, x10, x14, x15, x16, x17, x18, x19, x20, x21, x22, x23, x24, x25, hik, hz, rfl, rfl⟩
  apply And.intro
  · intro hlt
    have hi : i < l.length := by omega
    have := fr_lst hv hi; subst this
    have := fr_lst hv' hi; subst this
    apply And.intro
    · decide +kernel
    apply And.intro
    · omega
    apply And.intro
    · rfl
    refine Exists.intro (l[i]).v (And.intro (by subst hz; simp [evs, hi]) ?_)
    apply And.intro
    · omega
    apply And.intro
    · rfl
    refine Exists.intro (l[i]).v (And.intro (by subst hz; simp [evs, hi]) ?_)
    refine bindK_of (ev_neq_self l[i]) ?_
    refine ⟨k - 1, by omega, i + 1, _, _, _, _, _, _, _, _, _, _, _, _, _, _, _, by omega, ?_, rfl, rfl⟩
    subst hz; exact wrap_up i (by omega)
  · intro hge
    exact ⟨rfl, rfl, by rw [Bool.or_eq_true]; exact .inr rfl⟩
end Go.Proofs.YtnefminojpandaaDoor
