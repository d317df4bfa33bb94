/- '==' at structs of numbers, strings and such structs. -/
import Derived.Test.YtkjhnpmgieplgaaGreatDoorSbLib
import Derived.Laws.StructEq
import Derived.ChangeArms
import Derived.ChangeOld
set_option linter.unusedVariables false
set_option linter.unusedSimpArgs false
namespace Go.Sb

def eqFs (f : TypeId × Nat → Option Bool) : List (TypeId × Nat) → Option Bool
  | [] => some true
  | g :: gs => (f g).bind fun r => if r = true then eqFs f gs else some false

/-- '==' at plain types; 'S': the structs that it may meet. -/
def eqT (E : Env) (S : List TypeId) : Nat → TypeId → V → V → Option Bool
  | 0, _, _, _ => none
  | n + 1, t, a, b => (E.ty t).bind fun d =>
    match d.u, a, b with
    | .int _, .int k x, .int l y => if k = l then some (x == y) else none
    | .bool, .bool x, .bool y => some (x == y)
    | .str, .str x, .str y => some (x == y)
    | .struct fs, .agg xs, .agg ys => if S.contains t = true then eqFs (fun g => (partV E g.1 xs g.2).bind fun u => (partV E g.1 ys g.2).bind fun v => eqT E S n g.1 u v) fs else none
    | _, _, _ => none

def plainStruct (P : Program) (t : TypeId) : Bool := match P.underlying t with
  | some (.struct fs) => !P.stoodInHeld t && fs.toList.all (fun f => f.name != "_") && !P.eqGuardType P.depth t
  | _ => false

section
variable {P : Program} {E : Env}

theorem eqT_run (hE : EnvOk P E) {S : List TypeId} (hS : S.all (plainStruct P) = true) : ∀ (n : Nat) (t : TypeId) (a b : V) (r : Bool), eqT E S n t a b = some r → ∀ (c : Cx) (x y : Value), RV c a x → RV c b y → ∀ d, n ≤ d → (Op.equalIn d t x y).run P c.w = .ok r c.w
  | 0, _, _, _, _, h, _, _, _, _, _, _, _ => by simp [eqT] at h
  | n + 1, t, a, b, r, h, c, x, y, hx, hy, d, hd => by
    obtain ⟨d, rfl⟩ : ∃ d', d = d' + 1 := ⟨d - 1, by omega⟩
    replace h := Option.bind_eq_some_iff.1 h; obtain ⟨dt, hdt, h⟩ := h
    obtain ⟨ut, h1, h2⟩ := (hE.ty t dt hdt).und
    split at h
    · rename_i e
      rw [e] at h2; have := of_int h2; subst this
      split at h
      · rename_i hk; subst hk; cases h
        rw [hx.int_inv, hy.int_inv]; exact run_equalIn_int c.w d t _ _ _ _ h1
      · cases h
    · rename_i e
      rw [e] at h2; have := of_bool h2; subst this
      cases h
      rw [hx.bool_inv, hy.bool_inv]; exact eqIn_bool h1 d _ _ _
    · rename_i e
      rw [e] at h2; have := of_str h2; subst this
      cases h
      rw [hx.str_inv, hy.str_inv, run_equalIn_string c.w d t _ _ h1, bs_eq]
    · rename_i fs xs ys e
      split at h
      · rename_i hmem
        have hps : plainStruct P t = true := List.all_eq_true.1 hS t (by simpa using hmem)
        rw [e] at h2
        obtain ⟨gs, g1, g2⟩ := of_struct h2
        subst g1
        have hfo : P.fieldsOf t = gs := by simp [Program.fieldsOf, h1]
        unfold plainStruct at hps
        rw [h1] at hps
        simp only [Bool.and_eq_true, Bool.not_eq_true'] at hps
        obtain ⟨⟨p1, p2⟩, p3⟩ := hps
        obtain ⟨X, rfl, hX⟩ := hx.agg_inv
        obtain ⟨Y, rfl, hY⟩ := hy.agg_inv
        rw [run_equalIn_struct c.w d t X Y (by rw [hfo]; exact h1) p1, hfo]
        have ih := eqT_run hE hS n
        have key : ∀ (gl : List Field) (r : Bool), (∀ f ∈ gl, (f.name != "_") = true) → eqFs (fun g => (partV E g.1 xs g.2).bind fun u => (partV E g.1 ys g.2).bind fun v => eqT E S n g.1 u v) (gl.map fun f => (f.type, f.offset)) = some r →
            (Op.eqFields d X Y gl).run P c.w = .ok r c.w := by
          intro gl
          induction gl with
          | nil => intro r _ h; simp [eqFs] at h; subst h; simp [Op.eqFields]
          | cons f gl ihg =>
            intro r hn h
            simp only [List.map_cons, eqFs] at h
            obtain ⟨q, hq, h⟩ := Option.bind_eq_some_iff.1 h
            obtain ⟨u, hu, hq⟩ := Option.bind_eq_some_iff.1 hq
            obtain ⟨v, hv, hq⟩ := Option.bind_eq_some_iff.1 hq
            obtain ⟨xu, k1, k2⟩ := part_spec hE hX hu
            obtain ⟨yv, l1, l2⟩ := part_spec hE hY hv
            have hm := ih f.type u v q hq c xu yv k2 l2 d (by omega)
            have hne : f.name ≠ "_" := by simpa using hn f (by simp)
            simp only [Op.eqFields]
            rw [if_pos hne]
            simp only [Sem.run_bind, k1, l1, hm, Result.andThen_ok]
            cases q
            · simp at h; subst h; simp
            · simp only [if_true] at h
              simp only [Bool.not_true, Bool.false_eq_true, if_false]
              exact ihg r (fun f hf => hn f (by simp [hf])) h
        have hlist : fs = gs.toList.map fun f => (f.type, f.offset) := g2.symm
        rw [hlist] at h
        exact key gs.toList r (fun f hf => List.all_eq_true.1 p2 f hf) h
      · cases h
    · cases h

/-- The line of the table. -/
def eqLine (E : Env) (S : List TypeId) (t : TypeId) : Option (List V → List V → Option Bool) := if S.contains t = true then some fun a b => eqT E S 20 t (.agg a) (.agg b) else none

theorem eqs_ok (hE : EnvOk P E) {S : List TypeId} (hS : S.all (plainStruct P) = true) : EnvOk P { E with eqs := eqLine E S } := by
  refine ⟨hE.ty, hE.fn, hE.ext, hE.lib, fun t f hf => ?_, hE.mixed, hE.gd⟩
  simp only [eqLine] at hf
  split at hf
  · rename_i hm
    cases hf
    have hps : plainStruct P t = true := List.all_eq_true.1 hS t (by simpa using hm)
    unfold plainStruct at hps
    split at hps
    · simp only [Bool.and_eq_true, Bool.not_eq_true'] at hps
      exact ⟨hps.2, fun c a b xs ys r ha hb h => eqT_run hE hS 20 t (.agg a) (.agg b) r h c _ _ (RV.agg_mk ha) (RV.agg_mk hb) 10000 (by omega)⟩
    · cases hps
  · cases hf

end
end Go.Sb

/- A row's arguments, read as data, as plain values. -/

namespace Go.Sb

def contigB (E : Env) (S : TypeId → Bool) : Nat → List (TypeId × Nat) → Option Nat
  | o, [] => some o
  | o, g :: gs => (E.ty g.1).bind fun d => if g.2 = o ∧ S g.1 = true then contigB E S (o + d.size) gs else none

/-- Types that can be opened so. -/
def shpB (E : Env) : Nat → TypeId → Bool
  | 0, _ => false
  | n + 1, t => match E.ty t with
    | none => false
    | some d => match d.u with
      | .int _ | .bool | .str => d.size == 1
      | .slice e => d.size == 1 && shpB E n e && (match E.ty e with | some y => decide (0 < y.size) | none => false)
      | .struct fs => contigB E (shpB E n) 0 fs == some d.size
      | _ => false

def ShpFs (S : TypeId → List V → Prop) : List (TypeId × Nat) → List V → Prop
  | [], vs => vs = []
  | g :: gs, vs => ∃ a b, vs = a ++ b ∧ S g.1 a ∧ ShpFs S gs b

/-- The cells of a value of a type. -/
def Shp (E : Env) : Nat → TypeId → List V → Prop
  | 0, _, _ => False
  | n + 1, t, vs => ∃ d, E.ty t = some d ∧ vs.length = d.size ∧ match d.u with
      | .int k => ∃ x, vs = [.int k x] ∧ (Lit.int k x).wf = true
      | .bool => ∃ b, vs = [.bool b]
      | .str => ∃ s, vs = [.str s] ∧ s.length ≤ maxLen
      | .slice e => ∃ y, E.ty e = some y ∧ (vs = [.nils] ∨ ∃ es, vs = [.lst y.size es] ∧ es.length ≤ maxLen ∧ ∀ v ∈ es, Shp E n e v.cells ∧ (y.agg = true → ∃ cs, v = .agg cs))
      | .struct fs => ShpFs (Shp E n) fs vs
      | _ => False

section
variable {P : Program} {E : Env} {H : Type} {enc : TypeId × Value → H} {w : World} {base : Nat} {spare : Nat → Bool} {held : Bool}

theorem Shp.cell : ∀ {n : Nat} {t : TypeId} {vs : List V}, Shp E n t vs → vs.all V.isCell = true
  | 0, _, _, h => h.elim
  | n + 1, t, vs, h => by
    obtain ⟨d, _, _, h⟩ := h
    split at h
    · obtain ⟨x, rfl, _⟩ := h; rfl
    · obtain ⟨b, rfl⟩ := h; rfl
    · obtain ⟨s, rfl, _⟩ := h; rfl
    · obtain ⟨y, _, h⟩ := h
      rcases h with rfl | ⟨es, rfl, _⟩ <;> rfl
    · rename_i fs _
      have : ∀ (fs : List (TypeId × Nat)) (vs : List V), ShpFs (Shp E n) fs vs → vs.all V.isCell = true := by
        intro fs
        induction fs with
        | nil => intro vs h; simp [ShpFs] at h; subst h; rfl
        | cons g gs ih =>
          intro vs h
          obtain ⟨a, b, rfl, h1, h2⟩ := h
          rw [List.all_append, h1.cell, ih b h2]; rfl
      exact this fs vs h
    · exact h.elim

/-- Cell by cell. -/
def RGs (w : World) (vs : List V) (cs : List Value) : Prop := vs.length = cs.length ∧ ∀ (i : Nat) (v : V) (x : Value), vs[i]? = some v → cs[i]? = some x → RG (fun r => r < w.heap.size) w v x

theorem RGs.append {vs us : List V} {cs ds : List Value} (h1 : RGs w vs cs) (h2 : RGs w us ds) : RGs w (vs ++ us) (cs ++ ds) := by
  refine ⟨by simp [h1.1, h2.1], fun i v x hv hx => ?_⟩
  by_cases hi : i < vs.length
  · rw [List.getElem?_append_left hi] at hv
    rw [List.getElem?_append_left (by rw [← h1.1]; exact hi)] at hx
    exact h1.2 i v x hv hx
  · rw [List.getElem?_append_right (by omega)] at hv
    rw [List.getElem?_append_right (by rw [← h1.1]; omega), ← h1.1] at hx
    exact h2.2 _ v x hv hx

theorem RGs.one {v : V} {x : Value} (h : RG (fun r => r < w.heap.size) w v x) : RGs w [v] [x] := ⟨rfl, fun i u y hu hy => by
  cases i with
  | zero => simp at hu hy; subst hu; subst hy; exact h
  | succ i => simp at hu⟩

theorem choose_list {α : Type} {p : Nat → α → Prop} : ∀ (n : Nat), (∀ i, i < n → ∃ a, p i a) → ∃ l : List α, l.length = n ∧ ∀ i a, l[i]? = some a → p i a
  | 0, _ => ⟨[], rfl, fun i a h => by simp at h⟩
  | n + 1, h => by
    obtain ⟨l, h1, h2⟩ := choose_list n (fun i hi => h i (by omega))
    obtain ⟨a, ha⟩ := h n (by omega)
    refine ⟨l ++ [a], by simp [h1], fun i b hb => ?_⟩
    by_cases hi : i < l.length
    · rw [List.getElem?_append_left hi] at hb; exact h2 i b hb
    · rw [List.getElem?_append_right (by omega)] at hb
      have : i = n := by
        by_cases e : i - l.length = 0
        · omega
        · rw [show i - l.length = (i - l.length - 1) + 1 by omega] at hb; simp at hb
      subst this
      rw [h1] at hb; simp at hb; subst hb; exact ha

theorem open_shp (hE : EnvOk P E) : ∀ (n : Nat) (t : TypeId) (m : Nat) (cs : List Value) (x : DataW H × List MemPlace), shpB E n t = true → DataW.trod enc P w base spare held m t cs = some x → ∃ vs, RGs w vs cs ∧ Shp E n t vs
  | 0, _, _, _, _, h, _ => by simp [shpB] at h
  | n + 1, t, m, cs, x, h, hx => by
    unfold shpB at h
    split at h
    · cases h
    · rename_i d hd
      obtain ⟨u, h1, h2⟩ := (hE.ty t d hd).und
      split at h
      · rename_i k hu
        rw [hu] at h2; have := of_int h2; subst this
        obtain ⟨z, rfl, _, hwf⟩ := DataW.trod_int h1 hx
        exact ⟨[.int k z], .one (.int k z), d, hd, by simpa using (beq_iff_eq.1 h).symm, by rw [hu]; exact ⟨z, rfl, hwf⟩⟩
      · rename_i hu
        rw [hu] at h2; have := of_bool h2; subst this
        obtain ⟨z, rfl, _⟩ := DataW.trod_bool h1 hx
        exact ⟨[.bool z], .one (.bool z), d, hd, by simpa using (beq_iff_eq.1 h).symm, by rw [hu]; exact ⟨z, rfl⟩⟩
      · rename_i hu
        rw [hu] at h2; have := of_str h2; subst this
        obtain ⟨s, rfl, _, hs⟩ := DataW.trod_string h1 hx
        exact ⟨[.str s.data.toList], .one (.str s.data.toList), d, hd, by simpa using (beq_iff_eq.1 h).symm, by rw [hu]; exact ⟨_, rfl, by simpa using hs⟩⟩
      · rename_i e hu
        rw [hu] at h2; have := of_slice h2; subst this
        simp only [Bool.and_eq_true] at h
        obtain ⟨⟨ha, hb⟩, hc⟩ := h
        split at hc
        · rename_i y hy
          have hy0 : 0 < y.size := by simpa using hc
          have hcs := (hE.ty e y hy).cellsOf
          rcases DataW.trod_slice h1 hx with ⟨rfl, _⟩ | ⟨a, len, cap, elems, rest, k, _, rfl, _, q1, q2, q3, q4, q5, _⟩
          · exact ⟨[.nils], .one .nils, d, hd, by simpa using (beq_iff_eq.1 ha).symm, by rw [hu]; exact ⟨y, hy, .inl rfl⟩⟩
          · rw [hcs] at q5
            have each : ∀ i, i < len → ∃ v : V, Shp E n e v.cells ∧ (y.agg = true → ∃ cs, v = .agg cs) ∧ v.cells.length = y.size ∧ (∀ j u, v.cells[j]? = some u → ∃ z, w.cell? (a.add (i * y.size + j)) = some z ∧ RG (fun r => r < w.heap.size) w u z) ∧ a.block < w.heap.size := by
              intro i hi
              have hb5 := q5 i hi
              rw [List.getElem?_eq_getElem (by omega)] at hb5
              obtain ⟨cs', c1, c2⟩ := Option.bind_eq_some_iff.1 hb5
              obtain ⟨vs, v1, v2⟩ := open_shp hE n e k cs' _ hb c2
              obtain ⟨d', d1, d2, _⟩ : ∃ d', E.ty e = some d' ∧ vs.length = d'.size ∧ True := by
                cases n with
                | zero => exact v2.elim
                | succ n => obtain ⟨d', d1, d2, _⟩ := v2; exact ⟨d', d1, d2, trivial⟩
              rw [hy] at d1; cases d1
              have hcl := World.cells?_some c1
              have hblk := World.cells?_block c1 hy0
              rw [Addr.block_add] at hblk
              have cells : ∀ j u, vs[j]? = some u → ∃ z, w.cell? (a.add (i * y.size + j)) = some z ∧ RG (fun r => r < w.heap.size) w u z := by
                intro j u hj
                have hjl : j < vs.length := (List.getElem?_eq_some_iff.1 hj).1
                have hjc : j < cs'.length := by rw [← v1.1]; exact hjl
                refine ⟨cs'[j], ?_, v1.2 j u _ hj (List.getElem?_eq_getElem hjc)⟩
                have := hcl.2.2 j (by omega)
                rw [Addr.add_add] at this
                rw [this, List.getElem?_eq_getElem hjc]
              by_cases hag : y.agg = true
              · exact ⟨.agg vs, v2, fun _ => ⟨vs, rfl⟩, d2, cells, hblk⟩
              · have hlen1 : vs.length = 1 := by
                  have hT := hE.ty e y hy
                  rw [d2, ← hT.zs, hT.zl (by simpa using hag)]
                match vs, hlen1 with
                | [v0], _ =>
                  have hcell := v2.cell
                  have hv0 : v0.cells = [v0] := by cases v0 <;> simp [V.isCell] at hcell <;> rfl
                  refine ⟨v0, by rw [hv0]; exact v2, fun h => absurd h hag, by rw [hv0]; exact d2, by rw [hv0]; exact cells, hblk⟩
            obtain ⟨es, e1, e2⟩ := choose_list len each
            refine ⟨[.lst y.size es], .one ?_, d, hd, by simpa using (beq_iff_eq.1 ha).symm, ?_⟩
            · rw [← e1]
              refine .lst es a cap y.size (fun i j => (w.cell? (a.add (i * y.size + j))).getD .nilIface) (fun i v hv => (e2 i v hv).2.2.1) (fun i j hi hj => ?_) (fun i j v u hv hu => ?_) (fun hne => ?_) (by omega) (fun i v hv => (e2 i v hv).1.cell)
              · have hq := e2 i es[i] (List.getElem?_eq_getElem hi)
                have hjl : j < es[i].cells.length := by rw [hq.2.2.1]; exact hj
                obtain ⟨z, z1, _⟩ := hq.2.2.2.1 j _ (List.getElem?_eq_getElem hjl)
                rw [z1]; rfl
              · obtain ⟨z, z1, z2⟩ := (e2 i v hv).2.2.2.1 j u hu
                rw [z1]; exact z2
              · cases es with
                | nil => exact absurd rfl hne
                | cons v es => exact (e2 0 v rfl).2.2.2.2
            · rw [hu]
              refine ⟨y, hy, .inr ⟨es, rfl, by omega, fun v hv => ?_⟩⟩
              obtain ⟨i, hi⟩ := List.mem_iff_getElem?.1 hv
              exact ⟨(e2 i v hi).1, (e2 i v hi).2.1⟩
        · cases hc
      · rename_i fs hu
        rw [hu] at h2
        obtain ⟨gs, rfl, g2⟩ := of_struct h2
        obtain ⟨xs, k, _, _, q1, q2, q3⟩ := DataW.trod_struct h1 hx
        have hcs := (hE.ty t d hd).cellsOf
        rw [hcs] at q1
        have key : ∀ (fl : List Field) (o : Nat), (∀ f ∈ fl, f ∈ gs.toList) → contigB E (shpB E n) o (fl.map fun f => (f.type, f.offset)) = some d.size → ∃ vs, RGs w vs (cs.drop o) ∧ ShpFs (Shp E n) (fl.map fun f => (f.type, f.offset)) vs := by
          intro fl
          induction fl with
          | nil =>
            intro o _ hc
            simp [contigB] at hc; subst hc
            refine ⟨[], ⟨by simp; omega, fun i v x hv => by simp at hv⟩, rfl⟩
          | cons f fl ih =>
            intro o hm hc
            simp only [List.map_cons, contigB] at hc
            obtain ⟨df, hdf, hc⟩ := Option.bind_eq_some_iff.1 hc
            split at hc
            · rename_i hcc
              obtain ⟨c1, c2⟩ := hcc
              obtain ⟨vs, v1, v2⟩ := ih (o + df.size) (fun g hg => hm g (by simp [hg])) hc
              obtain ⟨i, hi⟩ := List.mem_iff_getElem?.1 (hm f (by simp))
              have hi' : gs[i]? = some f := by simpa using hi
              have hq3 := q3 i f hi'
              have hil : i < xs.length := by rw [q2]; exact (Array.getElem?_eq_some_iff.1 hi').1
              rw [List.getElem?_eq_getElem hil, (hE.ty _ df hdf).cellsOf, c1] at hq3
              obtain ⟨us, u1, u2⟩ := open_shp hE n f.type k _ _ c2 hq3
              refine ⟨us ++ vs, ?_, us, vs, rfl, u2, v2⟩
              have := u1.append v1
              rw [← List.drop_drop, List.take_append_drop] at this
              exact this
            · cases hc
        obtain ⟨vs, v1, v2⟩ := key gs.toList 0 (fun f hf => hf) (by rw [g2]; exact beq_iff_eq.1 h)
        rw [List.drop_zero] at v1
        refine ⟨vs, v1, d, hd, by rw [v1.1]; exact q1, ?_⟩
        rw [hu, ← g2]; exact v2
      · cases h

end
end Go.Sb
