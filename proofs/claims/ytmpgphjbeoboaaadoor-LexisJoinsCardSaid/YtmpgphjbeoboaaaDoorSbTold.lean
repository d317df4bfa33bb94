/- The seat's surroundings: tables of the library's, '==' at structs, the library's functions told by their contracts. -/
import Derived.Test.YtmpgphjbeoboaaaDoorSbEnv
import Derived.Test.YtmpgphjbeoboaaaDoorSbShelf
import Derived.Test.YtmpgphjbeoboaaaDoorSbTell
import Derived.Test.YtmpgphjbeoboaaaDoorSbIdx
import Derived.Test.YtmpgphjbeoboaaaDoorSbLexP
import Derived.Lib.Space
import Derived.Lib.Fields
import Derived.Lib.ItoaMem
import Derived.Lib.AtoiErrMem
set_option linter.unusedVariables false
set_option linter.unusedSimpArgs false
namespace Go.Proofs.YtmpgphjbeoboaaaDoor
open Go.Sb Go.RowKit
set_option maxRecDepth 100000

def spaceV : List V := Lib.asciiSpaceTab.map (V.int .u8)
def pow10V : List V := Lib.pow10Tab.map (V.int .u64)
/-- An error that is not nil, whatever it leads to. -/
def errV : List V := [.ifc 148 .junk]

noncomputable def envA : Env := { ty := tyT, fn := fnT, gl := fun g => bif Nat.beq g 0 then some spaceV else bif Nat.beq g 7 then some pow10V else bif Nat.beq g 5 then some errV else bif Nat.beq g 6 then some errV else bif Nat.beq g 1 then some [.ub .i64] else none, ext := fun f => bif Nat.beq f 104 then some idxV else none, lib := fun _ => none, eqs := fun _ => none }

theorem envA_ok : EnvOk Tryd.prog envA where
  ty := tyT_ok
  fn := fnT_ok
  ext := fun f p h => by
    simp only [envA, cond_eq_ite] at h
    split at h
    · rename_i e; have e := Nat.eq_of_beq_eq_true e; subst e; cases h
      exact extOk_idx (e := Extern.BytealgIndexByte.indexByte) Tryd.func104 (by kernel_rfl) (by kernel_rfl) (by kernel_rfl) (by kernel_rfl) rfl
    · cases h
  lib := fun f p h => by cases h
  eqs := fun t f h => by cases h
  mixed := by kernel_rfl
  gd := fun f G h => by cases h

def plainS : List TypeId := [35]
theorem plainS_ok : plainS.all (plainStruct Tryd.prog) = true := by kernel_rfl

noncomputable def envB : Env := { envA with eqs := eqLine envA plainS }
theorem envB_ok : EnvOk Tryd.prog envB := eqs_ok envA_ok plainS_ok

/-! What is told -/
def tellItoa (vs : List V) : Option V := match vs with
  | [.int .i64 n] => if -9223372036854775808 ≤ n ∧ n ≤ 9223372036854775807 then some (.str (Lib.itoa n)) else none
  | _ => none

theorem itoa_lib {E : Env} (hgl : E.gl = envA.gl) : LibOk Tryd.prog E 80 tellItoa := by
  intro ro w vs xs v h1 h2 h3 h4 h5
  unfold tellItoa at h5
  split at h5
  · rename_i n
    split at h5
    · rename_i hn
      cases h5
      match xs, h3 with
      | [x], _ =>
        have hx := h4 0 _ x rfl rfl
        cases hx
        refine (Tryd.strconv_Itoa n hn.1 hn.2 w (tabIs_of (g := 7) (by kernel_rfl) (h2 _ pow10V (by rw [hgl]; rfl)))).mono fun e w' hr => ?_
        obtain ⟨rfl, k, os, rfl⟩ := hr
        refine ⟨⟨rfl, rfl, rfl⟩, by simp [Sort.grow, World.drewN], fun r hr => ?_, _, rfl, .str _⟩
        simp only [Sort.grow, World.drewN]
        rw [Array.getElem?_append_left hr]
    · cases h5
  · cases h5

def atoiV (s : List UInt8) : V := match Lib.atoiAll s with
  | .ok v => .tup [.int .i64 v, .nili]
  | Lib.NumEnd.syntax => .tup [.int .i64 0, .ifc 130 (.rop [])]
  | .range => .tup [.int .i64 (Lib.atoiSat s), .ifc 130 (.rop [])]

def tellAtoi (vs : List V) : Option V := match vs with
  | [.str s] => if s.length ≤ 281474976710656 then some (atoiV s) else none
  | _ => none

theorem atoi_lib {E : Env} (hgl : E.gl = envA.gl) : LibOk Tryd.prog E 79 tellAtoi := by
  intro ro w vs xs v h1 h2 h3 h4 h5
  unfold tellAtoi at h5
  split at h5
  · rename_i s
    split at h5
    · rename_i hn
      cases h5
      match xs, h3 with
      | [x], _ =>
        have hx := h4 0 _ x rfl rfl
        cases hx
        have hsz : (⟨⟨s⟩⟩ : ByteArray).size = s.length := by simp [ByteArray.size]
        have hsize : (⟨⟨s⟩⟩ : ByteArray).size ≤ 281474976710656 := by rw [hsz]; exact hn
        unfold atoiV
        match ha : Lib.atoiAll s with
        | .ok v =>
          refine (Tryd.strconv_Atoi_ok ⟨⟨s⟩⟩ (by omega) v ha w).mono fun e w' hr => ?_
          obtain ⟨rfl, hw⟩ := hr
          have hb : Below w.heap.size w w' := by
            rcases hw with rfl | ⟨t, rfl⟩
            · exact Below.refl _ _
            · exact Lib.bytesWorld_below w 5 t
          exact below_out hb (rg_pair (.int _ _) .nili) rfl
        | Lib.NumEnd.syntax =>
          obtain ⟨u, p, hp⟩ := err_var (P := Tryd.prog) (n := "strconv.ErrSyntax") (h2 5 errV (by rw [hgl]; rfl)) (by kernel_rfl)
          refine (Tryd.strconv_Atoi_syntax_var ⟨⟨s⟩⟩ hsize ha u p w hp).mono fun e w' hr => ?_
          obtain ⟨N, rfl, _, _, hb⟩ := hr
          exact below_out hb (rg_pair (.int _ _) (rg_err _ N)) rfl
        | .range =>
          obtain ⟨u, p, hp⟩ := err_var (P := Tryd.prog) (n := "strconv.ErrRange") (h2 6 errV (by rw [hgl]; rfl)) (by kernel_rfl)
          refine (Tryd.strconv_Atoi_range_var ⟨⟨s⟩⟩ hsize ha u p w hp).mono fun e w' hr => ?_
          obtain ⟨N, rfl, _, _, hb⟩ := hr
          exact below_out hb (rg_pair (.int _ _) (rg_err _ N)) rfl
    · cases h5
  · cases h5

def tellReplace (vs : List V) : Option V := match vs with
  | [.str s, .str o, .str n] => if s.length ≤ 1000000 ∧ 1 ≤ o.length ∧ o.length ≤ 1000 ∧ n.length ≤ 1000 then some (.str (Lib.replaceAll s o n)) else none
  | _ => none

theorem ba_size (s : List UInt8) : (⟨⟨s⟩⟩ : ByteArray).size = s.length := by simp [ByteArray.size]

theorem replace_lib {E : Env} (hgl : E.gl = envA.gl) : LibOk Tryd.prog E 39 tellReplace := by
  intro ro w vs xs v h1 h2 h3 h4 h5
  unfold tellReplace at h5
  split at h5
  · rename_i s o n
    split at h5
    · rename_i hn
      cases h5
      match xs, h3 with
      | [x, y, z], _ =>
        have hx := h4 0 _ x rfl rfl
        have hy := h4 1 _ y rfl rfl
        have hz := h4 2 _ z rfl rfl
        cases hx; cases hy; cases hz
        obtain ⟨m, hm⟩ := ub_cell (h2 1 [.ub .i64] (by rw [hgl]; rfl))
        have hmul := Lib.countB_mul_le ⟨⟨o⟩⟩ (by rw [ba_size]; omega) s.length ⟨⟨s⟩⟩ (by rw [ba_size]; exact Nat.le_refl _)
        rw [ba_size, ba_size] at hmul
        have hc : Lib.countB ⟨⟨s⟩⟩ ⟨⟨o⟩⟩ ≤ s.length := Nat.le_trans (Nat.le_mul_of_pos_right _ (by omega)) hmul
        have hc2 : Lib.countB ⟨⟨s⟩⟩ ⟨⟨o⟩⟩ * n.length ≤ s.length * 1000 := Nat.mul_le_mul hc hn.2.2.2
        refine (Tryd.strings_ReplaceAll ⟨⟨s⟩⟩ ⟨⟨o⟩⟩ ⟨⟨n⟩⟩ m w (by rw [ba_size]; omega) hm (by rw [ba_size]; exact hn.2.1) (by rw [ba_size, ba_size]; omega)).mono fun e w' hr => ?_
        obtain ⟨rfl, hb⟩ := hr
        exact below_out hb (.str _) rfl
    · cases h5
  · cases h5

def tellFields (vs : List V) : Option V := match vs with
  | [.str s] => if s.length ≤ 1000000 ∧ s.all (fun c => c.toNat < 128) = true then some (.lst 1 ((Lib.fields s).map V.str)) else none
  | _ => none

theorem fields_lib {E : Env} (hgl : E.gl = envA.gl) : LibOk Tryd.prog E 62 tellFields := by
  intro ro w vs xs v h1 h2 h3 h4 h5
  unfold tellFields at h5
  split at h5
  · rename_i s
    split at h5
    · rename_i hn
      cases h5
      match xs, h3 with
      | [x], _ =>
        have hx := h4 0 _ x rfl rfl
        cases hx
        refine (Tryd.strings_Fields_laid ⟨⟨s⟩⟩ w (by rw [ba_size]; omega) (fun j b hb => by simpa using List.all_eq_true.1 hn.2 b (List.mem_of_getElem? hb)) (tabIs_of (g := 0) (by kernel_rfl) (h2 _ spaceV (by rw [hgl]; rfl)))).mono fun e w' hr => ?_
        obtain ⟨rfl, rfl⟩ := hr
        refine ⟨⟨rfl, rfl, rfl⟩, ?_, fun r hr => ?_, _, rfl, rg_strs _ _ _⟩
        · show w.heap.size ≤ (w.heap.push _).size
          simp
        · show (w.heap.push _)[r]? = _
          rw [Array.getElem?_push, if_neg (by omega)]
    · cases h5
  · cases h5

def tellCount (vs : List V) : Option V := match vs with
  | [.str s, .str [c]] => some (.int .i64 (s.count c))
  | _ => none
theorem count_lib {E : Env} : LibOk Tryd.prog E 49 tellCount := by
  intro ro w vs xs v h1 h2 h3 h4 h5
  unfold tellCount at h5
  split at h5
  · rename_i s c
    cases h5
    match xs, h3 with
    | [x, y], _ =>
      have hx := h4 0 _ x rfl rfl
      have hy := h4 1 _ y rfl rfl
      cases hx; cases hy
      refine (Tryd.strings_Count_one ⟨⟨s⟩⟩ c w).mono fun e w' hr => ?_
      obtain ⟨rfl, rfl⟩ := hr
      exact below_out (Below.refl _ _) (.int _ _) rfl
  · cases h5

def tellLast (vs : List V) : Option V := match vs with
  | [.str s, .str [10]] => if s.length ≤ 1000000 then some (.int .i64 ((s.length : Int) - Lex.colL s)) else none
  | _ => none
theorem last_lib {E : Env} : LibOk Tryd.prog E 50 tellLast := by
  intro ro w vs xs v h1 h2 h3 h4 h5
  unfold tellLast at h5
  split at h5
  · rename_i s
    split at h5
    · rename_i hn
      cases h5
      match xs, h3 with
      | [x, y], _ =>
        have hx := h4 0 _ x rfl rfl
        have hy := h4 1 _ y rfl rfl
        cases hx; cases hy
        refine (Tryd.strings_LastIndex_one ⟨⟨s⟩⟩ ⟨⟨[10]⟩⟩ rfl (by rw [ba_size]; omega) w).mono fun e w' hr => ?_
        obtain ⟨rfl, rfl⟩ := hr
        have e : Lib.lastIndexByte ⟨⟨s⟩⟩ 10 = (s.length : Int) - Lex.colL s := by
          unfold Lib.lastIndexByte
          rw [ba_size, Lex.last_col s s.length (Nat.le_refl _), List.take_length]
        rw [← e]
        exact below_out (Below.refl _ _) (.int _ _) rfl
    · cases h5
  · cases h5

def unStrs : List V → Option (List (List UInt8))
  | [] => some []
  | .str s :: vs => (unStrs vs).map (s :: ·)
  | _ => none
theorem unStrs_map : ∀ {vs : List V} {ss : List (List UInt8)}, unStrs vs = some ss → vs = ss.map V.str
  | [], ss, h => by cases h; rfl
  | v :: vs, ss, h => by
    cases v with
    | str s =>
      simp only [unStrs] at h
      obtain ⟨r, hr, rfl⟩ := Option.map_eq_some_iff.1 h
      rw [List.map_cons, ← unStrs_map hr]
    | _ => simp [unStrs] at h
theorem unStrs_of : ∀ ss : List (List UInt8), unStrs (ss.map V.str) = some ss
  | [] => rfl
  | s :: ss => by rw [List.map_cons, unStrs, unStrs_of ss]; rfl
def tellJoin (vs : List V) : Option V := match vs with
  | [.lst 1 es, .str sep] => (unStrs es).bind fun ss => if ss.length ≤ 1000000 ∧ (Lib.join ss sep).length ≤ 100000000 then some (.str (Lib.join ss sep)) else none
  | [.nils, .str _] => some (.str [])
  | _ => none
theorem join_lib {E : Env} : LibOk Tryd.prog E 48 tellJoin := by
  intro ro w vs xs v h1 h2 h3 h4 h5
  unfold tellJoin at h5
  split at h5
  · rename_i es sep
    obtain ⟨ss, hss, h5⟩ := Option.bind_eq_some_iff.1 h5
    split at h5
    · rename_i hn
      cases h5
      have hes := unStrs_map hss
      subst hes
      match xs, h3 with
      | [x, y], _ =>
        have hx := h4 0 _ x rfl rfl
        have hy := h4 1 _ y rfl rfl
        cases hy
        cases hx with
        | lst _ a cap _ f e0 e1 e2 e3 e4 e5 =>
          have cells : ∀ (j : Nat) (s : List UInt8), ss[j]? = some s → w.cell? (a.add j) = some (.string ⟨⟨s⟩⟩) := fun j s hj => by
            have hjl := (List.getElem?_eq_some_iff.1 hj).1
            have hg := e1 j 0 (by simpa using hjl) (by omega)
            have hr := e2 j 0 (.str s) (.str s) (by rw [List.getElem?_map, hj]; rfl) rfl
            rw [Nat.mul_one, Nat.add_zero] at hg
            cases hf : f j 0 with
            | string b => rw [hf] at hr; cases hr; rw [hg, hf]
            | _ => rw [hf] at hr; cases hr
          have hlen : (ss.map V.str).length = ss.length := by simp
          by_cases hne : ss = []
          · subst hne
            refine (Tryd.strings_Join_none (some a) cap ⟨⟨sep⟩⟩ w).mono fun e w' hr => ?_
            obtain ⟨rfl, rfl⟩ := hr
            exact below_out (Below.refl _ _) (.str []) rfl
          · obtain ⟨s0, hs0⟩ : ∃ s, ss[0]? = some s := ⟨_, List.getElem?_eq_getElem (List.length_pos_iff.2 hne)⟩
            have hspot : a = ⟨a.block, a.off, none⟩ := by
              have h := cells 0 s0 hs0
              have ha : a.add 0 = a := by unfold Addr.add; rw [if_pos rfl]
              rw [ha] at h
              unfold World.cell? at h
              split at h
              · split at h
                · cases h
                · rename_i q; cases a with | mk b o sp => cases sp with | none => rfl | some _ => simp at q
              · cases h
            have hadd : ∀ j, a.add j = ⟨a.block, a.off + j, none⟩ := fun j => by
              unfold Addr.add
              by_cases hj : j = 0
              · subst hj; rw [if_pos rfl]; exact hspot
              · rw [if_neg hj]
            have hb : a.block < w.heap.size := by
              have h := cells 0 s0 hs0
              have ha : a.add 0 = a := by unfold Addr.add; rw [if_pos rfl]
              rw [ha] at h
              unfold World.cell? at h
              split at h
              · rename_i hq; exact (Array.getElem?_eq_some_iff.1 hq).1
              · cases h
            have hmap : (ss.map (fun s => (⟨⟨s⟩⟩ : ByteArray))).map (·.data.toList) = ss := by rw [List.map_map]; exact List.map_id _
            have key := Tryd.strings_Join a.block a.off cap (ss.map fun s => ⟨⟨s⟩⟩) ⟨⟨sep⟩⟩ w (fun j x hj => by
              rw [List.getElem?_map] at hj
              obtain ⟨s, hs, rfl⟩ := Option.map_eq_some_iff.1 hj
              rw [← hadd j]; exact cells j s hs) hb (by rw [List.length_map]; omega) (by rw [List.length_map]; rw [hlen] at e4; exact e4) (by rw [hmap]; exact Nat.le_trans hn.2 (by decide))
            rw [hmap, List.length_map] at key
            rw [hlen, hspot]
            refine key.mono fun e w' hr => ?_
            obtain ⟨rfl, hbl⟩ := hr
            exact below_out hbl (.str _) rfl
    · cases h5
  · rename_i sep
    cases h5
    match xs, h3 with
    | [x, y], _ =>
      have hx := h4 0 _ x rfl rfl
      have hy := h4 1 _ y rfl rfl
      cases hx
      cases hy
      refine (Tryd.strings_Join_none none 0 ⟨⟨sep⟩⟩ w).mono fun e w' hr => ?_
      obtain ⟨rfl, rfl⟩ := hr
      exact below_out (Below.refl _ _) (.str []) rfl
  · cases h5

theorem lt_f {f : FuncId} {F : Func} (h1 : Tryd.prog.funcs[f]? = some F) (h2 : F.body.isSome = true) (h3 : (F.name == "runtime.NumGoroutine") = false) : ∃ F, Tryd.prog.funcs[f]? = some F ∧ F.body.isSome = true ∧ (F.name == "runtime.NumGoroutine") = false := ⟨F, h1, h2, h3⟩

noncomputable def envC : Env := ((((((envB.told 80 tellItoa).told 79 tellAtoi).told 39 tellReplace).told 62 tellFields).told 49 tellCount).told 50 tellLast).told 48 tellJoin
theorem envC_ok : EnvOk Tryd.prog envC := by
  refine EnvOk.addLib (EnvOk.addLib (EnvOk.addLib (EnvOk.addLib (EnvOk.addLib (EnvOk.addLib (EnvOk.addLib envB_ok (itoa_lib rfl) ?_) (atoi_lib rfl) ?_) (replace_lib rfl) ?_) (fields_lib rfl) ?_) count_lib ?_) last_lib ?_) join_lib ?_
  · exact lt_f Tryd.func80 (by kernel_rfl) (by kernel_rfl)
  · exact lt_f Tryd.func79 (by kernel_rfl) (by kernel_rfl)
  · exact lt_f Tryd.func39 (by kernel_rfl) (by kernel_rfl)
  · exact lt_f Tryd.func62 (by kernel_rfl) (by kernel_rfl)
  · exact lt_f Tryd.func49 (by kernel_rfl) (by kernel_rfl)
  · exact lt_f Tryd.func50 (by kernel_rfl) (by kernel_rfl)
  · exact lt_f Tryd.func48 (by kernel_rfl) (by kernel_rfl)
end Go.Proofs.YtmpgphjbeoboaaaDoor
