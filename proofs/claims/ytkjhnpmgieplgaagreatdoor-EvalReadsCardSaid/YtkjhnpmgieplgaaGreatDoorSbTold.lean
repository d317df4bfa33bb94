/- The seat's surroundings: tables of the library's, '==' at structs, the library's functions told by their contracts. -/
import Derived.Test.YtkjhnpmgieplgaaGreatDoorSbEnv
import Derived.Test.YtkjhnpmgieplgaaGreatDoorSbShelf
import Derived.Test.YtkjhnpmgieplgaaGreatDoorSbTell
import Derived.Test.YtkjhnpmgieplgaaGreatDoorSbIdx
import Derived.Test.YtkjhnpmgieplgaaGreatDoorSbLexP
import Derived.Lib.Space
import Derived.Lib.Fields
import Derived.Lib.ItoaMem
import Derived.Lib.AtoiErrMem
set_option linter.unusedVariables false
set_option linter.unusedSimpArgs false
namespace Go.Proofs.YtkjhnpmgieplgaaGreatDoor
open Go.Sb Go.RowKit
set_option maxRecDepth 100000

def spaceV : List V := Lib.asciiSpaceTab.map (V.int .u8)
def pow10V : List V := Lib.pow10Tab.map (V.int .u64)
/-- An error that is not nil, whatever it leads to. -/
def errV : List V := [.ifc 191 .junk]

noncomputable def envA : Env := { ty := tyT, fn := fnT, gl := fun g => bif Nat.beq g 8 then some spaceV else bif Nat.beq g 3 then some pow10V else bif Nat.beq g 0 then some errV else bif Nat.beq g 1 then some errV else bif Nat.beq g 2 then some [.ub .i64] else none, ext := fun f => bif Nat.beq f 183 then some idxV else none, lib := fun _ => none, eqs := fun _ => none }

theorem envA_ok : EnvOk Tryz.prog envA where
  ty := tyT_ok
  fn := fnT_ok
  ext := fun f p h => by
    simp only [envA, cond_eq_ite] at h
    split at h
    · rename_i e; have e := Nat.eq_of_beq_eq_true e; subst e; cases h
      exact extOk_idx (e := Extern.BytealgIndexByte.indexByte) Tryz.func183 (by kernel_rfl) (by kernel_rfl) (by kernel_rfl) (by kernel_rfl) rfl
    · cases h
  lib := fun f p h => by cases h
  eqs := fun t f h => by cases h
  mixed := by kernel_rfl
  gd := fun f G h => by cases h

def plainS : List TypeId := [90, 23, 37]
theorem plainS_ok : plainS.all (plainStruct Tryz.prog) = true := by kernel_rfl

noncomputable def envB : Env := { envA with eqs := eqLine envA plainS }
theorem envB_ok : EnvOk Tryz.prog envB := eqs_ok envA_ok plainS_ok

/-! What is told -/
def tellItoa (vs : List V) : Option V := match vs with
  | [.int .i64 n] => if -9223372036854775808 ≤ n ∧ n ≤ 9223372036854775807 then some (.str (Lib.itoa n)) else none
  | _ => none

theorem itoa_lib {E : Env} (hgl : E.gl = envA.gl) : LibOk Tryz.prog E 42 tellItoa := by
  intro ro w vs xs v h1 h2 h3 h4 h5
  unfold tellItoa at h5
  split at h5
  · rename_i n
    split at h5
    · rename_i hn
      cases h5
      match xs, h3 with
      | [x], _ =>
        have hx := h4 0 _ x rfl rfl
        cases hx
        refine (Tryz.strconv_Itoa n hn.1 hn.2 w (tabIs_of (g := 3) (by kernel_rfl) (h2 _ pow10V (by rw [hgl]; rfl)))).mono fun e w' hr => ?_
        obtain ⟨rfl, k, os, rfl⟩ := hr
        refine ⟨⟨rfl, rfl, rfl⟩, by simp [Sort.grow, World.drewN], fun r hr => ?_, _, rfl, .str _⟩
        simp only [Sort.grow, World.drewN]
        rw [Array.getElem?_append_left hr]
    · cases h5
  · cases h5

def atoiV (s : List UInt8) : V := match Lib.atoiAll s with
  | .ok v => .tup [.int .i64 v, .nili]
  | Lib.NumEnd.syntax => .tup [.int .i64 0, .ifc 137 (.rop [])]
  | .range => .tup [.int .i64 (Lib.atoiSat s), .ifc 137 (.rop [])]

def tellAtoi (vs : List V) : Option V := match vs with
  | [.str s] => if s.length ≤ 281474976710656 then some (atoiV s) else none
  | _ => none

theorem atoi_lib {E : Env} (hgl : E.gl = envA.gl) : LibOk Tryz.prog E 48 tellAtoi := by
  intro ro w vs xs v h1 h2 h3 h4 h5
  unfold tellAtoi at h5
  split at h5
  · rename_i s
    split at h5
    · rename_i hn
      cases h5
      match xs, h3 with
      | [x], _ =>
        have hx := h4 0 _ x rfl rfl
        cases hx
        have hsz : (⟨⟨s⟩⟩ : ByteArray).size = s.length := by simp [ByteArray.size]
        have hsize : (⟨⟨s⟩⟩ : ByteArray).size ≤ 281474976710656 := by rw [hsz]; exact hn
        unfold atoiV
        match ha : Lib.atoiAll s with
        | .ok v =>
          refine (Tryz.strconv_Atoi_ok ⟨⟨s⟩⟩ (by omega) v ha w).mono fun e w' hr => ?_
          obtain ⟨rfl, hw⟩ := hr
          have hb : Below w.heap.size w w' := by
            rcases hw with rfl | ⟨t, rfl⟩
            · exact Below.refl _ _
            · exact Lib.bytesWorld_below w 5 t
          exact below_out hb (rg_pair (.int _ _) .nili) rfl
        | Lib.NumEnd.syntax =>
          obtain ⟨u, p, hp⟩ := err_var (P := Tryz.prog) (n := "strconv.ErrSyntax") (h2 0 errV (by rw [hgl]; rfl)) (by kernel_rfl)
          refine (Tryz.strconv_Atoi_syntax_var ⟨⟨s⟩⟩ hsize ha u p w hp).mono fun e w' hr => ?_
          obtain ⟨N, rfl, _, _, hb⟩ := hr
          exact below_out hb (rg_pair (.int _ _) (rg_err _ N)) rfl
        | .range =>
          obtain ⟨u, p, hp⟩ := err_var (P := Tryz.prog) (n := "strconv.ErrRange") (h2 1 errV (by rw [hgl]; rfl)) (by kernel_rfl)
          refine (Tryz.strconv_Atoi_range_var ⟨⟨s⟩⟩ hsize ha u p w hp).mono fun e w' hr => ?_
          obtain ⟨N, rfl, _, _, hb⟩ := hr
          exact below_out hb (rg_pair (.int _ _) (rg_err _ N)) rfl
    · cases h5
  · cases h5

def tellReplace (vs : List V) : Option V := match vs with
  | [.str s, .str o, .str n] => if s.length ≤ 1000000 ∧ 1 ≤ o.length ∧ o.length ≤ 1000 ∧ n.length ≤ 1000 then some (.str (Lib.replaceAll s o n)) else none
  | _ => none

theorem ba_size (s : List UInt8) : (⟨⟨s⟩⟩ : ByteArray).size = s.length := by simp [ByteArray.size]

theorem replace_lib {E : Env} (hgl : E.gl = envA.gl) : LibOk Tryz.prog E 49 tellReplace := by
  intro ro w vs xs v h1 h2 h3 h4 h5
  unfold tellReplace at h5
  split at h5
  · rename_i s o n
    split at h5
    · rename_i hn
      cases h5
      match xs, h3 with
      | [x, y, z], _ =>
        have hx := h4 0 _ x rfl rfl
        have hy := h4 1 _ y rfl rfl
        have hz := h4 2 _ z rfl rfl
        cases hx; cases hy; cases hz
        obtain ⟨m, hm⟩ := ub_cell (h2 2 [.ub .i64] (by rw [hgl]; rfl))
        have hmul := Lib.countB_mul_le ⟨⟨o⟩⟩ (by rw [ba_size]; omega) s.length ⟨⟨s⟩⟩ (by rw [ba_size]; exact Nat.le_refl _)
        rw [ba_size, ba_size] at hmul
        have hc : Lib.countB ⟨⟨s⟩⟩ ⟨⟨o⟩⟩ ≤ s.length := Nat.le_trans (Nat.le_mul_of_pos_right _ (by omega)) hmul
        have hc2 : Lib.countB ⟨⟨s⟩⟩ ⟨⟨o⟩⟩ * n.length ≤ s.length * 1000 := Nat.mul_le_mul hc hn.2.2.2
        refine (Tryz.strings_ReplaceAll ⟨⟨s⟩⟩ ⟨⟨o⟩⟩ ⟨⟨n⟩⟩ m w (by rw [ba_size]; omega) hm (by rw [ba_size]; exact hn.2.1) (by rw [ba_size, ba_size]; omega)).mono fun e w' hr => ?_
        obtain ⟨rfl, hb⟩ := hr
        exact below_out hb (.str _) rfl
    · cases h5
  · cases h5

def tellCut (vs : List V) : Option V := match vs with
  | [.str s, .str o] => if s.length ≤ 1000000 then some (.tup [.str (Lib.cut s o).1, .str (Lib.cut s o).2.1, .bool (Lib.cut s o).2.2]) else none
  | _ => none

theorem rg_three {ro : Nat → Prop} {w : World} {a b c : V} {x y z : Value} (h1 : RG ro w a x) (h2 : RG ro w b y) (h3 : RG ro w c z) : RG ro w (.tup [a, b, c]) (.tuple #[x, y, z]) :=
  .tup _ _ rfl fun i v u hv hz => by
    match i with
    | 0 => cases hv; cases hz; exact h1
    | 1 => cases hv; cases hz; exact h2
    | 2 => cases hv; cases hz; exact h3
    | i + 3 => simp at hv

theorem cut_lib {E : Env} (hgl : E.gl = envA.gl) : LibOk Tryz.prog E 51 tellCut := by
  intro ro w vs xs v h1 h2 h3 h4 h5
  unfold tellCut at h5
  split at h5
  · rename_i s o
    split at h5
    · rename_i hn
      cases h5
      match xs, h3 with
      | [x, y], _ =>
        have hx := h4 0 _ x rfl rfl
        have hy := h4 1 _ y rfl rfl
        cases hx; cases hy
        obtain ⟨m, hm⟩ := ub_cell (h2 2 [.ub .i64] (by rw [hgl]; rfl))
        refine (Tryz.strings_Cut ⟨⟨s⟩⟩ ⟨⟨o⟩⟩ m w (by rw [ba_size]; omega) hm).mono fun e w' hr => ?_
        obtain ⟨rfl, n, rfl⟩ := hr
        exact ⟨⟨rfl, rfl, rfl⟩, Nat.le_refl _, fun r _ => rfl, _, rfl, rg_three (.str _) (.str _) (.bool _)⟩
    · cases h5
  · cases h5

def tellFields (vs : List V) : Option V := match vs with
  | [.str s] => if s.length ≤ 1000000 ∧ s.all (fun c => c.toNat < 128) = true then some (.lst 1 ((Lib.fields s).map V.str)) else none
  | _ => none

theorem fields_lib {E : Env} (hgl : E.gl = envA.gl) : LibOk Tryz.prog E 188 tellFields := by
  intro ro w vs xs v h1 h2 h3 h4 h5
  unfold tellFields at h5
  split at h5
  · rename_i s
    split at h5
    · rename_i hn
      cases h5
      match xs, h3 with
      | [x], _ =>
        have hx := h4 0 _ x rfl rfl
        cases hx
        refine (Tryz.strings_Fields_laid ⟨⟨s⟩⟩ w (by rw [ba_size]; omega) (fun j b hb => by simpa using List.all_eq_true.1 hn.2 b (List.mem_of_getElem? hb)) (tabIs_of (g := 8) (by kernel_rfl) (h2 _ spaceV (by rw [hgl]; rfl)))).mono fun e w' hr => ?_
        obtain ⟨rfl, rfl⟩ := hr
        refine ⟨⟨rfl, rfl, rfl⟩, ?_, fun r hr => ?_, _, rfl, rg_strs _ _ _⟩
        · show w.heap.size ≤ (w.heap.push _).size
          simp
        · show (w.heap.push _)[r]? = _
          rw [Array.getElem?_push, if_neg (by omega)]
    · cases h5
  · cases h5

def tellCount (vs : List V) : Option V := match vs with
  | [.str s, .str [c]] => some (.int .i64 (s.count c))
  | _ => none
theorem count_lib {E : Env} : LibOk Tryz.prog E 104 tellCount := by
  intro ro w vs xs v h1 h2 h3 h4 h5
  unfold tellCount at h5
  split at h5
  · rename_i s c
    cases h5
    match xs, h3 with
    | [x, y], _ =>
      have hx := h4 0 _ x rfl rfl
      have hy := h4 1 _ y rfl rfl
      cases hx; cases hy
      refine (Tryz.strings_Count_one ⟨⟨s⟩⟩ c w).mono fun e w' hr => ?_
      obtain ⟨rfl, rfl⟩ := hr
      exact below_out (Below.refl _ _) (.int _ _) rfl
  · cases h5

theorem lt_f {f : FuncId} {F : Func} (h1 : Tryz.prog.funcs[f]? = some F) (h2 : F.body.isSome = true) (h3 : (F.name == "runtime.NumGoroutine") = false) : ∃ F, Tryz.prog.funcs[f]? = some F ∧ F.body.isSome = true ∧ (F.name == "runtime.NumGoroutine") = false := ⟨F, h1, h2, h3⟩

noncomputable def envC : Env := (((((envB.told 42 tellItoa).told 48 tellAtoi).told 49 tellReplace).told 51 tellCut).told 188 tellFields).told 104 tellCount
theorem envC_ok : EnvOk Tryz.prog envC := by
  refine EnvOk.addLib (EnvOk.addLib (EnvOk.addLib (EnvOk.addLib (EnvOk.addLib (EnvOk.addLib envB_ok (itoa_lib rfl) ?_) (atoi_lib rfl) ?_) (replace_lib rfl) ?_) (cut_lib rfl) ?_) (fields_lib rfl) ?_) count_lib ?_
  · exact lt_f Tryz.func42 (by kernel_rfl) (by kernel_rfl)
  · exact lt_f Tryz.func48 (by kernel_rfl) (by kernel_rfl)
  · exact lt_f Tryz.func49 (by kernel_rfl) (by kernel_rfl)
  · exact lt_f Tryz.func51 (by kernel_rfl) (by kernel_rfl)
  · exact lt_f Tryz.func188 (by kernel_rfl) (by kernel_rfl)
  · exact lt_f Tryz.func104 (by kernel_rfl) (by kernel_rfl)
end Go.Proofs.YtkjhnpmgieplgaaGreatDoor
