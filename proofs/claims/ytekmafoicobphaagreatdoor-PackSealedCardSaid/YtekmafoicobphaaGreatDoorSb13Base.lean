/- Functions with a deferred closure: read off their code. -/
import Derived.Test.YtekmafoicobphaaGreatDoorSbLib
import Derived.Test.YtekmafoicobphaaGreatDoorSbEnv
import Derived.Test.YtekmafoicobphaaGreatDoorSbShelf
import Derived.Test.YtekmafoicobphaaGreatDoorSbShaped
import Derived.Test.YtekmafoicobphaaGreatDoorSbIdx
import Derived.Test.YtekmafoicobphaaGreatDoorSbLexP
import Derived.Lib.Space
import Derived.Lib.Fields
import Derived.Lib.ItoaMem
import Derived.Test.YtekmafoicobphaaGreatDoorSbOwnE
set_option linter.unusedVariables false
set_option linter.unusedSimpArgs false
namespace Go.Sb
def yen : Nat → Code → List Code × Code
 | k + 1, .seq a b => (a :: (yen k b).1, (yen k b).2)
 | _, c => ([], c)
theorem ypj : ∀ (k : Nat) (c : Code), seqs (yen k c).1 (yen k c).2 = c
 | 0, c => by unfold yen; rfl
 | k + 1, c => by
  cases c <;> simp only [yen, seqs]
  rw [ypj k]
def isMk : Op → Bool
 | .makeFunc (.func _) ⟨[]⟩ _ => true
 | _ => false
def ylq (k : Nat) (d gd : FnD) (g : FuncId) : Option GuardD :=
 match (yen k d.body).2, gd.body with
 | .seq (.region id ⟨[m, ⟨dst, .defer ⟨.value (.tmp t), ⟨[]⟩, ts⟩, ty, pos, after, none⟩]⟩ false) rest, .seq (.region gid ⟨[⟨rdst, .call ⟨.builtin .recover, ⟨[]⟩, rts⟩, rty, rpos, rafter, none⟩]⟩ false) grest =>
  if m.guard = none ∧ isMk m.op = true ∧ ((yen k d.body).1.all ycq = true ∧ ycq rest = true ∧ ycq grest = true) then some { d := d, first := (yen k d.body).1, id := id, mkf := m, df := ⟨dst, .defer ⟨.value (.tmp t), #[], ts⟩, ty, pos, after, none⟩, t := t, rest := rest, g := g, gd := gd, gid := gid, rc := ⟨rdst, .call ⟨.builtin .recover, #[], rts⟩, rty, rpos, rafter, none⟩, grest := grest } else none
 | _, _ => none
theorem yuz {P : Program} {k : Nat} {d gd : FnD} {f g : FuncId} {G : GuardD} (h : ylq k d gd g = some G) (h1 : FnOk P f d) (h2 : FnOk P g gd) : GuardOk P f G := by
 unfold ylq at h
 split at h
 ·rename_i e1 e2
  split at h
  ·rename_i hm
   cases h
   obtain ⟨hm1, hm2, hm3, hm4, hm5⟩ := hm
   refine ⟨h1, h2, ?_, e2, ⟨hm1, ?_⟩, ⟨fun x hx => List.all_eq_true.1 hm3 x hx, hm4, hm5⟩, ⟨rfl, _, rfl⟩, ⟨rfl, _, rfl⟩⟩
   case refine_2 =>
    revert hm2; unfold isMk; split
    ·rename_i f cs heq; intro _; exact ⟨f, cs, heq⟩
    ·intro h; cases h
   have := ypj k d.body
   rw [e1] at this
   exact this.symm
  ·cases h
 ·cases h
end Go.Sb

/- The seat's surroundings: tables of the library's, '==' at structs, the library's functions told by their contracts. -/

namespace Go.Proofs.YtekmafoicobphaaGreatDoor
open Go.Sb Go.RowKit
set_option maxRecDepth 100000
def spaceV : List V := Lib.asciiSpaceTab.map (V.int .u8)
noncomputable def fn38 : FnD := fnDof Tryz.f38 mdT
noncomputable def gd11 : Option GuardD := ylq 1 fn38 fn60 60
noncomputable def gdT (f : FuncId) : Option GuardD := bif Nat.beq f 38 then gd11 else none
theorem gdT_ok (f : FuncId) (G : GuardD) (h : gdT f = some G) : GuardOk Tryz.prog f G := by
 unfold gdT at h
 rw [cond_eq_ite] at h
 split at h
 ·rename_i e
  have e := Nat.eq_of_beq_eq_true e
  subst e
  exact yuz h (yaa Tryz.func38 (by kernel_rfl) (by kernel_rfl)) (fnT_ok 60 fn60 rfl)
 ·cases h
noncomputable def envA : Env := { ty := tyT, fn := fnT, gl := fun g => bif Nat.beq g 0 then some spaceV else bif Nat.beq g 2 then some [.ub .i64] else none, ext := fun f => bif Nat.beq f 171 then some idxV else none, lib := fun _ => none, eqs := fun _ => none, gd := gdT }
theorem envA_ok : EnvOk Tryz.prog envA where
 ty := tyT_ok
 fn := fnT_ok
 ext := fun f p h => by
  simp only [envA, cond_eq_ite] at h
  split at h
  ·rename_i e; have e := Nat.eq_of_beq_eq_true e; subst e; cases h
   exact yuy (e := Extern.BytealgIndexByte.indexByte) Tryz.func171 (by kernel_rfl) (by kernel_rfl) (by kernel_rfl) (by kernel_rfl) rfl
  ·cases h
 lib := fun f p h => by cases h
 eqs := fun t f h => by cases h
 mixed := by kernel_rfl
 gd := gdT_ok
def plainS : List TypeId := [65, 70]
theorem yvb : plainS.all (yfl Tryz.prog) = true := by kernel_rfl
noncomputable def envB : Env := { envA with eqs := eqLine envA plainS }
theorem envB_ok : EnvOk Tryz.prog envB := eqs_ok envA_ok yvb
/-! What is told -/
def yhn (vs : List V) : Option V := match vs with
 | [.str s, .str o, .str n] => if s.length ≤ 1000000 ∧ 1 ≤ o.length ∧ o.length ≤ 1000 ∧ n.length ≤ 1000 then some (.str (Lib.replaceAll s o n)) else none
 | _ => none
theorem yeo (s : List UInt8) : (⟨⟨s⟩⟩ : ByteArray).size = s.length := by simp [ByteArray.size]
theorem yvc {E : Env} (hgl : E.gl = envA.gl) : LibOk Tryz.prog E 130 yhn := by
 intro ro w vs xs v h1 h2 h3 h4 h5
 unfold yhn at h5
 split at h5
 ·rename_i s o n
  split at h5
  ·rename_i hn
   cases h5
   match xs, h3 with
   | [x, y, z], _ =>
    have hx := h4 0 _ x rfl rfl
    have hy := h4 1 _ y rfl rfl
    have hz := h4 2 _ z rfl rfl
    cases hx; cases hy; cases hz
    obtain ⟨m, hm⟩ := ub_cell (h2 2 [.ub .i64] (by rw [hgl]; rfl))
    have hmul := Lib.countB_mul_le ⟨⟨o⟩⟩ (by rw [yeo]; omega) s.length ⟨⟨s⟩⟩ (by rw [yeo]; exact Nat.le_refl _)
    rw [yeo, yeo] at hmul
    have hc : Lib.countB ⟨⟨s⟩⟩ ⟨⟨o⟩⟩ ≤ s.length := Nat.le_trans (Nat.le_mul_of_pos_right _ (by omega)) hmul
    have hc2 : Lib.countB ⟨⟨s⟩⟩ ⟨⟨o⟩⟩ * n.length ≤ s.length * 1000 := Nat.mul_le_mul hc hn.2.2.2
    refine (Tryz.strings_ReplaceAll ⟨⟨s⟩⟩ ⟨⟨o⟩⟩ ⟨⟨n⟩⟩ m w (by rw [yeo]; omega) hm (by rw [yeo]; exact hn.2.1) (by rw [yeo, yeo]; omega)).mono fun e w' hr => ?_
    obtain ⟨rfl, hb⟩ := hr
    exact yhl hb (.str _) rfl
  ·cases h5
 ·cases h5
def ylu (vs : List V) : Option V := match vs with
 | [.str s] => if s.length ≤ 1000000 ∧ s.all (fun c => c.toNat < 128) = true then some (.lst 1 ((Lib.fields s).map V.str)) else none
 | _ => none
theorem yvd {E : Env} (hgl : E.gl = envA.gl) : LibOk Tryz.prog E 142 ylu := by
 intro ro w vs xs v h1 h2 h3 h4 h5
 unfold ylu at h5
 split at h5
 ·rename_i s
  split at h5
  ·rename_i hn
   cases h5
   match xs, h3 with
   | [x], _ =>
    have hx := h4 0 _ x rfl rfl
    cases hx
    refine (Tryz.strings_Fields_laid ⟨⟨s⟩⟩ w (by rw [yeo]; omega) (fun j b hb => by simpa using List.all_eq_true.1 hn.2 b (List.mem_of_getElem? hb)) (tabIs_of (g := 0) (by kernel_rfl) (h2 _ spaceV (by rw [hgl]; rfl)))).mono fun e w' hr => ?_
    obtain ⟨rfl, rfl⟩ := hr
    refine ⟨⟨rfl, rfl, rfl⟩, ?_, fun r hr => ?_, _, rfl, rg_strs _ _ _⟩
    ·show w.heap.size ≤ (w.heap.push _).size
     simp
    ·show (w.heap.push _)[r]? = _
     rw [Array.getElem?_push, if_neg (by omega)]
  ·cases h5
 ·cases h5
def ylv (vs : List V) : Option V := match vs with
 | [.str s, .str [c]] => some (.int .i64 (s.count c))
 | _ => none
theorem yve {E : Env} : LibOk Tryz.prog E 147 ylv := by
 intro ro w vs xs v h1 h2 h3 h4 h5
 unfold ylv at h5
 split at h5
 ·rename_i s c
  cases h5
  match xs, h3 with
  | [x, y], _ =>
   have hx := h4 0 _ x rfl rfl
   have hy := h4 1 _ y rfl rfl
   cases hx; cases hy
   refine (Tryz.strings_Count_one ⟨⟨s⟩⟩ c w).mono fun e w' hr => ?_
   obtain ⟨rfl, rfl⟩ := hr
   exact yhl (Below.refl _ _) (.int _ _) rfl
 ·cases h5
def yho : List V → Option (List (List UInt8))
 | [] => some []
 | .str s :: vs => (yho vs).map (s :: ·)
 | _ => none
theorem ypm : ∀ {vs : List V} {ss : List (List UInt8)}, yho vs = some ss → vs = ss.map V.str
 | [], ss, h => by cases h; rfl
 | v :: vs, ss, h => by
  cases v with
  | str s =>
   simp only [yho] at h
   obtain ⟨r, hr, rfl⟩ := Option.map_eq_some_iff.1 h
   rw [List.map_cons, ← ypm hr]
  | _ => simp [yho] at h
def ylw (vs : List V) : Option V := match vs with
 | [.lst 1 es, .str sep] => (yho es).bind fun ss => if ss.length ≤ 1000000 ∧ (Lib.join ss sep).length ≤ 100000000 then some (.str (Lib.join ss sep)) else none
 | [.nils, .str _] => some (.str [])
 | _ => none
theorem join_lib {E : Env} : LibOk Tryz.prog E 112 ylw := by
 intro ro w vs xs v h1 h2 h3 h4 h5
 unfold ylw at h5
 split at h5
 ·rename_i es sep
  obtain ⟨ss, hss, h5⟩ := Option.bind_eq_some_iff.1 h5
  split at h5
  ·rename_i hn
   cases h5
   have hes := ypm hss
   subst hes
   match xs, h3 with
   | [x, y], _ =>
    have hx := h4 0 _ x rfl rfl
    have hy := h4 1 _ y rfl rfl
    cases hy
    cases hx with
    | lst _ a cap _ f e0 e1 e2 e3 e4 e5 =>
     have cells : ∀ (j : Nat) (s : List UInt8), ss[j]? = some s → w.cell? (a.add j) = some (.string ⟨⟨s⟩⟩) := fun j s hj => by
      have hjl := (List.getElem?_eq_some_iff.1 hj).1
      have hg := e1 j 0 (by simpa using hjl) (by omega)
      have hr := e2 j 0 (.str s) (.str s) (by rw [List.getElem?_map, hj]; rfl) rfl
      rw [Nat.mul_one, Nat.add_zero] at hg
      cases hf : f j 0 with
      | string b => rw [hf] at hr; cases hr; rw [hg, hf]
      | _ => rw [hf] at hr; cases hr
     have hlen : (ss.map V.str).length = ss.length := by simp
     by_cases hne : ss = []
     ·subst hne
      refine (Tryz.strings_Join_none (some a) cap ⟨⟨sep⟩⟩ w).mono fun e w' hr => ?_
      obtain ⟨rfl, rfl⟩ := hr
      exact yhl (Below.refl _ _) (.str []) rfl
     ·obtain ⟨s0, hs0⟩ : ∃ s, ss[0]? = some s := ⟨_, List.getElem?_eq_getElem (List.length_pos_iff.2 hne)⟩
      have hspot : a = ⟨a.block, a.off, none⟩ := by
       have h := cells 0 s0 hs0
       have ha : a.add 0 = a := by unfold Addr.add; rw [if_pos rfl]
       rw [ha] at h
       unfold World.cell? at h
       split at h
       ·split at h
        ·cases h
        ·rename_i q; cases a with | mk b o sp => cases sp with | none => rfl | some _ => simp at q
       ·cases h
      have hadd : ∀ j, a.add j = ⟨a.block, a.off + j, none⟩ := fun j => by
       unfold Addr.add
       by_cases hj : j = 0
       ·subst hj; rw [if_pos rfl]; exact hspot
       ·rw [if_neg hj]
      have hb : a.block < w.heap.size := by
       have h := cells 0 s0 hs0
       have ha : a.add 0 = a := by unfold Addr.add; rw [if_pos rfl]
       rw [ha] at h
       unfold World.cell? at h
       split at h
       ·rename_i hq; exact (Array.getElem?_eq_some_iff.1 hq).1
       ·cases h
      have hmap : (ss.map (fun s => (⟨⟨s⟩⟩ : ByteArray))).map (·.data.toList) = ss := by rw [List.map_map]; exact List.map_id _
      have key := Tryz.strings_Join a.block a.off cap (ss.map fun s => ⟨⟨s⟩⟩) ⟨⟨sep⟩⟩ w (fun j x hj => by
       rw [List.getElem?_map] at hj
       obtain ⟨s, hs, rfl⟩ := Option.map_eq_some_iff.1 hj
       rw [← hadd j]; exact cells j s hs) hb (by rw [List.length_map]; omega) (by rw [List.length_map]; rw [hlen] at e4; exact e4) (by rw [hmap]; exact Nat.le_trans hn.2 (by decide))
      rw [hmap, List.length_map] at key
      rw [hlen, hspot]
      refine key.mono fun e w' hr => ?_
      obtain ⟨rfl, hbl⟩ := hr
      exact yhl hbl (.str _) rfl
  ·cases h5
 ·rename_i sep
  cases h5
  match xs, h3 with
  | [x, y], _ =>
   have hx := h4 0 _ x rfl rfl
   have hy := h4 1 _ y rfl rfl
   cases hx
   cases hy
   refine (Tryz.strings_Join_none none 0 ⟨⟨sep⟩⟩ w).mono fun e w' hr => ?_
   obtain ⟨rfl, rfl⟩ := hr
   exact yhl (Below.refl _ _) (.str []) rfl
 ·cases h5
theorem lt_f {f : FuncId} {F : Func} (h1 : Tryz.prog.funcs[f]? = some F) (h2 : F.body.isSome = true) (h3 : (F.name == "runtime.NumGoroutine") = false) : ∃ F, Tryz.prog.funcs[f]? = some F ∧ F.body.isSome = true ∧ (F.name == "runtime.NumGoroutine") = false := ⟨F, h1, h2, h3⟩
noncomputable def envC : Env := (((envB.told 130 yhn).told 142 ylu).told 147 ylv).told 112 ylw
theorem envC_ok : EnvOk Tryz.prog envC := by
 refine EnvOk.addLib (EnvOk.addLib (EnvOk.addLib (EnvOk.addLib envB_ok (yvc rfl) ?_) (yvd rfl) ?_) yve ?_) join_lib ?_
 ·exact lt_f Tryz.func130 (by kernel_rfl) (by kernel_rfl)
 ·exact lt_f Tryz.func142 (by kernel_rfl) (by kernel_rfl)
 ·exact lt_f Tryz.func147 (by kernel_rfl) (by kernel_rfl)
 ·exact lt_f Tryz.func112 (by kernel_rfl) (by kernel_rfl)
end Go.Proofs.YtekmafoicobphaaGreatDoor

/- The closed calls of the seat: the words; the law's own sample answers true. -/

namespace Go.Proofs.YtekmafoicobphaaGreatDoor
open Go.Sb
set_option maxRecDepth 100000
theorem words_run : callN envC 20 .own 135 [] [] = some (.val (.lst 1 (Lex.words.map V.str)) []) := by kernel_rfl
def ylx (vs : List V) : Option V := match vs with | [] => some (.lst 1 (Lex.words.map V.str)) | _ => none
noncomputable def envD : Env := envC.told 135 ylx
theorem envD_ok : EnvOk Tryz.prog envD := by
 refine envC_ok.told (fun vs v h => ?_) (lt_f Tryz.func135 (by kernel_rfl) (by kernel_rfl))
 unfold ylx at h
 split at h
 ·cases h; exact ⟨rfl, 20, words_run⟩
 ·cases h
theorem yvf : callN envD 60 .own 14 [] [] = some (.val (.bool true) []) := by kernel_rfl
def yly (vs : List V) : Option V := match vs with | [] => some (.bool true) | _ => none
noncomputable def envQ : Env := envD.told 14 yly
theorem envQ_ok : EnvOk Tryz.prog envQ := by
 refine envD_ok.told (fun vs v h => ?_) (lt_f Tryz.func14 (by kernel_rfl) (by kernel_rfl))
 unfold yly at h
 split at h
 ·cases h; exact ⟨rfl, 60, yvf⟩
 ·cases h
theorem ypn (h : Heap) : Has envQ .own 14 [] h (.val (.bool true) h) := Has.told (E := envQ) (a := []) (p := yly) rfl rfl rfl rfl
end Go.Proofs.YtekmafoicobphaaGreatDoor

/- The surroundings of chapter 13: ars SbAwake has them. -/

namespace Go.Proofs.YtekmafoicobphaaGreatDoor
open Go.Sb
end Go.Proofs.YtekmafoicobphaaGreatDoor
