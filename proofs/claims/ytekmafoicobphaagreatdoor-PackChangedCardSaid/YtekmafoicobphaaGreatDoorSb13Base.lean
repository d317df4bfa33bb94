/- Functions with a deferred closure: read off their code. -/
import Derived.Test.YtekmafoicobphaaGreatDoorSbLib
import Derived.Lib.ReplaceLaws
import Derived.Lib.Join
import Derived.Lib.IndexBytes
import Derived.Lib.LastIndexByte
import Derived.Test.YtekmafoicobphaaGreatDoorSbEnv
import Derived.Test.YtekmafoicobphaaGreatDoorSbShelf
import Derived.Test.YtekmafoicobphaaGreatDoorSbShaped
import Derived.Test.YtekmafoicobphaaGreatDoorSbIdx
import Derived.Lib.Space
import Derived.Lib.Fields
import Derived.Lib.ItoaMem
import Derived.Test.YtekmafoicobphaaGreatDoorSbOwnE
set_option linter.unusedVariables false
set_option linter.unusedSimpArgs false
namespace Go.Sb
def yeq : Nat → Code → List Code × Code
 | k + 1, .seq a b => (a :: (yeq k b).1, (yeq k b).2)
 | _, c => ([], c)
theorem yql : ∀ (k : Nat) (c : Code), seqs (yeq k c).1 (yeq k c).2 = c
 | 0, c => by unfold yeq; rfl
 | k + 1, c => by
  cases c <;> simp only [yeq, seqs]
  rw [yql k]
def isMk : Op → Bool
 | .makeFunc (.func _) ⟨[]⟩ _ => true
 | _ => false
def ymn (k : Nat) (d gd : FnD) (g : FuncId) : Option GuardD :=
 match (yeq k d.body).2, gd.body with
 | .seq (.region id ⟨[m, ⟨dst, .defer ⟨.value (.tmp t), ⟨[]⟩, ts⟩, ty, pos, after, none⟩]⟩ false) rest, .seq (.region gid ⟨[⟨rdst, .call ⟨.builtin .recover, ⟨[]⟩, rts⟩, rty, rpos, rafter, none⟩]⟩ false) grest =>
  if m.guard = none ∧ isMk m.op = true ∧ ((yeq k d.body).1.all ycv = true ∧ ycv rest = true ∧ ycv grest = true) then some { d := d, first := (yeq k d.body).1, id := id, mkf := m, df := ⟨dst, .defer ⟨.value (.tmp t), #[], ts⟩, ty, pos, after, none⟩, t := t, rest := rest, g := g, gd := gd, gid := gid, rc := ⟨rdst, .call ⟨.builtin .recover, #[], rts⟩, rty, rpos, rafter, none⟩, grest := grest } else none
 | _, _ => none
theorem ywa {P : Program} {k : Nat} {d gd : FnD} {f g : FuncId} {G : GuardD} (h : ymn k d gd g = some G) (h1 : FnOk P f d) (h2 : FnOk P g gd) : GuardOk P f G := by
 unfold ymn at h
 split at h
 ·rename_i e1 e2
  split at h
  ·rename_i hm
   cases h
   obtain ⟨hm1, hm2, hm3, hm4, hm5⟩ := hm
   refine ⟨h1, h2, ?_, e2, ⟨hm1, ?_⟩, ⟨fun x hx => List.all_eq_true.1 hm3 x hx, hm4, hm5⟩, ⟨rfl, _, rfl⟩, ⟨rfl, _, rfl⟩⟩
   case refine_2 =>
    revert hm2; unfold isMk; split
    ·rename_i f cs heq; intro _; exact ⟨f, cs, heq⟩
    ·intro h; cases h
   have := yql k d.body
   rw [e1] at this
   exact this.symm
  ·cases h
 ·cases h
end Go.Sb

/- Plain words about texts, names, quotes: no program. -/

namespace Go.Lex
def letter (c : UInt8) : Bool := decide (97 ≤ c.toNat) && decide (c.toNat ≤ 122)
def digit (c : UInt8) : Bool := decide (48 ≤ c.toNat) && decide (c.toNat ≤ 57)
def textByte (c : UInt8) : Bool := decide (32 ≤ c.toNat) && decide (c.toNat ≤ 126)
def isText (s : List UInt8) : Bool := s.all textByte && decide (s.length ≤ 60)
def esc (c : UInt8) : List UInt8 := if c = 34 ∨ c = 92 then [92, c] else [c]
def quote (s : List UInt8) : List UInt8 := 34 :: (s.flatMap esc ++ [34])
def isRun : List UInt8 → Bool
 | [] => false
 | c :: r => letter c && r.all (fun c => letter c || digit c)
/-! One byte replaced -/
def rep1 (c : UInt8) (new : List UInt8) (x : UInt8) : List UInt8 := if x = c then new else [x]
theorem ykb {c : UInt8} {new : List UInt8} : ∀ {s : List UInt8}, c ∉ s → s.flatMap (rep1 c new) = s
 | [], _ => rfl
 | x :: s, h => by
  rw [List.flatMap_cons, ykb (fun q => h (List.mem_cons_of_mem _ q)), rep1, if_neg (fun e => h (by simp [e]))]; rfl
theorem ymo {c : UInt8} : ∀ {a b : List UInt8}, c ∉ a → Lib.index (a ++ c :: b) [c] = a.length
 | [], b, _ => by simp [Lib.index, List.isPrefixOf]
 | x :: a, b, h => by
  have ih := ymo (b := b) (fun q => h (List.mem_cons_of_mem _ q))
  have hx : ¬ (c == x) = true := fun e => h (by simp [(beq_iff_eq.1 e)])
  rw [List.cons_append, Lib.index, if_neg (by simp [List.isPrefixOf]; intro e; exact hx (by simp [e])), ih, if_neg (by simp)]
  simp
theorem ymp {c : UInt8} : ∀ {s : List UInt8}, c ∉ s → Lib.index s [c] = -1
 | [], _ => by simp [Lib.index]
 | x :: s, h => by
  have ih := ymp (s := s) (fun q => h (List.mem_cons_of_mem _ q))
  have hx : ¬ (c == x) = true := fun e => h (by simp [(beq_iff_eq.1 e)])
  rw [Lib.index, if_neg (by simp [List.isPrefixOf]; intro e; exact hx (by simp [e])), ih]; rfl
theorem ymq {c : UInt8} : ∀ {s : List UInt8}, c ∈ s → ∃ a b, s = a ++ c :: b ∧ c ∉ a
 | [], h => by cases h
 | x :: s, h => by
  by_cases e : x = c
  ·exact ⟨[], s, by simp [e], by simp⟩
  ·obtain ⟨a, b, h1, h2⟩ := ymq (s := s) (by rcases List.mem_cons.1 h with q | q; exact absurd q.symm e; exact q)
   exact ⟨x :: a, b, by simp [h1], by simp [h2]; exact fun q => e q.symm⟩
theorem yqm {c : UInt8} : ∀ (k : Nat) (s : List UInt8), s.length < k → Lib.countFrom [c] k s = s.count c
 | 0, s, h => by omega
 | k + 1, s, h => by
  by_cases hc : c ∈ s
  ·obtain ⟨a, b, rfl, ha⟩ := ymq hc
   have hd : (a ++ c :: b).drop (((a.length : Int)).toNat + [c].length) = b := by
    rw [show ((a.length : Int)).toNat + [c].length = a.length + 1 from by simp, ← List.drop_drop, List.drop_left, List.drop_succ_cons, List.drop_zero]
   rw [Lib.countFrom, ymo ha, if_neg (by simp), hd, yqm k b (by simp at h; omega)]
   rw [List.count_append, List.count_eq_zero_of_not_mem ha, List.count_cons_self]; omega
  ·rw [Lib.countFrom, ymp hc, List.count_eq_zero_of_not_mem hc]; rfl
theorem ywb (c : UInt8) (s : List UInt8) : Lib.count s [c] = s.count c := yqm _ _ (by omega)
theorem yqn {c : UInt8} {new : List UInt8} : ∀ (k : Nat) (s : List UInt8), s.count c ≤ k → Lib.replaceK [c] new k s = s.flatMap (rep1 c new)
 | 0, s, h => by
  have hc : c ∉ s := List.count_eq_zero.1 (by omega)
  rw [Lib.replaceK, ykb hc]
 | k + 1, s, h => by
  by_cases hc : c ∈ s
  ·obtain ⟨a, b, rfl, ha⟩ := ymq hc
   have hd : (a ++ c :: b).drop (a.length + [c].length) = b := by
    rw [show a.length + [c].length = a.length + 1 from rfl, ← List.drop_drop, List.drop_left, List.drop_succ_cons, List.drop_zero]
   rw [Lib.replaceK_hit _ _ _ _ _ (ymo ha), hd, List.take_left, yqn k b (by rw [List.count_append, List.count_cons_self] at h; omega)]
   rw [List.flatMap_append, ykb ha, List.flatMap_cons, rep1, if_pos rfl, List.append_assoc]
  ·rw [ykb hc, Lib.replaceK, ymp hc]; rfl
theorem replaceAll_one (c : UInt8) (new s : List UInt8) (h : new ≠ [c]) : Lib.replaceAll s [c] new = s.flatMap (rep1 c new) := by
 unfold Lib.replaceAll Lib.replace Lib.replaceNum
 rw [if_neg (by simp; exact fun e => h e.symm), if_pos (.inl (by decide)), ywb]
 exact yqn _ _ (Nat.le_refl _)
theorem quote_two (s : List UInt8) : (Lib.replaceAll (Lib.replaceAll s [92] [92, 92]) [34] [92, 34]) = s.flatMap esc := by
 rw [replaceAll_one _ _ _ (by decide), replaceAll_one _ _ _ (by decide), List.flatMap_assoc]
 congr 1
 funext x
 unfold rep1 esc
 by_cases h : x = 92
 ·subst h; decide
 ·rw [if_neg h]
  by_cases h2 : x = 34
  ·subst h2; decide
  ·simp [h, h2, rep1]
def words : List (List UInt8) := [[97, 102, 116, 101, 114], [97, 119, 97, 105, 116], [98, 111, 111, 108], [98, 114, 101, 97, 107], [98, 117, 102, 102, 101, 114], [99, 97, 110, 99, 101, 108], [99, 97, 116, 99, 104], [99, 104, 97, 110], [99, 108, 111, 115, 101], [99, 111, 110, 116, 105, 110, 117, 101], [100, 114, 111, 112], [101, 97, 99, 104], [101, 108, 115, 101], [101, 109, 105, 116], [102, 97, 108, 115, 101], [102, 105, 110, 97, 108, 108, 121], [102, 108, 111, 119], [102, 110], [102, 114, 111, 109], [104, 111, 108, 100], [105, 102], [105, 110, 116], [108, 101, 116], [108, 111, 99, 107], [110, 101, 119], [110, 111, 119], [111, 108, 100], [112, 114, 111, 100, 117, 99, 101], [114, 101, 99, 101, 105, 118, 101], [114, 101, 116, 117, 114, 110], [115, 99, 111, 112, 101], [115, 101, 108, 101, 99, 116], [115, 101, 110, 100], [115, 104, 105, 101, 108, 100], [115, 108, 101, 101, 112], [115, 112, 97, 119, 110], [115, 117, 112, 101, 114, 118, 105, 115, 101, 100], [116, 97, 115, 107], [116, 101, 120, 116], [116, 104, 114, 111, 119], [116, 114, 117, 101], [116, 114, 121], [117, 115, 101], [119, 104, 105, 108, 101], [119, 105, 116, 104, 105, 110], [121, 105, 101, 108, 100]]
def isWord (s : List UInt8) : Bool := words.contains s
def isName (s : List UInt8) : Bool := isRun s && decide (s.length ≤ 12) && !isWord s
theorem words_run : words.all (fun w => isRun w && decide (w.length ≤ 12) && isWord w) = true := by decide +kernel
/-! Lines and columns -/
end Go.Lex

/- The seat's surroundings: tables of the library's, '==' at structs, the library's functions told by their contracts. -/

namespace Go.Proofs.YtekmafoicobphaaGreatDoor
open Go.Sb Go.RowKit
set_option maxRecDepth 100000
def spaceV : List V := Lib.asciiSpaceTab.map (V.int .u8)
noncomputable def fn38 : FnD := fnDof Tryz.f38 mdT
noncomputable def gd11 : Option GuardD := ymn 1 fn38 fn60 60
noncomputable def gdT (f : FuncId) : Option GuardD := bif Nat.beq f 38 then gd11 else none
theorem gdT_ok (f : FuncId) (G : GuardD) (h : gdT f = some G) : GuardOk Tryz.prog f G := by
 unfold gdT at h
 rw [cond_eq_ite] at h
 split at h
 ·rename_i e
  have e := Nat.eq_of_beq_eq_true e
  subst e
  exact ywa h (yaa Tryz.func38 (by kernel_rfl) (by kernel_rfl)) (fnT_ok 60 fn60 rfl)
 ·cases h
noncomputable def envA : Env := { ty := tyT, fn := fnT, gl := fun g => bif Nat.beq g 0 then some spaceV else bif Nat.beq g 2 then some [.ub .i64] else none, ext := fun f => bif Nat.beq f 171 then some idxV else none, lib := fun _ => none, eqs := fun _ => none, gd := gdT }
theorem envA_ok : EnvOk Tryz.prog envA where
 ty := tyT_ok
 fn := fnT_ok
 ext := fun f p h => by
  simp only [envA, cond_eq_ite] at h
  split at h
  ·rename_i e; have e := Nat.eq_of_beq_eq_true e; subst e; cases h
   exact yvz (e := Extern.BytealgIndexByte.indexByte) Tryz.func171 (by kernel_rfl) (by kernel_rfl) (by kernel_rfl) (by kernel_rfl) rfl
  ·cases h
 lib := fun f p h => by cases h
 eqs := fun t f h => by cases h
 mixed := by kernel_rfl
 gd := gdT_ok
def plainS : List TypeId := [65, 70]
theorem ywc : plainS.all (yfs Tryz.prog) = true := by kernel_rfl
noncomputable def envB : Env := { envA with eqs := eqLine envA plainS }
theorem envB_ok : EnvOk Tryz.prog envB := eqs_ok envA_ok ywc
/-! What is told -/
def yia (vs : List V) : Option V := match vs with
 | [.str s, .str o, .str n] => if s.length ≤ 1000000 ∧ 1 ≤ o.length ∧ o.length ≤ 1000 ∧ n.length ≤ 1000 then some (.str (Lib.replaceAll s o n)) else none
 | _ => none
theorem yer (s : List UInt8) : (⟨⟨s⟩⟩ : ByteArray).size = s.length := by simp [ByteArray.size]
theorem ywd {E : Env} (hgl : E.gl = envA.gl) : LibOk Tryz.prog E 130 yia := by
 intro ro w vs xs v h1 h2 h3 h4 h5
 unfold yia at h5
 split at h5
 ·rename_i s o n
  split at h5
  ·rename_i hn
   cases h5
   match xs, h3 with
   | [x, y, z], _ =>
    have hx := h4 0 _ x rfl rfl
    have hy := h4 1 _ y rfl rfl
    have hz := h4 2 _ z rfl rfl
    cases hx; cases hy; cases hz
    obtain ⟨m, hm⟩ := ub_cell (h2 2 [.ub .i64] (by rw [hgl]; rfl))
    have hmul := Lib.countB_mul_le ⟨⟨o⟩⟩ (by rw [yer]; omega) s.length ⟨⟨s⟩⟩ (by rw [yer]; exact Nat.le_refl _)
    rw [yer, yer] at hmul
    have hc : Lib.countB ⟨⟨s⟩⟩ ⟨⟨o⟩⟩ ≤ s.length := Nat.le_trans (Nat.le_mul_of_pos_right _ (by omega)) hmul
    have hc2 : Lib.countB ⟨⟨s⟩⟩ ⟨⟨o⟩⟩ * n.length ≤ s.length * 1000 := Nat.mul_le_mul hc hn.2.2.2
    refine (Tryz.strings_ReplaceAll ⟨⟨s⟩⟩ ⟨⟨o⟩⟩ ⟨⟨n⟩⟩ m w (by rw [yer]; omega) hm (by rw [yer]; exact hn.2.1) (by rw [yer, yer]; omega)).mono fun e w' hr => ?_
    obtain ⟨rfl, hb⟩ := hr
    exact yhy hb (.str _) rfl
  ·cases h5
 ·cases h5
def ymr (vs : List V) : Option V := match vs with
 | [.str s] => if s.length ≤ 1000000 ∧ s.all (fun c => c.toNat < 128) = true then some (.lst 1 ((Lib.fields s).map V.str)) else none
 | _ => none
theorem ywe {E : Env} (hgl : E.gl = envA.gl) : LibOk Tryz.prog E 142 ymr := by
 intro ro w vs xs v h1 h2 h3 h4 h5
 unfold ymr at h5
 split at h5
 ·rename_i s
  split at h5
  ·rename_i hn
   cases h5
   match xs, h3 with
   | [x], _ =>
    have hx := h4 0 _ x rfl rfl
    cases hx
    refine (Tryz.strings_Fields_laid ⟨⟨s⟩⟩ w (by rw [yer]; omega) (fun j b hb => by simpa using List.all_eq_true.1 hn.2 b (List.mem_of_getElem? hb)) (tabIs_of (g := 0) (by kernel_rfl) (h2 _ spaceV (by rw [hgl]; rfl)))).mono fun e w' hr => ?_
    obtain ⟨rfl, rfl⟩ := hr
    refine ⟨⟨rfl, rfl, rfl⟩, ?_, fun r hr => ?_, _, rfl, rg_strs _ _ _⟩
    ·show w.heap.size ≤ (w.heap.push _).size
     simp
    ·show (w.heap.push _)[r]? = _
     rw [Array.getElem?_push, if_neg (by omega)]
  ·cases h5
 ·cases h5
def yms (vs : List V) : Option V := match vs with
 | [.str s, .str [c]] => some (.int .i64 (s.count c))
 | _ => none
theorem ywf {E : Env} : LibOk Tryz.prog E 147 yms := by
 intro ro w vs xs v h1 h2 h3 h4 h5
 unfold yms at h5
 split at h5
 ·rename_i s c
  cases h5
  match xs, h3 with
  | [x, y], _ =>
   have hx := h4 0 _ x rfl rfl
   have hy := h4 1 _ y rfl rfl
   cases hx; cases hy
   refine (Tryz.strings_Count_one ⟨⟨s⟩⟩ c w).mono fun e w' hr => ?_
   obtain ⟨rfl, rfl⟩ := hr
   exact yhy (Below.refl _ _) (.int _ _) rfl
 ·cases h5
def yib : List V → Option (List (List UInt8))
 | [] => some []
 | .str s :: vs => (yib vs).map (s :: ·)
 | _ => none
theorem yqo : ∀ {vs : List V} {ss : List (List UInt8)}, yib vs = some ss → vs = ss.map V.str
 | [], ss, h => by cases h; rfl
 | v :: vs, ss, h => by
  cases v with
  | str s =>
   simp only [yib] at h
   obtain ⟨r, hr, rfl⟩ := Option.map_eq_some_iff.1 h
   rw [List.map_cons, ← yqo hr]
  | _ => simp [yib] at h
def ymt (vs : List V) : Option V := match vs with
 | [.lst 1 es, .str sep] => (yib es).bind fun ss => if ss.length ≤ 1000000 ∧ (Lib.join ss sep).length ≤ 100000000 then some (.str (Lib.join ss sep)) else none
 | [.nils, .str _] => some (.str [])
 | _ => none
theorem join_lib {E : Env} : LibOk Tryz.prog E 112 ymt := by
 intro ro w vs xs v h1 h2 h3 h4 h5
 unfold ymt at h5
 split at h5
 ·rename_i es sep
  obtain ⟨ss, hss, h5⟩ := Option.bind_eq_some_iff.1 h5
  split at h5
  ·rename_i hn
   cases h5
   have hes := yqo hss
   subst hes
   match xs, h3 with
   | [x, y], _ =>
    have hx := h4 0 _ x rfl rfl
    have hy := h4 1 _ y rfl rfl
    cases hy
    cases hx with
    | lst _ a cap _ f e0 e1 e2 e3 e4 e5 =>
     have cells : ∀ (j : Nat) (s : List UInt8), ss[j]? = some s → w.cell? (a.add j) = some (.string ⟨⟨s⟩⟩) := fun j s hj => by
      have hjl := (List.getElem?_eq_some_iff.1 hj).1
      have hg := e1 j 0 (by simpa using hjl) (by omega)
      have hr := e2 j 0 (.str s) (.str s) (by rw [List.getElem?_map, hj]; rfl) rfl
      rw [Nat.mul_one, Nat.add_zero] at hg
      cases hf : f j 0 with
      | string b => rw [hf] at hr; cases hr; rw [hg, hf]
      | _ => rw [hf] at hr; cases hr
     have hlen : (ss.map V.str).length = ss.length := by simp
     by_cases hne : ss = []
     ·subst hne
      refine (Tryz.strings_Join_none (some a) cap ⟨⟨sep⟩⟩ w).mono fun e w' hr => ?_
      obtain ⟨rfl, rfl⟩ := hr
      exact yhy (Below.refl _ _) (.str []) rfl
     ·obtain ⟨s0, hs0⟩ : ∃ s, ss[0]? = some s := ⟨_, List.getElem?_eq_getElem (List.length_pos_iff.2 hne)⟩
      have hspot : a = ⟨a.block, a.off, none⟩ := by
       have h := cells 0 s0 hs0
       have ha : a.add 0 = a := by unfold Addr.add; rw [if_pos rfl]
       rw [ha] at h
       unfold World.cell? at h
       split at h
       ·split at h
        ·cases h
        ·rename_i q; cases a with | mk b o sp => cases sp with | none => rfl | some _ => simp at q
       ·cases h
      have hadd : ∀ j, a.add j = ⟨a.block, a.off + j, none⟩ := fun j => by
       unfold Addr.add
       by_cases hj : j = 0
       ·subst hj; rw [if_pos rfl]; exact hspot
       ·rw [if_neg hj]
      have hb : a.block < w.heap.size := by
       have h := cells 0 s0 hs0
       have ha : a.add 0 = a := by unfold Addr.add; rw [if_pos rfl]
       rw [ha] at h
       unfold World.cell? at h
       split at h
       ·rename_i hq; exact (Array.getElem?_eq_some_iff.1 hq).1
       ·cases h
      have hmap : (ss.map (fun s => (⟨⟨s⟩⟩ : ByteArray))).map (·.data.toList) = ss := by rw [List.map_map]; exact List.map_id _
      have key := Tryz.strings_Join a.block a.off cap (ss.map fun s => ⟨⟨s⟩⟩) ⟨⟨sep⟩⟩ w (fun j x hj => by
       rw [List.getElem?_map] at hj
       obtain ⟨s, hs, rfl⟩ := Option.map_eq_some_iff.1 hj
       rw [← hadd j]; exact cells j s hs) hb (by rw [List.length_map]; omega) (by rw [List.length_map]; rw [hlen] at e4; exact e4) (by rw [hmap]; exact Nat.le_trans hn.2 (by decide))
      rw [hmap, List.length_map] at key
      rw [hlen, hspot]
      refine key.mono fun e w' hr => ?_
      obtain ⟨rfl, hbl⟩ := hr
      exact yhy hbl (.str _) rfl
  ·cases h5
 ·rename_i sep
  cases h5
  match xs, h3 with
  | [x, y], _ =>
   have hx := h4 0 _ x rfl rfl
   have hy := h4 1 _ y rfl rfl
   cases hx
   cases hy
   refine (Tryz.strings_Join_none none 0 ⟨⟨sep⟩⟩ w).mono fun e w' hr => ?_
   obtain ⟨rfl, rfl⟩ := hr
   exact yhy (Below.refl _ _) (.str []) rfl
 ·cases h5
theorem lt_f {f : FuncId} {F : Func} (h1 : Tryz.prog.funcs[f]? = some F) (h2 : F.body.isSome = true) (h3 : (F.name == "runtime.NumGoroutine") = false) : ∃ F, Tryz.prog.funcs[f]? = some F ∧ F.body.isSome = true ∧ (F.name == "runtime.NumGoroutine") = false := ⟨F, h1, h2, h3⟩
noncomputable def envC : Env := (((envB.told 130 yia).told 142 ymr).told 147 yms).told 112 ymt
theorem envC_ok : EnvOk Tryz.prog envC := by
 refine EnvOk.addLib (EnvOk.addLib (EnvOk.addLib (EnvOk.addLib envB_ok (ywd rfl) ?_) (ywe rfl) ?_) ywf ?_) join_lib ?_
 ·exact lt_f Tryz.func130 (by kernel_rfl) (by kernel_rfl)
 ·exact lt_f Tryz.func142 (by kernel_rfl) (by kernel_rfl)
 ·exact lt_f Tryz.func147 (by kernel_rfl) (by kernel_rfl)
 ·exact lt_f Tryz.func112 (by kernel_rfl) (by kernel_rfl)
end Go.Proofs.YtekmafoicobphaaGreatDoor

/- The closed calls of the seat: the words; the law's own sample answers true. -/

namespace Go.Proofs.YtekmafoicobphaaGreatDoor
open Go.Sb
set_option maxRecDepth 100000
theorem words_run : callN envC 20 .own 135 [] [] = some (.val (.lst 1 (Lex.words.map V.str)) []) := by kernel_rfl
def ymu (vs : List V) : Option V := match vs with | [] => some (.lst 1 (Lex.words.map V.str)) | _ => none
noncomputable def envD : Env := envC.told 135 ymu
theorem envD_ok : EnvOk Tryz.prog envD := by
 refine envC_ok.told (fun vs v h => ?_) (lt_f Tryz.func135 (by kernel_rfl) (by kernel_rfl))
 unfold ymu at h
 split at h
 ·cases h; exact ⟨rfl, 20, words_run⟩
 ·cases h
theorem ywg : callN envD 60 .own 14 [] [] = some (.val (.bool true) []) := by kernel_rfl
def ymv (vs : List V) : Option V := match vs with | [] => some (.bool true) | _ => none
noncomputable def envQ : Env := envD.told 14 ymv
theorem envQ_ok : EnvOk Tryz.prog envQ := by
 refine envD_ok.told (fun vs v h => ?_) (lt_f Tryz.func14 (by kernel_rfl) (by kernel_rfl))
 unfold ymv at h
 split at h
 ·cases h; exact ⟨rfl, 60, ywg⟩
 ·cases h
theorem ygx (h : Heap) : Has envQ .own 14 [] h (.val (.bool true) h) := Has.told (E := envQ) (a := []) (p := ymv) rfl rfl rfl rfl
end Go.Proofs.YtekmafoicobphaaGreatDoor

/- The surroundings of chapter 13: ars SbAwake has them. -/

namespace Go.Proofs.YtekmafoicobphaaGreatDoor
open Go.Sb
end Go.Proofs.YtekmafoicobphaaGreatDoor
