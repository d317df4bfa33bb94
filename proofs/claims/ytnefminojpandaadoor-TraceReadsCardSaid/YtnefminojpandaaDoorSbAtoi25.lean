/- strconv.Atoi by the shelf's contract (laid by the kit's program), as the evaluator reads it. -/
import Derived.Test.YtnefminojpandaaDoorSbItoa25
import Derived.Shelf.LaysC
import Derived.Shelf.Strconv.AtoiAll
import Derived.Shelf.Strconv.ErrVarAll
import Derived.Lib.AtoiErrMem
set_option linter.unusedVariables false
set_option linter.unusedSimpArgs false
namespace Go.Proofs
open Go.Shelf
def Tryd.laysC172_ren : Go.Shelf.Ren := ⟨fun | 172 => 104 | 244 => 122 | 245 => 123 | 247 => 134 | 279 => 135 | 280 => 136 | 281 => 137 | 282 => 138 | 287 => 141 | 316 => 142 | 171 => 41 | 205 => 143 | 321 => 144 | 322 => 145 | 243 => 65 | 246 => 87 | 283 => 108 | 284 => 109 | 285 => 110 | 286 => 111 | 129 => 100 | 317 => 125 | 318 => 126 | 319 => 127 | 320 => 128 | 337 => 139 | 338 => 140 | n => n, fun | 9 => 9 | 3 => 3 | 75 => 68 | 76 => 69 | 4 => 4 | 5 => 5 | 167 => 171 | 37 => 58 | 0 => 0 | 85 => 172 | 2 => 2 | 168 => 174 | 53 => 129 | 175 => 179 | 46 => 76 | 210 => 183 | 127 => 89 | 145 => 190 | 143 => 188 | 21 => 21 | 171 => 134 | 173 => 136 | 212 => 152 | 51 => 127 | 20 => 20 | 213 => 153 | 232 => 185 | 233 => 186 | 80 => 62 | n => n, fun | 15 => 4 | 16 => 5 | 17 => 3 | 18 => 6 | 19 => 7 | n => n⟩
theorem Tryd.laysC172 : Go.Proofs.LaysC.n172 Tryd.prog Tryd.laysC172_ren := {
  mixed := by kernel_rfl
  f129 := Tryd.func100.trans (congrArg some (by kernel_rfl))
  f171 := Tryd.func41.trans (congrArg some (by kernel_rfl))
  f172 := Tryd.func104.trans (congrArg some (by kernel_rfl))
  f205 := Tryd.func143.trans (congrArg some (by kernel_rfl))
  f243 := Tryd.func65.trans (congrArg some (by kernel_rfl))
  f244 := Tryd.func122.trans (congrArg some (by kernel_rfl))
  f245 := Tryd.func123.trans (congrArg some (by kernel_rfl))
  f246 := Tryd.func87.trans (congrArg some (by kernel_rfl))
  f247 := Tryd.func134.trans (congrArg some (by kernel_rfl))
  f279 := Tryd.func135.trans (congrArg some (by kernel_rfl))
  f280 := Tryd.func136.trans (congrArg some (by kernel_rfl))
  f281 := Tryd.func137.trans (congrArg some (by kernel_rfl))
  f282 := Tryd.func138.trans (congrArg some (by kernel_rfl))
  f283 := Tryd.func108.trans (congrArg some (by kernel_rfl))
  f284 := Tryd.func109.trans (congrArg some (by kernel_rfl))
  f285 := Tryd.func110.trans (congrArg some (by kernel_rfl))
  f286 := Tryd.func111.trans (congrArg some (by kernel_rfl))
  f287 := Tryd.func141.trans (congrArg some (by kernel_rfl))
  f316 := Tryd.func142.trans (congrArg some (by kernel_rfl))
  f317 := Tryd.func125.trans (congrArg some (by kernel_rfl))
  f318 := Tryd.func126.trans (congrArg some (by kernel_rfl))
  f319 := Tryd.func127.trans (congrArg some (by kernel_rfl))
  f320 := Tryd.func128.trans (congrArg some (by kernel_rfl))
  f321 := Tryd.func144.trans (congrArg some (by kernel_rfl))
  f322 := Tryd.func145.trans (congrArg some (by kernel_rfl))
  f337 := Tryd.func139.trans (congrArg some (by kernel_rfl))
  f338 := Tryd.func140.trans (congrArg some (by kernel_rfl))
  t0 := Tryd.underlying0
  a0 := Tryd.isAgg0
  z0 := Tryd.sizeOf0
  v0 := Tryd.zeroValue0
  t2 := Tryd.underlying2
  a2 := Tryd.isAgg2
  z2 := Tryd.sizeOf2
  v2 := Tryd.zeroValue2
  t3 := Tryd.underlying3
  a3 := Tryd.isAgg3
  z3 := Tryd.sizeOf3
  v3 := Tryd.zeroValue3
  t4 := Tryd.underlying4
  a4 := Tryd.isAgg4
  z4 := Tryd.sizeOf4
  v4 := Tryd.zeroValue4
  t5 := Tryd.underlying5
  a5 := Tryd.isAgg5
  z5 := Tryd.sizeOf5
  v5 := Tryd.zeroValue5
  t9 := Tryd.underlying9
  a9 := Tryd.isAgg9
  z9 := Tryd.sizeOf9
  v9 := Tryd.zeroValue9
  t20 := Tryd.underlying20
  a20 := Tryd.isAgg20
  z20 := Tryd.sizeOf20
  v20 := Tryd.zeroValue20
  t21 := Tryd.underlying21
  a21 := Tryd.isAgg21
  z21 := Tryd.sizeOf21
  v21 := Tryd.zeroValue21
  t37 := Tryd.underlying58
  a37 := Tryd.isAgg58
  z37 := Tryd.sizeOf58
  v37 := Tryd.zeroValue58
  t46 := Tryd.underlying76
  a46 := Tryd.isAgg76
  z46 := Tryd.sizeOf76
  v46 := Tryd.zeroValue76
  t51 := Tryd.underlying127
  a51 := Tryd.isAgg127
  z51 := Tryd.sizeOf127
  v51 := Tryd.zeroValue127
  t53 := Tryd.underlying129
  a53 := Tryd.isAgg129
  z53 := Tryd.sizeOf129
  v53 := Tryd.zeroValue129
  t75 := Tryd.underlying68
  a75 := Tryd.isAgg68
  z75 := Tryd.sizeOf68
  v75 := Tryd.zeroValue68
  t76 := Tryd.underlying69
  a76 := Tryd.isAgg69
  z76 := Tryd.sizeOf69
  v76 := Tryd.zeroValue69
  t85 := Tryd.underlying172
  a85 := Tryd.isAgg172
  z85 := Tryd.sizeOf172
  v85 := Tryd.zeroValue172
  t127 := Tryd.underlying89
  a127 := Tryd.isAgg89
  z127 := Tryd.sizeOf89
  v127 := Tryd.zeroValue89
  t143 := Tryd.underlying188
  a143 := Tryd.isAgg188
  z143 := Tryd.sizeOf188
  v143 := Tryd.zeroValue188
  t145 := Tryd.underlying190
  a145 := Tryd.isAgg190
  z145 := Tryd.sizeOf190
  v145 := Tryd.zeroValue190
  t167 := Tryd.underlying171
  a167 := Tryd.isAgg171
  z167 := Tryd.sizeOf171
  v167 := Tryd.zeroValue171
  t168 := Tryd.underlying174
  a168 := Tryd.isAgg174
  z168 := Tryd.sizeOf174
  v168 := Tryd.zeroValue174
  t171 := Tryd.underlying134
  a171 := Tryd.isAgg134
  z171 := Tryd.sizeOf134
  v171 := Tryd.zeroValue134
  t173 := Tryd.underlying136
  a173 := Tryd.isAgg136
  z173 := Tryd.sizeOf136
  v173 := Tryd.zeroValue136
  t175 := Tryd.underlying179
  a175 := Tryd.isAgg179
  z175 := Tryd.sizeOf179
  v175 := Tryd.zeroValue179
  t210 := Tryd.underlying183
  a210 := Tryd.isAgg183
  z210 := Tryd.sizeOf183
  v210 := Tryd.zeroValue183
  t212 := Tryd.underlying152
  a212 := Tryd.isAgg152
  z212 := Tryd.sizeOf152
  v212 := Tryd.zeroValue152
  t213 := Tryd.underlying153
  a213 := Tryd.isAgg153
  z213 := Tryd.sizeOf153
  t232 := Tryd.underlying185
  a232 := Tryd.isAgg185
  z232 := Tryd.sizeOf185
  v232 := Tryd.zeroValue185
  t233 := Tryd.underlying186
  a233 := Tryd.isAgg186
  z233 := Tryd.sizeOf186
  v233 := Tryd.zeroValue186
  g15 := by kernel_rfl
  g16 := by kernel_rfl
  g17 := by kernel_rfl
  g18 := by kernel_rfl
  g19 := by kernel_rfl
  t80 := Tryd.underlying62
  a80 := Tryd.isAgg62
  z80 := Tryd.sizeOf62
  v80 := Tryd.zeroValue62
  i0 := by kernel_rfl
  i2 := by kernel_rfl
  i3 := by kernel_rfl
  i4 := by kernel_rfl
  i5 := by kernel_rfl
  i9 := by kernel_rfl
  i20 := by kernel_rfl
  i21 := by kernel_rfl
  i37 := by kernel_rfl
  i46 := by kernel_rfl
  i51 := by kernel_rfl
  i53 := by kernel_rfl
  i75 := by kernel_rfl
  i76 := by kernel_rfl
  i80 := by kernel_rfl
  i85 := by kernel_rfl
  i127 := by kernel_rfl
  i143 := by kernel_rfl
  i145 := by kernel_rfl
  i167 := by kernel_rfl
  i168 := by kernel_rfl
  i171 := by kernel_rfl
  i173 := by kernel_rfl
  i175 := by kernel_rfl
  i210 := by kernel_rfl
  i212 := by kernel_rfl
  i232 := by kernel_rfl
  i233 := by kernel_rfl
  m15 := by kernel_rfl
  m16 := by kernel_rfl
  m17 := by kernel_rfl
  m18 := by kernel_rfl
  m19 := by kernel_rfl
  c0 := by kernel_rfl
  c2 := by kernel_rfl
  c3 := by kernel_rfl
  c4 := by kernel_rfl
  c5 := by kernel_rfl
  c9 := by kernel_rfl
  c20 := by kernel_rfl
  c21 := by kernel_rfl
  c37 := by kernel_rfl
  c46 := by kernel_rfl
  c51 := by kernel_rfl
  c53 := by kernel_rfl
  c75 := by kernel_rfl
  c76 := by kernel_rfl
  c80 := by kernel_rfl
  c85 := by kernel_rfl
  c127 := by kernel_rfl
  c143 := by kernel_rfl
  c145 := by kernel_rfl
  c167 := by kernel_rfl
  c168 := by kernel_rfl
  c171 := by kernel_rfl
  c173 := by kernel_rfl
  c175 := by kernel_rfl
  c210 := by kernel_rfl
  c212 := by kernel_rfl
  c213 := by kernel_rfl
  c232 := by kernel_rfl
  c233 := by kernel_rfl }
open Go.RowKit in
/-- strconv.Atoi, AT EVERY STRING THAT SPELLS AN int ('Lib.atoiAll .. = .ok v'; of whatever length: leading zeros count): v, AND NO ERROR. The world: as it was, or with the one new row that '[]byte(..)' lays. (LAID: no walk: one application.) -/
theorem Tryd.strconv_Atoi_ok (s : ByteArray) (hmax : s.size ≤ 9223372036854775806) (v : Int) (h : Lib.atoiAll s.data.toList = .ok v) (w : World) :
    Calls Tryd.prog 104 #[.string s] w fun e w' => e = .returned (.tuple #[.int .i64 v, .nilIface]) ∧ (w' = w ∨ ∃ t, w' = Lib.bytesWorld w 5 t) := Any.strconv_Atoi_ok Tryd.laysC172 s hmax v h w
open Go.RowKit in
theorem Tryd.strconv_Atoi_syntax_var (s : ByteArray) (hlim : s.size ≤ 281474976710656) (h : Lib.atoiAll s.data.toList = Lib.NumEnd.syntax) (tp : TypeId) (p : Value) (w : World) (hvar : w.var? Tryd.prog "strconv.ErrSyntax" = some #[.iface tp p]) :
    Calls Tryd.prog 104 #[.string s] w fun e w' => ∃ N, e = .returned (.tuple #[.int .i64 0, .iface 174 (.pointer (some ⟨N, 0, none⟩))]) ∧ w.heap.size ≤ N ∧ w'.heap[N]? = some (.cells #[.string ⟨#[65, 116, 111, 105]⟩, .string s, .iface tp p] 183 (0, 0)) ∧ Below w.heap.size w w' := Any.strconv_Atoi_syntax_var Tryd.laysC172 s hlim h tp p w hvar
open Go.RowKit in
theorem Tryd.strconv_Atoi_range_var (s : ByteArray) (hlim : s.size ≤ 281474976710656) (h : Lib.atoiAll s.data.toList = .range) (tp : TypeId) (p : Value) (w : World) (hvar : w.var? Tryd.prog "strconv.ErrRange" = some #[.iface tp p]) :
    Calls Tryd.prog 104 #[.string s] w fun e w' => ∃ N, e = .returned (.tuple #[.int .i64 (Lib.atoiSat s.data.toList), .iface 174 (.pointer (some ⟨N, 0, none⟩))]) ∧ w.heap.size ≤ N ∧ w'.heap[N]? = some (.cells #[.string ⟨#[65, 116, 111, 105]⟩, .string s, .iface tp p] 183 (0, 0)) ∧ Below w.heap.size w w' := Any.strconv_Atoi_range_var Tryd.laysC172 s hlim h tp p w hvar
end Go.Proofs
namespace Go.Proofs.YtnefminojpandaaDoor
open Go.Sb Go.RowKit
set_option maxRecDepth 100000

def atoiV (s : List UInt8) : V := match Lib.atoiAll s with
  | .ok v => .tup [.int .i64 v, .nili]
  | Lib.NumEnd.syntax => .tup [.int .i64 0, .ifc 174 (.rop [])]
  | .range => .tup [.int .i64 (Lib.atoiSat s), .ifc 174 (.rop [])]

def tellAtoi (vs : List V) : Option V := match vs with
  | [.str s] => if s.length ≤ 281474976710656 then some (atoiV s) else none
  | _ => none

theorem err_var {ro : Nat → Prop} {w : World} {g : Nat} {n : String} (h : GlOk ro w g errV) (hg : Tryd.prog.globalNamed n = some g) : ∃ u p, w.var? Tryd.prog n = some #[.iface u p] := by
  obtain ⟨C, T, fz, b1, b2⟩ := h.blk
  obtain ⟨a, f, e, h1, h2, _⟩ := (RV.g (c := ⟨fun _ => (0, 0), [], ro, w, fun _ => False⟩) h.rg).rop_inv
  cases e
  have h1j := h1 0 (by decide)
  have h2j := h2 0 _ rfl
  rw [Addr.add_mk, Nat.zero_add] at h1j
  unfold World.cell? at h1j
  simp only [b1] at h1j
  obtain ⟨u, p, hp⟩ : ∃ u p, f 0 = .iface u p := by
    generalize f 0 = x at h2j
    have h2j : RG ro w (.ifc 188 .junk) x := h2j
    cases h2j with
    | ifc t v p hp => exact ⟨_, p, rfl⟩
    | ifo t u p => exact ⟨u, p, rfl⟩
  · refine ⟨u, p, ?_⟩
    unfold World.var?
    rw [hg]
    simp only [Option.bind_some, b1]
    congr 1
    have hsz : C.size = 1 := b2
    apply Array.ext'
    have : C.toList = [C[0]'(by omega)] := by
      apply List.ext_getElem (by simp [hsz])
      intro i h3 h4
      simp at h4
      subst h4
      simp
    rw [this]
    have h5 : C[0]? = some (C[0]'(by omega)) := Array.getElem?_eq_getElem _
    have h6 : C[0]? = some (.iface u p) := by rw [← hp]; simpa using h1j
    rw [h5] at h6
    have h7 := Option.some.inj h6
    rw [h7]

theorem below_out {ro : Nat → Prop} {w w' : World} {v : V} {x : Value} (hb : Below w.heap.size w w') (hr : RG (fun r => ro r ∨ (w.heap.size ≤ r ∧ r < w'.heap.size)) w' v x) {e : Ending} (he : e = .returned x) :
    (w'.os = w.os ∧ w'.tape = w.tape ∧ w'.output = w.output) ∧ w.heap.size ≤ w'.heap.size ∧ (∀ r, r < w.heap.size → w'.heap[r]? = w.heap[r]?) ∧ ∃ x, e = .returned x ∧ RG (fun r => ro r ∨ (w.heap.size ≤ r ∧ r < w'.heap.size)) w' v x :=
  ⟨⟨hb.os, hb.tape, hb.output⟩, hb.size, hb.block, x, he, hr⟩

theorem rg_pair {ro : Nat → Prop} {w : World} {a b : V} {x y : Value} (h1 : RG ro w a x) (h2 : RG ro w b y) : RG ro w (.tup [a, b]) (.tuple #[x, y]) :=
  .tup _ _ rfl fun i v z hv hz => by
    match i with
    | 0 => cases hv; cases hz; exact h1
    | 1 => cases hv; cases hz; exact h2
    | i + 2 => simp at hv

theorem rg_err {ro : Nat → Prop} {w : World} (N : Nat) : RG ro w (.ifc 174 (.rop [])) (.iface 174 (.pointer (some ⟨N, 0, none⟩))) :=
  .ifc _ _ _ (.rop [] _ (fun _ => .nilIface) (fun j hj => absurd hj (Nat.not_lt_zero j)) (fun j v hv => by simp at hv) (fun h => absurd rfl h))

theorem atoi_lib {E : Env} (hgl : E.gl = envB.gl) : LibOk Tryd.prog E 104 tellAtoi := by
  intro ro w vs xs v h1 h2 h3 h4 h5
  unfold tellAtoi at h5
  split at h5
  · rename_i s
    split at h5
    · rename_i hn
      cases h5
      match xs, h3 with
      | [x], _ =>
        have hx := h4 0 _ x rfl rfl
        cases hx
        have hsz : (⟨⟨s⟩⟩ : ByteArray).size = s.length := by simp [ByteArray.size]
        have hsize : (⟨⟨s⟩⟩ : ByteArray).size ≤ 281474976710656 := by rw [hsz]; exact hn
        unfold atoiV
        match ha : Lib.atoiAll s with
        | .ok v =>
          refine (Tryd.strconv_Atoi_ok ⟨⟨s⟩⟩ (by omega) v ha w).mono fun e w' hr => ?_
          obtain ⟨rfl, hw⟩ := hr
          have hb : Below w.heap.size w w' := by
            rcases hw with rfl | ⟨t, rfl⟩
            · exact Below.refl _ _
            · exact Lib.bytesWorld_below w 5 t
          exact below_out hb (rg_pair (.int _ _) .nili) rfl
        | Lib.NumEnd.syntax =>
          obtain ⟨u, p, hp⟩ := err_var (n := "strconv.ErrSyntax") (h2 4 errV (by rw [hgl]; rfl)) (by kernel_rfl)
          refine (Tryd.strconv_Atoi_syntax_var ⟨⟨s⟩⟩ hsize ha u p w hp).mono fun e w' hr => ?_
          obtain ⟨N, rfl, _, _, hb⟩ := hr
          exact below_out hb (rg_pair (.int _ _) (rg_err N)) rfl
        | .range =>
          obtain ⟨u, p, hp⟩ := err_var (n := "strconv.ErrRange") (h2 5 errV (by rw [hgl]; rfl)) (by kernel_rfl)
          refine (Tryd.strconv_Atoi_range_var ⟨⟨s⟩⟩ hsize ha u p w hp).mono fun e w' hr => ?_
          obtain ⟨N, rfl, _, _, hb⟩ := hr
          exact below_out hb (rg_pair (.int _ _) (rg_err N)) rfl
    · cases h5
  · cases h5
end Go.Proofs.YtnefminojpandaaDoor
