/- What eval.Read looks for: plain words. -/
import Derived.Test.YtkjhnpmgieplgaaGreatDoorSbShow
import Derived.Test.YtkjhnpmgieplgaaGreatDoorSbTokensP
import Derived.Test.YtkjhnpmgieplgaaGreatDoorSbLexT6
import Derived.Test.YtkjhnpmgieplgaaGreatDoorSbWpL
import Derived.Test.YtkjhnpmgieplgaaGreatDoorSbNumeral
set_option linter.unusedVariables false
set_option linter.unusedSimpArgs false
namespace Go.Proofs.YtkjhnpmgieplgaaGreatDoor
open Go.Sb
set_option maxRecDepth 100000

abbrev Val := Int × Int × List UInt8
def valX (x : Val) : V := .agg [.int .i64 x.1, .int .i64 x.2.1, .str x.2.2]
/-- What has this text. -/
def ReadsP (S : List UInt8) (x : Val) : Prop := ValidP x.1 x.2.1 x.2.2 ∧ showL x.1 x.2.1 x.2.2 = S
/-- The kind that a text tells by its first bytes. -/
def tagL (l : List UInt8) : Int :=
  if l[0]? = some 117 then 0 else if l[0]? = some 34 then 3 else if l[0]? = some 102 then 2 else if l[0]? = some 116 then (if l[1]? = some 114 then 2 else 5) else if l[0]? = some 99 then 4 else if l[0]? = some 108 then 6 else 1
theorem tag_itoa (n : Int) : tagL (Lib.itoa n) = 1 := by
  cases hd : Lib.itoa n with
  | nil => exact absurd hd (itoa_ne n)
  | cons c r =>
    have hc := itoa_bytes n c (by rw [hd]; exact List.mem_cons_self ..)
    have ne : ∀ d : UInt8, (d.toNat ≠ 45 ∧ (d.toNat < 48 ∨ 57 < d.toNat)) → (c :: r)[0]? ≠ some d := fun d h1 h2 => by
      simp only [List.getElem?_cons_zero, Option.some.injEq] at h2
      subst h2; omega
    unfold tagL
    rw [if_neg (ne _ (by decide)), if_neg (ne _ (by decide)), if_neg (ne _ (by decide)), if_neg (ne _ (by decide)), if_neg (ne _ (by decide)), if_neg (ne _ (by decide))]
theorem tag_show {k n : Int} {s : List UInt8} (h : ValidP k n s) : tagL (showL k n s) = k := by
  unfold ValidP at h
  rcases h with ⟨rfl, _⟩ | ⟨rfl, _⟩ | ⟨rfl, _, rfl | rfl⟩ | ⟨rfl, _⟩ | ⟨h4, h6, _⟩
  · rfl
  · exact tag_itoa n
  · rfl
  · rfl
  · rfl
  · have e : k = 4 ∨ k = 5 ∨ k = 6 := by omega
    rcases e with rfl | rfl | rfl <;> rfl
theorem quote_inj {a b : List UInt8} (h : Lex.quote a = Lex.quote b) : a = b := by
  unfold Lex.quote at h
  have h1 := Lex.quote_of [] a
  have h2 := Lex.quote_of [] b
  rw [(List.cons.inj h).2, h2] at h1
  injection h1 with h1
  exact (Prod.mk.inj h1).1.symm
theorem show_inj {k n k' n' : Int} {s s' : List UInt8} (h : ValidP k n s) (h' : ValidP k' n' s') (he : showL k n s = showL k' n' s') : k = k' ∧ n = n' ∧ s = s' := by
  have e : k = k' := by rw [← tag_show h, ← tag_show h', he]
  subst e
  have hn := valid_n h
  have hn' := valid_n h'
  refine ⟨rfl, ?_⟩
  have nil : ∀ {s : List UInt8}, s.length = 0 → s = [] := fun h => List.length_eq_zero_iff.1 h
  unfold ValidP at h h'
  rcases h with ⟨k0, h1, h2⟩ | ⟨k0, h1, h2⟩ | ⟨k0, h1, h2⟩ | ⟨k0, h1, h2⟩ | ⟨k4, k6, h1, h2⟩
  · subst k0
    rcases h' with ⟨_, g1, g2⟩ | h' | h' | h' | h'
    · exact ⟨h1.trans g1.symm, (nil h2).trans (nil g2).symm⟩
    all_goals omega
  · subst k0
    rcases h' with h' | ⟨_, g1, g2⟩ | h' | h' | h'
    · omega
    · exact ⟨itoa_inj hn.1 hn.2 hn'.1 hn'.2 he, (nil h1).trans (nil g1).symm⟩
    all_goals omega
  · subst k0
    rcases h' with h' | h' | ⟨_, g1, g2⟩ | h' | h'
    · omega
    · omega
    · refine ⟨?_, (nil h1).trans (nil g1).symm⟩
      rcases h2 with rfl | rfl <;> rcases g2 with rfl | rfl
      · rfl
      · exact absurd (show ([102, 97, 108, 115, 101] : List UInt8) = [116, 114, 117, 101] from he) (by decide)
      · exact absurd (show ([116, 114, 117, 101] : List UInt8) = [102, 97, 108, 115, 101] from he) (by decide)
      · rfl
    all_goals omega
  · subst k0
    rcases h' with h' | h' | h' | ⟨_, g1, g2⟩ | h'
    · omega
    · omega
    · omega
    · exact ⟨h1.trans g1.symm, quote_inj he⟩
    · omega
  · have e : k = 4 ∨ k = 5 ∨ k = 6 := by omega
    rcases h' with h' | h' | h' | h' | ⟨_, _, g1, g2⟩
    · omega
    · omega
    · omega
    · omega
    · refine ⟨?_, (nil h1).trans (nil g1).symm⟩
      have he' : (wordL k ++ [35]) ++ Lib.itoa n = (wordL k ++ [35]) ++ Lib.itoa n' := by
        rcases e with rfl | rfl | rfl <;> exact he
      exact itoa_inj hn.1 hn.2 hn'.1 hn'.2 (List.append_cancel_left he')
theorem escx_len (t : List UInt8) : (t.flatMap Lex.esc).length ≤ 2 * t.length := by
  induction t with
  | nil => exact Nat.le_refl _
  | cons c t ih =>
    have : (Lex.esc c).length ≤ 2 := by unfold Lex.esc; split <;> exact Nat.le_of_ble_eq_true rfl
    rw [List.flatMap_cons, List.length_append, List.length_cons]; omega
theorem text_len {t : List UInt8} (h : textI t = 1) : Lex.isText t = true ∧ t.length ≤ 60 := by
  have h1 := textI_iff.1 h
  refine ⟨h1, ?_⟩
  unfold Lex.isText at h1
  simp only [Bool.and_eq_true, decide_eq_true_eq] at h1
  exact h1.2
theorem quote_len (t : List UInt8) : (Lex.quote t).length ≤ 2 * t.length + 2 := by
  have := escx_len t
  unfold Lex.quote
  simp only [List.length_cons, List.length_append, List.length_nil]; omega
/-- The tokens of a quote. -/
theorem toks_quote {t : List UInt8} (h : Lex.isText t = true) : Lex.toksL (Lex.quote t) ((Lex.quote t).length + 1) 0 = ([(3, t, 0)], none) := by
  have hc : (Lex.quote t)[0]? = some 34 := rfl
  have hq : Lex.quoteL ((Lex.quote t).drop (0 + 1)) = some (t, (t.flatMap Lex.esc).length + 1) := Lex.quote_of [] t
  have ht := Lex.tok_quote hc hq h
  have hl : (Lex.quote t).length = (t.flatMap Lex.esc).length + 1 + 1 := by unfold Lex.quote; simp
  have hs : Lex.skipN (Lex.quote t) 0 = 0 := Lex.skipN_of (by omega) (Lex.skip_stop hc (by decide) (by decide))
  have h1 := Lex.toks_tok (u := Lex.quote t) (j := 0) (k := (Lex.quote t).length) (by rw [hs, hl]; omega) (by rw [hs]; exact ht)
  rw [h1, hs]
  have h2 : Lex.toksL (Lex.quote t) (Lex.quote t).length (0 + ((t.flatMap Lex.esc).length + 1 + 1)) = ([], none) := by
    have e : (Lex.quote t).length = ((t.flatMap Lex.esc).length + 1) + 1 := hl
    have e2 : 0 + ((t.flatMap Lex.esc).length + 1 + 1) = (Lex.quote t).length := by omega
    rw [e2]
    have := Lex.toks_end (u := Lex.quote t) (j := (Lex.quote t).length) (k := (t.flatMap Lex.esc).length + 1) (by
      have := Lex.skipN_ge (u := Lex.quote t) (i := (Lex.quote t).length) (Nat.le_refl _)
      omega)
    rw [← e] at this
    exact this
  show (((3 : Int), t, ((0 : Nat) : Int)) :: (Lex.toksL (Lex.quote t) (Lex.quote t).length (0 + ((t.flatMap Lex.esc).length + 1 + 1))).1, (Lex.toksL (Lex.quote t) (Lex.quote t).length (0 + ((t.flatMap Lex.esc).length + 1 + 1))).2) = _
  rw [h2]; rfl
theorem cut_word {k : Int} (h4 : 4 ≤ k) (h6 : k ≤ 6) (r : List UInt8) : Lib.cut ((wordL k ++ [35]) ++ r) [35] = (wordL k, r, true) := by
  have e : k = 4 ∨ k = 5 ∨ k = 6 := by omega
  have hx : Lib.index ((wordL k ++ [35]) ++ r) [35] = 4 := by
    rcases e with rfl | rfl | rfl <;> simp [wordL, Lib.index, List.isPrefixOf]
  unfold Lib.cut
  rw [hx, if_pos (by decide)]
  rcases e with rfl | rfl | rfl <;> rfl
theorem cutx_len (s o : List UInt8) : (Lib.cut s o).2.1.length ≤ s.length := by
  unfold Lib.cut
  split
  · rw [List.length_drop]; omega
  · exact Nat.zero_le _
/-- The number that Atoi hands back. -/
def atoiN (s : List UInt8) : Int := match Lib.atoiAll s with
  | .ok v => v
  | Lib.NumEnd.syntax => 0
  | .range => Lib.atoiSat s
theorem atoiV_eq (s : List UInt8) : ∃ e, atoiV s = .tup [.int .i64 (atoiN s), e] := by
  unfold atoiV atoiN
  match Lib.atoiAll s with
  | .ok v => exact ⟨_, rfl⟩
  | Lib.NumEnd.syntax => exact ⟨_, rfl⟩
  | .range => exact ⟨_, rfl⟩
theorem atoiN_itoa {n : Int} (h : -9223372036854775808 ≤ n ∧ n ≤ 9223372036854775807) : atoiN (Lib.itoa n) = n := by
  unfold atoiN; rw [atoi_itoa n h.1 h.2]
/-- All that can have the text. -/
structure CandOk (S : List UInt8) (all : List Val) : Prop where
  unit : (0, 0, []) ∈ all
  num : (1, atoiN S, []) ∈ all
  no : (2, 0, []) ∈ all
  yes : (2, 1, []) ∈ all
  txt : ∀ t, Lex.isText t = true → Lex.quote t = S → (3, 0, t) ∈ all
  ref : ∀ k n, 4 ≤ k → k ≤ 6 → -9223372036854775808 ≤ n → n ≤ 9223372036854775807 → (wordL k ++ [35]) ++ Lib.itoa n = S → (k, n, []) ∈ all
theorem CandOk.all {S : List UInt8} {all : List Val} (h : CandOk S all) {x : Val} (hx : ReadsP S x) : x ∈ all := by
  obtain ⟨k, n, s⟩ := x
  obtain ⟨hv, hs⟩ := hx
  have hn := valid_n hv
  have nil : ∀ {s : List UInt8}, s.length = 0 → s = [] := fun h => List.length_eq_zero_iff.1 h
  have hv' := hv
  unfold ValidP at hv
  rcases hv with ⟨k0, h1, h2⟩ | ⟨k0, h1, h2⟩ | ⟨k0, h1, h2⟩ | ⟨k0, h1, h2⟩ | ⟨k4, k6, h1, h2⟩
  · dsimp only at k0 h1 h2; rw [k0, h1, nil h2]; exact h.unit
  · dsimp only at k0 h1 h2 hs hn; subst k0
    have : Lib.itoa n = S := hs
    rw [nil h1, ← atoiN_itoa hn, this]; exact h.num
  · dsimp only at k0 h1 h2; rw [k0, nil h1]
    rcases h2 with h2 | h2
    · rw [h2]; exact h.no
    · rw [h2]; exact h.yes
  · dsimp only at k0 h1 h2 hs; subst k0
    rw [h1]
    exact h.txt s (text_len h2).1 hs
  · dsimp only at k4 k6 h1 h2 hs hn
    rw [nil h1]
    have e : k = 4 ∨ k = 5 ∨ k = 6 := by omega
    refine h.ref k n k4 k6 hn.1 hn.2 ?_
    rcases e with rfl | rfl | rfl <;> exact hs
open Classical in
/-- What Read answers. -/
noncomputable def readV (S : List UInt8) : V := if h : ∃ x, ReadsP S x then .tup [valX h.choose, .int .i64 0] else .tup [valX (0, 0, []), .int .i64 2]
theorem reads_one {S : List UInt8} {x y : Val} (hx : ReadsP S x) (hy : ReadsP S y) : x = y := by
  obtain ⟨e1, e2, e3⟩ := show_inj hx.1 hy.1 (hx.2.trans hy.2.symm)
  exact Prod.ext e1 (Prod.ext e2 e3)
theorem readV_yes {S : List UInt8} {x : Val} (hx : ReadsP S x) : readV S = .tup [valX x, .int .i64 0] := by
  have h : ∃ x, ReadsP S x := ⟨x, hx⟩
  unfold readV
  rw [dif_pos h, reads_one h.choose_spec hx]
theorem readV_no {S : List UInt8} (hn : ∀ x, ¬ ReadsP S x) : readV S = .tup [valX (0, 0, []), .int .i64 2] := by
  unfold readV
  rw [dif_neg (fun ⟨x, hx⟩ => hn x hx)]
end Go.Proofs.YtkjhnpmgieplgaaGreatDoor

/- What eval.Read keeps in memory. -/

namespace Go.Proofs.YtkjhnpmgieplgaaGreatDoor
open Go.Sb
set_option maxRecDepth 100000

section
variable {P : Go.Program} {E : Env}
theorem _root_.Go.Sb.WpV.lit {c : Go.Code} {s s' : List V} {h : Heap} {Q : Ex → List V → Heap → Prop} (e : s = s') (h1 : WpV P E c s' h Q) : WpV P E c s h Q := e ▸ h1
theorem _root_.Go.Sb.WpV.seqI {x y : Go.Code} {s : List V} {h : Heap} {Q : Ex → List V → Heap → Prop} (I : List V → Heap → Prop) (h1 : WpV P E x s h fun e s' h' => e = .normal ∧ I s' h') (h2 : ∀ s' h', I s' h' → WpV P E y s' h' Q) : WpV P E (.seq x y) s h Q :=
  WpV.seq (h1.mono fun e s' h' q => by obtain ⟨rfl, q⟩ := q; exact h2 s' h' q)
end
def z3 : List V := [.int .i64 0, .int .i64 0, .str []]
def cellsOf (all : List Val) : List V := (all.map valX).flatMap V.cells
theorem val_elem (x : Val) : Elem 3 (valX x) := ⟨_, rfl, rfl, by simp [V.leaf]⟩
theorem vals_elem (l : List Val) : ∀ v ∈ l.map valX, Elem 3 v := fun v hv => by
  obtain ⟨x, _, rfl⟩ := List.mem_map.1 hv; exact val_elem x
theorem cells_len (l : List Val) : (cellsOf l).length = l.length * 3 := by
  have := elems_len (vals_elem l)
  rwa [List.length_map] at this
/-- The memory: what is answered, and all that it could be. -/
def HM (all : List Val) (h : Heap) : Prop := h[0]? = some (.cells 23 z3) ∧ h[1]? = some (.cells 23 (cellsOf all))
def slOf (all : List Val) : V := .sl 1 0 3 all.length all.length (all.length * 3)
theorem HM.push {all : List Val} {h : Heap} (hm : HM all h) (b : Blk) : HM all (Sb.push h b) := ⟨push_old hm.1, push_old hm.2⟩
/-- One value more. -/
theorem app_val {all : List Val} {h : Heap} {b : Nat} {x : Val} (hm : HM all h) (h1 : 0 < all.length) (h2 : all.length ≤ 100) (hb : h[b]? = some (.cells 23 (valX x).cells)) (hbn : b ≠ 1) :
    evAppend envQ 56 (slOf all) (.sl b 0 3 1 1 3) h = some (slOf (all ++ [x]), h.set 1 (.cells 23 (cellsOf (all ++ [x])))) ∧ HM (all ++ [x]) (h.set 1 (.cells 23 (cellsOf (all ++ [x])))) := by
  have hl := cells_len all
  have hca : cellsAt h 1 (all.length * 3) = some (23, cellsOf all) := by simp [cellsAt, hm.2, hl]
  have hcb : cellsAt h b 3 = some (23, (valX x).cells) := by simp [cellsAt, hb, valX, V.cells]
  have he : cellsOf (all ++ [x]) = cellsOf all ++ (valX x).cells := by simp [cellsOf]
  refine ⟨?_, ?_, ?_⟩
  · have e1 : (envQ.ty 56) = some ty56 := rfl
    have e2 : ty56.u = .slice 23 := rfl
    have e3 : (envQ.ty 23) = some ty23 := rfl
    have e4 : ty23.size = 3 := rfl
    have e5 : contents h 3 (.sl b 0 3 1 1 3) = some (1, (valX x).cells) := by
      simp only [contents, hcb, Option.bind_some]
      rw [if_pos trivial, if_pos (by simp [valX, V.cells])]; rfl
    unfold evAppend slOf
    simp only [e1, Option.bind_some, e2, e3]
    rw [e4, if_neg (by decide), e5]
    simp only [Option.bind_some]
    rw [if_neg (by simp), hca]
    simp only [Option.bind_some]
    rw [if_neg (by simp), if_neg (by omega), if_pos (by simp [roomy, show ty23.bytes = 32 from rfl]; omega)]
    rw [List.take_of_length_le (by rw [hl]; simp), he]
    simp
  · rw [set_other (by decide)]; exact hm.1
  · have := (List.getElem?_eq_some_iff.1 hm.2).1
    simp [this]
theorem nodup_lt : ∀ (n : Nat) (l : List Nat), l.Nodup → (∀ i ∈ l, i < n) → l.length ≤ n
  | 0, [], _, _ => Nat.le_refl _
  | 0, a :: _, _, h => absurd (h a (List.mem_cons_self ..)) (by omega)
  | n + 1, l, hd, h => by
    have h1 := nodup_lt n (l.erase n) (hd.erase n) fun i hi => by
      have h2 := (hd.mem_erase_iff).1 hi
      have := h i h2.2; have := h2.1; omega
    have h3 := List.length_erase (a := n) (l := l)
    split at h3 <;> omega
/-- What stands in all, but for names. -/
structure CandA (S : List UInt8) (all : List Val) : Prop where
  unit : (0, 0, []) ∈ all
  num : (1, atoiN S, []) ∈ all
  no : (2, 0, []) ∈ all
  yes : (2, 1, []) ∈ all
  txt : ∀ t, Lex.isText t = true → Lex.quote t = S → (3, 0, t) ∈ all
theorem CandA.more {S : List UInt8} {all : List Val} (h : CandA S all) (l : List Val) : CandA S (all ++ l) :=
  ⟨List.mem_append_left _ h.unit, List.mem_append_left _ h.num, List.mem_append_left _ h.no, List.mem_append_left _ h.yes, fun t h1 h2 => List.mem_append_left _ (h.txt t h1 h2)⟩
def base0 (S : List UInt8) : List Val := [(0, 0, []), (1, atoiN S, []), (2, 0, []), (2, 1, [])]
noncomputable def tellRead (vs : List V) : Option V := match vs with
  | [.str s] => if s.length ≤ 1000000 then some (readV s) else none
  | _ => none
abbrev Vals := List Val
abbrev Nats := List Nat
def nameV (d : Int) (i : Nat) : Val := (4 + (i : Int), d, [])
def allN (all : Vals) (d : Int) (seen : Nats) : Vals := seen.foldl (fun a i => a ++ [nameV d i]) all
theorem allN_snoc (all : Vals) (d : Int) (seen : Nats) (i : Nat) : allN all d (seen ++ [i]) = allN all d seen ++ [nameV d i] := by simp [allN]
theorem allN_eq (d : Int) : ∀ (seen : Nats) (all : Vals), allN all d seen = all ++ seen.map (nameV d)
  | [], all => by simp [allN]
  | i :: seen, all => by
    have := allN_eq d seen (all ++ [nameV d i])
    unfold allN at this ⊢
    rw [List.foldl_cons, this]; simp
theorem repK_le : ∀ (k : Nat) (s : List UInt8), (Lib.replaceK [92, 34] [34] k s).length ≤ s.length
  | 0, _ => Nat.le_refl _
  | k + 1, s => by
    rw [Lib.replaceK]
    split
    · exact Nat.le_refl _
    · rename_i h
      have h1 : Lib.index s [92, 34] ≠ -1 := fun e => h (by rw [e]; rfl)
      have h2 := Lib.index_ge s [92, 34]
      have h3 := Lib.index_room s [92, 34] (by omega)
      have h4 := repK_le k (s.drop ((Lib.index s [92, 34]).toNat + [(92 : UInt8), 34].length))
      rw [List.length_drop] at h4
      simp only [List.length_append, List.length_take, List.length_cons, List.length_nil] at h3 h4 ⊢
      omega
theorem rep_le (s : List UInt8) : (Lib.replaceAll s [92, 34] [34]).length ≤ s.length := by
  show (Lib.replace s [92, 34] [34] (-1)).length ≤ _
  unfold Lib.replace
  split
  · exact Nat.le_refl _
  · exact repK_le _ _
theorem wrK {K : V → Heap → Prop} {g : Heap} {a b : Int} (e : a = b) (hK : K (.int .i64 b) g) : K (.int .i64 a) g := e ▸ hK
def InsOk (S ins : List UInt8) : Prop := (∀ t, Lex.isText t = true → Lex.quote t = S → ins = t) ∧ ins.length ≤ 9223372036854775807
def rdT (S : Bs) (k : Nat) (s : List V) (h : Heap) : Prop :=
  ∃ (ins : Bs), (h = [Blk.cells 23 z3, Blk.cells 23 (cellsOf (base0 S))] ∧ InsOk S ins) ∧ s.length = 116 ∧ s.getD 0 und = und ∧ s.getD 1 und = .str S ∧ s.getD 3 und = .ptr 0 0 3 ∧ s.getD 4 und = .int .i64 0 ∧ s.getD 7 und = slOf (base0 S) ∧ s.getD 8 und = .str ins
theorem rdT_lit {S : Bs} {k : Nat} {s : List V} {h : Heap} (hI : rdT S k s h) : ∃ (ins : Bs) (x : Nat → V), (h = [Blk.cells 23 z3, Blk.cells 23 (cellsOf (base0 S))] ∧ InsOk S ins) ∧
    s = [und, .str S, x 2, .ptr 0 0 3, .int .i64 0, x 5, x 6, slOf (base0 S), .str ins, x 9, x 10, x 11, x 12, x 13, x 14, x 15, x 16, x 17, x 18, x 19, x 20, x 21, x 22, x 23, x 24, x 25, x 26, x 27, x 28, x 29, x 30, x 31, x 32, x 33, x 34, x 35, x 36, x 37, x 38, x 39, x 40, x 41, x 42, x 43, x 44, x 45, x 46, x 47, x 48, x 49, x 50, x 51, x 52, x 53, x 54, x 55, x 56, x 57, x 58, x 59, x 60, x 61, x 62, x 63, x 64, x 65, x 66, x 67, x 68, x 69, x 70, x 71, x 72, x 73, x 74, x 75, x 76, x 77, x 78, x 79, x 80, x 81, x 82, x 83, x 84, x 85, x 86, x 87, x 88, x 89, x 90, x 91, x 92, x 93, x 94, x 95, x 96, x 97, x 98, x 99, x 100, x 101, x 102, x 103, x 104, x 105, x 106, x 107, x 108, x 109, x 110, x 111, x 112, x 113, x 114, x 115] := by
  obtain ⟨ins, hF, hl, e0, e1, e3, e4, e7, e8⟩ := hI
  refine ⟨ins, fun n => s.getD n und, hF, (lit_of hl).trans ?_⟩
  show [s.getD 0 und, s.getD 1 und, s.getD 2 und, s.getD 3 und, s.getD 4 und, s.getD 5 und, s.getD 6 und, s.getD 7 und, s.getD 8 und, s.getD 9 und, s.getD 10 und, s.getD 11 und, s.getD 12 und, s.getD 13 und, s.getD 14 und, s.getD 15 und, s.getD 16 und, s.getD 17 und, s.getD 18 und, s.getD 19 und, s.getD 20 und, s.getD 21 und, s.getD 22 und, s.getD 23 und, s.getD 24 und, s.getD 25 und, s.getD 26 und, s.getD 27 und, s.getD 28 und, s.getD 29 und, s.getD 30 und, s.getD 31 und, s.getD 32 und, s.getD 33 und, s.getD 34 und, s.getD 35 und, s.getD 36 und, s.getD 37 und, s.getD 38 und, s.getD 39 und, s.getD 40 und, s.getD 41 und, s.getD 42 und, s.getD 43 und, s.getD 44 und, s.getD 45 und, s.getD 46 und, s.getD 47 und, s.getD 48 und, s.getD 49 und, s.getD 50 und, s.getD 51 und, s.getD 52 und, s.getD 53 und, s.getD 54 und, s.getD 55 und, s.getD 56 und, s.getD 57 und, s.getD 58 und, s.getD 59 und, s.getD 60 und, s.getD 61 und, s.getD 62 und, s.getD 63 und, s.getD 64 und, s.getD 65 und, s.getD 66 und, s.getD 67 und, s.getD 68 und, s.getD 69 und, s.getD 70 und, s.getD 71 und, s.getD 72 und, s.getD 73 und, s.getD 74 und, s.getD 75 und, s.getD 76 und, s.getD 77 und, s.getD 78 und, s.getD 79 und, s.getD 80 und, s.getD 81 und, s.getD 82 und, s.getD 83 und, s.getD 84 und, s.getD 85 und, s.getD 86 und, s.getD 87 und, s.getD 88 und, s.getD 89 und, s.getD 90 und, s.getD 91 und, s.getD 92 und, s.getD 93 und, s.getD 94 und, s.getD 95 und, s.getD 96 und, s.getD 97 und, s.getD 98 und, s.getD 99 und, s.getD 100 und, s.getD 101 und, s.getD 102 und, s.getD 103 und, s.getD 104 und, s.getD 105 und, s.getD 106 und, s.getD 107 und, s.getD 108 und, s.getD 109 und, s.getD 110 und, s.getD 111 und, s.getD 112 und, s.getD 113 und, s.getD 114 und, s.getD 115 und] = _
  rw [e0, e1, e3, e4, e7, e8]
def rd0 (S : Bs) (k : Nat) (s : List V) (h : Heap) : Prop :=
  ∃ (z : Int), (z = 0 ∧ h = [Blk.cells 23 z3, Blk.cells 23 (cellsOf (base0 S))]) ∧ s.length = 116 ∧ s.getD 0 und = und ∧ s.getD 1 und = .str S ∧ s.getD 3 und = .ptr 0 0 3 ∧ s.getD 4 und = .int .i64 0 ∧ s.getD 7 und = slOf (base0 S)
theorem rd0_lit {S : Bs} {k : Nat} {s : List V} {h : Heap} (hI : rd0 S k s h) : ∃ (z : Int) (x : Nat → V), (z = 0 ∧ h = [Blk.cells 23 z3, Blk.cells 23 (cellsOf (base0 S))]) ∧
    s = [und, .str S, x 2, .ptr 0 0 3, .int .i64 0, x 5, x 6, slOf (base0 S), x 8, x 9, x 10, x 11, x 12, x 13, x 14, x 15, x 16, x 17, x 18, x 19, x 20, x 21, x 22, x 23, x 24, x 25, x 26, x 27, x 28, x 29, x 30, x 31, x 32, x 33, x 34, x 35, x 36, x 37, x 38, x 39, x 40, x 41, x 42, x 43, x 44, x 45, x 46, x 47, x 48, x 49, x 50, x 51, x 52, x 53, x 54, x 55, x 56, x 57, x 58, x 59, x 60, x 61, x 62, x 63, x 64, x 65, x 66, x 67, x 68, x 69, x 70, x 71, x 72, x 73, x 74, x 75, x 76, x 77, x 78, x 79, x 80, x 81, x 82, x 83, x 84, x 85, x 86, x 87, x 88, x 89, x 90, x 91, x 92, x 93, x 94, x 95, x 96, x 97, x 98, x 99, x 100, x 101, x 102, x 103, x 104, x 105, x 106, x 107, x 108, x 109, x 110, x 111, x 112, x 113, x 114, x 115] := by
  obtain ⟨z, hF, hl, e0, e1, e3, e4, e7⟩ := hI
  refine ⟨z, fun n => s.getD n und, hF, (lit_of hl).trans ?_⟩
  show [s.getD 0 und, s.getD 1 und, s.getD 2 und, s.getD 3 und, s.getD 4 und, s.getD 5 und, s.getD 6 und, s.getD 7 und, s.getD 8 und, s.getD 9 und, s.getD 10 und, s.getD 11 und, s.getD 12 und, s.getD 13 und, s.getD 14 und, s.getD 15 und, s.getD 16 und, s.getD 17 und, s.getD 18 und, s.getD 19 und, s.getD 20 und, s.getD 21 und, s.getD 22 und, s.getD 23 und, s.getD 24 und, s.getD 25 und, s.getD 26 und, s.getD 27 und, s.getD 28 und, s.getD 29 und, s.getD 30 und, s.getD 31 und, s.getD 32 und, s.getD 33 und, s.getD 34 und, s.getD 35 und, s.getD 36 und, s.getD 37 und, s.getD 38 und, s.getD 39 und, s.getD 40 und, s.getD 41 und, s.getD 42 und, s.getD 43 und, s.getD 44 und, s.getD 45 und, s.getD 46 und, s.getD 47 und, s.getD 48 und, s.getD 49 und, s.getD 50 und, s.getD 51 und, s.getD 52 und, s.getD 53 und, s.getD 54 und, s.getD 55 und, s.getD 56 und, s.getD 57 und, s.getD 58 und, s.getD 59 und, s.getD 60 und, s.getD 61 und, s.getD 62 und, s.getD 63 und, s.getD 64 und, s.getD 65 und, s.getD 66 und, s.getD 67 und, s.getD 68 und, s.getD 69 und, s.getD 70 und, s.getD 71 und, s.getD 72 und, s.getD 73 und, s.getD 74 und, s.getD 75 und, s.getD 76 und, s.getD 77 und, s.getD 78 und, s.getD 79 und, s.getD 80 und, s.getD 81 und, s.getD 82 und, s.getD 83 und, s.getD 84 und, s.getD 85 und, s.getD 86 und, s.getD 87 und, s.getD 88 und, s.getD 89 und, s.getD 90 und, s.getD 91 und, s.getD 92 und, s.getD 93 und, s.getD 94 und, s.getD 95 und, s.getD 96 und, s.getD 97 und, s.getD 98 und, s.getD 99 und, s.getD 100 und, s.getD 101 und, s.getD 102 und, s.getD 103 und, s.getD 104 und, s.getD 105 und, s.getD 106 und, s.getD 107 und, s.getD 108 und, s.getD 109 und, s.getD 110 und, s.getD 111 und, s.getD 112 und, s.getD 113 und, s.getD 114 und, s.getD 115 und] = _
  rw [e0, e1, e3, e4, e7]
def rdM (S : Bs) (all : Vals) (d : Int) (m r : Nat) (seen : Nats) (k : Nat) (s : List V) (h : Heap) : Prop :=
  ∃ (z : Int), (z = 0 ∧ HM (allN all d seen) h ∧ h[m]? = some (.map nms) ∧ seen.Nodup ∧ ∀ i ∈ seen, i < 3) ∧ s.length = 116 ∧ s.getD 0 und = und ∧ s.getD 1 und = .str S ∧ s.getD 3 und = .ptr 0 0 3 ∧ s.getD 4 und = .int .i64 0 ∧ s.getD 7 und = slOf (allN all d seen) ∧ s.getD 15 und = .int .i64 d ∧ s.getD 84 und = .raw r
theorem rdM_lit {S : Bs} {all : Vals} {d : Int} {m r : Nat} {seen : Nats} {k : Nat} {s : List V} {h : Heap} (hI : rdM S all d m r seen k s h) : ∃ (z : Int) (x : Nat → V), (z = 0 ∧ HM (allN all d seen) h ∧ h[m]? = some (.map nms) ∧ seen.Nodup ∧ ∀ i ∈ seen, i < 3) ∧
    s = [und, .str S, x 2, .ptr 0 0 3, .int .i64 0, x 5, x 6, slOf (allN all d seen), x 8, x 9, x 10, x 11, x 12, x 13, x 14, .int .i64 d, x 16, x 17, x 18, x 19, x 20, x 21, x 22, x 23, x 24, x 25, x 26, x 27, x 28, x 29, x 30, x 31, x 32, x 33, x 34, x 35, x 36, x 37, x 38, x 39, x 40, x 41, x 42, x 43, x 44, x 45, x 46, x 47, x 48, x 49, x 50, x 51, x 52, x 53, x 54, x 55, x 56, x 57, x 58, x 59, x 60, x 61, x 62, x 63, x 64, x 65, x 66, x 67, x 68, x 69, x 70, x 71, x 72, x 73, x 74, x 75, x 76, x 77, x 78, x 79, x 80, x 81, x 82, x 83, .raw r, x 85, x 86, x 87, x 88, x 89, x 90, x 91, x 92, x 93, x 94, x 95, x 96, x 97, x 98, x 99, x 100, x 101, x 102, x 103, x 104, x 105, x 106, x 107, x 108, x 109, x 110, x 111, x 112, x 113, x 114, x 115] := by
  obtain ⟨z, hF, hl, e0, e1, e3, e4, e7, e15, e84⟩ := hI
  refine ⟨z, fun n => s.getD n und, hF, (lit_of hl).trans ?_⟩
  show [s.getD 0 und, s.getD 1 und, s.getD 2 und, s.getD 3 und, s.getD 4 und, s.getD 5 und, s.getD 6 und, s.getD 7 und, s.getD 8 und, s.getD 9 und, s.getD 10 und, s.getD 11 und, s.getD 12 und, s.getD 13 und, s.getD 14 und, s.getD 15 und, s.getD 16 und, s.getD 17 und, s.getD 18 und, s.getD 19 und, s.getD 20 und, s.getD 21 und, s.getD 22 und, s.getD 23 und, s.getD 24 und, s.getD 25 und, s.getD 26 und, s.getD 27 und, s.getD 28 und, s.getD 29 und, s.getD 30 und, s.getD 31 und, s.getD 32 und, s.getD 33 und, s.getD 34 und, s.getD 35 und, s.getD 36 und, s.getD 37 und, s.getD 38 und, s.getD 39 und, s.getD 40 und, s.getD 41 und, s.getD 42 und, s.getD 43 und, s.getD 44 und, s.getD 45 und, s.getD 46 und, s.getD 47 und, s.getD 48 und, s.getD 49 und, s.getD 50 und, s.getD 51 und, s.getD 52 und, s.getD 53 und, s.getD 54 und, s.getD 55 und, s.getD 56 und, s.getD 57 und, s.getD 58 und, s.getD 59 und, s.getD 60 und, s.getD 61 und, s.getD 62 und, s.getD 63 und, s.getD 64 und, s.getD 65 und, s.getD 66 und, s.getD 67 und, s.getD 68 und, s.getD 69 und, s.getD 70 und, s.getD 71 und, s.getD 72 und, s.getD 73 und, s.getD 74 und, s.getD 75 und, s.getD 76 und, s.getD 77 und, s.getD 78 und, s.getD 79 und, s.getD 80 und, s.getD 81 und, s.getD 82 und, s.getD 83 und, s.getD 84 und, s.getD 85 und, s.getD 86 und, s.getD 87 und, s.getD 88 und, s.getD 89 und, s.getD 90 und, s.getD 91 und, s.getD 92 und, s.getD 93 und, s.getD 94 und, s.getD 95 und, s.getD 96 und, s.getD 97 und, s.getD 98 und, s.getD 99 und, s.getD 100 und, s.getD 101 und, s.getD 102 und, s.getD 103 und, s.getD 104 und, s.getD 105 und, s.getD 106 und, s.getD 107 und, s.getD 108 und, s.getD 109 und, s.getD 110 und, s.getD 111 und, s.getD 112 und, s.getD 113 und, s.getD 114 und, s.getD 115 und] = _
  rw [e0, e1, e3, e4, e7, e15, e84]
def rdA (S : Bs) (k : Nat) (s : List V) (h : Heap) : Prop :=
  ∃ (all : Vals), (HM all h ∧ CandA S all ∧ 0 < all.length ∧ all.length ≤ 50 ∧ (∀ x ∈ all, x.2.2.length ≤ 9223372036854775807)) ∧ s.length = 116 ∧ s.getD 0 und = und ∧ s.getD 1 und = .str S ∧ s.getD 3 und = .ptr 0 0 3 ∧ s.getD 4 und = .int .i64 0 ∧ s.getD 7 und = slOf all
theorem rdA_lit {S : Bs} {k : Nat} {s : List V} {h : Heap} (hI : rdA S k s h) : ∃ (all : Vals) (x : Nat → V), (HM all h ∧ CandA S all ∧ 0 < all.length ∧ all.length ≤ 50 ∧ (∀ x ∈ all, x.2.2.length ≤ 9223372036854775807)) ∧
    s = [und, .str S, x 2, .ptr 0 0 3, .int .i64 0, x 5, x 6, slOf all, x 8, x 9, x 10, x 11, x 12, x 13, x 14, x 15, x 16, x 17, x 18, x 19, x 20, x 21, x 22, x 23, x 24, x 25, x 26, x 27, x 28, x 29, x 30, x 31, x 32, x 33, x 34, x 35, x 36, x 37, x 38, x 39, x 40, x 41, x 42, x 43, x 44, x 45, x 46, x 47, x 48, x 49, x 50, x 51, x 52, x 53, x 54, x 55, x 56, x 57, x 58, x 59, x 60, x 61, x 62, x 63, x 64, x 65, x 66, x 67, x 68, x 69, x 70, x 71, x 72, x 73, x 74, x 75, x 76, x 77, x 78, x 79, x 80, x 81, x 82, x 83, x 84, x 85, x 86, x 87, x 88, x 89, x 90, x 91, x 92, x 93, x 94, x 95, x 96, x 97, x 98, x 99, x 100, x 101, x 102, x 103, x 104, x 105, x 106, x 107, x 108, x 109, x 110, x 111, x 112, x 113, x 114, x 115] := by
  obtain ⟨all, hF, hl, e0, e1, e3, e4, e7⟩ := hI
  refine ⟨all, fun n => s.getD n und, hF, (lit_of hl).trans ?_⟩
  show [s.getD 0 und, s.getD 1 und, s.getD 2 und, s.getD 3 und, s.getD 4 und, s.getD 5 und, s.getD 6 und, s.getD 7 und, s.getD 8 und, s.getD 9 und, s.getD 10 und, s.getD 11 und, s.getD 12 und, s.getD 13 und, s.getD 14 und, s.getD 15 und, s.getD 16 und, s.getD 17 und, s.getD 18 und, s.getD 19 und, s.getD 20 und, s.getD 21 und, s.getD 22 und, s.getD 23 und, s.getD 24 und, s.getD 25 und, s.getD 26 und, s.getD 27 und, s.getD 28 und, s.getD 29 und, s.getD 30 und, s.getD 31 und, s.getD 32 und, s.getD 33 und, s.getD 34 und, s.getD 35 und, s.getD 36 und, s.getD 37 und, s.getD 38 und, s.getD 39 und, s.getD 40 und, s.getD 41 und, s.getD 42 und, s.getD 43 und, s.getD 44 und, s.getD 45 und, s.getD 46 und, s.getD 47 und, s.getD 48 und, s.getD 49 und, s.getD 50 und, s.getD 51 und, s.getD 52 und, s.getD 53 und, s.getD 54 und, s.getD 55 und, s.getD 56 und, s.getD 57 und, s.getD 58 und, s.getD 59 und, s.getD 60 und, s.getD 61 und, s.getD 62 und, s.getD 63 und, s.getD 64 und, s.getD 65 und, s.getD 66 und, s.getD 67 und, s.getD 68 und, s.getD 69 und, s.getD 70 und, s.getD 71 und, s.getD 72 und, s.getD 73 und, s.getD 74 und, s.getD 75 und, s.getD 76 und, s.getD 77 und, s.getD 78 und, s.getD 79 und, s.getD 80 und, s.getD 81 und, s.getD 82 und, s.getD 83 und, s.getD 84 und, s.getD 85 und, s.getD 86 und, s.getD 87 und, s.getD 88 und, s.getD 89 und, s.getD 90 und, s.getD 91 und, s.getD 92 und, s.getD 93 und, s.getD 94 und, s.getD 95 und, s.getD 96 und, s.getD 97 und, s.getD 98 und, s.getD 99 und, s.getD 100 und, s.getD 101 und, s.getD 102 und, s.getD 103 und, s.getD 104 und, s.getD 105 und, s.getD 106 und, s.getD 107 und, s.getD 108 und, s.getD 109 und, s.getD 110 und, s.getD 111 und, s.getD 112 und, s.getD 113 und, s.getD 114 und, s.getD 115 und] = _
  rw [e0, e1, e3, e4, e7]
def rdB (S : Bs) (k : Nat) (s : List V) (h : Heap) : Prop :=
  ∃ (all : Vals), (HM all h ∧ CandOk S all ∧ all.length ≤ 100 ∧ (∀ x ∈ all, x.2.2.length ≤ 9223372036854775807)) ∧ s.length = 116 ∧ s.getD 0 und = und ∧ s.getD 1 und = .str S ∧ s.getD 3 und = .ptr 0 0 3 ∧ s.getD 4 und = .int .i64 0 ∧ s.getD 7 und = slOf all
theorem rdB_lit {S : Bs} {k : Nat} {s : List V} {h : Heap} (hI : rdB S k s h) : ∃ (all : Vals) (x : Nat → V), (HM all h ∧ CandOk S all ∧ all.length ≤ 100 ∧ (∀ x ∈ all, x.2.2.length ≤ 9223372036854775807)) ∧
    s = [und, .str S, x 2, .ptr 0 0 3, .int .i64 0, x 5, x 6, slOf all, x 8, x 9, x 10, x 11, x 12, x 13, x 14, x 15, x 16, x 17, x 18, x 19, x 20, x 21, x 22, x 23, x 24, x 25, x 26, x 27, x 28, x 29, x 30, x 31, x 32, x 33, x 34, x 35, x 36, x 37, x 38, x 39, x 40, x 41, x 42, x 43, x 44, x 45, x 46, x 47, x 48, x 49, x 50, x 51, x 52, x 53, x 54, x 55, x 56, x 57, x 58, x 59, x 60, x 61, x 62, x 63, x 64, x 65, x 66, x 67, x 68, x 69, x 70, x 71, x 72, x 73, x 74, x 75, x 76, x 77, x 78, x 79, x 80, x 81, x 82, x 83, x 84, x 85, x 86, x 87, x 88, x 89, x 90, x 91, x 92, x 93, x 94, x 95, x 96, x 97, x 98, x 99, x 100, x 101, x 102, x 103, x 104, x 105, x 106, x 107, x 108, x 109, x 110, x 111, x 112, x 113, x 114, x 115] := by
  obtain ⟨all, hF, hl, e0, e1, e3, e4, e7⟩ := hI
  refine ⟨all, fun n => s.getD n und, hF, (lit_of hl).trans ?_⟩
  show [s.getD 0 und, s.getD 1 und, s.getD 2 und, s.getD 3 und, s.getD 4 und, s.getD 5 und, s.getD 6 und, s.getD 7 und, s.getD 8 und, s.getD 9 und, s.getD 10 und, s.getD 11 und, s.getD 12 und, s.getD 13 und, s.getD 14 und, s.getD 15 und, s.getD 16 und, s.getD 17 und, s.getD 18 und, s.getD 19 und, s.getD 20 und, s.getD 21 und, s.getD 22 und, s.getD 23 und, s.getD 24 und, s.getD 25 und, s.getD 26 und, s.getD 27 und, s.getD 28 und, s.getD 29 und, s.getD 30 und, s.getD 31 und, s.getD 32 und, s.getD 33 und, s.getD 34 und, s.getD 35 und, s.getD 36 und, s.getD 37 und, s.getD 38 und, s.getD 39 und, s.getD 40 und, s.getD 41 und, s.getD 42 und, s.getD 43 und, s.getD 44 und, s.getD 45 und, s.getD 46 und, s.getD 47 und, s.getD 48 und, s.getD 49 und, s.getD 50 und, s.getD 51 und, s.getD 52 und, s.getD 53 und, s.getD 54 und, s.getD 55 und, s.getD 56 und, s.getD 57 und, s.getD 58 und, s.getD 59 und, s.getD 60 und, s.getD 61 und, s.getD 62 und, s.getD 63 und, s.getD 64 und, s.getD 65 und, s.getD 66 und, s.getD 67 und, s.getD 68 und, s.getD 69 und, s.getD 70 und, s.getD 71 und, s.getD 72 und, s.getD 73 und, s.getD 74 und, s.getD 75 und, s.getD 76 und, s.getD 77 und, s.getD 78 und, s.getD 79 und, s.getD 80 und, s.getD 81 und, s.getD 82 und, s.getD 83 und, s.getD 84 und, s.getD 85 und, s.getD 86 und, s.getD 87 und, s.getD 88 und, s.getD 89 und, s.getD 90 und, s.getD 91 und, s.getD 92 und, s.getD 93 und, s.getD 94 und, s.getD 95 und, s.getD 96 und, s.getD 97 und, s.getD 98 und, s.getD 99 und, s.getD 100 und, s.getD 101 und, s.getD 102 und, s.getD 103 und, s.getD 104 und, s.getD 105 und, s.getD 106 und, s.getD 107 und, s.getD 108 und, s.getD 109 und, s.getD 110 und, s.getD 111 und, s.getD 112 und, s.getD 113 und, s.getD 114 und, s.getD 115 und] = _
  rw [e0, e1, e3, e4, e7]
def rdL (S : Bs) (all : Vals) (k : Nat) (s : List V) (h : Heap) : Prop :=
  ∃ (i : Nat) (z : Int), (i + k = all.length ∧ z = i ∧ HM all h ∧ ∀ x ∈ all.take i, ¬ ReadsP S x) ∧ s.length = 116 ∧ s.getD 0 und = und ∧ s.getD 1 und = .str S ∧ s.getD 3 und = .ptr 0 0 3 ∧ s.getD 4 und = .int .i64 0 ∧ s.getD 95 und = slOf all ∧ s.getD 96 und = .int .i64 all.length ∧ s.getD 97 und = .int .i64 z
theorem rdL_lit {S : Bs} {all : Vals} {k : Nat} {s : List V} {h : Heap} (hI : rdL S all k s h) : ∃ (i : Nat) (z : Int) (x : Nat → V), (i + k = all.length ∧ z = i ∧ HM all h ∧ ∀ x ∈ all.take i, ¬ ReadsP S x) ∧
    s = [und, .str S, x 2, .ptr 0 0 3, .int .i64 0, x 5, x 6, x 7, x 8, x 9, x 10, x 11, x 12, x 13, x 14, x 15, x 16, x 17, x 18, x 19, x 20, x 21, x 22, x 23, x 24, x 25, x 26, x 27, x 28, x 29, x 30, x 31, x 32, x 33, x 34, x 35, x 36, x 37, x 38, x 39, x 40, x 41, x 42, x 43, x 44, x 45, x 46, x 47, x 48, x 49, x 50, x 51, x 52, x 53, x 54, x 55, x 56, x 57, x 58, x 59, x 60, x 61, x 62, x 63, x 64, x 65, x 66, x 67, x 68, x 69, x 70, x 71, x 72, x 73, x 74, x 75, x 76, x 77, x 78, x 79, x 80, x 81, x 82, x 83, x 84, x 85, x 86, x 87, x 88, x 89, x 90, x 91, x 92, x 93, x 94, slOf all, .int .i64 all.length, .int .i64 z, x 98, x 99, x 100, x 101, x 102, x 103, x 104, x 105, x 106, x 107, x 108, x 109, x 110, x 111, x 112, x 113, x 114, x 115] := by
  obtain ⟨i, z, hF, hl, e0, e1, e3, e4, e95, e96, e97⟩ := hI
  refine ⟨i, z, fun n => s.getD n und, hF, (lit_of hl).trans ?_⟩
  show [s.getD 0 und, s.getD 1 und, s.getD 2 und, s.getD 3 und, s.getD 4 und, s.getD 5 und, s.getD 6 und, s.getD 7 und, s.getD 8 und, s.getD 9 und, s.getD 10 und, s.getD 11 und, s.getD 12 und, s.getD 13 und, s.getD 14 und, s.getD 15 und, s.getD 16 und, s.getD 17 und, s.getD 18 und, s.getD 19 und, s.getD 20 und, s.getD 21 und, s.getD 22 und, s.getD 23 und, s.getD 24 und, s.getD 25 und, s.getD 26 und, s.getD 27 und, s.getD 28 und, s.getD 29 und, s.getD 30 und, s.getD 31 und, s.getD 32 und, s.getD 33 und, s.getD 34 und, s.getD 35 und, s.getD 36 und, s.getD 37 und, s.getD 38 und, s.getD 39 und, s.getD 40 und, s.getD 41 und, s.getD 42 und, s.getD 43 und, s.getD 44 und, s.getD 45 und, s.getD 46 und, s.getD 47 und, s.getD 48 und, s.getD 49 und, s.getD 50 und, s.getD 51 und, s.getD 52 und, s.getD 53 und, s.getD 54 und, s.getD 55 und, s.getD 56 und, s.getD 57 und, s.getD 58 und, s.getD 59 und, s.getD 60 und, s.getD 61 und, s.getD 62 und, s.getD 63 und, s.getD 64 und, s.getD 65 und, s.getD 66 und, s.getD 67 und, s.getD 68 und, s.getD 69 und, s.getD 70 und, s.getD 71 und, s.getD 72 und, s.getD 73 und, s.getD 74 und, s.getD 75 und, s.getD 76 und, s.getD 77 und, s.getD 78 und, s.getD 79 und, s.getD 80 und, s.getD 81 und, s.getD 82 und, s.getD 83 und, s.getD 84 und, s.getD 85 und, s.getD 86 und, s.getD 87 und, s.getD 88 und, s.getD 89 und, s.getD 90 und, s.getD 91 und, s.getD 92 und, s.getD 93 und, s.getD 94 und, s.getD 95 und, s.getD 96 und, s.getD 97 und, s.getD 98 und, s.getD 99 und, s.getD 100 und, s.getD 101 und, s.getD 102 und, s.getD 103 und, s.getD 104 und, s.getD 105 und, s.getD 106 und, s.getD 107 und, s.getD 108 und, s.getD 109 und, s.getD 110 und, s.getD 111 und, s.getD 112 und, s.getD 113 und, s.getD 114 und, s.getD 115 und] = _
  rw [e0, e1, e3, e4, e95, e96, e97]

@[reducible] def fstC (c : Go.Code) : Go.Code := match c with | .seq a _ => a | c => c
@[reducible] def sndC (c : Go.Code) : Go.Code := match c with | .seq _ b => b | c => c
abbrev ReadQ (S : List UInt8) : Ex → List V → Heap → Prop := fun e s' h' => (e = .normal ∨ e = .ret) ∧ ∃ u, evResults envQ fn19.res s' h' = some u ∧ fz envQ h' depthF u = some (readV S)
end Go.Proofs.YtkjhnpmgieplgaaGreatDoor

/- eval.Read: names of the world's things, in any order. -/

namespace Go.Proofs.YtkjhnpmgieplgaaGreatDoor
open Go.Sb
set_option maxRecDepth 100000

theorem ops_slRb {E : Env} {md : Go.FuncId → Sb.Mode} {o : ROp} {os : List ROp} {s : List V} {h g : Heap} {v : V} {K : List V → Heap → Prop} {a0 a1 a2 a3 a4 a5 a6 a7 a8 a9 a10 a11 a12 a13 a14 a15 a16 a17 a18 a19 a20 a21 a22 a23 a24 a25 a26 a27 a28 a29 a30 a31 a32 a33 a34 a35 a36 a37 a38 a39 a40 a41 a42 a43 a44 a45 a46 a47 a48 a49 a50 a51 a52 a53 a54 a55 a56 a57 a58 a59 a60 a61 a62 a63 a64 a65 a66 a67 a68 a69 a70 a71 a72 a73 a74 a75 a76 a77 a78 a79 a80 a81 a82 a83 a84 a85 a86 a87 a88 a89 a90 a91 a92 a93 a94 a95 a96 a97 a98 a99 a100 a101 a102 a103 a104 a105 a106 a107 a108 a109 a110 a111 a112 a113 a114 a115 : V} (hg : o.gd = none) (hop : ∀ K : V → Heap → Prop, K v g → runOp E md o.op s h K) (hs : putT s o.dst v = [a0, a1, a2, a3, a4, a5, a6, a7, a8, a9, a10, a11, a12, a13, a14, a15, a16, a17, a18, a19, a20, a21, a22, a23, a24, a25, a26, a27, a28, a29, a30, a31, a32, a33, a34, a35, a36, a37, a38, a39, a40, a41, a42, a43, a44, a45, a46, a47, a48, a49, a50, a51, a52, a53, a54, a55, a56, a57, a58, a59, a60, a61, a62, a63, a64, a65, a66, a67, a68, a69, a70, a71, a72, a73, a74, a75, a76, a77, a78, a79, a80, a81, a82, a83, a84, a85, a86, a87, a88, a89, a90, a91, a92, a93, a94, a95, a96, a97, a98, a99, a100, a101, a102, a103, a104, a105, a106, a107, a108, a109, a110, a111, a112, a113, a114, a115]) (hn : runOps E md os [a0, a1, a2, a3, a4, a5, a6, a7, a8, a9, a10, a11, a12, a13, a14, a15, a16, a17, a18, a19, a20, a21, a22, a23, a24, a25, a26, a27, a28, a29, a30, a31, a32, a33, a34, a35, a36, a37, a38, a39, a40, a41, a42, a43, a44, a45, a46, a47, a48, a49, a50, a51, a52, a53, a54, a55, a56, a57, a58, a59, a60, a61, a62, a63, a64, a65, a66, a67, a68, a69, a70, a71, a72, a73, a74, a75, a76, a77, a78, a79, a80, a81, a82, a83, a84, a85, a86, a87, a88, a89, a90, a91, a92, a93, a94, a95, a96, a97, a98, a99, a100, a101, a102, a103, a104, a105, a106, a107, a108, a109, a110, a111, a112, a113, a114, a115] g K) : runOps E md (o :: os) s h K := ops_sl hg hop hs hn

theorem cut_told (h : Heap) (s o : List UInt8) (h1 : s.length ≤ 1000000) : Has envQ .own 51 [.str s, .str o] h (.val (.tup [.str (Lib.cut s o).1, .str (Lib.cut s o).2.1, .bool (Lib.cut s o).2.2]) h) :=
  Has.told (E := envQ) (a := [.str s, .str o]) (p := tellCut) rfl rfl (by simp only [tellCut]; rw [if_pos h1]) rfl
theorem nms_at {i : Nat} {k v : V} (h : nms[i]? = some (k, v)) : i < 3 ∧ k = .int .i64 (4 + (i : Int)) := by
  match i, h with
  | 0, h => cases h; exact ⟨by omega, rfl⟩
  | 1, h => cases h; exact ⟨by omega, rfl⟩
  | 2, h => cases h; exact ⟨by omega, rfl⟩
  | i + 3, h => simp [nms] at h
set_option maxHeartbeats 8000000 in
theorem read_names {S : List UInt8} (hS : S.length ≤ 1000000) {s : List V} {h : Heap} (hI : rdA S 0 s h) : WpV Tryz.prog envQ (fstC (sndC (sndC (sndC (sndC fn19.body))))) s h fun e s' h' => e = .normal ∧ rdB S 0 s' h' := by
  obtain ⟨all, x, ⟨hm, hA, h0, h50, hl⟩, rfl⟩ := rdA_lit hI
  clear hI
  have hC := fun g => cut_told g S [35] hS
  have hCN : ∀ k n, 4 ≤ k → k ≤ 6 → (wordL k ++ [35]) ++ Lib.itoa n = S → Lib.cut S [35] = (wordL k, Lib.itoa n, true) := fun k n h4 h6 e => by rw [← e]; exact cut_word h4 h6 _
  have hcl := cutx_len S [35]
  generalize Lib.cut S [35] = ct at hC hCN hcl
  obtain ⟨c1, c2, c3⟩ := ct
  refine WpV.seq (WpV.of (md := fn19.md) envQ_ok rfl ?_)
  refine RunP.regionR _ (fun K => rfl) ?_
  refine ops_slRb rfl (fun K hK => hK) rfl ?_
  refine ops_slRb rfl (fun K hK => CallK.of (hC _) hK) rfl ?_
  refine ops_slRb rfl (fun K hK => hK) rfl ?_
  refine ops_slRb rfl (fun K hK => hK) rfl ?_
  refine ops_slRb rfl (fun K hK => hK) rfl ?_
  refine ops_slRb rfl (fun K hK => hK) rfl ?_
  refine ops_slRb rfl (fun K hK => hK) rfl ?_
  refine ops_slRb rfl (fun K hK => hK) rfl ?_
  refine ops_slRb rfl (fun K hK => hK) rfl ?_
  refine WpV.seq (WpV.of (md := fn19.md) envQ_ok rfl ?_)
  refine RunP.regionR _ (fun K => rfl) ?_
  refine ops_slRb rfl (fun K hK => hK) rfl ?_
  refine WpV.cond (md := fn19.md) (t := c3) rfl (fun ht => ?_) (fun hf => ?_)
  · obtain ⟨e1, he1⟩ := atoiV_eq c2
    have hAt := fun h => atoi_told h c2 (by dsimp only at hcl; omega)
    simp only [he1] at hAt
    refine WpV.seq (WpV.of (md := fn19.md) envQ_ok rfl ?_)
    refine RunP.regionR _ (fun K => rfl) ?_
    refine ops_slRb rfl (fun K hK => hK) rfl ?_
    refine ops_slRb rfl (fun K hK => CallK.of (hAt _) hK) rfl ?_
    refine ops_slRb rfl (fun K hK => hK) rfl ?_
    refine ops_slRb rfl (fun K hK => hK) rfl ?_
    refine ops_slRb rfl (fun K hK => hK) rfl ?_
    refine ops_slRb rfl (fun K hK => hK) rfl ?_
    refine ops_slRb rfl (fun K hK => hK) rfl ?_
    obtain ⟨v1, g1, q1, rfl, rfl⟩ := names_has h
    refine WpV.range envQ_ok (md := fn19.md) (T := 77) (d := ty77) rfl rfl rfl rfl rfl rfl rfl rfl rfl rfl rfl rfl rfl rfl rfl rfl rfl (by decide) (by decide) (Nat.le_of_ble_eq_true rfl) q1 (push_last _ _) (fun r seen s g => rdM S all (atoiN c2) h.length r seen 0 s g) ?_ ?_ ?_ ?_
    · intro r
      exact ⟨0, ⟨rfl, HM.push hm _, push_last _ _, List.nodup_nil, fun i hi => by cases hi⟩, rfl, rfl, rfl, rfl, rfl, rfl, rfl, rfl⟩
    · intro r seen s g hI
      obtain ⟨z, x, ⟨_, hm, hmap, hd, hlt⟩, rfl⟩ := rdM_lit hI
      exact ⟨rfl, hmap, Nat.le_of_ble_eq_true rfl, Nat.le_of_ble_eq_true rfl⟩
    · intro r seen s g i k v hI hi hni
      obtain ⟨z, x, ⟨rfl, hm, hmap, hd, hlt⟩, rfl⟩ := rdM_lit hI
      clear hI
      obtain ⟨hi3, rfl⟩ := nms_at hi
      have hb := nodup_lt 3 seen hd hlt
      have hlen : (allN all (atoiN c2) seen).length = all.length + seen.length := by rw [allN_eq]; simp
      have happ := app_val (all := allN all (atoiN c2) seen) (b := g.length) (x := nameV (atoiN c2) i) (HM.push hm (Blk.cells 23 (valX (nameV (atoiN c2) i)).cells)) (by omega) (by omega) (push_last _ _) (by have := (List.getElem?_eq_some_iff.1 hm.2).1; omega)
      refine ⟨[und, .str S, x 2, .ptr 0 0 3, .int .i64 0, x 5, x 6, slOf (allN all (atoiN c2) seen), x 8, x 9, x 10, x 11, x 12, x 13, x 14, .int .i64 (atoiN c2), x 16, .int .i64 (4 + (i : Int)), x 18, x 19, x 20, x 21, x 22, x 23, x 24, x 25, x 26, x 27, x 28, x 29, x 30, x 31, x 32, x 33, x 34, x 35, x 36, x 37, x 38, x 39, x 40, x 41, x 42, x 43, x 44, x 45, x 46, x 47, x 48, x 49, x 50, x 51, x 52, x 53, x 54, x 55, x 56, x 57, x 58, x 59, x 60, x 61, x 62, x 63, x 64, x 65, x 66, x 67, x 68, x 69, x 70, x 71, x 72, x 73, x 74, x 75, x 76, x 77, x 78, x 79, x 80, x 81, x 82, x 83, .raw r, .tup [.bool true, .int .i64 (4 + (i : Int)), v], .bool true, .tup [.int .i64 (4 + (i : Int)), v], .int .i64 (4 + (i : Int)), x 89, x 90, x 91, x 92, x 93, x 94, x 95, x 96, x 97, x 98, x 99, x 100, x 101, x 102, x 103, x 104, x 105, x 106, x 107, x 108, x 109, x 110, x 111, x 112, x 113, x 114, x 115], g, ⟨0, fun n _ => rfl⟩, ?_⟩
      refine WpV.of (md := fn19.md) envQ_ok rfl ?_
      refine RunP.regionR _ (fun K => rfl) ?_
      refine ops_slRb rfl (fun K hK => hK) rfl ?_
      refine ops_slRb rfl (fun K hK => hK) rfl ?_
      refine ops_slRb rfl (fun K hK => hK) rfl ?_
      refine ops_slRb rfl (fun K hK => hK) rfl ?_
      refine ops_slRb rfl (fun K hK => hK) rfl ?_
      refine ops_slRb rfl (fun K hK => bindR_of (congrArg valH happ.1) hK) rfl ?_
      refine ops_slRb rfl (fun K hK => hK) rfl ?_
      refine ⟨rfl, 0, ⟨rfl, ?_, ?_, ?_, ?_⟩, rfl, rfl, rfl, rfl, rfl, ?_, rfl, rfl⟩
      · rw [allN_snoc]; exact happ.2
      · rw [set_other (fun e => by rw [e, hm.2] at hmap; cases hmap)]; exact push_old hmap
      · exact List.nodup_append.2 ⟨hd, by simp, fun a ha b hb => by simp at hb; subst hb; intro e; subst e; exact hni ha⟩
      · intro j hj
        rcases List.mem_append.1 hj with hj | hj
        · exact hlt j hj
        · rw [List.mem_singleton.1 hj]; exact hi3
      · rw [allN_snoc]; rfl
    · intro r seen s g hI hall
      obtain ⟨z, x, ⟨rfl, hm, hmap, hd, hlt⟩, rfl⟩ := rdM_lit hI
      clear hI
      have hb := nodup_lt 3 seen hd hlt
      have hA2 : CandA S (allN all (atoiN c2) seen) := by rw [allN_eq]; exact hA.more _
      refine ⟨rfl, allN all (atoiN c2) seen, ⟨hm, ⟨hA2.unit, hA2.num, hA2.no, hA2.yes, hA2.txt, ?_⟩, ?_, ?_⟩, rfl, rfl, rfl, rfl, rfl, rfl⟩
      · intro k n h4 h6 hn0 hn1 he
        have hc := hCN k n h4 h6 he
        cases hc
        rw [atoiN_itoa ⟨hn0, hn1⟩, allN_eq]
        refine List.mem_append_right _ (List.mem_map.2 ⟨(k - 4).toNat, hall _ (by show _ < 3; omega), ?_⟩)
        unfold nameV
        rw [show 4 + ((k - 4).toNat : Int) = k by omega]
      · rw [allN_eq, List.length_append, List.length_map]; omega
      · intro x hx
        rw [allN_eq] at hx
        rcases List.mem_append.1 hx with hx | hx
        · exact hl x hx
        · obtain ⟨i, _, rfl⟩ := List.mem_map.1 hx
          exact Nat.zero_le _
  · refine WpV.of (md := fn19.md) envQ_ok rfl ?_
    apply RunP.skip
    refine ⟨rfl, all, ⟨hm, ⟨hA.unit, hA.num, hA.no, hA.yes, hA.txt, ?_⟩, by omega, hl⟩, rfl, rfl, rfl, rfl, rfl, rfl⟩
    intro k n h4 h6 hn0 hn1 he
    have hc := hCN k n h4 h6 he
    cases hc
    cases hf
end Go.Proofs.YtkjhnpmgieplgaaGreatDoor

/- eval.Read: the first that has the text. -/

namespace Go.Proofs.YtkjhnpmgieplgaaGreatDoor
open Go.Sb
set_option maxRecDepth 100000

theorem ops_nlRc {E : Env} {md : Go.FuncId → Sb.Mode} {o : ROp} {os : List ROp} {s : List V} {h : Heap} {K : List V → Heap → Prop} {a0 a1 a2 a3 a4 a5 a6 a7 a8 a9 a10 a11 a12 a13 a14 a15 a16 a17 a18 a19 a20 a21 a22 a23 a24 a25 a26 a27 a28 a29 a30 a31 a32 a33 a34 a35 a36 a37 a38 a39 a40 a41 a42 a43 a44 a45 a46 a47 a48 a49 a50 a51 a52 a53 a54 a55 a56 a57 a58 a59 a60 a61 a62 a63 a64 a65 a66 a67 a68 a69 a70 a71 a72 a73 a74 a75 a76 a77 a78 a79 a80 a81 a82 a83 a84 a85 a86 a87 a88 a89 a90 a91 a92 a93 a94 a95 a96 a97 a98 a99 a100 a101 a102 a103 a104 a105 a106 a107 a108 a109 a110 a111 a112 a113 a114 a115 : V} {t : Go.Tmp} {w b : Bool} (hg : o.gd = some (t, w)) (hb : getT s t = .bool b) (hw : b = !w) (hs : putT s o.dst und = [a0, a1, a2, a3, a4, a5, a6, a7, a8, a9, a10, a11, a12, a13, a14, a15, a16, a17, a18, a19, a20, a21, a22, a23, a24, a25, a26, a27, a28, a29, a30, a31, a32, a33, a34, a35, a36, a37, a38, a39, a40, a41, a42, a43, a44, a45, a46, a47, a48, a49, a50, a51, a52, a53, a54, a55, a56, a57, a58, a59, a60, a61, a62, a63, a64, a65, a66, a67, a68, a69, a70, a71, a72, a73, a74, a75, a76, a77, a78, a79, a80, a81, a82, a83, a84, a85, a86, a87, a88, a89, a90, a91, a92, a93, a94, a95, a96, a97, a98, a99, a100, a101, a102, a103, a104, a105, a106, a107, a108, a109, a110, a111, a112, a113, a114, a115]) (hn : runOps E md os [a0, a1, a2, a3, a4, a5, a6, a7, a8, a9, a10, a11, a12, a13, a14, a15, a16, a17, a18, a19, a20, a21, a22, a23, a24, a25, a26, a27, a28, a29, a30, a31, a32, a33, a34, a35, a36, a37, a38, a39, a40, a41, a42, a43, a44, a45, a46, a47, a48, a49, a50, a51, a52, a53, a54, a55, a56, a57, a58, a59, a60, a61, a62, a63, a64, a65, a66, a67, a68, a69, a70, a71, a72, a73, a74, a75, a76, a77, a78, a79, a80, a81, a82, a83, a84, a85, a86, a87, a88, a89, a90, a91, a92, a93, a94, a95, a96, a97, a98, a99, a100, a101, a102, a103, a104, a105, a106, a107, a108, a109, a110, a111, a112, a113, a114, a115] h K) : runOps E md (o :: os) s h K := ops_nl hg hb hw hs hn
theorem ops_slRc {E : Env} {md : Go.FuncId → Sb.Mode} {o : ROp} {os : List ROp} {s : List V} {h g : Heap} {v : V} {K : List V → Heap → Prop} {a0 a1 a2 a3 a4 a5 a6 a7 a8 a9 a10 a11 a12 a13 a14 a15 a16 a17 a18 a19 a20 a21 a22 a23 a24 a25 a26 a27 a28 a29 a30 a31 a32 a33 a34 a35 a36 a37 a38 a39 a40 a41 a42 a43 a44 a45 a46 a47 a48 a49 a50 a51 a52 a53 a54 a55 a56 a57 a58 a59 a60 a61 a62 a63 a64 a65 a66 a67 a68 a69 a70 a71 a72 a73 a74 a75 a76 a77 a78 a79 a80 a81 a82 a83 a84 a85 a86 a87 a88 a89 a90 a91 a92 a93 a94 a95 a96 a97 a98 a99 a100 a101 a102 a103 a104 a105 a106 a107 a108 a109 a110 a111 a112 a113 a114 a115 : V} (hg : o.gd = none) (hop : ∀ K : V → Heap → Prop, K v g → runOp E md o.op s h K) (hs : putT s o.dst v = [a0, a1, a2, a3, a4, a5, a6, a7, a8, a9, a10, a11, a12, a13, a14, a15, a16, a17, a18, a19, a20, a21, a22, a23, a24, a25, a26, a27, a28, a29, a30, a31, a32, a33, a34, a35, a36, a37, a38, a39, a40, a41, a42, a43, a44, a45, a46, a47, a48, a49, a50, a51, a52, a53, a54, a55, a56, a57, a58, a59, a60, a61, a62, a63, a64, a65, a66, a67, a68, a69, a70, a71, a72, a73, a74, a75, a76, a77, a78, a79, a80, a81, a82, a83, a84, a85, a86, a87, a88, a89, a90, a91, a92, a93, a94, a95, a96, a97, a98, a99, a100, a101, a102, a103, a104, a105, a106, a107, a108, a109, a110, a111, a112, a113, a114, a115]) (hn : runOps E md os [a0, a1, a2, a3, a4, a5, a6, a7, a8, a9, a10, a11, a12, a13, a14, a15, a16, a17, a18, a19, a20, a21, a22, a23, a24, a25, a26, a27, a28, a29, a30, a31, a32, a33, a34, a35, a36, a37, a38, a39, a40, a41, a42, a43, a44, a45, a46, a47, a48, a49, a50, a51, a52, a53, a54, a55, a56, a57, a58, a59, a60, a61, a62, a63, a64, a65, a66, a67, a68, a69, a70, a71, a72, a73, a74, a75, a76, a77, a78, a79, a80, a81, a82, a83, a84, a85, a86, a87, a88, a89, a90, a91, a92, a93, a94, a95, a96, a97, a98, a99, a100, a101, a102, a103, a104, a105, a106, a107, a108, a109, a110, a111, a112, a113, a114, a115] g K) : runOps E md (o :: os) s h K := ops_sl hg hop hs hn
theorem ops_ylRc {E : Env} {md : Go.FuncId → Sb.Mode} {o : ROp} {os : List ROp} {s : List V} {h g : Heap} {v : V} {K : List V → Heap → Prop} {a0 a1 a2 a3 a4 a5 a6 a7 a8 a9 a10 a11 a12 a13 a14 a15 a16 a17 a18 a19 a20 a21 a22 a23 a24 a25 a26 a27 a28 a29 a30 a31 a32 a33 a34 a35 a36 a37 a38 a39 a40 a41 a42 a43 a44 a45 a46 a47 a48 a49 a50 a51 a52 a53 a54 a55 a56 a57 a58 a59 a60 a61 a62 a63 a64 a65 a66 a67 a68 a69 a70 a71 a72 a73 a74 a75 a76 a77 a78 a79 a80 a81 a82 a83 a84 a85 a86 a87 a88 a89 a90 a91 a92 a93 a94 a95 a96 a97 a98 a99 a100 a101 a102 a103 a104 a105 a106 a107 a108 a109 a110 a111 a112 a113 a114 a115 : V} {t : Go.Tmp} {w : Bool} (hg : o.gd = some (t, w)) (hb : getT s t = .bool w) (hop : ∀ K : V → Heap → Prop, K v g → runOp E md o.op s h K) (hs : putT s o.dst v = [a0, a1, a2, a3, a4, a5, a6, a7, a8, a9, a10, a11, a12, a13, a14, a15, a16, a17, a18, a19, a20, a21, a22, a23, a24, a25, a26, a27, a28, a29, a30, a31, a32, a33, a34, a35, a36, a37, a38, a39, a40, a41, a42, a43, a44, a45, a46, a47, a48, a49, a50, a51, a52, a53, a54, a55, a56, a57, a58, a59, a60, a61, a62, a63, a64, a65, a66, a67, a68, a69, a70, a71, a72, a73, a74, a75, a76, a77, a78, a79, a80, a81, a82, a83, a84, a85, a86, a87, a88, a89, a90, a91, a92, a93, a94, a95, a96, a97, a98, a99, a100, a101, a102, a103, a104, a105, a106, a107, a108, a109, a110, a111, a112, a113, a114, a115]) (hn : runOps E md os [a0, a1, a2, a3, a4, a5, a6, a7, a8, a9, a10, a11, a12, a13, a14, a15, a16, a17, a18, a19, a20, a21, a22, a23, a24, a25, a26, a27, a28, a29, a30, a31, a32, a33, a34, a35, a36, a37, a38, a39, a40, a41, a42, a43, a44, a45, a46, a47, a48, a49, a50, a51, a52, a53, a54, a55, a56, a57, a58, a59, a60, a61, a62, a63, a64, a65, a66, a67, a68, a69, a70, a71, a72, a73, a74, a75, a76, a77, a78, a79, a80, a81, a82, a83, a84, a85, a86, a87, a88, a89, a90, a91, a92, a93, a94, a95, a96, a97, a98, a99, a100, a101, a102, a103, a104, a105, a106, a107, a108, a109, a110, a111, a112, a113, a114, a115] g K) : runOps E md (o :: os) s h K := ops_yl hg hb hop hs hn

theorem vals_at {all : Vals} {i : Nat} {x : Val} (h : all[i]? = some x) : ((cellsOf all).drop (i * 3)).take 3 = [.int .i64 x.1, .int .i64 x.2.1, .str x.2.2] :=
  elems_at (vals_elem all) (by rw [List.getElem?_map, h]; rfl)
theorem load_val {all : Vals} {h : Heap} {i : Nat} {x : Val} (hm : HM all h) (hx : all[i]? = some x) : evLoad envQ 23 (.ptr 1 (0 + (i : Int).toNat * 3) (all.length * 3)) h = some (valX x) := by
  have hi : i < all.length := (List.getElem?_eq_some_iff.1 hx).1
  rw [load_at hm.2 (cells_len all)]
  have h2 := vals_at hx
  simp only [Int.toNat_natCast, Nat.zero_add]
  show ((envQ.ty 23).bind fun d => if d.agg then (if d.size ≤ ((cellsOf all).drop (i * 3)).length then some (.agg (((cellsOf all).drop (i * 3)).take d.size)) else none) else ((cellsOf all).drop (i * 3)).head?) = _
  have e1 : (envQ.ty 23) = some ty23 := rfl
  rw [e1]
  simp only [Option.bind_some]
  rw [if_pos (show ty23.agg = true from rfl), if_pos (by rw [List.length_drop, cells_len]; show 3 ≤ _; omega)]
  show some (V.agg (((cellsOf all).drop (i * 3)).take 3)) = _
  rw [h2]; rfl
set_option maxHeartbeats 8000000 in
theorem read_last {S : List UInt8} {s : List V} {h : Heap} (hI : rdB S 0 s h) : WpV Tryz.prog envQ (sndC (sndC (sndC (sndC (sndC fn19.body))))) s h (ReadQ S) := by
  obtain ⟨all, x, ⟨hm, hC, h100, hl⟩, rfl⟩ := rdB_lit hI
  clear hI
  refine WpV.of (md := fn19.md) envQ_ok rfl ?_
  repeat (first | apply RunP.seq | apply RunP.condT rfl | apply RunP.condF rfl | apply RunP.skip | apply RunP.block | apply RunP.exit | apply RunP.ret)
  refine RunP.regionR _ (fun K => rfl) ?_
  refine ops_slRc rfl (fun K hK => hK) rfl ?_
  refine ops_slRc rfl (fun K hK => hK) rfl ?_
  refine ops_slRc rfl (fun K hK => hK) rfl ?_
  repeat (first | apply RunP.seq | apply RunP.condT rfl | apply RunP.condF rfl | apply RunP.skip | apply RunP.block | apply RunP.exit | apply RunP.ret)
  refine RunP.loop (rdL S all) ?_ all.length ⟨0, 0, ⟨by omega, rfl, hm, by simp⟩, rfl, rfl, rfl, rfl, rfl, rfl, rfl, rfl⟩
  intro k s h hI
  obtain ⟨i, z, x, ⟨hik, rfl, hm, hno⟩, rfl⟩ := rdL_lit hI
  clear hI
  repeat (first | apply RunP.seq | apply RunP.condT rfl | apply RunP.condF rfl | apply RunP.skip | apply RunP.block | apply RunP.exit | apply RunP.ret)
  by_cases hi : i < all.length
  · obtain ⟨y, hy⟩ : ∃ y, all[i]? = some y := ⟨_, List.getElem?_eq_getElem hi⟩
    obtain ⟨yk, yn, ys⟩ := y
    have hys := hl _ (List.mem_of_getElem? hy)
    have hS := fun g => Show_has g yk yn ys hys
    refine RunP.regionR _ (fun K => rfl) ?_
    refine ops_slRc rfl (fun K hK => And.intro (fun _ => hK) (fun w => absurd w (by omega))) rfl ?_
    repeat (first | apply RunP.seq | apply RunP.condT rfl | apply RunP.condF rfl | apply RunP.skip | apply RunP.block | apply RunP.exit | apply RunP.ret)
    have hld := load_val hm hy
    refine RunP.regionR _ (fun K => rfl) ?_
    refine ops_slRc rfl (fun K hK => And.intro (show 0 ≤ (i : Int) ∧ (i : Int) < (all.length : Int) by omega) (And.intro rfl hK)) rfl ?_
    refine ops_slRc rfl (fun K hK => bindK_of hld hK) rfl ?_
    refine ops_slRc rfl (fun K hK => hK) rfl ?_
    refine ops_slRc rfl (fun K hK => bindK_of (store_last (E := envQ) (t := 23) (n := 3) rfl rfl rfl rfl rfl) hK) rfl ?_
    have hm2 : HM all (Sb.push h (Blk.cells 23 (valX (yk, yn, ys)).cells)) := hm.push _
    have hl2 := push_last h (Blk.cells 23 (valX (yk, yn, ys)).cells)
    generalize Sb.push h (Blk.cells 23 (valX (yk, yn, ys)).cells) = g at hm2 hl2 ⊢
    have hld2 : evLoad envQ 23 (.ptr h.length 0 3) g = some (valX (yk, yn, ys)) := load_at hl2 rfl
    have hno2 : ¬ ReadsP S (yk, yn, ys) → ∀ x ∈ all.take (i + 1), ¬ ReadsP S x := fun hn x hx => by
      rw [List.take_add_one, hy] at hx
      rcases List.mem_append.1 hx with hx | hx
      · exact hno x hx
      · rw [List.mem_singleton.1 (show x ∈ [(yk, yn, ys)] from hx)]; exact hn
    by_cases hv : ValidP yk yn ys
    · have hsv : showV yk yn ys = .tup [.str (showL yk yn ys), .int .i64 0] := if_pos hv
      simp only [hsv] at hS
      repeat (first | apply RunP.seq | apply RunP.condT rfl | apply RunP.condF rfl | apply RunP.skip | apply RunP.block | apply RunP.exit | apply RunP.ret)
      refine RunP.regionR _ (fun K => rfl) ?_
      refine ops_slRc rfl (fun K hK => bindK_of hld2 hK) rfl ?_
      refine ops_slRc rfl (fun K hK => CallK.of (hS _) hK) rfl ?_
      refine ops_slRc rfl (fun K hK => hK) rfl ?_
      refine ops_slRc rfl (fun K hK => hK) rfl ?_
      refine ops_slRc rfl (fun K hK => hK) rfl ?_
      refine ops_slRc rfl (fun K hK => hK) rfl ?_
      refine ops_slRc rfl (fun K hK => hK) rfl ?_
      repeat (first | apply RunP.seq | apply RunP.condT rfl | apply RunP.condF rfl | apply RunP.skip | apply RunP.block | apply RunP.exit | apply RunP.ret)
      by_cases he : showL yk yn ys = S
      · refine RunP.regionR _ (fun K => rfl) ?_
        refine ops_slRc rfl (fun K hK => hK) rfl ?_
        refine ops_slRc rfl (fun K hK => And.intro (fun _ => hK) (fun w => absurd rfl w)) rfl ?_
        refine ops_slRc rfl (fun K hK => hK) rfl ?_
        refine ops_ylRc rfl rfl (fun K hK => hK) rfl ?_
        refine ops_ylRc rfl rfl (fun K hK => hK) rfl ?_
        refine ops_ylRc rfl rfl (fun K hK => And.intro (fun _ => hK) (fun w => absurd he w)) rfl ?_
        refine ops_slRc rfl (fun K hK => hK) rfl ?_
        repeat (first | apply RunP.seq | apply RunP.condT rfl | apply RunP.condF rfl | apply RunP.skip | apply RunP.block | apply RunP.exit | apply RunP.ret)
        refine RunP.regionR _ (fun K => rfl) ?_
        refine ops_slRc rfl (fun K hK => bindK_of hld2 hK) rfl ?_
        refine ops_slRc rfl (fun K hK => bindK_of (store_at (E := envQ) (t := 23) (d := ty23) (n := 3) (o := 0) hm2.1 rfl rfl rfl rfl (Nat.le_refl _)) hK) rfl ?_
        refine ops_slRc rfl (fun K hK => hK) rfl ?_
        repeat (first | apply RunP.seq | apply RunP.condT rfl | apply RunP.condF rfl | apply RunP.skip | apply RunP.block | apply RunP.exit | apply RunP.ret)
        have hz : evLoad envQ 23 (.ptr 0 0 3) (g.set 0 (.cells 23 (splice z3 0 (valX (yk, yn, ys)).cells))) = some (valX (yk, yn, ys)) := load_at (set_same hm2.1) rfl
        exact ⟨.inr rfl, _, res_ct hz, by rw [readV_yes (x := (yk, yn, ys)) ⟨hv, he⟩]; rfl⟩
      · refine RunP.regionR _ (fun K => rfl) ?_
        refine ops_slRc rfl (fun K hK => hK) rfl ?_
        refine ops_slRc rfl (fun K hK => And.intro (fun _ => hK) (fun w => absurd rfl w)) rfl ?_
        refine ops_slRc rfl (fun K hK => hK) rfl ?_
        refine ops_ylRc rfl rfl (fun K hK => hK) rfl ?_
        refine ops_ylRc rfl rfl (fun K hK => hK) rfl ?_
        refine ops_ylRc rfl rfl (fun K hK => And.intro (fun w => absurd w he) (fun _ => hK)) rfl ?_
        refine ops_slRc rfl (fun K hK => hK) rfl ?_
        repeat (first | apply RunP.seq | apply RunP.condT rfl | apply RunP.condF rfl | apply RunP.skip | apply RunP.block | apply RunP.exit | apply RunP.ret)
        refine RunP.regionR _ (fun K => rfl) ?_
        refine ops_slRc rfl (fun K hK => wrK (wrap1 (by omega)) hK) rfl ?_
        refine ops_slRc rfl (fun K hK => hK) rfl ?_
        exact ⟨k - 1, by omega, i + 1, _, ⟨by omega, rfl, hm2, hno2 (fun q => he q.2)⟩, rfl, rfl, rfl, rfl, rfl, rfl, rfl, rfl⟩
    · have hsv : showV yk yn ys = .tup [.str [], .int .i64 2] := if_neg hv
      simp only [hsv] at hS
      repeat (first | apply RunP.seq | apply RunP.condT rfl | apply RunP.condF rfl | apply RunP.skip | apply RunP.block | apply RunP.exit | apply RunP.ret)
      refine RunP.regionR _ (fun K => rfl) ?_
      refine ops_slRc rfl (fun K hK => bindK_of hld2 hK) rfl ?_
      refine ops_slRc rfl (fun K hK => CallK.of (hS _) hK) rfl ?_
      refine ops_slRc rfl (fun K hK => hK) rfl ?_
      refine ops_slRc rfl (fun K hK => hK) rfl ?_
      refine ops_slRc rfl (fun K hK => hK) rfl ?_
      refine ops_slRc rfl (fun K hK => hK) rfl ?_
      refine ops_slRc rfl (fun K hK => hK) rfl ?_
      repeat (first | apply RunP.seq | apply RunP.condT rfl | apply RunP.condF rfl | apply RunP.skip | apply RunP.block | apply RunP.exit | apply RunP.ret)
      refine RunP.regionR _ (fun K => rfl) ?_
      refine ops_slRc rfl (fun K hK => hK) rfl ?_
      refine ops_slRc rfl (fun K hK => And.intro (fun w => absurd w (by decide)) (fun _ => hK)) rfl ?_
      refine ops_slRc rfl (fun K hK => hK) rfl ?_
      refine ops_nlRc rfl rfl rfl rfl ?_
      refine ops_nlRc rfl rfl rfl rfl ?_
      refine ops_nlRc rfl rfl rfl rfl ?_
      refine ops_slRc rfl (fun K hK => hK) rfl ?_
      repeat (first | apply RunP.seq | apply RunP.condT rfl | apply RunP.condF rfl | apply RunP.skip | apply RunP.block | apply RunP.exit | apply RunP.ret)
      refine RunP.regionR _ (fun K => rfl) ?_
      refine ops_slRc rfl (fun K hK => wrK (wrap1 (by omega)) hK) rfl ?_
      refine ops_slRc rfl (fun K hK => hK) rfl ?_
      exact ⟨k - 1, by omega, i + 1, _, ⟨by omega, rfl, hm2, hno2 (fun q => hv q.1)⟩, rfl, rfl, rfl, rfl, rfl, rfl, rfl, rfl⟩
  · refine RunP.regionR _ (fun K => rfl) ?_
    refine ops_slRc rfl (fun K hK => And.intro (fun w => absurd w (by omega)) (fun _ => hK)) rfl ?_
    repeat (first | apply RunP.seq | apply RunP.condT rfl | apply RunP.condF rfl | apply RunP.skip | apply RunP.block | apply RunP.exit | apply RunP.ret)
    refine RunP.regionR _ (fun K => rfl) ?_
    refine ops_slRc rfl (fun K hK => hK) rfl ?_
    refine ops_slRc rfl (fun K hK => bindK_of (store_at (E := envQ) (t := 23) (d := ty23) (n := 3) (o := 0) hm.1 rfl rfl rfl rfl (Nat.le_refl _)) hK) rfl ?_
    refine ops_slRc rfl (fun K hK => hK) rfl ?_
    repeat (first | apply RunP.seq | apply RunP.condT rfl | apply RunP.condF rfl | apply RunP.skip | apply RunP.block | apply RunP.exit | apply RunP.ret)
    have hz : evLoad envQ 23 (.ptr 0 0 3) (h.set 0 (.cells 23 (splice z3 0 (valX (0, 0, [])).cells))) = some (valX (0, 0, [])) := load_at (set_same hm.1) rfl
    refine ⟨.inr rfl, _, res_ct hz, ?_⟩
    rw [readV_no (fun x hx => hno x (by rw [List.take_of_length_le (by omega)]; exact hC.all hx) hx)]
    rfl
end Go.Proofs.YtkjhnpmgieplgaaGreatDoor
