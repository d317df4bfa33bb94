/- Operations: two operands; conversions; maps. -/
import Derived.Test.YtekmafoicobphaaGreatDoorSbOps6
set_option linter.unusedVariables false
set_option linter.unusedSimpArgs false
namespace Go.Sb
section
variable {P : Program} {E : Env} {c : Cx}
theorem bs_eq (a b : List UInt8) : ((ByteArray.mk ⟨a⟩).toList == (ByteArray.mk ⟨b⟩).toList) = (a == b) := by
  rw [ByteArray.toList_eq, ByteArray.toList_eq]
theorem yjp (a b : List UInt8) : Op.bytesLess (ByteArray.mk ⟨a⟩).toList (ByteArray.mk ⟨b⟩).toList = Op.bytesLess a b := by
  rw [ByteArray.toList_eq, ByteArray.toList_eq]
theorem yui (a b : List UInt8) : (ByteArray.mk ⟨a⟩) ++ (ByteArray.mk ⟨b⟩) = ByteArray.mk ⟨a ++ b⟩ := by
  apply ByteArray.ext
  rw [ByteArray.data_append]
  apply Array.ext'; simp
def ydr (op : BinOp) (t : TypeId) (ox oy : Operand) (a b : Value) : Sem Value := do eqGuard op t ox oy a b; binOp op t a b
theorem ybv {op : BinOp} {t : TypeId} {ox oy : Operand} {a b : Value} (h1 : ¬ (a = .nilIface ∧ b = .nilIface)) (h2 : ∀ x y, ¬ (a = .agg x ∧ b = .agg y)) (w : World) : (eqGuard op t ox oy a b).run P w = .ok () w := by
  cases op <;> first
    | rfl
    | (simp only [eqGuard, Bool.not_true, Bool.false_eq_true, if_false]
       split
       · exact absurd ⟨rfl, rfl⟩ h1
       · exact absurd ⟨rfl, rfl⟩ (h2 _ _)
       · rfl)
theorem yon {op : BinOp} {t : TypeId} {ox oy : Operand} {x y : Array Value} (h : P.eqGuardType P.depth t = false) (w : World) : (eqGuard op t ox oy (.agg x) (.agg y)).run P w = .ok () w := by
  cases op <;> first
    | rfl
    | (simp only [eqGuard, Bool.not_true, Bool.false_eq_true, if_false]; simp [h])
theorem yhq {t e : TypeId} (h : P.underlying t = some (.pointer e)) (d : Nat) (a b : Option Addr) (hn : a = none ∨ b = none) (w : World) : (Op.equalIn (d + 1) t (.pointer a) (.pointer b)).run P w = .ok (a.isNone && b.isNone) w := by
  rcases hn with rfl | rfl
  · cases b <;> simp [Op.equalIn, yaj h]
  · cases a <;> simp [Op.equalIn, yaj h]
theorem ylw {t : TypeId} (h : P.underlying t = some .bool) (d : Nat) (a b : Bool) (w : World) : (Op.equalIn (d + 1) t (.bool a) (.bool b)).run P w = .ok (a == b) w := by
  simp [Op.equalIn, yaj h]
theorem yfq {t e : TypeId} (h : P.underlying t = some (.slice e)) (d : Nat) (a b : Option Addr) (l k m n : Nat) (hn : a = none ∨ b = none) (w : World) : (Op.equalIn (d + 1) t (.slice a l k) (.slice b m n)).run P w = .ok (a.isNone && b.isNone) w := by
  rcases hn with rfl | rfl
  · cases b <;> simp [Op.equalIn, yaj h]
  · cases a <;> simp [Op.equalIn, yaj h]
theorem ylx {t k e : TypeId} (h : P.underlying t = some (.map k e)) (d : Nat) (a b : Option Nat) (hn : a = none ∨ b = none) (w : World) : (Op.equalIn (d + 1) t (.map a) (.map b)).run P w = .ok (a.isNone && b.isNone) w := by
  rcases hn with rfl | rfl
  · cases b <;> simp [Op.equalIn, yaj h]
  · cases a <;> simp [Op.equalIn, yaj h]
theorem yly {t : TypeId} {p r : Array TypeId} {v : Bool} (h : P.underlying t = some (.func p r v)) (d : Nat) (w : World) :
    (Op.equalIn (d + 1) t .nilFunc .nilFunc).run P w = .ok true w ∧ (∀ f a b, (Op.equalIn (d + 1) t .nilFunc (.func f a b)).run P w = .ok false w) ∧ (∀ f a b, (Op.equalIn (d + 1) t (.func f a b) .nilFunc).run P w = .ok false w) := by
  refine ⟨?_, fun f a b => ?_, fun f a b => ?_⟩ <;> simp [Op.equalIn, yaj h]
theorem yoo {t : TypeId} {ms : Array (String × TypeId)} (h : P.underlying t = some (.interface ms)) (d : Nat) (u : TypeId) (x : Value) (w : World) :
    (Op.equalIn (d + 1) t .nilIface (.iface u x)).run P w = .ok false w ∧ (Op.equalIn (d + 1) t (.iface u x) .nilIface).run P w = .ok false w := by
  refine ⟨?_, ?_⟩ <;> simp [Op.equalIn, yaj h]
theorem yop (hR : Rel E c) {op : BinOp} {t : TypeId} {ox oy : Operand} {a b x : Value} {v : V} (h1 : ¬ (a = .nilIface ∧ b = .nilIface)) (h2 : ∀ x y, ¬ (a = .agg x ∧ b = .agg y)) (hr : (binOp op t a b).run P c.w = .ok x c.w) (hv : RV c v x) :
    Does P E c (ydr op t ox oy a b) v c.h := Does.same hR (by simp only [ydr, Sem.run_bind, ybv h1 h2, Result.andThen_ok]; exact hr) hv
theorem ylz (hR : Rel E c) {op : BinOp} {t : TypeId} {ox oy : Operand} {k l : IntKind} {a b : Int} {v : V} (h : evBin E op t (.int k a) (.int l b) = some v) : Does P E c (ydr op t ox oy (.int k a) (.int l b)) v c.h := by
  have fin : ∀ {x : Value}, (binOp op t (.int k a) (.int l b)).run P c.w = .ok x c.w → RV c v x → Does P E c (ydr op t ox oy (.int k a) (.int l b)) v c.h := fun hr hv => yop hR (by simp) (by simp) hr hv
  cases op <;> simp only [evBin] at h
  case shl =>
    split at h
    · cases h
    · rename_i hb; cases h; exact fin (by simp [binOp, Op.shift, hb]) (.g (.int _ _))
  case shr =>
    split at h
    · cases h
    · rename_i hb; cases h; exact fin (by simp [binOp, Op.shift, hb]) (.g (.int _ _))
  case quo =>
    split at h
    · cases h
    · rename_i hk
      have hk : k = l := Decidable.not_not.1 hk
      split at h
      · cases h
      · rename_i hb; cases h; exact fin (by simp [binOp, hk, Op.intDiv, hb]) (.g (.int _ _))
  case rem =>
    split at h
    · cases h
    · rename_i hk
      have hk : k = l := Decidable.not_not.1 hk
      split at h
      · cases h
      · rename_i hb; cases h; exact fin (by simp [binOp, hk, Op.intDiv, hb]) (.g (.int _ _))
  all_goals
    split at h
    · cases h
    · rename_i hk
      have hk : k = l := Decidable.not_not.1 hk
      subst hk
      cases h
      first
      | exact fin (x := .int k _) (by simp only [binOp, ne_eq, not_true_eq_false, if_false, Op.intArith, Op.intBits, Op.intCmp, Sem.run_pure]) (.g (.int _ _))
      | exact fin (x := .bool _) (by simp only [binOp, ne_eq, not_true_eq_false, if_false, Op.intArith, Op.intBits, Op.intCmp, Sem.run_pure]) (.g (.bool _))
theorem str_does (hR : Rel E c) {op : BinOp} {t : TypeId} {ox oy : Operand} {a b : List UInt8} {v : V} (h : evBin E op t (.str a) (.str b) = some v) : Does P E c (ydr op t ox oy (.string ⟨⟨a⟩⟩) (.string ⟨⟨b⟩⟩)) v c.h := by
  have fin : ∀ {x : Value}, (binOp op t (.string ⟨⟨a⟩⟩) (.string ⟨⟨b⟩⟩)).run P c.w = .ok x c.w → RV c v x → Does P E c (ydr op t ox oy (.string ⟨⟨a⟩⟩) (.string ⟨⟨b⟩⟩)) v c.h := fun hr hv => yop hR (by simp) (by simp) hr hv
  cases op <;> simp only [evBin] at h
  case add =>
    split at h
    · rename_i hl
      cases h
      refine fin (x := .string ⟨⟨a ++ b⟩⟩) ?_ (.g (.str _))
      have hs : ∀ l : List UInt8, (ByteArray.mk ⟨l⟩).size = l.length := fun l => by simp [ByteArray.size]
      simp only [binOp, Op.stringOp, hs]
      rw [if_neg (by simp only [IntKind.max, IntKind.signed, IntKind.bits]; simp; omega), yui]
      rfl
    · cases h
  case eql => cases h; exact fin (x := .bool (a == b)) (by simp only [binOp, Op.stringOp, bs_eq, Sem.run_pure]) (.g (.bool _))
  case neq => cases h; exact fin (x := .bool !(a == b)) (by simp only [binOp, Op.stringOp, bs_eq, Sem.run_pure]) (.g (.bool _))
  case lss => cases h; exact fin (x := .bool (Op.bytesLess a b)) (by simp only [binOp, Op.stringOp, yjp, Sem.run_pure]) (.g (.bool _))
  case leq => cases h; exact fin (x := .bool (Op.bytesLess a b || a == b)) (by simp only [binOp, Op.stringOp, bs_eq, yjp, Sem.run_pure]) (.g (.bool _))
  case gtr => cases h; exact fin (x := .bool !(Op.bytesLess a b || a == b)) (by simp only [binOp, Op.stringOp, bs_eq, yjp, Sem.run_pure]) (.g (.bool _))
  case geq => cases h; exact fin (x := .bool !(Op.bytesLess a b)) (by simp only [binOp, Op.stringOp, yjp, Sem.run_pure]) (.g (.bool _))
  all_goals cases h
theorem ybt (hR : Rel E c) {op : BinOp} {t : TypeId} {ox oy : Operand} {x y : Value} {r : Bool} {v : V} (hop : (op = .eql ∧ v = .bool r) ∨ (op = .neq ∧ v = .bool !r)) (hb : ∀ o, binOp .eql t x y = o → (o = do pure (.bool (← Op.equal t x y))))
    (hn : binOp .neq t x y = do pure (.bool (!(← Op.equal t x y)))) (hg : ∀ o, (eqGuard o t ox oy x y).run P c.w = .ok () c.w) (he : (Op.equal t x y).run P c.w = .ok r c.w) : Does P E c (ydr op t ox oy x y) v c.h := by
  rcases hop with ⟨rfl, rfl⟩ | ⟨rfl, rfl⟩
  · exact Does.same hR (x := .bool r) (by simp only [ydr, Sem.run_bind, hg, Result.andThen_ok, hb _ rfl, he, Sem.run_pure]) (.g (.bool _))
  · exact Does.same hR (x := .bool !r) (by simp only [ydr, Sem.run_bind, hg, Result.andThen_ok, hn, he, Sem.run_pure]) (.g (.bool _))
theorem eqIn_nil {t : TypeId} {ms : Array (String × TypeId)} (h : P.underlying t = some (.interface ms)) (d : Nat) (w : World) : (Op.equalIn (d + 1) t .nilIface .nilIface).run P w = .ok true w := by
  simp [Op.equalIn, yaj h]
theorem yuj {op : BinOp} {t : TypeId} {ox oy : Operand} (h : (yjb ox || yjb oy) = true) (w : World) : (eqGuard op t ox oy .nilIface .nilIface).run P w = .ok () w := by
  rw [Bool.or_eq_true] at h
  rcases h with h | h
  · cases ox with
    | const v => cases op <;> rfl
    | tmp _ => cases h
    | global _ => cases h
    | func _ => cases h
  · cases oy with
    | const v => cases ox <;> cases op <;> rfl
    | tmp _ => cases h
    | global _ => cases h
    | func _ => cases h
theorem nil_does (hE : EnvOk P E) (hR : Rel E c) {op : BinOp} {t : TypeId} {ox oy : Operand} {u w v : V} {x y : Value} (hu : RV c u x) (hw : RV c w y) (hb : yhm ox oy u w = true) (h : evNil E op t = some v) : Does P E c (ydr op t ox oy x y) v c.h := by
  unfold yhm at hb
  simp only [Bool.and_eq_true] at hb
  obtain ⟨hl, h1, h2⟩ := hb
  have e1 : u = .nili := by unfold yjc at h1; split at h1 <;> first | rfl | cases h1
  have e2 : w = .nili := by unfold yjc at h2; split at h2 <;> first | rfl | cases h2
  subst e1 e2
  rw [hu.nili_inv, hw.nili_inv]
  unfold evNil at h
  replace h := Option.bind_eq_some_iff.1 h; obtain ⟨d, hd, h⟩ := h
  obtain ⟨ut, k1, k2⟩ := (hE.ty t d hd).und
  split at h
  · rename_i hdu
    rw [hdu] at k2; obtain ⟨ms, e⟩ := ylo k2; subst e
    have hop : (op = .eql ∧ v = .bool true) ∨ (op = .neq ∧ v = .bool !true) := by
      split at h
      · cases h; exact .inl ⟨rfl, rfl⟩
      · cases h; exact .inr ⟨rfl, rfl⟩
      · cases h
    exact ybt hR hop (fun o ho => ho ▸ rfl) rfl (fun o => yuj hl _) (eqIn_nil k1 9999 _)
  · cases h
theorem yoq (hE : EnvOk P E) (hR : Rel E c) {op : BinOp} {t : TypeId} {ox oy : Operand} {u w v : V} {x y : Value} (hu : RV c u x) (hw : RV c w y) (h : evBin E op t u w = some v) : Does P E c (ydr op t ox oy x y) v c.h := by
  unfold evBin at h
  split at h
  · rw [hu.int_inv, hw.int_inv]; exact ylz (E := E) hR (by simpa only [evBin] using h)
  · rw [hu.int_inv, hw.int_inv]; exact ylz (E := E) hR (by simpa only [evBin] using h)
  · rename_i n1 n2
    rw [hu.int_inv, hw.int_inv]
    refine ylz (E := E) hR ?_
    cases op <;> first | exact h | (exfalso; simp_all; done)
  · rw [hu.str_inv, hw.str_inv]; exact str_does (E := E) hR (by simpa only [evBin] using h)
  · rename_i a b
    replace h := Option.bind_eq_some_iff.1 h; obtain ⟨d, hd, h⟩ := h
    obtain ⟨ut, h1, h2⟩ := (hE.ty t d hd).und
    split at h
    · rename_i hdu
      rw [hdu] at h2; have := yhp h2; subst this
      cases h
      rw [hu.bool_inv, hw.bool_inv]
      exact ybt hR (.inl ⟨rfl, rfl⟩) (fun o ho => ho ▸ rfl) rfl (fun o => ybv (by simp) (by simp) _) (ylw h1 9999 _ _ _)
    · cases h
  · rename_i a b
    replace h := Option.bind_eq_some_iff.1 h; obtain ⟨d, hd, h⟩ := h
    obtain ⟨ut, h1, h2⟩ := (hE.ty t d hd).und
    split at h
    · rename_i hdu
      rw [hdu] at h2; have := yhp h2; subst this
      cases h
      rw [hu.bool_inv, hw.bool_inv]
      exact ybt hR (.inr ⟨rfl, rfl⟩) (fun o ho => ho ▸ rfl) rfl (fun o => ybv (by simp) (by simp) _) (ylw h1 9999 _ _ _)
    · cases h
  · rename_i a b
    replace h := Option.bind_eq_some_iff.1 h; obtain ⟨f, hf, h⟩ := h
    obtain ⟨r, hr, rfl⟩ := Option.map_eq_some_iff.1 h
    obtain ⟨xs, rfl, hxs⟩ := hu.agg_inv
    obtain ⟨ys, rfl, hys⟩ := hw.agg_inv
    obtain ⟨g1, g2⟩ := hE.eqs t f hf
    exact ybt hR (.inl ⟨rfl, rfl⟩) (fun o ho => ho ▸ rfl) rfl (fun o => yon g1 _) (g2 c a b xs.toList ys.toList r hxs hys hr)
  · rename_i a b
    replace h := Option.bind_eq_some_iff.1 h; obtain ⟨f, hf, h⟩ := h
    obtain ⟨r, hr, rfl⟩ := Option.map_eq_some_iff.1 h
    obtain ⟨xs, rfl, hxs⟩ := hu.agg_inv
    obtain ⟨ys, rfl, hys⟩ := hw.agg_inv
    obtain ⟨g1, g2⟩ := hE.eqs t f hf
    exact ybt hR (.inr ⟨rfl, rfl⟩) (fun o ho => ho ▸ rfl) rfl (fun o => yon g1 _) (g2 c a b xs.toList ys.toList r hxs hys hr)
  · rename_i n1 n2 n3 n4 n5 n6 n7 n8
    clear n1 n2 n3 n4 n5 n6 n7 n8
    replace h := Option.bind_eq_some_iff.1 h; obtain ⟨d, hd, h⟩ := h
    obtain ⟨ut, h1, h2⟩ := (hE.ty t d hd).und
    replace h := Option.bind_eq_some_iff.1 h; obtain ⟨r, hr, h⟩ := h
    have hop : (op = .eql ∧ v = .bool r) ∨ (op = .neq ∧ v = .bool !r) := by
      split at h
      · cases h; exact .inl ⟨rfl, rfl⟩
      · cases h; exact .inr ⟨rfl, rfl⟩
      · cases h
    clear h
    have isptr : ∀ {a b o} {z : Value}, RV c (.ptr a b o) z → ∃ p, z = .pointer (some p) := fun h => h.ptr_parts.2.2
    have isrop : ∀ {cs} {z : Value}, RV c (.rop cs) z → ∃ p, z = .pointer (some p) := fun h => by obtain ⟨a, f, e, _⟩ := h.rop_inv; exact ⟨a, e⟩
    have issl : ∀ {a b e l k s} {z : Value}, RV c (.sl a b e l k s) z → ∃ p m, z = .slice (some p) l m := fun h => by
      cases h with
      | g h => cases h
      | sl _ _ _ _ _ _ _ hp _ _ _ => obtain ⟨a, m, e, _⟩ := hp; exact ⟨a, m, e⟩
    have islst : ∀ {e es} {z : Value}, RV c (.lst e es) z → ∃ p l m, z = .slice (some p) l m := fun h => by obtain ⟨a, cap, f, e, _⟩ := h.lst_inv; exact ⟨a, _, _, e⟩
    have ismp : ∀ {b} {z : Value}, RV c (.mp b) z → ∃ p, z = .map (some p) := fun h => by
      cases h with
      | g h => cases h
      | mp _ _ hp _ _ => exact hp
    split at hr
    · rename_i hdu; cases hr; rw [hdu] at h2; have := yen h2; subst this
      rw [hu.nilp_inv]
      rw [hw.nilp_inv]
      exact ybt hR hop (fun o ho => ho ▸ rfl) rfl (fun o => ybv (by simp) (by simp) _) (yhq h1 9999 _ _ (.inl rfl) _)
    · rename_i hdu; cases hr; rw [hdu] at h2; have := yen h2; subst this
      rw [hu.nilp_inv]
      obtain ⟨p, rfl⟩ := isptr hw
      exact ybt hR hop (fun o ho => ho ▸ rfl) rfl (fun o => ybv (by simp) (by simp) _) (yhq h1 9999 _ _ (.inl rfl) _)
    · rename_i hdu; cases hr; rw [hdu] at h2; have := yen h2; subst this
      rw [hu.nilp_inv]
      obtain ⟨p, rfl⟩ := isrop hw
      exact ybt hR hop (fun o ho => ho ▸ rfl) rfl (fun o => ybv (by simp) (by simp) _) (yhq h1 9999 _ _ (.inl rfl) _)
    · rename_i hdu; cases hr; rw [hdu] at h2; have := yen h2; subst this
      rw [hw.nilp_inv]
      obtain ⟨p, rfl⟩ := isptr hu
      exact ybt hR hop (fun o ho => ho ▸ rfl) rfl (fun o => ybv (by simp) (by simp) _) (yhq h1 9999 _ _ (.inr rfl) _)
    · rename_i hdu; cases hr; rw [hdu] at h2; have := yen h2; subst this
      rw [hw.nilp_inv]
      obtain ⟨p, rfl⟩ := isrop hu
      exact ybt hR hop (fun o ho => ho ▸ rfl) rfl (fun o => ybv (by simp) (by simp) _) (yhq h1 9999 _ _ (.inr rfl) _)
    · rename_i hdu; cases hr; rw [hdu] at h2; have := ybj h2; subst this
      rw [hu.nils_inv, hw.nils_inv]
      exact ybt hR hop (fun o ho => ho ▸ rfl) rfl (fun o => ybv (by simp) (by simp) _) (yfq h1 9999 _ _ _ _ _ _ (.inl rfl) _)
    · rename_i hdu; cases hr; rw [hdu] at h2; have := ybj h2; subst this
      rw [hu.nils_inv]
      obtain ⟨p, m, rfl⟩ := issl hw
      exact ybt hR hop (fun o ho => ho ▸ rfl) rfl (fun o => ybv (by simp) (by simp) _) (yfq h1 9999 _ _ _ _ _ _ (.inl rfl) _)
    · rename_i hdu; cases hr; rw [hdu] at h2; have := ybj h2; subst this
      rw [hu.nils_inv]
      obtain ⟨p, l, m, rfl⟩ := islst hw
      exact ybt hR hop (fun o ho => ho ▸ rfl) rfl (fun o => ybv (by simp) (by simp) _) (yfq h1 9999 _ _ _ _ _ _ (.inl rfl) _)
    · rename_i hdu; cases hr; rw [hdu] at h2; have := ybj h2; subst this
      rw [hu.nils_inv]
      obtain ⟨p, rfl⟩ := hw.emp_inv
      exact ybt hR hop (fun o ho => ho ▸ rfl) rfl (fun o => ybv (by simp) (by simp) _) (yfq h1 9999 _ _ _ _ _ _ (.inl rfl) _)
    · rename_i hdu; cases hr; rw [hdu] at h2; have := ybj h2; subst this
      rw [hw.nils_inv]
      obtain ⟨p, m, rfl⟩ := issl hu
      exact ybt hR hop (fun o ho => ho ▸ rfl) rfl (fun o => ybv (by simp) (by simp) _) (yfq h1 9999 _ _ _ _ _ _ (.inr rfl) _)
    · rename_i hdu; cases hr; rw [hdu] at h2; have := ybj h2; subst this
      rw [hw.nils_inv]
      obtain ⟨p, l, m, rfl⟩ := islst hu
      exact ybt hR hop (fun o ho => ho ▸ rfl) rfl (fun o => ybv (by simp) (by simp) _) (yfq h1 9999 _ _ _ _ _ _ (.inr rfl) _)
    · rename_i hdu; cases hr; rw [hdu] at h2; have := ybj h2; subst this
      rw [hw.nils_inv]
      obtain ⟨p, rfl⟩ := hu.emp_inv
      exact ybt hR hop (fun o ho => ho ▸ rfl) rfl (fun o => ybv (by simp) (by simp) _) (yfq h1 9999 _ _ _ _ _ _ (.inr rfl) _)
    · rename_i hdu; cases hr; rw [hdu] at h2; obtain ⟨p, q, v', e⟩ := yln h2; subst e
      rw [hu.nilf_inv, hw.nilf_inv]
      exact ybt hR hop (fun o ho => ho ▸ rfl) rfl (fun o => ybv (by simp) (by simp) _) ((yly h1 9999 _).1)
    · rename_i hdu; cases hr; rw [hdu] at h2; obtain ⟨p, q, v', e⟩ := yln h2; subst e
      rw [hu.nilf_inv]
      obtain ⟨xs, rfl, _⟩ := hw.fn_inv
      exact ybt hR hop (fun o ho => ho ▸ rfl) rfl (fun o => ybv (by simp) (by simp) _) ((yly h1 9999 _).2.1 _ _ _)
    · rename_i hdu; cases hr; rw [hdu] at h2; obtain ⟨p, q, v', e⟩ := yln h2; subst e
      rw [hw.nilf_inv]
      obtain ⟨xs, rfl, _⟩ := hu.fn_inv
      exact ybt hR hop (fun o ho => ho ▸ rfl) rfl (fun o => ybv (by simp) (by simp) _) ((yly h1 9999 _).2.2 _ _ _)
    · rename_i hdu; cases hr; rw [hdu] at h2; obtain ⟨ms, e⟩ := ylo h2; subst e
      rw [hu.nili_inv]
      obtain ⟨_, z, rfl⟩ := hw.ifc_any
      exact ybt hR hop (fun o ho => ho ▸ rfl) rfl (fun o => ybv (by simp) (by simp) _) ((yoo h1 9999 _ _ _).1)
    · rename_i hdu; cases hr; rw [hdu] at h2; obtain ⟨ms, e⟩ := ylo h2; subst e
      rw [hw.nili_inv]
      obtain ⟨_, z, rfl⟩ := hu.ifc_any
      exact ybt hR hop (fun o ho => ho ▸ rfl) rfl (fun o => ybv (by simp) (by simp) _) ((yoo h1 9999 _ _ _).2)
    · rename_i hdu; cases hr; rw [hdu] at h2; have := yfp h2; subst this
      rw [hu.nilm_inv, hw.nilm_inv]
      exact ybt hR hop (fun o ho => ho ▸ rfl) rfl (fun o => ybv (by simp) (by simp) _) (ylx h1 9999 _ _ (.inl rfl) _)
    · rename_i hdu; cases hr; rw [hdu] at h2; have := yfp h2; subst this
      rw [hu.nilm_inv]
      obtain ⟨p, rfl⟩ := ismp hw
      exact ybt hR hop (fun o ho => ho ▸ rfl) rfl (fun o => ybv (by simp) (by simp) _) (ylx h1 9999 none (some p) (.inl rfl) _)
    · rename_i hdu; cases hr; rw [hdu] at h2; have := yfp h2; subst this
      rw [hw.nilm_inv]
      obtain ⟨p, rfl⟩ := ismp hu
      exact ybt hR hop (fun o ho => ho ▸ rfl) rfl (fun o => ybv (by simp) (by simp) _) (ylx h1 9999 (some p) none (.inr rfl) _)
    · cases hr
end
end Go.Sb
