/- Operations: conversions; maps. -/
import Derived.Test.YtekmafoicobphaaDoorSbOpsU
import Derived.Laws.BytesString
import Derived.Lib.ConvBytes
set_option linter.unusedVariables false
set_option linter.unusedSimpArgs false
namespace Go.Sb
section
variable {P : Program} {E : Env} {c : Cx}

theorem foldl_push (ns : List Int) : ∀ s : ByteArray, ns.foldl (fun r n => r.push (UInt8.ofNat n.toNat)) s = ⟨s.data ++ (ns.map fun n => UInt8.ofNat n.toNat).toArray⟩ := by
  induction ns with
  | nil => intro s; simp
  | cons n ns ih => intro s; rw [List.foldl_cons, ih]; simp [ByteArray.push]

theorem contents_slice {h : Heap} {u : V} {x : Value} {p : Nat × List V} (hp : contents h 1 u = some p) (hu : RV c u x) (hns : notStr u = true) : ∃ a k m, x = .slice a k m ∧ (a = none → k = 0) := by
  cases u <;> simp only [contents] at hp
  case nils => rw [hu.nils_inv]; exact ⟨_, _, _, rfl, fun _ => rfl⟩
  case emp => obtain ⟨a, e⟩ := hu.emp_inv; rw [e]; exact ⟨_, _, _, rfl, fun h => by cases h⟩
  case str l => simp [notStr] at hns
  case lst z es => obtain ⟨a, cap, f, e, _⟩ := hu.lst_inv; rw [e]; exact ⟨_, _, _, rfl, fun h => by cases h⟩
  case sl b o z len cap sz =>
    cases hu with
    | g hu => cases hu
    | sl _ _ _ _ _ _ _ hsh _ _ _ => obtain ⟨a, m, e, _⟩ := hsh; rw [e]; exact ⟨_, _, _, rfl, fun h => by cases h⟩
  all_goals cases hp

theorem convert_does (hE : EnvOk P E) (hR : Rel E c) {a b : TypeId} {u v : V} {x : Value} {h' : Heap} (hu : RV c u x) (h : evConvert E a b u c.h = some (v, h')) : Does P E c (convert a b x) v h' := by
  replace h := Option.bind_eq_some_iff.1 h; obtain ⟨s, hs, h⟩ := h
  replace h := Option.bind_eq_some_iff.1 h; obtain ⟨d, hd, h⟩ := h
  obtain ⟨us, s1, s2⟩ := (hE.ty a s hs).und
  obtain ⟨ud, d1, d2⟩ := (hE.ty b d hd).und
  split at h
  · rename_i e1 e2
    rw [e1] at s2; rw [e2] at d2
    have := of_int s2; subst this; have := of_int d2; subst this
    cases h
    rw [hu.int_inv]
    exact Does.same hR (x := .int _ _) (by simp only [convert, Sem.run_bind, run_underlying s1, run_underlying d1, Result.andThen_ok, Conv.intToInt, Sem.run_pure]) (.g (.int _ _))
  · rename_i e1 e2
    rw [e1] at s2; rw [e2] at d2
    have := of_str s2; subst this; have := of_str d2; subst this
    cases h
    rw [hu.str_inv]
    exact Does.same hR (x := .string _) (by simp only [convert, Sem.run_bind, run_underlying s1, run_underlying d1, Result.andThen_ok, Sem.run_pure]) (.g (.str _))
  · rename_i e l e1 e2
    rw [e1] at s2; rw [e2] at d2
    have := of_str s2; subst this; have := of_slice d2; subst this
    replace h := Option.bind_eq_some_iff.1 h; obtain ⟨y, hy, h⟩ := h
    split at h
    · rename_i hyu
      split at h
      · rename_i hc
        cases h
        obtain ⟨ue, q1, q2⟩ := (hE.ty e y hy).und
        rw [hyu] at q2; have := of_int q2; subst this
        rw [hu.str_inv]
        have hrun := Lib.run_convert_string_bytes (P := P) c.w a b e (ByteArray.mk ⟨l⟩) s1 d1 q1
        have hsz : (ByteArray.mk ⟨l⟩).size = l.length := by simp [ByteArray.size]
        rw [hsz] at hrun
        generalize hC : Lib.bytesCells c.w e (ByteArray.mk ⟨l⟩) = C at *
        have hCl : C.toList.take l.length = bx l := by rw [← hC]; simp [Lib.bytesCells, bx]
        have hCs : l.length ≤ C.size := by rw [← hC]; simp [Lib.bytesCells]
        have hcap : grownCap c.w l.length 0 e = C.size := by
          rw [← hC]; simp only [Lib.bytesCells, Array.size_append, Array.size_map, Array.size_replicate]
          have : l.length ≤ grownCap c.w l.length 0 e := by simp [grownCap, Question.cut]
          simp [ByteArray.size]; omega
        obtain ⟨k1, k2⟩ := pushC_cells hR e (bv l) C C.size (C.size + 1) (by simp [bv]; exact hCs) (by
          have : (bv l).length = l.length := by simp [bv]
          rw [this, hCl]; exact RVs.bytes c l) (Or.inl (Nat.le_refl _)) (by simp [bv, V.isCell])
        have hget : ∀ r, r < (pushC c (.cells e (bv l)) (.cells C e (C.size, C.size + 1))).w.heap.size → (Lib.bytesWorld c.w e (ByteArray.mk ⟨l⟩)).heap[r]? = (pushC c (.cells e (bv l)) (.cells C e (C.size, C.size + 1))).w.heap[r]? := fun r hr => by
          simp only [pushC, Array.size_push] at hr ⊢
          by_cases e : r = c.w.heap.size
          · subst e; rw [Lib.bytesWorld_at_new, hC]; simp
          · rw [Lib.bytesWorld_at_old _ _ _ _ (by omega), Array.getElem?_push, if_neg e]
        obtain ⟨j1, j2⟩ := k2.grow (Lib.bytesWorld c.w e (ByteArray.mk ⟨l⟩)) hget (by rw [Lib.bytesWorld_size]; simp [pushC])
        refine ⟨_, { pushC c (.cells e (bv l)) (.cells C e (C.size, C.size + 1)) with w := Lib.bytesWorld c.w e (ByteArray.mk ⟨l⟩) }, hrun, k1.trans j1, j2, rfl, ?_⟩
        have := (push_sl (c := c) e (bv l) C (C.size, C.size + 1) 1 l.length l.length C.size hCs (by omega)).mono j1
        rw [hcap]
        simpa [bv] using this
      · cases h
    · cases h
  · rename_i e1 e2
    rw [e1] at s2; rw [e2] at d2
    have := of_slice s2; subst this; have := of_str d2; subst this
    replace h := Option.bind_eq_some_iff.1 h; obtain ⟨y, hy, h⟩ := h
    split at h
    · rename_i hyu
      split at h
      · rename_i hc
        obtain ⟨hns, hy1⟩ := hc
        replace h := Option.bind_eq_some_iff.1 h; obtain ⟨p, hp, h⟩ := h
        obtain ⟨l, hl, h⟩ := Option.map_eq_some_iff.1 h
        cases h
        obtain ⟨n, cs⟩ := p
        obtain ⟨ue, q1, q2⟩ := (hE.ty _ y hy).und
        rw [hyu] at q2; have := of_int q2; subst this
        obtain ⟨n1, n2, n3, ys, n4, n5⟩ := contents_spec (P := P) hR (Nat.one_pos) hp hu
        obtain ⟨ns, rfl, hns2⟩ := bytesV_map hl n4
        have hfc := n5 c.w rfl n (Nat.le_refl _)
        have hlen : (ns.map (Value.int .u8)).length = n := by rw [← n4.1, n1]; omega
        rw [Nat.mul_one, List.take_of_length_le (by omega)] at hfc
        have hsl := contents_slice hp hu hns
        obtain ⟨ad, k, m, rfl, hk0⟩ := hsl
        have hkn : k = n := by have := n3 c.w; simp only [Builtin.lenOf, Sem.run_pure] at this; injection this
        subst hkn
        refine Does.same hR (x := .string ⟨⟨l⟩⟩) ?_ (.g (.str _))
        rw [run_convert_bytes_string c.w a b _ ad k m s1 q1 d1]
        cases ad with
        | none =>
          have := hk0 rfl; subst this
          have : ns = [] := by simpa using hlen
          subst this
          simp at hns2; subst hns2
          rfl
        | some ad =>
          rw [run_bytesToString c.w ad k m ns (by simpa [Builtin.firstCells] using hfc), foldl_push]
          congr 2
          rw [hns2]; simp
      · cases h
    · cases h
  · rename_i e b' o sz e1 e2
    rw [e1] at s2; rw [e2] at d2
    have := of_ptr s2; subst this; have := of_uptr d2; subst this
    replace h := Option.bind_eq_some_iff.1 h; obtain ⟨y, hy, h⟩ := h
    replace h := Option.bind_eq_some_iff.1 h; obtain ⟨q, hq, h⟩ := h
    split at h
    · rename_i hc; cases h
      exact to_unsafe_does hE hR s1 d1 hy hq hu hc.1 hc.2
    · cases h
  · rename_i e b' o sz e1 e2
    rw [e1] at s2; rw [e2] at d2
    have := of_uptr s2; subst this; have := of_ptr d2; subst this
    replace h := Option.bind_eq_some_iff.1 h; obtain ⟨y, hy, h⟩ := h
    replace h := Option.bind_eq_some_iff.1 h; obtain ⟨q, hq, h⟩ := h
    split at h
    · rename_i hc; cases h
      obtain ⟨c1, c2, c3, c4⟩ := hc
      subst c1
      exact from_unsafe_does hE hR s1 d1 hy hq hu c2 c3 c4
    · cases h
  · cases h

end
end Go.Sb
