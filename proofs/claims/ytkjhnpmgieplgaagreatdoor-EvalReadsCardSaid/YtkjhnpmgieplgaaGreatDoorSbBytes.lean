/- Rows of bytes: a byte appended; a row turned into a text. -/
import Derived.Test.YtkjhnpmgieplgaaGreatDoorSbRow
set_option linter.unusedVariables false
set_option linter.unusedSimpArgs false
namespace Go.Sb

theorem bv_len (l : List UInt8) : (bv l).length = l.length := by simp [bv]

/-- A byte appended: the slice of one byte lies at the memory's end. -/
theorem app_byteK {E : Env} {h : Heap} {t T : TypeId} {dt d : TyD} {v : V} {bs : List UInt8} {K : V → Heap → Prop} (ht : E.ty t = some dt) (hu : dt.u = .slice T) (hT : E.ty T = some d) (hd : d.size = 1) (hb : d.bytes = 1) (hr : InRow h T 1 v (bv bs)) (c : UInt8) (hl : bs.length ≤ 2 ^ 40)
    (hk : ∀ v' g, InRow g T 1 v' (bv (bs ++ [c])) → (∀ (i : Nat) (U : TypeId) (cs : List V), h[i]? = some (Blk.cells U cs) → U ≠ T → g[i]? = some (.cells U cs)) → h.length ≤ g.length → K v' g) :
    bindR (valH (evAppend E t v (.sl h.length 0 1 1 1 1) (push h (.cells T [.int .u8 c.toNat])))) K := by
  obtain ⟨v', g, a1, a2, a3, a4⟩ := append_row (E := E) (t := t) (T := T) (e := 1) (es' := bv [c]) (k := 1) ht hu hT hd (by omega) (hr.push (.cells T [.int .u8 c.toNat])) (by rw [bv_cells]; simp) (by rw [bv_cells]; exact contents_last (n := 1) h T [.int .u8 c.toNat] rfl) rfl
    (by rw [hb]; simp [roomy, bv_len]; omega)
  rw [a1]
  refine hk v' g ?_ (fun i U cs hi hU => a4 i U cs (push_old hi) hU) (by simp [push] at a3; omega)
  have : bv bs ++ bv [c] = bv (bs ++ [c]) := by simp [bv]
  rw [← this]; exact a2

theorem InRow.contents1 {h : Heap} {T : TypeId} {v : V} {bs : List UInt8} (hr : InRow h T 1 v (bv bs)) : contents h 1 v = some (bs.length, bv bs) ∧ notStr v = true := by
  rcases hr with ⟨rfl, he⟩ | ⟨b, rfl, hb, _⟩
  · have : bs = [] := by simpa [bv] using he
    subst this; exact ⟨rfl, rfl⟩
  · rw [bv_cells] at hb
    refine ⟨?_, rfl⟩
    simp only [contents, if_true]
    rw [cellsAt_at' hb (by simp)]
    simp only [Option.bind_some]
    rw [if_pos (by simp)]
    simp [bv_len, List.take_of_length_le]

/-- A row of bytes turned into a text. -/
theorem conv_bytesK {E : Env} {h : Heap} {t T st : TypeId} {dt d ds : TyD} {v : V} {bs : List UInt8} {K : V → Heap → Prop} (ht : E.ty t = some dt) (hu : dt.u = .slice T) (hs : E.ty st = some ds) (hsu : ds.u = .str) (hT : E.ty T = some d) (hd : d.size = 1) (hk : d.u = .int .u8) (hr : InRow h T 1 v (bv bs))
    (k : K (.str bs) h) : bindP (evConvert E t st v h) K := by
  obtain ⟨h1, h2⟩ := hr.contents1
  refine bindP_of (v := .str bs) (h := h) ?_ k
  unfold evConvert
  simp only [ht, hs, hT, Option.bind_some, hu, hsu, hk]
  rw [if_pos ⟨h2, hd⟩, h1]
  simp [bytesV_bv]
end Go.Sb
