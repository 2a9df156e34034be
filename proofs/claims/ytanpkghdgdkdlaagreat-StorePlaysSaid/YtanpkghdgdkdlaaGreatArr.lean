/- Blocks that are whole arrays of one-cell elements, as plain functions. Of no program. -/
import Derived.Test.YtanpkghdgdkdlaaGreatMem
namespace Go.Proofs.YtanpkghdgdkdlaaGreat.Mem
set_option linter.unusedVariables false
set_option linter.unusedSimpArgs false
open Go.RowKit

/-- Block b has n cells, cell j being enc (f j). -/
def Arr {α : Type} (enc : α → Value) (w : World) (b n : Nat) (t : TypeId) (f : Nat → α) : Prop := w.heap[b]? = some (.cells ((List.range n).map fun j => enc (f j)).toArray t (0, 0))
def updN {α : Type} (f : Nat → α) (j : Nat) (v : α) : Nat → α := fun i => if i = j then v else f i
theorem updN_same {α : Type} (f : Nat → α) (j : Nat) (v : α) : updN f j v j = v := by simp [updN]
theorem updN_other {α : Type} (f : Nat → α) (j : Nat) (v : α) {i : Nat} (h : i ≠ j) : updN f j v i = f i := by simp [updN, h]
section
variable {α : Type} {enc : α → Value} {w w' : World} {b n : Nat} {t : TypeId} {f : Nat → α}
theorem Arr.lt (h : Arr enc w b n t f) : b < w.heap.size := heap_lt h
theorem Arr.cell (h : Arr enc w b n t f) (j : Nat) (hj : j < n) : w.cell? ⟨b, j, none⟩ = some (enc (f j)) := by
  rw [cell_at h]
  simp [hj]
theorem Arr.frozen (h : Arr enc w b n t f) (j : Nat) : w.frozen? ⟨b, j, none⟩ = false := frozen_at h j
theorem Arr.of_heap (h : Arr enc w b n t f) (he : w'.heap[b]? = w.heap[b]?) : Arr enc w' b n t f := he.trans h
theorem Arr.chg {T : List Nat} (h : Arr enc w b n t f) (ht : Chg T w w') (hd : b ∉ T) : Arr enc w' b n t f := h.of_heap (ht.block b h.lt hd)
theorem Arr.on (h : Arr enc w b n t f) (hb : Below w.heap.size w w') : Arr enc w' b n t f := h.of_heap (hb.block b h.lt)
theorem Arr.setOther (h : Arr enc w b n t f) (p : Addr) (v : Value) (hne : b ≠ p.block) : Arr enc (w.setCell p v) b n t f := h.of_heap (heap_set_other p v hne)
theorem Arr.congr (h : Arr enc w b n t f) {g : Nat → α} (hg : ∀ j, j < n → g j = f j) : Arr enc w b n t g := by
  unfold Arr at h ⊢
  rw [h]
  congr 3
  apply List.map_congr_left
  intro j hj
  rw [hg j (List.mem_range.1 hj)]
theorem Arr.set (h : Arr enc w b n t f) (j : Nat) (v : α) : Arr enc (w.setCell ⟨b, j, none⟩ (enc v)) b n t (updN f j v) := by
  unfold Arr
  rw [heap_set_at h j (enc v)]
  congr 2
  apply Array.ext
  · simp
  · intro i h1 h2
    simp only [Array.getElem_setIfInBounds, List.getElem_toArray, List.getElem_map, List.getElem_range]
    unfold updN
    by_cases hij : j = i
    · subst hij; simp
    · have : i ≠ j := fun e => hij e.symm
      simp [hij, this]
end
end Go.Proofs.YtanpkghdgdkdlaaGreat.Mem
