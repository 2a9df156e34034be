/- Reading what came in: slices of whatever, of whole numbers. -/
import Derived.Test.YtecnfhfofnbieaaMem
import Derived.ProofKit
import Derived.OpenShut
import Derived.Deep.Slices
namespace Go.Proofs.Ytecnfhfofnbieaa.Mem
set_option linter.unusedVariables false
set_option linter.unusedSimpArgs false
open Go.ChangeShapes Go.WideShapes Go.RowKit

section
variable {H : Type} {enc : TypeId × Value → H} {P : Program} {w : World} {t e : TypeId} {fuel : Nat} {cs : List Value} {x : DataW H × List MemPlace}
theorem mem_row_of {a : Addr} {n : Nat} (hn : 0 < n) : ∃ o, MemPlace.cell a.block o ∈ MemPlace.row a n := by
  refine ⟨a.off, MemPlace.mem_row.2 ⟨0, hn, ?_⟩⟩
  simp [Addr.add]
theorem cells_at {a : Addr} {n : Nat} {cs' : List Value} (h : w.cells? 0 a n = some cs') : cs'.length = n ∧ ∀ q, q < n → w.cell? (a.add q) = cs'[q]? := by
  unfold World.cells? at h
  rw [if_pos (Nat.zero_le _)] at h
  exact ⟨by simpa using mapM_some_length h, fun q hq => by simpa [hq] using mapM_some_get h q q (by simp [hq])⟩
/-- A SLICE THAT CAME IN. -/
theorem open_slice_of {α : Type} [Inhabited α] {sz : Nat} {R : World → List Value → α → Prop} {p : Nat → Prop} (ht : P.underlying t = some (.slice e)) (hsz : P.cellsOf e = sz) (hpos : 0 < sz)
    (h : DataW.trod enc P w 0 (fun _ => true) true fuel t cs = some x) (hp : ∀ y ∈ x.2, p y.block)
    (elem : ∀ n cs' y, DataW.trod enc P w 0 (fun _ => true) true n e cs' = some y → (∀ z ∈ y.2, p z.block) → ∃ a, R w cs' a) :
    ∃ v l, cs = [v] ∧ SliceOf sz R p w v l := by
  rcases Deep.open_slice ht h with ⟨rfl, _⟩ | ⟨a, len, cap, m, n, D, Pl, rfl, _, hl, hm, hme, rfl, hel⟩
  · exact ⟨_, [], rfl, .inl ⟨rfl, _, _, rfl⟩⟩
  · simp only [if_true] at hme
    subst hme
    by_cases h0 : len = 0
    · subst h0
      exact ⟨_, [], rfl, .inl ⟨rfl, _, _, rfl⟩⟩
    · have key : ∀ i, i < len → ∃ y, ∃ cs', w.cells? 0 (a.add (i * sz)) sz = some cs' ∧ R w cs' y := by
        intro i hi
        obtain ⟨cs', hc, htr⟩ := hel i (by omega)
        rw [hsz] at hc
        obtain ⟨y, hy⟩ := elem n cs' _ htr (fun z hz => hp z (List.mem_append_right _ (List.mem_flatMap.2 ⟨i, by simp; omega, hz⟩)))
        exact ⟨y, cs', hc, hy⟩
      obtain ⟨f, hf⟩ := Deep.choose_lt key
      have hspot : a.spot = none := by
        obtain ⟨cs', hc, _⟩ := hf 0 (by omega)
        have h1 := cells_at hc
        have h2 := h1.2 0 (by omega)
        have h3 : 0 < cs'.length := by omega
        rw [List.getElem?_eq_getElem h3] at h2
        have := World.cell?_spot h2
        simpa [Addr.add] using this
      obtain ⟨b, o, spot⟩ := a
      simp only at hspot
      subst hspot
      refine ⟨_, (List.range len).map f, rfl, .inr ⟨b, o, m, by simp, ?_, by simp; unfold maxLen at hm; omega, ?_⟩⟩
      · obtain ⟨oo, ho⟩ := mem_row_of (a := ⟨b, o, none⟩) (n := m * P.cellsOf e) (by rw [hsz]; exact Nat.mul_pos (by omega) hpos)
        exact hp _ (List.mem_append_left _ ho)
      · intro j hj
        have hj' : j < len := by simpa using hj
        obtain ⟨cs', hc, hR⟩ := hf j hj'
        have h1 := cells_at hc
        refine ⟨cs', h1.1, fun q hq => ?_, by simpa using hR⟩
        rw [← h1.2 q hq, Deep.add_add]
        congr 1
        unfold Addr.add
        split <;> simp_all
/-- A slice of whole numbers that came in. -/
theorem open_ints_of {p : Nat → Prop} (ht : P.underlying t = some (.slice e)) (he : P.underlying e = some (.int .i64)) (hsz : P.cellsOf e = 1)
    (h : DataW.trod enc P w 0 (fun _ => true) true fuel t cs = some x) (hp : ∀ y ∈ x.2, p y.block) :
    ∃ v l, cs = [v] ∧ Ints p w v l ∧ ∀ z ∈ l, (Lit.int .i64 z).wf = true := by
  obtain ⟨v, l, rfl, hs⟩ := open_slice_of (R := fun w cs (z : Int) => cs = [.int .i64 z] ∧ (Lit.int .i64 z).wf = true) ht hsz (by omega) h hp (fun n cs' y htr _ => by
    obtain ⟨z, h1, _, h2⟩ := DataW.trod_int he htr
    exact ⟨z, h1, h2⟩)
  rcases hs with ⟨rfl, hv⟩ | ⟨b, o, c, e, hb, hm, hc⟩
  · exact ⟨v, [], rfl, .inl ⟨rfl, hv⟩, by simp⟩
  · refine ⟨v, l, rfl, .inr ⟨b, o, c, e, hb, hm, fun j hj => ?_⟩, fun z hz => ?_⟩
    · obtain ⟨cs, h1, h2, h3, _⟩ := hc j hj
      have := h2 0 (by omega)
      rw [h3] at this
      simpa using this
    · obtain ⟨j, hj, rfl⟩ := List.getElem_of_mem hz
      obtain ⟨cs, h1, h2, h3, h4⟩ := hc j hj
      exact h4
end
end Go.Proofs.Ytecnfhfofnbieaa.Mem
