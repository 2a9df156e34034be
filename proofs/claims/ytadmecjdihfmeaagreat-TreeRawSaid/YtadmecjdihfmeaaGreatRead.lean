/- Reading what came in: slices of whatever, of whole numbers. -/
import Derived.Test.YtadmecjdihfmeaaGreatMem
import Derived.ProofKit
import Derived.OpenShut
import Derived.Deep.Slices
namespace Go.Proofs.YtadmecjdihfmeaaGreat.Mem
set_option linter.unusedVariables false
set_option linter.unusedSimpArgs false
open Go.ChangeShapes Go.WideShapes Go.RowKit

section
variable {H : Type} {enc : TypeId × Value → H} {P : Program} {w : World} {t e : TypeId} {fuel : Nat} {cs : List Value} {x : DataW H × List MemPlace}
theorem mem_row_of {a : Addr} {n : Nat} (hn : 0 < n) : ∃ o, MemPlace.cell a.block o ∈ MemPlace.row a n := by
  refine ⟨a.off, MemPlace.mem_row.2 ⟨0, hn, ?_⟩⟩
  simp [Addr.add]
theorem cells_at {a : Addr} {n : Nat} {cs' : List Value} (h : w.cells? 0 a n = some cs') : cs'.length = n ∧ ∀ q, q < n → w.cell? (a.add q) = cs'[q]? := by
  unfold World.cells? at h
  rw [if_pos (Nat.zero_le _)] at h
  exact ⟨by simpa using mapM_some_length h, fun q hq => by simpa [hq] using mapM_some_get h q q (by simp [hq])⟩
/-- A SLICE THAT CAME IN. -/
theorem open_slice_of {α : Type} [Inhabited α] {sz : Nat} {R : World → List Value → α → Prop} {p : Nat → Prop} (ht : P.underlying t = some (.slice e)) (hsz : P.cellsOf e = sz) (hpos : 0 < sz)
    (h : DataW.trod enc P w 0 (fun _ => true) true fuel t cs = some x) (hp : ∀ y ∈ x.2, p y.block)
    (elem : ∀ n cs' y, DataW.trod enc P w 0 (fun _ => true) true n e cs' = some y → (∀ z ∈ y.2, p z.block) → ∃ a, R w cs' a) :
    ∃ v l, cs = [v] ∧ SliceOf sz R p w v l := by
  rcases Deep.open_slice ht h with ⟨rfl, _⟩ | ⟨a, len, cap, m, n, D, Pl, rfl, _, hl, hm, hme, rfl, hel⟩
  · exact ⟨_, [], rfl, .inl ⟨rfl, _, _, rfl⟩⟩
  · simp only [if_true] at hme
    subst hme
    by_cases h0 : len = 0
    · subst h0
      exact ⟨_, [], rfl, .inl ⟨rfl, _, _, rfl⟩⟩
    · have key : ∀ i, i < len → ∃ y, ∃ cs', w.cells? 0 (a.add (i * sz)) sz = some cs' ∧ R w cs' y := by
        intro i hi
        obtain ⟨cs', hc, htr⟩ := hel i (by omega)
        rw [hsz] at hc
        obtain ⟨y, hy⟩ := elem n cs' _ htr (fun z hz => hp z (List.mem_append_right _ (List.mem_flatMap.2 ⟨i, by simp; omega, hz⟩)))
        exact ⟨y, cs', hc, hy⟩
      obtain ⟨f, hf⟩ := Deep.choose_lt key
      have hspot : a.spot = none := by
        obtain ⟨cs', hc, _⟩ := hf 0 (by omega)
        have h1 := cells_at hc
        have h2 := h1.2 0 (by omega)
        have h3 : 0 < cs'.length := by omega
        rw [List.getElem?_eq_getElem h3] at h2
        have := World.cell?_spot h2
        simpa [Addr.add] using this
      obtain ⟨b, o, spot⟩ := a
      simp only at hspot
      subst hspot
      refine ⟨_, (List.range len).map f, rfl, .inr ⟨b, o, m, by simp, ?_, by simp; unfold maxLen at hm; omega, ?_⟩⟩
      · obtain ⟨oo, ho⟩ := mem_row_of (a := ⟨b, o, none⟩) (n := m * P.cellsOf e) (by rw [hsz]; exact Nat.mul_pos (by omega) hpos)
        exact hp _ (List.mem_append_left _ ho)
      · intro j hj
        have hj' : j < len := by simpa using hj
        obtain ⟨cs', hc, hR⟩ := hf j hj'
        have h1 := cells_at hc
        refine ⟨cs', h1.1, fun q hq => ?_, by simpa using hR⟩
        rw [← h1.2 q hq, Deep.add_add]
        congr 1
        unfold Addr.add
        split <;> simp_all
/-- A slice of whole numbers that came in. -/
theorem open_ints_of {p : Nat → Prop} (ht : P.underlying t = some (.slice e)) (he : P.underlying e = some (.int .i64)) (hsz : P.cellsOf e = 1)
    (h : DataW.trod enc P w 0 (fun _ => true) true fuel t cs = some x) (hp : ∀ y ∈ x.2, p y.block) :
    ∃ v l, cs = [v] ∧ Ints p w v l ∧ ∀ z ∈ l, (Lit.int .i64 z).wf = true := by
  obtain ⟨v, l, rfl, hs⟩ := open_slice_of (R := fun w cs (z : Int) => cs = [.int .i64 z] ∧ (Lit.int .i64 z).wf = true) ht hsz (by omega) h hp (fun n cs' y htr _ => by
    obtain ⟨z, h1, _, h2⟩ := DataW.trod_int he htr
    exact ⟨z, h1, h2⟩)
  rcases hs with ⟨rfl, hv⟩ | ⟨b, o, c, e, hb, hm, hc⟩
  · exact ⟨v, [], rfl, .inl ⟨rfl, hv⟩, by simp⟩
  · refine ⟨v, l, rfl, .inr ⟨b, o, c, e, hb, hm, fun j hj => ?_⟩, fun z hz => ?_⟩
    · obtain ⟨cs, h1, h2, h3, _⟩ := hc j hj
      have := h2 0 (by omega)
      rw [h3] at this
      simpa using this
    · obtain ⟨j, hj, rfl⟩ := List.getElem_of_mem hz
      obtain ⟨cs, h1, h2, h3, h4⟩ := hc j hj
      exact h4
/-! ### the same, with the bounds that the form gives: nothing that came in has more bytes than a machine reaches -/
def Reached (l : List Nat) : Prop := ∀ n ∈ l, n ≤ reachBytes
theorem reached_all {e : TypeId} : ∀ {l : List (DataW H)} {d : DataW H}, d ∈ l → Reached (DataW.weightsAll P e l) → Reached (d.weights P e)
  | d0 :: r, d, hd, h => by
    rcases List.mem_cons.1 hd with rfl | hd
    · exact fun n hn => h n (by simp [DataW.weightsAll, hn])
    · exact reached_all hd (fun n hn => h n (by simp [DataW.weightsAll, hn]))
/-- A SLICE THAT CAME IN. -/
theorem open_slice_w {α : Type} [Inhabited α] {sz : Nat} {R : World → List Value → α → Prop} {p : Nat → Prop} (ht : P.underlying t = some (.slice e)) (hsz : P.cellsOf e = sz) (hpos : 0 < sz)
    (h : DataW.trod enc P w 0 (fun _ => true) true fuel t cs = some x) (hp : ∀ y ∈ x.2, p y.block) (hw : Reached (x.1.weights P t))
    (elem : ∀ n cs' y, DataW.trod enc P w 0 (fun _ => true) true n e cs' = some y → (∀ z ∈ y.2, p z.block) → Reached (y.1.weights P e) → ∃ a, R w cs' a) :
    ∃ v l, cs = [v] ∧ SliceOf sz R p w v l ∧ l.length * P.bytesOf e ≤ reachBytes := by
  rcases Deep.open_slice ht h with ⟨rfl, _⟩ | ⟨a, len, cap, m, n, D, Pl, rfl, _, hl, hm, hme, rfl, hel⟩
  · exact ⟨_, [], rfl, .inl ⟨rfl, _, _, rfl⟩, by simp⟩
  · simp only [if_true] at hme
    subst hme
    simp only [DataW.weights, ht] at hw
    by_cases h0 : len = 0
    · subst h0
      exact ⟨_, [], rfl, .inl ⟨rfl, _, _, rfl⟩, by simp⟩
    · have key : ∀ i, i < len → ∃ y, ∃ cs', w.cells? 0 (a.add (i * sz)) sz = some cs' ∧ R w cs' y := by
        intro i hi
        obtain ⟨cs', hc, htr⟩ := hel i (by omega)
        rw [hsz] at hc
        obtain ⟨y, hy⟩ := elem n cs' _ htr (fun z hz => hp z (List.mem_append_right _ (List.mem_flatMap.2 ⟨i, by simp; omega, hz⟩)))
          (reached_all (l := (List.range len).map D) (List.mem_map.2 ⟨i, List.mem_range.2 hi, rfl⟩) (fun n hn => hw n (by simp [hn])))
        exact ⟨y, cs', hc, hy⟩
      obtain ⟨f, hf⟩ := Deep.choose_lt key
      have hspot : a.spot = none := by
        obtain ⟨cs', hc, _⟩ := hf 0 (by omega)
        have h1 := cells_at hc
        have h2 := h1.2 0 (by omega)
        have h3 : 0 < cs'.length := by omega
        rw [List.getElem?_eq_getElem h3] at h2
        have := World.cell?_spot h2
        simpa [Addr.add] using this
      obtain ⟨b, o, spot⟩ := a
      simp only at hspot
      subst hspot
      refine ⟨_, (List.range len).map f, rfl, .inr ⟨b, o, m, by simp, ?_, by simp; unfold maxLen at hm; omega, ?_⟩, ?_⟩
      · obtain ⟨oo, ho⟩ := mem_row_of (a := ⟨b, o, none⟩) (n := m * P.cellsOf e) (by rw [hsz]; exact Nat.mul_pos (by omega) hpos)
        exact hp _ (List.mem_append_left _ ho)
      · intro j hj
        have hj' : j < len := by simpa using hj
        obtain ⟨cs', hc, hR⟩ := hf j hj'
        have h1 := cells_at hc
        refine ⟨cs', h1.1, fun q hq => ?_, by simpa using hR⟩
        rw [← h1.2 q hq, Deep.add_add]
        congr 1
        unfold Addr.add
        split <;> simp_all
      · have h1 := hw _ (List.mem_cons_self)
        simp only [List.length_map, List.length_range] at h1 ⊢
        exact Nat.le_trans (Nat.mul_le_mul_right _ (Nat.le_add_right _ _)) h1
/-- A slice of whole numbers that came in. -/
theorem open_ints_w {p : Nat → Prop} (ht : P.underlying t = some (.slice e)) (he : P.underlying e = some (.int .i64)) (hsz : P.cellsOf e = 1)
    (h : DataW.trod enc P w 0 (fun _ => true) true fuel t cs = some x) (hp : ∀ y ∈ x.2, p y.block) (hw : Reached (x.1.weights P t)) :
    ∃ v l, cs = [v] ∧ Ints p w v l ∧ (∀ z ∈ l, (Lit.int .i64 z).wf = true) ∧ l.length * P.bytesOf e ≤ reachBytes := by
  obtain ⟨v, l, rfl, hs, hb⟩ := open_slice_w (R := fun w cs (z : Int) => cs = [.int .i64 z] ∧ (Lit.int .i64 z).wf = true) ht hsz (by omega) h hp hw (fun n cs' y htr _ _ => by
    obtain ⟨z, h1, _, h2⟩ := DataW.trod_int he htr
    exact ⟨z, h1, h2⟩)
  rcases hs with ⟨rfl, hv⟩ | ⟨b, o, c, e, hbb, hm, hc⟩
  · exact ⟨v, [], rfl, .inl ⟨rfl, hv⟩, by simp, hb⟩
  · refine ⟨v, l, rfl, .inr ⟨b, o, c, e, hbb, hm, fun j hj => ?_⟩, fun z hz => ?_, hb⟩
    · obtain ⟨cs, h1, h2, h3, _⟩ := hc j hj
      have := h2 0 (by omega)
      rw [h3] at this
      simpa using this
    · obtain ⟨j, hj, rfl⟩ := List.getElem_of_mem hz
      obtain ⟨cs, h1, h2, h3, h4⟩ := hc j hj
      exact h4
/-- A text that came in. -/
theorem open_str_w {s : ByteArray} (hw : Reached ((DataW.lit (H := H) (.string s.data.toList)).weights P t)) : s.size ≤ 140737488351232 := by
  have := hw s.data.toList.length (by simp [DataW.weights])
  simpa [reachBytes] using this
end
end Go.Proofs.YtadmecjdihfmeaaGreat.Mem
