/- Maps of whole numbers: delete, len. -/
import Derived.Test.YtadmecjdihfmeaaGreatMem
namespace Go.Proofs.YtadmecjdihfmeaaGreat.Mem
set_option linter.unusedVariables false
set_option linter.unusedSimpArgs false
open Go.RowKit Go.MapKept
open Go.ChangeMaps (setBlock)
section
variable {β : Type} {enc : β → Value} {w w' : World} {b : Nat} {m : Int → Option β} {P : Program} {t kt et : TypeId}
/-- 'delete(m, k)' -/
theorem IsI.del (h : IsI enc w b m) (ht : P.underlying t = some (.map kt et)) (hk : P.underlying kt = some (.int .i64)) (k : Int) (ty t2 : TypeId) :
    ∃ w', (Builtin.delete_ #[t, t2] ty #[.map (some b), .int .i64 k]).run P w = .ok (.tuple #[]) w' ∧ IsI enc w' b (upd m k none) ∧ Chg [b] w w' := by
  obtain ⟨es, clock, hb, hs, h1, h2⟩ := h
  rcases find_some h1 h2 k with ⟨e0, e1, hne⟩ | ⟨v0, j, e, e0, e1, hj, hkey⟩
  · refine ⟨_, by simp [Builtin.delete_, run_underlying ht, MapKept.run_getObj_map hb, run_checkKey hk (k := .int .i64 k) rfl, run_findKey hk e1, MapKept.run_setObj_map _ hb, Result.andThen]; rfl, ?_, Chg.setBlock b _⟩
    refine ⟨_, _, (heap_set hb).1, hs, ?_, ?_⟩
    · intro x hx
      obtain ⟨k', v', q1, q2, q3⟩ := h1 x hx
      refine ⟨k', v', q1, q2, ?_⟩
      rw [upd_other]
      · exact q3
      · rintro rfl
        exact hne x hx q1
    · intro k' v' q
      by_cases hkk : k' = k
      · subst hkk; rw [upd_same] at q; cases q
      · rw [upd_other _ _ _ hkk] at q
        exact h2 k' v' q
  · refine ⟨_, by simp [Builtin.delete_, run_underlying ht, MapKept.run_getObj_map hb, run_checkKey hk (k := .int .i64 k) rfl, run_findKey hk e1, MapKept.run_setObj_map _ hb, Result.andThen]; rfl, ?_, Chg.setBlock b _⟩
    have hlt : j < es.size := (Array.getElem?_eq_some_iff.1 hj).1
    have hej : es[j] = e := (Array.getElem?_eq_some_iff.1 hj).2
    have hmem : ∀ x, x ∈ (es.eraseIdxIfInBounds j).toList ↔ ∃ i, ∃ hi : i < es.size, i ≠ j ∧ es[i] = x := by
      intro x
      have e2 : (es.eraseIdxIfInBounds j).toList = es.toList.eraseIdx j := by simp
      rw [e2, List.mem_eraseIdx_iff_getElem?]
      constructor
      · rintro ⟨i, hij, hi⟩
        obtain ⟨hl, he⟩ := List.getElem?_eq_some_iff.1 hi
        exact ⟨i, by simpa using hl, hij, by simpa using he⟩
      · rintro ⟨i, hi, hij, he⟩
        exact ⟨i, hij, by rw [List.getElem?_eq_some_iff]; exact ⟨by simpa using hi, by simpa using he⟩⟩
    refine ⟨_, _, (heap_set hb).1, stamped_erase hs j, ?_, ?_⟩
    · intro x hx
      obtain ⟨i, hi, hij, rfl⟩ := (hmem x).1 hx
      obtain ⟨k', v', q1, q2, q3⟩ := h1 es[i] (Array.getElem_mem_toList hi)
      refine ⟨k', v', q1, q2, ?_⟩
      rw [upd_other]
      · exact q3
      · rintro rfl
        have hn := (List.pairwise_iff_getElem.1 ((stamped_iff es clock).1 hs).2.2)
        rcases Nat.lt_or_gt_of_ne hij with h' | h'
        · exact hn i j (by simpa using hi) (by simpa using hlt) h' (by simp only [Array.getElem_toList]; rw [q1, hej, hkey])
        · exact hn j i (by simpa using hlt) (by simpa using hi) h' (by simp only [Array.getElem_toList]; rw [q1, hej, hkey])
    · intro k' v' q
      by_cases hkk : k' = k
      · subst hkk; rw [upd_same] at q; cases q
      · rw [upd_other _ _ _ hkk] at q
        obtain ⟨x, hx, q1, q2⟩ := h2 k' v' q
        obtain ⟨i, hi, rfl⟩ := List.getElem_of_mem hx
        simp only [Array.getElem_toList] at q1 q2
        have hi' : i < es.size := by simpa using hi
        have hij : i ≠ j := by
          rintro rfl
          rw [hej, hkey] at q1
          injection q1 with _ q1
          exact hkk q1.symm
        exact ⟨es[i], (hmem _).2 ⟨i, hi', hij, rfl⟩, q1, q2⟩
end
end Go.Proofs.YtadmecjdihfmeaaGreat.Mem
