/- A map's keys, as the shelf's contracts on sorting them speak of them. Of no program. -/
import Derived.Test.YtadmecjdihfmeaaGreatMem
import Derived.Lib.SlKeysI
import Derived.Maps.Own
namespace Go.Proofs.YtadmecjdihfmeaaGreat.Mem
set_option linter.unusedVariables false
set_option linter.unusedSimpArgs false
open Go.MapKept

/-! ### a map's keys -/
theorem nodup_range : ∀ (n : Nat) (l : List Int), l.Nodup → (∀ x ∈ l, 0 ≤ x ∧ x < n) → l.length ≤ n
  | 0, l, _, h => by
    cases l with
    | nil => simp
    | cons x l => have := h x (by simp); omega
  | n + 1, l, hn, h => by
    have h1 := nodup_range n (l.erase (n : Int)) (hn.erase _) (fun x hx => by
      have hx' := (hn.mem_erase_iff).1 hx
      have := h x hx'.2
      have := hx'.1
      omega)
    rw [List.length_erase] at h1
    split at h1 <;> omega
theorem mapKey_int {P : Program} {kt : TypeId} (hk : P.underlying kt = some (.int .i64)) {k : Int} (hw : (Lit.int .i64 k).wf = true) : keyOf P kt (.int .i64 k) = some (.int .i64 k) := by
  simp [keyOf, mapKey, hk, hw]
theorem wf_i64 {k : Int} (h : -9223372036854775808 ≤ k ∧ k ≤ 9223372036854775807) : (Lit.int .i64 k).wf = true := by
  simp only [Lit.wf, IntKind.min, IntKind.max, IntKind.signed, IntKind.bits, Bool.and_eq_true]
  simp
  omega
def anyElem : Value → Option (DataW Unit × List MemPlace) := fun _ => some (.nil, [])
theorem IsI.owns {β : Type} {enc : β → Value} {w : World} {b : Nat} {m : Int → Option β} {P : Program} {kt : TypeId} (h : IsI enc w b m) (hk : P.underlying kt = some (.int .i64)) (n : Nat) (hn : n ≤ 4096) (hr : ∀ k, m k ≠ none → 0 ≤ k ∧ k < n) :
    ∃ (N : Nat) (D0 : DataW Unit), w.ownsMap P kt anyElem b N D0 ∧ Maps.size D0 ≤ n ∧ (intKeys D0).Nodup ∧ ∀ k, k ∈ intKeys D0 ↔ m k ≠ none := by
  obtain ⟨es, clock, hb, hs, h1, h2⟩ := h
  have hrg : ∀ x ∈ es.toList, ∃ k v, x.key = .int .i64 k ∧ m k = some v ∧ WideElems.rd P kt anyElem x = some (.int .i64 k, .nil) := by
    intro x hx
    obtain ⟨k, v, q1, q2, q3⟩ := h1 x hx
    have hb := hr k (by rw [q3]; simp)
    refine ⟨k, v, q1, q3, ?_⟩
    simp [WideElems.rd, q1, mapKey_int hk (wf_i64 (k := k) (by omega)), anyElem]
  have hkeys : (es.toList.map (fun x => Go.intOf (WideElems.rg P kt anyElem x).1)) = es.toList.map (fun x => RowKit.intOf x.key) := by
    apply List.map_congr_left
    intro x hx
    obtain ⟨k, v, q1, _, q2⟩ := hrg x hx
    simp [WideElems.rg, q2, q1, Go.intOf, RowKit.intOf]
  have hnd : (es.toList.map (fun x => RowKit.intOf x.key)).Nodup := by
    have h3 := hs.2.2
    rw [List.Nodup, List.pairwise_map] at h3 ⊢
    refine List.Pairwise.imp_of_mem ?_ h3
    intro x y hx hy hne he
    obtain ⟨k, v, q1, _⟩ := h1 x hx
    obtain ⟨k', v', q1', _⟩ := h1 y hy
    rw [q1, q1'] at he hne
    simp [RowKit.intOf] at he
    exact hne (by rw [he])
  have hmem : ∀ k, k ∈ es.toList.map (fun x => RowKit.intOf x.key) ↔ m k ≠ none := by
    intro k
    rw [List.mem_map]
    constructor
    · rintro ⟨x, hx, rfl⟩
      obtain ⟨k', v, q1, q2, q3⟩ := h1 x hx
      rw [q1]
      simp [RowKit.intOf, q3]
    · intro hm
      cases hmk : m k with
      | none => exact absurd hmk hm
      | some v =>
        obtain ⟨x, hx, q1, _⟩ := h2 k v hmk
        exact ⟨x, hx, by rw [q1]; rfl⟩
  have hlen : es.size ≤ n := by
    have := nodup_range n _ hnd (fun x hx => hr x ((hmem x).1 hx))
    simpa using this
  have hperm := (WideShapes.sorted_perm (es.toList.map (WideElems.rg P kt anyElem))).map (fun p : Lit × DataW Unit => Go.intOf p.1)
  rw [List.map_map] at hperm
  have hperm' : (intKeys (.map ((es.toList.map (WideElems.rg P kt anyElem)).foldr DataW.insert []))).Perm (es.toList.map (fun x => RowKit.intOf x.key)) := by
    rw [← hkeys]
    exact hperm
  refine ⟨es.size, _, ⟨es, clock, hb, ⟨by unfold maxLen; omega, hs, fun x hx => by obtain ⟨k, v, _, _, q⟩ := hrg x hx; exact ⟨_, q⟩⟩, Nat.le_refl _, rfl⟩, ?_, ?_, ?_⟩
  · rw [Maps.size_eq, length_sorted]
    simpa using hlen
  · exact (hperm'.nodup_iff).2 hnd
  · intro k
    rw [hperm'.mem_iff]
    exact hmem k
end Go.Proofs.YtadmecjdihfmeaaGreat.Mem
