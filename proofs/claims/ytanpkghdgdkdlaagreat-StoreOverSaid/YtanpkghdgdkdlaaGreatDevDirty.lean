/- Dirty: the blocks that were written and not flushed, rising: by the shelf's contracts on slices.Sorted(maps.Keys(m)). -/
import Derived.Test.YtanpkghdgdkdlaaGreatDevWalks
import Derived.Test.YtanpkghdgdkdlaaGreatMemKeys
import Derived.Test.YtanpkghdgdkdlaaGreatIter
namespace Go.Proofs.YtanpkghdgdkdlaaGreat.Dev
set_option linter.unusedVariables false
set_option linter.unusedSimpArgs false
set_option maxRecDepth 100000
open Go.RowKit Go.Proofs.YtanpkghdgdkdlaaGreat.Mem Go.Maps Go.Sort Go.Shelf

theorem sorts_ints (m : Nat) : AnyZI.SortsIn Tryz.prog Tryz.sortedA_ren Fence.wide m :=
  ⟨fun blk off cap ss W hH hblk hsz => callsIn_wide.2 (AnyM.slices_Sort_int Tryz.sortA blk off cap ss W hH hblk hsz),
   fun p cap W => callsIn_wide.2 (AnyM.slices_Sort_int_none Tryz.sortA p cap W)⟩

theorem keys_any (mb : Option Nat) (W : World) : Calls Tryz.prog 78 #[.map mb] W fun e w' => e = .returned (.func (.func 115) #[] #[.pointer (some ⟨W.heap.size, 0, none⟩)]) ∧ w' = W.alloc (.cells #[.map mb] 79) :=
  callsIn_wide.1 (AnyZI.keys_in Tryz.keysA Fence.wide 5 trivial rfl mb W)

/-- a slice of one's own: it may be written -/
def Own (w : World) (v : Value) : Prop := ∀ g o n c, v = .slice (some ⟨g, o, none⟩) n c → ∀ j, w.frozen? ⟨g, j, none⟩ = false
set_option maxHeartbeats 1000000 in
/-- slices.Sorted at what maps.Keys handed back -/
theorem sorted_any (w : World) (b n : Nat) (m : Int → Option ByteArray) (h : IsI Value.string w b m) (hn : n ≤ 4096) (hr : ∀ k, m k ≠ none → 0 ≤ k ∧ k < n) :
    Calls Tryz.prog 73 #[.func (.func 115) #[] #[.pointer (some ⟨w.heap.size, 0, none⟩)]] (w.alloc (.cells #[.map (some b)] 79)) fun e w' =>
      ∃ (v : Value) (l : List Int), e = .returned v ∧ l.Pairwise (· < ·) ∧ (∀ k, k ∈ l ↔ m k ≠ none) ∧ Ints (w.heap.size ≤ ·) w' v l ∧ (v = .slice none 0 0 ↔ l = []) ∧ Below w.heap.size w w' ∧ Own w' v := by
  obtain ⟨N, D0, hown, hsz, hnd, hmem⟩ := h.owns (P := Tryz.prog) Tryz.underlying3 n hn hr
  have hbl := hown.lt
  have hseq : SeqGives Fence.wide 2 Tryz.prog 115 #[.pointer (some ⟨w.heap.size, 0, none⟩)] encZ (fun ss => ss.Perm (intKeys D0)) (Maps.size D0) (w.alloc (.cells #[.map (some b)] 79)) :=
    AnyZI.keys_gives (ρ := Tryz.keysA_ren) { Tryz.keysA with } Fence.wide _ trivial rfl (by omega) w.heap.size b N D0 _ (by simp) (by simp) (by
      obtain ⟨es, clock, hb, Ft, hs, hD⟩ := hown
      exact ⟨es, clock, (Below.heap_alloc _ _ b hbl).trans hb, Ft, hs, hD⟩)
  have cS := AnyZI.sorted_in Tryz.sortedA Fence.wide 5 trivial trivial trivial trivial rfl (by omega) (sorts_ints _) (enters_of Tryz.func111 (by kernel_rfl) rfl) 115 #[.pointer (some ⟨w.heap.size, 0, none⟩)] trivial (enters_of Tryz.func115 (by kernel_rfl) rfl) _ _ (by unfold maxLen; omega) (by omega) _ hseq
  change CallsIn _ _ Tryz.prog 73 _ _ _ at cS
  refine (callsIn_wide.1 cS).mono ?_
  rintro e w' ⟨v, ss, rfl, hperm, hrow, hnil, hb⟩
  have hfro : Own w' v := by
    intro g o n c e j
    rcases hrow.2 with ⟨rfl, h0⟩ | ⟨g', cap, cur, rfl, hbase, hg, hcap, hcm, hcs, htake⟩
    · cases e
    · injection e with e1 e2 e3
      injection e1 with e1
      injection e1 with e1 e4
      subst e1
      exact frozen_at hg j
  have hsize : (w.alloc (.cells #[.map (some b)] 79)).heap.size = w.heap.size + 1 := by simp
  have hlen : ss.length ≤ 4096 := by
    have h1 := hperm.length_eq
    have h2 : (intKeys D0).length = Maps.size D0 := by
      obtain ⟨es, clock, hb, Ft, hs, hD⟩ := hown
      rw [hD, Maps.size_eq]
      simp [intKeys]
    omega
  have hs2 : (ss.mergeSort (fun x y => decide (x ≤ y))).Perm ss := List.mergeSort_perm _ _
  refine ⟨v, ss.mergeSort (fun x y => decide (x ≤ y)), rfl, ?_, ?_, ?_, ?_, ?_⟩
  · have hnd2 : (ss.mergeSort (fun x y => decide (x ≤ y))).Nodup := (hs2.trans hperm).nodup_iff.2 hnd
    have hsorted : (ss.mergeSort (fun x y => decide (x ≤ y))).Pairwise (fun a b => decide (a ≤ b) = true) :=
      List.pairwise_mergeSort (by intro a b c h1 h2; simp at h1 h2 ⊢; omega) (by intro a b; simp; omega) ss
    refine (List.pairwise_and_iff.2 ⟨hsorted, hnd2⟩).imp ?_
    rintro a b ⟨h1, h2⟩
    simp at h1
    omega
  · intro k
    rw [hs2.mem_iff, hperm.mem_iff, hmem]
  · have hl := hs2.length_eq
    rcases hrow.2 with ⟨rfl, h0⟩ | ⟨g, cap, cur, rfl, hbase, hg, hcap, hcm, hcs, htake⟩
    · left
      exact ⟨List.eq_nil_of_length_eq_zero (by omega), _, _, rfl⟩
    · right
      refine ⟨g, 0, cap, by rw [hl], by omega, by omega, ?_⟩
      intro j hj
      have h3 := hrow.cellAt j (by omega)
      rw [Nat.zero_add, h3]
      simp [hj]
  · rw [hnil]
    constructor
    · rintro rfl; simp
    · intro h
      have := hs2.length_eq
      rw [h] at this
      exact List.eq_nil_of_length_eq_zero (by simpa using this.symm)
  · exact ⟨((Below.refl _ w).alloc (Nat.le_refl _) _).trans (hb.mono (by omega)), hfro⟩

/-- Dirty -/
theorem dirty_any (w : World) (b bk bd : Nat) (S : DevS) (h : At w b bk bd S) :
    Calls Tryz.prog 32 #[.pointer (some ⟨b, 0, none⟩)] w fun e w' => ∃ (v : Value) (l : List Int), e = .returned v ∧ l.Pairwise (· < ·) ∧ (∀ k, k ∈ l ↔ S.dirty k ≠ none) ∧ Ints (w.heap.size ≤ ·) w' v l ∧
      (v = .slice none 0 0 ↔ l = []) ∧ Below w.heap.size w w' ∧ Own w' v := by
  obtain ⟨c0, c1, c2, c3, c4, c5, cf⟩ := h.cells
  have H : Hid (At w b bk bd S) := h
  have hn : Hid (S.n.toNat ≤ 4096 ∧ (S.n.toNat : Int) = S.n) := by have := h.ok.2.2; exact ⟨by omega, by omega⟩
  clear h
  go_enter Tryz.func32, Tryz.ntmps32
  go_wp2_with fail
  refine (keys_any (some bd) w).mono ?_
  rintro e w1 ⟨rfl, rfl⟩
  go_wp2_with fail
  refine (sorted_any w bd S.n.toNat S.dirty H.out.dirty hn.out.1 (fun k hk => by rw [hn.out.2]; exact H.out.din k hk)).mono ?_
  rintro e w2 ⟨v, l, rfl, h1, h2, h3, h4, h5⟩
  have HX : Hid (l.Pairwise (· < ·) ∧ (∀ k, k ∈ l ↔ S.dirty k ≠ none) ∧ Ints (w.heap.size ≤ ·) w2 v l ∧ (v = .slice none 0 0 ↔ l = []) ∧ Below w.heap.size w w2 ∧ Own w2 v) := ⟨h1, h2, h3, h4, h5⟩
  clear h1 h2 h3 h4 h5
  go_wp2
  go_ret
  exact ⟨v, l, rfl, HX.out⟩
end Go.Proofs.YtanpkghdgdkdlaaGreat.Dev
