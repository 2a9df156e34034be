/- Layer 5's laws in plain Lean: what they ask of DevS. -/
import Derived.Test.YtecnfhfofnbieaaDevDoes
namespace Go.Proofs.Ytecnfhfofnbieaa.Dev
set_option linter.unusedVariables false
set_option linter.unusedSimpArgs false
open Go.RowKit Go.Proofs.Ytecnfhfofnbieaa.Mem

theorem DevS.does_n (S : DevS) (k : DoS) : (S.does k).n = S.n := by
  unfold does
  split
  · unfold write; split; rfl; split; split; exact S.spend_n; exact S.spend_n; rfl
  split
  · unfold flush; split; exact S.spend_n; exact S.spend_n
  split; rfl
  split; unfold fuse; split; rfl; rfl
  split; rfl
  unfold start; split; rfl; rfl
theorem DevS.run_n (S : DevS) (l : List DoS) : (S.run l).n = S.n := by
  induction l generalizing S with
  | nil => rfl
  | cons k l ih => show (run (S.does k) l).n = S.n; rw [ih, does_n]
theorem DevS.start_n (S : DevS) : S.start.n = S.n := by unfold start; split; rfl; rfl
theorem DevS.start_off (S : DevS) : S.start.off = false := by
  unfold start
  cases h : S.off <;> simp [h]

/-! ### DevFuse -/
structure Fused (f : Int) (S : DevS) (done : Int) : Prop where
  burns : S.burns = true
  sum : S.left + done = f
  d0 : 0 ≤ done
  l0 : 0 ≤ S.left
  off : S.off = true → S.left = 0
theorem spent_cases {S : DevS} (hb : S.burns = true) : (S.off = true ∧ S.spent = false ∧ S.spend = S) ∨ (S.off = false ∧ S.left = 0 ∧ S.spent = false ∧ S.spend = { S with off := true }) ∨
    (S.off = false ∧ S.left ≠ 0 ∧ S.spent = true ∧ S.spend = { S with left := S.left - 1 }) := by
  cases ho : S.off
  · right
    by_cases hl : S.left = 0
    · left; exact ⟨rfl, hl, by simp [DevS.spent, ho, hb, hl], by simp [DevS.spend, ho, hb, hl]⟩
    · right; exact ⟨rfl, hl, by simp [DevS.spent, ho, hb, hl], by simp [DevS.spend, ho, hb, hl]⟩
  · left; exact ⟨rfl, by simp [DevS.spent, ho], by simp [DevS.spend, ho]⟩
theorem fused_step {f : Int} {S : DevS} {done : Int} {k : DoS} (h : Fused f S done) (hk : k.op % 8 ≤ 3) :
    (S.doesE k = 0 → Fused f (S.does k) (done + 1)) ∧ (S.doesE k ≠ 0 → Fused f (S.does k) done) ∧ (S.doesE k = 5 → done = f) ∧ done ≤ f ∧ (S.doesE k = 0 → done + 1 ≤ f) := by
  obtain ⟨hb, hs, hd, hl, ho⟩ := h
  unfold DevS.doesE DevS.does
  by_cases h2 : k.op % 8 ≤ 2
  · rw [if_pos h2, if_pos h2]
    unfold DevS.writeE DevS.write
    rcases spent_cases hb with ⟨q1, q2, q3⟩ | ⟨q1, q2, q3, q4⟩ | ⟨q1, q2, q3, q4⟩
    · rw [q1, if_pos rfl, if_pos rfl]
      have := ho q1
      exact ⟨by omega, fun _ => ⟨hb, hs, hd, hl, ho⟩, fun _ => by omega, by omega, by omega⟩
    · rw [q1, q3, q4]
      simp only [Bool.false_eq_true, if_false]
      split
      · exact ⟨by omega, fun _ => ⟨hb, hs, hd, hl, fun _ => q2⟩, fun _ => by omega, by omega, by omega⟩
      · exact ⟨by omega, fun _ => ⟨hb, hs, hd, hl, fun h => by simp [q1] at h⟩, fun _ => by omega, by omega, by omega⟩
    · rw [q1, q3, q4]
      simp only [Bool.false_eq_true, if_false, if_true]
      split
      · exact ⟨fun _ => ⟨hb, by show S.left - 1 + (done + 1) = f; omega, by omega, by show 0 ≤ S.left - 1; omega, fun h => by simp [q1] at h⟩, by omega, by omega, by omega, by omega⟩
      · exact ⟨by omega, fun _ => ⟨hb, hs, hd, hl, fun h => by simp [q1] at h⟩, by omega, by omega, by omega⟩
  · have h3 : k.op % 8 = 3 := by omega
    rw [if_neg h2, if_neg h2, if_pos h3, if_pos h3]
    unfold DevS.flushE DevS.flush
    rcases spent_cases hb with ⟨q1, q2, q3⟩ | ⟨q1, q2, q3, q4⟩ | ⟨q1, q2, q3, q4⟩
    · rw [q2, q3]
      simp only [Bool.false_eq_true, if_false]
      have := ho q1
      exact ⟨by omega, fun _ => ⟨hb, hs, hd, hl, ho⟩, fun _ => by omega, by omega, by omega⟩
    · rw [q3, q4]
      simp only [Bool.false_eq_true, if_false]
      exact ⟨by omega, fun _ => ⟨hb, hs, hd, hl, fun _ => q2⟩, fun _ => by omega, by omega, by omega⟩
    · rw [q3, q4]
      simp only [if_true]
      exact ⟨fun _ => ⟨hb, by show S.left - 1 + (done + 1) = f; omega, by omega, by show 0 ≤ S.left - 1; omega, fun h => by simp [q1] at h⟩, by omega, by omega, by omega, by omega⟩
theorem fused_new (n f : Int) (h0 : 0 ≤ f) : Fused f ((DevS.new n).fuse f) 0 := by
  unfold DevS.fuse DevS.new
  simp only [Bool.false_eq_true, if_false]
  refine ⟨by simpa using h0, ?_, by omega, ?_, by simp⟩
  · show (if f ≤ 0 then 0 else f) + 0 = f
    split <;> omega
  · show 0 ≤ (if f ≤ 0 then (0 : Int) else f)
    split <;> omega

/-! ### DevFlushed -/
/-- block i is kept, and nothing is written over it -/
def Safe (S : DevS) (i : Int) (s : ByteArray) : Prop := S.dirty i = none ∧ S.kept i = some s
theorem safe_step {S : DevS} {i : Int} {s : ByteArray} {k : DoS} (h : Safe S i s) (hk : ¬(k.op % 8 < 3 ∧ k.i = i)) : Safe (S.does k) i s := by
  obtain ⟨hd, hs⟩ := h
  unfold DevS.does
  split
  · rename_i h2
    have hki : i ≠ k.i := fun e => hk ⟨by omega, e.symm⟩
    unfold DevS.write
    split
    · exact ⟨hd, hs⟩
    split
    · split
      · exact ⟨by show upd S.dirty k.i (some k.s) i = none; rw [upd_other _ _ _ hki]; exact hd, by show S.spend.kept i = some s; rw [DevS.spend_kept]; exact hs⟩
      · exact ⟨by rw [DevS.spend_dirty]; exact hd, by rw [DevS.spend_kept]; exact hs⟩
    · exact ⟨hd, hs⟩
  split
  · unfold DevS.flush
    split
    · exact ⟨rfl, by show over S.dirty S.kept i = some s; unfold over; rw [hd]; exact hs⟩
    · exact ⟨by rw [DevS.spend_dirty]; exact hd, by rw [DevS.spend_kept]; exact hs⟩
  split
  · exact ⟨hd, hs⟩
  split
  · unfold DevS.fuse
    split
    · exact ⟨hd, hs⟩
    · exact ⟨hd, hs⟩
  split
  · exact ⟨rfl, by show saved k.keep S.dirty S.kept i = some s; unfold saved over; rw [hd, hs]; simp⟩
  · unfold DevS.start
    split
    · exact ⟨rfl, hs⟩
    · exact ⟨hd, hs⟩
theorem safe_crash {S : DevS} {i : Int} {s : ByteArray} {keep : List Int} (h : Safe S i s) (hi : 0 ≤ i ∧ i < S.n) : (S.crash keep).blocks[i.toNat]? = some s ∧ (S.crash keep).blocks.length = S.n.toNat := by
  refine ⟨?_, by simp [DevS.blocks, DevS.crash]⟩
  have hn : i.toNat < S.n.toNat := by omega
  have hin : 0 ≤ i ∧ i < S.n := hi
  unfold DevS.blocks
  have e : (S.crash keep).n = S.n := rfl
  rw [e, List.getElem?_map, List.getElem?_range hn]
  simp only [Option.map_some]
  have e2 : ((i.toNat : Nat) : Int) = i := by omega
  rw [e2]
  congr 1
  have hsafe : saved keep S.dirty S.kept i = some s := by unfold saved over; rw [h.1, h.2]; simp
  have h3 : (S.crash keep).start = { S with left := 0, burns := false, off := false, kept := saved keep S.dirty S.kept, dirty := fun _ => none } := rfl
  rw [h3]
  unfold DevS.read
  simp [DevS.inside, hin, over, hsafe, text]
/-- written and flushed, with power and without a fuse -/
theorem wrote {S : DevS} {i : Int} {s : ByteArray} : let T := S.start.fuse (-1)
    (T.writeE i s = if T.inside i && decide (s.size ≤ 4096) then 0 else 22) ∧ ((T.inside i && decide (s.size ≤ 4096)) = true → (T.write i s).flushE = 0 ∧ Safe (T.write i s).flush i s) ∧ T.n = S.n := by
  have ho := S.start_off
  have hT : S.start.fuse (-1) = { S.start with left := 0, burns := false } := by simp [DevS.fuse, ho]
  rw [hT]
  have hspent : ({ S.start with left := 0, burns := false } : DevS).spent = true := by simp [DevS.spent, ho]
  have hspend : ({ S.start with left := 0, burns := false } : DevS).spend = { S.start with left := 0, burns := false } := by simp [DevS.spend, ho]
  refine ⟨?_, ?_, S.start_n⟩
  · unfold DevS.writeE
    rw [hspent]
    simp [ho]
  · intro hin
    have hw : ({ S.start with left := 0, burns := false } : DevS).write i s = { S.start with left := 0, burns := false, dirty := upd S.start.dirty i (some s) } := by
      unfold DevS.write
      rw [hspent, hspend, hin]
      simp [ho]
    rw [hw]
    have hs2 : ({ S.start with left := 0, burns := false, dirty := upd S.start.dirty i (some s) } : DevS).spent = true := by simp [DevS.spent, ho]
    refine ⟨by unfold DevS.flushE; rw [hs2]; rfl, ?_⟩
    unfold DevS.flush
    rw [hs2]
    refine ⟨rfl, ?_⟩
    show over (upd S.start.dirty i (some s)) _ i = some s
    unfold over
    rw [upd_same]

/-! ### DevSome -/
theorem blocks_at {S : DevS} {j : Nat} (h : j < S.n.toNat) : S.blocks[j]? = some (S.start.read j) := by
  unfold DevS.blocks
  rw [List.getElem?_map, List.getElem?_range h]
  rfl
theorem blocks_len (S : DevS) : S.blocks.length = S.n.toNat := by simp [DevS.blocks]
theorem some_now {S : DevS} (ho : S.off = false) (keep : List Int) (j : Nat) (h : j < S.n.toNat) :
    (((j : Int) ∈ keep ∧ S.dirty j ≠ none) → (S.crash keep).blocks[j]? = S.blocks[j]?) ∧ (¬((j : Int) ∈ keep ∧ S.dirty j ≠ none) → (S.crash keep).blocks[j]? = (S.crash []).blocks[j]?) := by
  have e1 : (S.crash keep).start = { S with left := 0, burns := false, off := false, kept := saved keep S.dirty S.kept, dirty := fun _ => none } := rfl
  have e2 : (S.crash []).start = { S with left := 0, burns := false, off := false, kept := saved [] S.dirty S.kept, dirty := fun _ => none } := rfl
  have e3 : S.start = S := by unfold DevS.start; rw [ho]; rfl
  have hin : (0 : Int) ≤ j ∧ (j : Int) < S.n := by omega
  have r1 : ((S.crash keep).start).read j = text (saved keep S.dirty S.kept j) := by rw [e1]; simp [DevS.read, DevS.inside, hin, over]
  have r2 : ((S.crash []).start).read j = text (S.kept j) := by rw [e2, saved_nil]; simp [DevS.read, DevS.inside, hin, over]
  have r3 : S.start.read j = text (over S.dirty S.kept j) := by rw [e3]; simp [DevS.read, DevS.inside, hin, ho]
  rw [blocks_at (S := S.crash keep) h, blocks_at (S := S.crash []) h, blocks_at h, r1, r2, r3]
  refine ⟨fun hk => ?_, fun hk => ?_⟩
  · unfold saved
    rw [if_pos hk.1]
  · unfold saved
    split
    · rename_i hm
      have : S.dirty j = none := by
        cases hd : S.dirty j with
        | none => rfl
        | some s => exact absurd ⟨hm, by rw [hd]; simp⟩ hk
      unfold over
      rw [this]
    · rfl

/-! ### sorted lists of the same members -/
theorem sorted_ext : ∀ {l l' : List Int}, l.Pairwise (· < ·) → l'.Pairwise (· < ·) → (∀ k, k ∈ l ↔ k ∈ l') → l = l'
  | [], [], _, _, _ => rfl
  | [], y :: l', _, _, h => by have := (h y).2 (by simp); simp at this
  | x :: l, [], _, _, h => by have := (h x).1 (by simp); simp at this
  | x :: l, y :: l', h1, h2, h => by
    rw [List.pairwise_cons] at h1 h2
    have hxy : x = y := by
      have a := (h x).1 (by simp)
      have b := (h y).2 (by simp)
      simp only [List.mem_cons] at a b
      rcases a with a | a
      · exact a
      rcases b with b | b
      · exact b.symm
      have := h2.1 x a
      have := h1.1 y b
      omega
    subst hxy
    congr 1
    refine sorted_ext h1.2 h2.2 (fun k => ?_)
    have hk := h k
    simp only [List.mem_cons] at hk
    constructor
    · intro hm
      rcases hk.1 (.inr hm) with rfl | h3
      · have := h1.1 k hm; omega
      · exact h3
    · intro hm
      rcases hk.2 (.inr hm) with rfl | h3
      · have := h2.1 k hm; omega
      · exact h3

/-! ### DevRefused -/
theorem refused {S : DevS} {k : DoS} (h : S.doesE k ≠ 0) : (S.does k).dirty = S.dirty ∧ (S.does k).kept = S.kept ∧ (S.does k).n = S.n := by
  refine ⟨?_, ?_, S.does_n k⟩
  · unfold DevS.doesE at h
    unfold DevS.does
    by_cases h2 : k.op % 8 ≤ 2
    · rw [if_pos h2] at h ⊢
      unfold DevS.writeE at h
      unfold DevS.write
      split
      · rfl
      split
      · split
        · simp_all
        · exact S.spend_dirty
      · rfl
    rw [if_neg h2] at h ⊢
    by_cases h3 : k.op % 8 = 3
    · rw [if_pos h3] at h ⊢
      unfold DevS.flushE at h
      unfold DevS.flush
      split
      · simp_all
      · exact S.spend_dirty
    rw [if_neg h3] at h ⊢
    by_cases h4 : k.op % 8 = 4
    · rw [if_pos h4]
    rw [if_neg h4] at h ⊢
    by_cases h5 : k.op % 8 = 5
    · rw [if_pos h5] at h ⊢
      unfold DevS.fuse
      split
      · rfl
      · rfl
    rw [if_neg h5] at h
    exact absurd rfl h
  · unfold DevS.doesE at h
    unfold DevS.does
    by_cases h2 : k.op % 8 ≤ 2
    · rw [if_pos h2] at h ⊢
      unfold DevS.writeE at h
      unfold DevS.write
      split
      · rfl
      split
      · split
        · simp_all
        · exact S.spend_kept
      · rfl
    rw [if_neg h2] at h ⊢
    by_cases h3 : k.op % 8 = 3
    · rw [if_pos h3] at h ⊢
      unfold DevS.flushE at h
      unfold DevS.flush
      split
      · simp_all
      · exact S.spend_kept
    rw [if_neg h3] at h ⊢
    by_cases h4 : k.op % 8 = 4
    · rw [if_pos h4]
    rw [if_neg h4] at h ⊢
    by_cases h5 : k.op % 8 = 5
    · rw [if_pos h5] at h ⊢
      unfold DevS.fuse
      split
      · rfl
      · rfl
    rw [if_neg h5] at h
    exact absurd rfl h
theorem crash_blocks {S T : DevS} {keep : List Int} (h1 : T.dirty = S.dirty) (h2 : T.kept = S.kept) (h3 : T.n = S.n) : (T.crash keep).blocks = (S.crash keep).blocks := by
  have e1 : (S.crash keep).start = { S with left := 0, burns := false, off := false, kept := saved keep S.dirty S.kept, dirty := fun _ => none } := rfl
  have e2 : (T.crash keep).start = { T with left := 0, burns := false, off := false, kept := saved keep T.dirty T.kept, dirty := fun _ => none } := rfl
  unfold DevS.blocks
  have e3 : (S.crash keep).n = S.n := rfl
  have e4 : (T.crash keep).n = T.n := rfl
  rw [e1, e2, e3, e4, h1, h2, h3]
end Go.Proofs.Ytecnfhfofnbieaa.Dev
