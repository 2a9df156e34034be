/- Layer 6: Commit. -/
import Derived.Test.YtadmecjdihfmeaaGreatStoKeep
namespace Go.Proofs.YtadmecjdihfmeaaGreat.Sto
set_option linter.unusedVariables false
set_option linter.unusedSimpArgs false
set_option maxRecDepth 100000
open Go.RowKit Go.Lib Go.Proofs.YtadmecjdihfmeaaGreat.Mem Go.Proofs.YtadmecjdihfmeaaGreat.Oct Go.Proofs.YtadmecjdihfmeaaGreat.Dev

theorem StAt.setDev {w w' : World} {B : Blk} {S : StS} {D D' : DevS} (h : StAt w B S D) (hc : Chg [B.d, B.k, B.y] w w') (hd : At w' B.d B.k B.y D') (hs : D'.small) : StAt w' B S D' := by
  have hnd := h.nd
  simp only [Blk.all, List.nodup_cons, List.mem_cons, List.mem_nil_iff, or_false, not_or] at hnd
  obtain ⟨⟨n1, n2, n3, n4, n5⟩, ⟨n6, n7, n8, n9⟩, ⟨n10, n11, n12⟩, ⟨n13, n14⟩, n15, _⟩ := hnd
  obtain ⟨mm, hcm⟩ := h.cells
  refine ⟨(hc.block _ (heap_lt h.box) (by simp; exact ⟨n1, n2, n3⟩)).trans h.box, hd, ⟨mm, hcm.chg hc (fun t ht => ?_)⟩, h.kept.touch hc (by simp; exact ⟨fun e => n9 e.symm, fun e => n12 e.symm, fun e => n14 e.symm⟩), h.nd, hs, fun q hq => Nat.lt_of_lt_of_le (h.low q hq) hc.size⟩
  simp at ht
  rcases ht with rfl | rfl | rfl
  · exact ⟨by simp [Blk.all], n8⟩
  · exact ⟨by simp [Blk.all], n11⟩
  · exact ⟨by simp [Blk.all], n13⟩
theorem Blk.dev_mem (B : Blk) : ∀ t ∈ [B.d, B.k, B.y], t ∈ B.all := by
  intro t ht
  simp at ht
  rcases ht with rfl | rfl | rfl <;> simp [Blk.all]
theorem spend_small {D : DevS} (h : D.small) : D.spend.small := by
  unfold DevS.small
  rw [DevS.spend_kept, DevS.spend_dirty]
  exact h
theorem flush_small {D : DevS} (h : D.small) : D.flush.small := by
  unfold DevS.flush
  split
  · refine ⟨fun i s hs => ?_, fun i s hs => by cases hs⟩
    have : over D.dirty D.kept i = some s := hs
    unfold over at this
    split at this
    · rename_i s2 h2; cases this; exact h.2 i _ h2
    · exact h.1 i _ this
  · exact spend_small h
theorem write_small {D : DevS} (h : D.small) (i : Int) (s : ByteArray) : (D.write i s).small := by
  unfold DevS.write
  split
  · exact h
  · split
    · rename_i hin
      simp only [Bool.and_eq_true, decide_eq_true_eq] at hin
      split
      · refine ⟨fun j t hj => ?_, fun j t hj => ?_⟩
        · have : D.spend.kept j = some t := hj
          rw [DevS.spend_kept] at this
          exact h.1 j t this
        · have : upd D.dirty i (some s) j = some t := hj
          by_cases hji : j = i
          · subst hji; rw [upd_same] at this; cases this; exact hin.2
          · rw [upd_other _ _ _ hji] at this; exact h.2 j t this
      · exact spend_small h
    · exact h
theorem flush_n (D : DevS) : D.flush.n = D.n := by unfold DevS.flush; split <;> exact DevS.spend_n D
theorem write_n (D : DevS) (i : Int) (s : ByteArray) : (D.write i s).n = D.n := by
  unfold DevS.write
  split
  · rfl
  · split
    · split <;> exact DevS.spend_n D
    · rfl
/-- Commit -/
def commitOut (S : StS) (D : DevS) (root : Int) (note : ByteArray) : Int × StS × DevS :=
  if (root ≠ 0 ∧ S.has root = false) ∨ 3900 < note.size then (22, S, D)
  else if 1099511627776 ≤ S.gen then (75, S, D)
  else if D.flushE ≠ 0 then (D.flushE, S, D.flush)
  else if D.flush.writeE ((S.gen + 1).tmod 2) (superB (S.gen + 1).toNat root.toNat D.n.toNat note) ≠ 0 then (D.flush.writeE ((S.gen + 1).tmod 2) (superB (S.gen + 1).toNat root.toNat D.n.toNat note), S, D.flush.write ((S.gen + 1).tmod 2) (superB (S.gen + 1).toNat root.toNat D.n.toNat note))
  else if (D.flush.write ((S.gen + 1).tmod 2) (superB (S.gen + 1).toNat root.toNat D.n.toNat note)).flushE ≠ 0 then ((D.flush.write ((S.gen + 1).tmod 2) (superB (S.gen + 1).toNat root.toNat D.n.toNat note)).flushE, S, (D.flush.write ((S.gen + 1).tmod 2) (superB (S.gen + 1).toNat root.toNat D.n.toNat note)).flush)
  else (0, ({ gen := S.gen + 1, root := root, note := note, cells := S.cells, kept := fun _ => false } : StS).keepF D.n.toNat root, (D.flush.write ((S.gen + 1).tmod 2) (superB (S.gen + 1).toNat root.toNat D.n.toNat note)).flush)
/-- the same blocks, but for new ones -/
structure Blk.Next (w : World) (B B' : Blk) : Prop where
  s : B'.s = B.s
  d : B'.d = B.d
  k : B'.k = B.k
  y : B'.y = B.y
  c : B'.c = B.c
  p : B'.p = B.p ∨ w.heap.size ≤ B'.p
  x : B'.x = B.x
theorem Blk.Next.refl (w : World) (B : Blk) : Blk.Next w B B := ⟨rfl, rfl, rfl, rfl, rfl, .inl rfl, rfl⟩
def CommitPost (w : World) (B : Blk) (r : Int × StS × DevS) (e : Ending) (w' : World) : Prop := ∃ B', Blk.Next w B B' ∧ e = .returned (.int .i64 r.1) ∧ StAt w' B' r.2.1 r.2.2 ∧ Chg B.all w w'
theorem size_atB (w : World) (B : Blk) (D : DevS) (h : At w B.d B.k B.y D) : Calls Tryz.prog 53 #[.pointer (some ⟨B.d, 0, none⟩)] w fun e w' => e = .returned (.int .i64 D.n) ∧ w = w' := size_any w B.d B.k B.y D h
def Blk.anew (B : Blk) (p : Nat) : Blk := { B with p := p }
theorem Blk.s_mem (B : Blk) : B.s ∈ B.all := by simp [Blk.all]
theorem Blk.anew_next {w : World} {B : Blk} {p : Nat} (h : w.heap.size ≤ p) : Blk.Next w B (B.anew p) := ⟨rfl, rfl, rfl, rfl, rfl, .inr h, rfl⟩
theorem Blk.anew_mem {w : World} {B : Blk} {p : Nat} (h : w.heap.size ≤ p) : ∀ x ∈ (B.anew p).all, x ∈ B.all ∨ w.heap.size ≤ x := by
  intro x hx
  simp only [Blk.all, Blk.anew, List.mem_cons, List.mem_nil_iff, or_false] at hx ⊢
  rcases hx with rfl | rfl | rfl | rfl | rfl | rfl
  · exact .inl (.inl rfl)
  · exact .inl (.inr (.inl rfl))
  · exact .inl (.inr (.inr (.inl rfl)))
  · exact .inl (.inr (.inr (.inr (.inl rfl))))
  · exact .inl (.inr (.inr (.inr (.inr (.inl rfl)))))
  · exact .inr h
theorem Ints.real {p : Nat → Prop} {w : World} {v : Value} {l : List Int} (h : Ints p w v l) : Ints (fun k => p k ∧ k < w.heap.size) w v l := by
  rcases h with h | ⟨b, o, c, e, hp, hm, hc⟩
  · exact .inl h
  · by_cases hl : l.length = 0
    · have : l = [] := List.length_eq_zero_iff.1 hl
      subst this
      exact .inl ⟨rfl, _, _, e⟩
    · refine .inr ⟨b, o, c, e, ⟨hp, ?_⟩, hm, hc⟩
      have h0 := hc 0 (by omega)
      rcases Nat.lt_or_ge b w.heap.size with h' | h'
      · exact h'
      · simp [World.cell?, Array.getElem?_eq_none h'] at h0
/-- a commit's new beginning, and nothing kept yet -/
theorem StAt.renew {w : World} {B : Blk} {S : StS} {D : DevS} (h : StAt w B S D) (g r : Int) (nt : ByteArray) :
    StAt (((((w.setCell ⟨B.s, 0, none⟩ (.int .i64 g)).setCell ⟨B.s, 1, none⟩ (.int .i64 r)).setCell ⟨B.s, 2, none⟩ (.string nt)).setCell ⟨B.s, 5, none⟩ (.map (some w.heap.size))).alloc (.map #[] 0)) (B.anew w.heap.size) { gen := g, root := r, note := nt, cells := S.cells, kept := fun _ => false } D := by
  have hlt := h.lt
  have hc : Chg [B.s] w (((((w.setCell ⟨B.s, 0, none⟩ (.int .i64 g)).setCell ⟨B.s, 1, none⟩ (.int .i64 r)).setCell ⟨B.s, 2, none⟩ (.string nt)).setCell ⟨B.s, 5, none⟩ (.map (some w.heap.size))).alloc (.map #[] 0)) :=
    (((((Chg.refl [B.s] w).setCell ⟨B.s, 0, none⟩ (.int .i64 g) (.inl (by simp))).setCell ⟨B.s, 1, none⟩ (.int .i64 r) (.inl (by simp))).setCell ⟨B.s, 2, none⟩ (.string nt) (.inl (by simp))).setCell ⟨B.s, 5, none⟩ (.map (some w.heap.size)) (.inl (by simp))).alloc _
  have hs := heap_set_at (heap_set_at (heap_set_at (heap_set_at h.box 0 (.int .i64 g)) 1 (.int .i64 r)) 2 (.string nt)) 5 (.map (some w.heap.size))
  have hnd := h.nd
  have hsz : ∀ q, q ∈ B.all → q ≠ w.heap.size := fun q hq e => by have := hlt q hq; omega
  have hn2 : (B.anew w.heap.size).all.Nodup := by
    simp only [Blk.all, Blk.anew, List.nodup_cons, List.mem_cons, List.mem_nil_iff, or_false, not_or] at hnd ⊢
    obtain ⟨⟨n1, n2, n3, n4, n5⟩, ⟨n6, n7, n8, n9⟩, ⟨n10, n11, n12⟩, ⟨n13, n14⟩, n15, _⟩ := hnd
    refine ⟨⟨n1, n2, n3, n4, hsz B.s (by simp [Blk.all])⟩, ⟨n6, n7, n8, hsz B.d (by simp [Blk.all])⟩, ⟨n10, n11, hsz B.k (by simp [Blk.all])⟩, ⟨n13, hsz B.y (by simp [Blk.all])⟩, hsz B.c (by simp [Blk.all]), by simp, by simp⟩
  obtain ⟨mm, hm⟩ := h.cells
  simp only [Blk.all, List.nodup_cons, List.mem_cons, List.mem_nil_iff, or_false, not_or] at hnd
  obtain ⟨⟨n1, n2, n3, n4, n5⟩, ⟨n6, n7, n8, n9⟩, ⟨n10, n11, n12⟩, ⟨n13, n14⟩, n15, _⟩ := hnd
  refine ⟨(heap_alloc_other _ (heap_lt hs)).trans hs, h.dev.of_touch hc (by simpa using Ne.symm n1) (by simpa using Ne.symm n2) (by simpa using Ne.symm n3), ⟨mm, hm.is.touch hc (by simpa using Ne.symm n4), hm.eq, fun i c a k hi => ?_⟩, ?_, hn2, h.small, fun q hq => Nat.lt_of_lt_of_le (h.low q hq) hc.size⟩
  · refine Ints.mono (Ints.chg (Ints.real (hm.kids i c a k hi)) hc (fun q hq hmm => hq.1.1 (by simp at hmm; subst hmm; simp [Blk.all]))) (fun q hq => ⟨fun hmm => ?_, hq.1.2⟩)
    simp only [Blk.all, Blk.anew, List.mem_cons, List.mem_nil_iff, or_false] at hmm
    have h1 := hq.1.1
    simp only [Blk.all, List.mem_cons, List.mem_nil_iff, or_false, not_or] at h1
    rcases hmm with e | e | e | e | e | e
    · exact h1.1 e
    · exact h1.2.1 e
    · exact h1.2.2.1 e
    · exact h1.2.2.2.1 e
    · exact h1.2.2.2.2.1 e
    · have := hq.2; omega
  · have hmade := IsI.made (enc := keptV) ((((w.setCell ⟨B.s, 0, none⟩ (.int .i64 g)).setCell ⟨B.s, 1, none⟩ (.int .i64 r)).setCell ⟨B.s, 2, none⟩ (.string nt)).setCell ⟨B.s, 5, none⟩ (.map (some w.heap.size)))
    have e : ((((w.setCell ⟨B.s, 0, none⟩ (.int .i64 g)).setCell ⟨B.s, 1, none⟩ (.int .i64 r)).setCell ⟨B.s, 2, none⟩ (.string nt)).setCell ⟨B.s, 5, none⟩ (.map (some w.heap.size))).heap.size = w.heap.size := by simp [World.setCell]
    rw [e] at hmade
    exact hmade.congr (fun i => by simp)
theorem bytes_k (g r n : Int) (note : ByteArray) (w : World) (g0 : 0 ≤ g) (g1 : g < 9223372036854775808) (r0 : 0 ≤ r) (r1 : r < 9223372036854775808) (n0 : 0 ≤ n) (n1 : n < 9223372036854775808) (hn : note.size ≤ 65535) :
    Calls Tryz.prog 66 #[.agg #[.int .i64 g, .int .i64 r, .string note], .int .i64 n] w fun e w' => e = .returned (.string (superB g.toNat r.toNat n.toNat note)) ∧ Below w.heap.size w w' := by
  have h := bytes_any g.toNat r.toNat n.toNat note w (by omega) (by omega) (by omega) hn
  rw [Int.toNat_of_nonneg g0, Int.toNat_of_nonneg r0, Int.toNat_of_nonneg n0] at h
  exact h
end Go.Proofs.YtadmecjdihfmeaaGreat.Sto
