/- Layer 6: Commit. -/
import Derived.Test.YtanpkghdgdkdlaaGreatStoKeep
namespace Go.Proofs.YtanpkghdgdkdlaaGreat.Sto
set_option linter.unusedVariables false
set_option linter.unusedSimpArgs false
set_option maxRecDepth 100000
open Go.RowKit Go.Lib Go.Proofs.YtanpkghdgdkdlaaGreat.Mem Go.Proofs.YtanpkghdgdkdlaaGreat.Oct Go.Proofs.YtanpkghdgdkdlaaGreat.Dev

theorem StAt.setDev {w w' : World} {B : Blk} {S : StS} {D D' : DevS} (h : StAt w B S D) (hc : Chg [B.d, B.k, B.y] w w') (hd : At w' B.d B.k B.y D') (hs : D'.small) : StAt w' B S D' := by
  have hnd := h.nd
  simp only [Blk.all, List.nodup_cons, List.mem_cons, List.mem_nil_iff, or_false, not_or] at hnd
  obtain ⟨⟨n1, n2, n3, n4, n5⟩, ⟨n6, n7, n8, n9⟩, ⟨n10, n11, n12⟩, ⟨n13, n14⟩, n15, _⟩ := hnd
  obtain ⟨mm, hcm⟩ := h.cells
  refine ⟨(hc.block _ (heap_lt h.box) (by simp; exact ⟨n1, n2, n3⟩)).trans h.box, hd, ⟨mm, hcm.chg hc (fun t ht => ?_)⟩, h.kept.touch hc (by simp; exact ⟨fun e => n9 e.symm, fun e => n12 e.symm, fun e => n14 e.symm⟩), h.nd, hs, fun q hq => Nat.lt_of_lt_of_le (h.low q hq) hc.size⟩
  simp at ht
  rcases ht with rfl | rfl | rfl
  · exact ⟨by simp [Blk.all], n8⟩
  · exact ⟨by simp [Blk.all], n11⟩
  · exact ⟨by simp [Blk.all], n13⟩
theorem Blk.dev_mem (B : Blk) : ∀ t ∈ [B.d, B.k, B.y], t ∈ B.all := by
  intro t ht
  simp at ht
  rcases ht with rfl | rfl | rfl <;> simp [Blk.all]
theorem spend_small {D : DevS} (h : D.small) : D.spend.small := by
  unfold DevS.small
  rw [DevS.spend_kept, DevS.spend_dirty]
  exact h
theorem flush_small {D : DevS} (h : D.small) : D.flush.small := by
  unfold DevS.flush
  split
  · refine ⟨fun i s hs => ?_, fun i s hs => by cases hs⟩
    have : over D.dirty D.kept i = some s := hs
    unfold over at this
    split at this
    · rename_i s2 h2; cases this; exact h.2 i _ h2
    · exact h.1 i _ this
  · exact spend_small h
theorem write_small {D : DevS} (h : D.small) (i : Int) (s : ByteArray) : (D.write i s).small := by
  unfold DevS.write
  split
  · exact h
  · split
    · rename_i hin
      simp only [Bool.and_eq_true, decide_eq_true_eq] at hin
      split
      · refine ⟨fun j t hj => ?_, fun j t hj => ?_⟩
        · have : D.spend.kept j = some t := hj
          rw [DevS.spend_kept] at this
          exact h.1 j t this
        · have : upd D.dirty i (some s) j = some t := hj
          by_cases hji : j = i
          · subst hji; rw [upd_same] at this; cases this; exact hin.2
          · rw [upd_other _ _ _ hji] at this; exact h.2 j t this
      · exact spend_small h
    · exact h
theorem flush_n (D : DevS) : D.flush.n = D.n := by unfold DevS.flush; split <;> exact DevS.spend_n D
theorem write_n (D : DevS) (i : Int) (s : ByteArray) : (D.write i s).n = D.n := by
  unfold DevS.write
  split
  · rfl
  · split
    · split <;> exact DevS.spend_n D
    · rfl
/-- Commit -/
def commitOut (S : StS) (D : DevS) (root : Int) (note : ByteArray) : Int × StS × DevS :=
  if (root ≠ 0 ∧ S.has root = false) ∨ 3900 < note.size then (22, S, D)
  else if 1099511627776 ≤ S.gen then (75, S, D)
  else if D.flushE ≠ 0 then (D.flushE, S, D.flush)
  else if D.flush.writeE ((S.gen + 1).tmod 2) (superB (S.gen + 1).toNat root.toNat D.n.toNat note) ≠ 0 then (D.flush.writeE ((S.gen + 1).tmod 2) (superB (S.gen + 1).toNat root.toNat D.n.toNat note), S, D.flush.write ((S.gen + 1).tmod 2) (superB (S.gen + 1).toNat root.toNat D.n.toNat note))
  else if (D.flush.write ((S.gen + 1).tmod 2) (superB (S.gen + 1).toNat root.toNat D.n.toNat note)).flushE ≠ 0 then ((D.flush.write ((S.gen + 1).tmod 2) (superB (S.gen + 1).toNat root.toNat D.n.toNat note)).flushE, S, (D.flush.write ((S.gen + 1).tmod 2) (superB (S.gen + 1).toNat root.toNat D.n.toNat note)).flush)
  else (0, ({ gen := S.gen + 1, root := root, note := note, cells := S.cells, kept := fun _ => false } : StS).keepF D.n.toNat root, (D.flush.write ((S.gen + 1).tmod 2) (superB (S.gen + 1).toNat root.toNat D.n.toNat note)).flush)
/-- the same blocks, but for new ones -/
structure Blk.Next (w : World) (B B' : Blk) : Prop where
  s : B'.s = B.s
  d : B'.d = B.d
  k : B'.k = B.k
  y : B'.y = B.y
  c : B'.c = B.c
  p : B'.p = B.p ∨ w.heap.size ≤ B'.p
  x : B'.x = B.x
theorem Blk.Next.refl (w : World) (B : Blk) : Blk.Next w B B := ⟨rfl, rfl, rfl, rfl, rfl, .inl rfl, rfl⟩
def CommitPost (w : World) (B : Blk) (r : Int × StS × DevS) (e : Ending) (w' : World) : Prop := ∃ B', Blk.Next w B B' ∧ e = .returned (.int .i64 r.1) ∧ StAt w' B' r.2.1 r.2.2 ∧ Chg B.all w w'
theorem commit_bad (w : World) (B : Blk) (S : StS) (D : DevS) (root : Int) (note : ByteArray) (h : StAt w B S D) (hbad : (root ≠ 0 ∧ S.has root = false) ∨ 3900 < note.size) :
    Calls Tryz.prog 39 #[.pointer (some ⟨B.s, 0, none⟩), .int .i64 root, .string note] w (CommitPost w B (commitOut S D root note)) := by
  have hg : commitOut S D root note = (22, S, D) := by rw [commitOut, if_pos hbad]
  rw [hg]
  clear hg
  have H : Hid (StAt w B S D) := h
  clear h
  by_cases h0 : root = 0
  · subst h0
    have hn : 3900 < note.size := by
      rcases hbad with hb | hb
      · exact absurd rfl hb.1
      · exact hb
    clear hbad
    go_enter Tryz.func39, Tryz.ntmps39
    go_wp2_with (first
      | (go_at_call 72; refine (dead_any _ B S D H.out).mono ?_; rintro e w1 ⟨rfl, rfl⟩)
      | fail)
    go_ret
    exact ⟨B, Blk.Next.refl _ _, rfl, H.out, Chg.refl _ _⟩
  · have hb0 : (root == 0) = false := by simp [h0]
    cases hh : S.has root with
    | false =>
      clear hbad
      go_enter Tryz.func39, Tryz.ntmps39
      go_wp2_with (first
        | (go_at_call 72; refine (dead_any _ B S D H.out).mono ?_; rintro e w1 ⟨rfl, rfl⟩)
        | (go_at_call 75; refine (has_any _ B S D root H.out).mono ?_; rintro e w1 ⟨rfl, hb⟩; rw [hh]; have HB : Hid (Below _ _ w1) := hb; clear hb)
        | fail)
      go_ret
      exact ⟨B, Blk.Next.refl _ _, rfl, H.out.on HB.out, Chg.of_below HB.out⟩
    | true =>
      have hn : 3900 < note.size := by
        rcases hbad with hb | hb
        · rw [hh] at hb; exact absurd hb.2 (by decide)
        · exact hb
      clear hbad
      go_enter Tryz.func39, Tryz.ntmps39
      go_wp2_with (first
        | (go_at_call 72; refine (dead_any _ B S D H.out).mono ?_; rintro e w1 ⟨rfl, rfl⟩)
        | (go_at_call 75; refine (has_any _ B S D root H.out).mono ?_; rintro e w1 ⟨rfl, hb⟩; rw [hh]; have HB : Hid (Below _ _ w1) := hb; clear hb)
        | fail)
      go_ret
      exact ⟨B, Blk.Next.refl _ _, rfl, H.out.on HB.out, Chg.of_below HB.out⟩
theorem commit_late (w : World) (B : Blk) (S : StS) (D : DevS) (root : Int) (note : ByteArray) (h : StAt w B S D) (hgood : root = 0 ∨ S.has root = true) (hn : note.size ≤ 3900) (hl : 1099511627776 ≤ S.gen) :
    Calls Tryz.prog 39 #[.pointer (some ⟨B.s, 0, none⟩), .int .i64 root, .string note] w (CommitPost w B (commitOut S D root note)) := by
  have hg : commitOut S D root note = (75, S, D) := by
    rw [commitOut, if_neg, if_pos hl]
    rintro (⟨h1, h2⟩ | h1)
    · rcases hgood with h3 | h3
      · exact h1 h3
      · rw [h3] at h2; exact absurd h2 (by decide)
    · omega
  rw [hg]
  clear hg
  have H : Hid (StAt w B S D) := h
  obtain ⟨c0, c1, c2, c3, c4, c5, cf⟩ := h.cell
  clear h c1 c2 c3 c4 c5 cf
  by_cases h0 : root = 0
  · subst h0
    clear hgood
    go_enter Tryz.func39, Tryz.ntmps39
    go_wp2_with (first
      | (go_at_call 72; refine (dead_any _ B S D H.out).mono ?_; rintro e w1 ⟨rfl, rfl⟩)
      | fail)
    go_ret
    exact ⟨B, Blk.Next.refl _ _, rfl, H.out, Chg.refl _ _⟩
  · have hh := hgood.resolve_left h0
    have hb0 : (root == 0) = false := by simp [h0]
    clear hgood c0
    go_enter Tryz.func39, Tryz.ntmps39
    go_wp2_with (first
      | (go_at_call 72; refine (dead_any _ B S D H.out).mono ?_; rintro e w1 ⟨rfl, rfl⟩)
      | (go_at_call 75; refine (has_any _ B S D root H.out).mono ?_; rintro e w1 ⟨rfl, hb⟩; rw [hh]; have HB : Hid (Below _ _ w1) := hb; have c0 := (H.out.on hb).cell.1; clear hb)
      | fail)
    go_ret
    exact ⟨B, Blk.Next.refl _ _, rfl, H.out.on HB.out, Chg.of_below HB.out⟩
theorem size_atB (w : World) (B : Blk) (D : DevS) (h : At w B.d B.k B.y D) : Calls Tryz.prog 45 #[.pointer (some ⟨B.d, 0, none⟩)] w fun e w' => e = .returned (.int .i64 D.n) ∧ w = w' := size_any w B.d B.k B.y D h
def Blk.anew (B : Blk) (p : Nat) : Blk := { B with p := p }
theorem Blk.s_mem (B : Blk) : B.s ∈ B.all := by simp [Blk.all]
theorem Blk.anew_next {w : World} {B : Blk} {p : Nat} (h : w.heap.size ≤ p) : Blk.Next w B (B.anew p) := ⟨rfl, rfl, rfl, rfl, rfl, .inr h, rfl⟩
theorem Blk.anew_mem {w : World} {B : Blk} {p : Nat} (h : w.heap.size ≤ p) : ∀ x ∈ (B.anew p).all, x ∈ B.all ∨ w.heap.size ≤ x := by
  intro x hx
  simp only [Blk.all, Blk.anew, List.mem_cons, List.mem_nil_iff, or_false] at hx ⊢
  rcases hx with rfl | rfl | rfl | rfl | rfl | rfl
  · exact .inl (.inl rfl)
  · exact .inl (.inr (.inl rfl))
  · exact .inl (.inr (.inr (.inl rfl)))
  · exact .inl (.inr (.inr (.inr (.inl rfl))))
  · exact .inl (.inr (.inr (.inr (.inr (.inl rfl)))))
  · exact .inr h
theorem Ints.real {p : Nat → Prop} {w : World} {v : Value} {l : List Int} (h : Ints p w v l) : Ints (fun k => p k ∧ k < w.heap.size) w v l := by
  rcases h with h | ⟨b, o, c, e, hp, hm, hc⟩
  · exact .inl h
  · by_cases hl : l.length = 0
    · have : l = [] := List.length_eq_zero_iff.1 hl
      subst this
      exact .inl ⟨rfl, _, _, e⟩
    · refine .inr ⟨b, o, c, e, ⟨hp, ?_⟩, hm, hc⟩
      have h0 := hc 0 (by omega)
      rcases Nat.lt_or_ge b w.heap.size with h' | h'
      · exact h'
      · simp [World.cell?, Array.getElem?_eq_none h'] at h0
/-- a commit's new beginning, and nothing kept yet -/
theorem StAt.renew {w : World} {B : Blk} {S : StS} {D : DevS} (h : StAt w B S D) (g r : Int) (nt : ByteArray) :
    StAt (((((w.setCell ⟨B.s, 0, none⟩ (.int .i64 g)).setCell ⟨B.s, 1, none⟩ (.int .i64 r)).setCell ⟨B.s, 2, none⟩ (.string nt)).setCell ⟨B.s, 5, none⟩ (.map (some w.heap.size))).alloc (.map #[] 0)) (B.anew w.heap.size) { gen := g, root := r, note := nt, cells := S.cells, kept := fun _ => false } D := by
  have hlt := h.lt
  have hc : Chg [B.s] w (((((w.setCell ⟨B.s, 0, none⟩ (.int .i64 g)).setCell ⟨B.s, 1, none⟩ (.int .i64 r)).setCell ⟨B.s, 2, none⟩ (.string nt)).setCell ⟨B.s, 5, none⟩ (.map (some w.heap.size))).alloc (.map #[] 0)) :=
    (((((Chg.refl [B.s] w).setCell ⟨B.s, 0, none⟩ (.int .i64 g) (.inl (by simp))).setCell ⟨B.s, 1, none⟩ (.int .i64 r) (.inl (by simp))).setCell ⟨B.s, 2, none⟩ (.string nt) (.inl (by simp))).setCell ⟨B.s, 5, none⟩ (.map (some w.heap.size)) (.inl (by simp))).alloc _
  have hs := heap_set_at (heap_set_at (heap_set_at (heap_set_at h.box 0 (.int .i64 g)) 1 (.int .i64 r)) 2 (.string nt)) 5 (.map (some w.heap.size))
  have hnd := h.nd
  have hsz : ∀ q, q ∈ B.all → q ≠ w.heap.size := fun q hq e => by have := hlt q hq; omega
  have hn2 : (B.anew w.heap.size).all.Nodup := by
    simp only [Blk.all, Blk.anew, List.nodup_cons, List.mem_cons, List.mem_nil_iff, or_false, not_or] at hnd ⊢
    obtain ⟨⟨n1, n2, n3, n4, n5⟩, ⟨n6, n7, n8, n9⟩, ⟨n10, n11, n12⟩, ⟨n13, n14⟩, n15, _⟩ := hnd
    refine ⟨⟨n1, n2, n3, n4, hsz B.s (by simp [Blk.all])⟩, ⟨n6, n7, n8, hsz B.d (by simp [Blk.all])⟩, ⟨n10, n11, hsz B.k (by simp [Blk.all])⟩, ⟨n13, hsz B.y (by simp [Blk.all])⟩, hsz B.c (by simp [Blk.all]), by simp, by simp⟩
  obtain ⟨mm, hm⟩ := h.cells
  simp only [Blk.all, List.nodup_cons, List.mem_cons, List.mem_nil_iff, or_false, not_or] at hnd
  obtain ⟨⟨n1, n2, n3, n4, n5⟩, ⟨n6, n7, n8, n9⟩, ⟨n10, n11, n12⟩, ⟨n13, n14⟩, n15, _⟩ := hnd
  refine ⟨(heap_alloc_other _ (heap_lt hs)).trans hs, h.dev.of_touch hc (by simpa using Ne.symm n1) (by simpa using Ne.symm n2) (by simpa using Ne.symm n3), ⟨mm, hm.is.touch hc (by simpa using Ne.symm n4), hm.eq, fun i c a k hi => ?_⟩, ?_, hn2, h.small, fun q hq => Nat.lt_of_lt_of_le (h.low q hq) hc.size⟩
  · refine Ints.mono (Ints.chg (Ints.real (hm.kids i c a k hi)) hc (fun q hq hmm => hq.1.1 (by simp at hmm; subst hmm; simp [Blk.all]))) (fun q hq => ⟨fun hmm => ?_, hq.1.2⟩)
    simp only [Blk.all, Blk.anew, List.mem_cons, List.mem_nil_iff, or_false] at hmm
    have h1 := hq.1.1
    simp only [Blk.all, List.mem_cons, List.mem_nil_iff, or_false, not_or] at h1
    rcases hmm with e | e | e | e | e | e
    · exact h1.1 e
    · exact h1.2.1 e
    · exact h1.2.2.1 e
    · exact h1.2.2.2.1 e
    · exact h1.2.2.2.2.1 e
    · have := hq.2; omega
  · have hmade := IsI.made (enc := keptV) ((((w.setCell ⟨B.s, 0, none⟩ (.int .i64 g)).setCell ⟨B.s, 1, none⟩ (.int .i64 r)).setCell ⟨B.s, 2, none⟩ (.string nt)).setCell ⟨B.s, 5, none⟩ (.map (some w.heap.size)))
    have e : ((((w.setCell ⟨B.s, 0, none⟩ (.int .i64 g)).setCell ⟨B.s, 1, none⟩ (.int .i64 r)).setCell ⟨B.s, 2, none⟩ (.string nt)).setCell ⟨B.s, 5, none⟩ (.map (some w.heap.size))).heap.size = w.heap.size := by simp [World.setCell]
    rw [e] at hmade
    exact hmade.congr (fun i => by simp)
theorem bytes_k (g r n : Int) (note : ByteArray) (w : World) (g0 : 0 ≤ g) (g1 : g < 9223372036854775808) (r0 : 0 ≤ r) (r1 : r < 9223372036854775808) (n0 : 0 ≤ n) (n1 : n < 9223372036854775808) (hn : note.size ≤ 65535) :
    Calls Tryz.prog 60 #[.agg #[.int .i64 g, .int .i64 r, .string note], .int .i64 n] w fun e w' => e = .returned (.string (superB g.toNat r.toNat n.toNat note)) ∧ Below w.heap.size w w' := by
  have h := bytes_any g.toNat r.toNat n.toNat note w (by omega) (by omega) (by omega) hn
  rw [Int.toNat_of_nonneg g0, Int.toNat_of_nonneg r0, Int.toNat_of_nonneg n0] at h
  exact h
set_option maxHeartbeats 16000000 in
theorem commit_good (w : World) (B : Blk) (S : StS) (D : DevS) (root : Int) (note : ByteArray) (h : StAt w B S D) (hwf : WF D.n.toNat S []) (hgood : root = 0 ∨ S.has root = true) (hn : note.size ≤ 3900) (hg0 : 0 ≤ S.gen) (hl : S.gen < 1099511627776) :
    Calls Tryz.prog 39 #[.pointer (some ⟨B.s, 0, none⟩), .int .i64 root, .string note] w (CommitPost w B (commitOut S D root note)) := by
  obtain ⟨R, hR⟩ : ∃ R, R = commitOut S D root note := ⟨_, rfl⟩
  rw [← hR]
  have hnb : ¬ ((root ≠ 0 ∧ S.has root = false) ∨ 3900 < note.size) := by
    rintro (⟨h1, h2⟩ | h1)
    · rcases hgood with h3 | h3
      · exact h1 h3
      · rw [h3] at h2; exact absurd h2 (by decide)
    · omega
  unfold commitOut at hR
  rw [if_neg hnb, if_neg (by omega)] at hR
  clear hnb
  have hroot : 0 ≤ root ∧ root < 4611686018427387904 := by
    rcases hgood with h3 | h3
    · subst h3; exact ⟨by decide, by decide⟩
    · obtain ⟨c, hc⟩ := has_iff.1 h3
      have := hwf.dom root c hc
      have := h.dev.ok.2.2.2
      omega
  have hdn := h.dev.ok.2.2
  have HR : Hid (R = _) := hR
  have HW : Hid (WF D.n.toNat S [] ∧ (root = 0 ∨ S.has root = true)) := ⟨hwf, hgood⟩
  have H : Hid (StAt w B S D) := h
  obtain ⟨c0, c1, c2, c3, c4, c5, cf⟩ := h.cell
  clear h c1 c2 c4 c5 cf hR hwf
  have ways : (root = 0) ∨ (¬ root = 0 ∧ S.has root = true) := by
    by_cases h0 : root = 0
    · exact .inl h0
    · exact .inr ⟨h0, hgood.resolve_left h0⟩
  clear hgood
  rcases ways with h0 | ⟨h0, hh⟩
  · subst h0
    have hlt := heap_lt H.out.box
    go_enter Tryz.func39, Tryz.ntmps39
    go_wp2_with (first
      | (go_at_call 72; refine (dead_any _ B S D H.out).mono ?_; rintro e w1 ⟨rfl, rfl⟩)
      | fail)
    -- WAY1
    have HB : Hid (Below w.heap.size w w) := Below.refl _ _
    have hb7 : Below w.heap.size w (w.alloc (.cells #[.int .i64 (S.gen + 1), .int .i64 0, .string note] 93)) := HB.out.alloc HB.out.size _
    have hx7 : (w.alloc (.cells #[.int .i64 (S.gen + 1), .int .i64 0, .string note] 93)).heap[w.heap.size]? = some (.cells #[.int .i64 (S.gen + 1), .int .i64 0, .string note] 93 (0, 0)) := heap_alloc_last _ _
    have hs7 : StAt (w.alloc (.cells #[.int .i64 (S.gen + 1), .int .i64 0, .string note] 93)) B S D := (H.out.on HB.out).on ((Below.refl _ _).alloc (Nat.le_refl _) _)
    obtain ⟨b7, hb7e⟩ : ∃ b7, b7 = w.heap.size := ⟨_, rfl⟩
    have hge : w.heap.size ≤ b7 := by rw [hb7e]; exact HB.out.size
    rw [← hb7e] at hx7 ⊢
    clear hb7e
    clear HB c0 c3 hlt
    generalize w.alloc (.cells #[.int .i64 (S.gen + 1), .int .i64 0, .string note] 93) = w2 at hb7 hx7 hs7 ⊢
    have hout : ∀ t ∈ B.all, b7 ≠ t := fun t ht e => by have := H.out.lt t ht; omega
    have hcB : Chg B.all w w2 := Chg.of_below hb7
    refine (flush_any w2 B.d B.k B.y D hs7.dev).mono ?_
    rintro e w3 ⟨rfl, hd3, hc3⟩
    have hs3 : StAt w3 B S D.flush := hs7.setDev hc3 hd3 (flush_small hs7.small)
    have hx3 : w3.heap[b7]? = some (.cells #[.int .i64 (S.gen + 1), .int .i64 0, .string note] 93 (0, 0)) := (hc3.block b7 (heap_lt hx7) (fun hm => hout b7 (B.dev_mem b7 hm) rfl)).trans hx7
    have hcB3 : Chg B.all w w3 := hcB.trans (hc3.mono B.dev_mem)
    have HO : Hid ((∀ t ∈ B.all, b7 ≠ t) ∧ w.heap.size ≤ b7) := ⟨hout, hge⟩
    have H3 : Hid (StAt w3 B S D.flush ∧ w3.heap[b7]? = some (.cells #[.int .i64 (S.gen + 1), .int .i64 0, .string note] 93 (0, 0)) ∧ Chg B.all w w3) := ⟨hs3, hx3, hcB3⟩
    clear hb7 hx7 hs7 hge hout hcB hd3 hc3 hs3 hx3 hcB3
    cases hfb : (D.flushE == 0) with
    | false =>
      have hf : D.flushE ≠ 0 := by simpa using hfb
      have HR2 : Hid (R = (D.flushE, S, D.flush)) := by rw [HR.out, if_pos hf]; exact rfl
      clear HR hf
      go_wp2
      go_ret
      rw [HR2.out]
      exact ⟨B, Blk.Next.refl _ _, rfl, H3.out.1, H3.out.2.2⟩
    | true =>
      have hf : D.flushE = 0 := by simpa using hfb
      rw [hf]
      have HR2 : Hid (R = if D.flush.writeE ((S.gen + 1).tmod 2) (superB (S.gen + 1).toNat 0 D.n.toNat note) ≠ 0 then (D.flush.writeE ((S.gen + 1).tmod 2) (superB (S.gen + 1).toNat 0 D.n.toNat note), S, (D.flush.write ((S.gen + 1).tmod 2) (superB (S.gen + 1).toNat 0 D.n.toNat note))) else if (D.flush.write ((S.gen + 1).tmod 2) (superB (S.gen + 1).toNat 0 D.n.toNat note)).flushE ≠ 0 then ((D.flush.write ((S.gen + 1).tmod 2) (superB (S.gen + 1).toNat 0 D.n.toNat note)).flushE, S, (D.flush.write ((S.gen + 1).tmod 2) (superB (S.gen + 1).toNat 0 D.n.toNat note)).flush) else (0, ({ gen := S.gen + 1, root := 0, note := note, cells := S.cells, kept := fun _ => false } : StS).keepF D.n.toNat 0, (D.flush.write ((S.gen + 1).tmod 2) (superB (S.gen + 1).toNat 0 D.n.toNat note)).flush)) := by rw [HR.out, if_neg (by simp [hf])]; exact rfl
      clear HR hf hfb
      have e0 : w3.cell? ⟨b7, 0, none⟩ = some (.int .i64 (S.gen + 1)) := cell_at H3.out.2.1 0
      have e1 : w3.cell? ⟨b7, 1, none⟩ = some (.int .i64 0) := cell_at H3.out.2.1 1
      have e2 : w3.cell? ⟨b7, 2, none⟩ = some (.string note) := cell_at H3.out.2.1 2
      have c3 := H3.out.1.cell.2.2.2.1
      go_wp2_with fail
      have H3d : Hid (StAt w3.drew B S D.flush ∧ w3.drew.heap[b7]? = some (.cells #[.int .i64 (S.gen + 1), .int .i64 0, .string note] 93 (0, 0)) ∧ Chg B.all w w3.drew) := ⟨H3.out.1.drew, H3.out.2.1, H3.out.2.2.drew⟩
      have HF : Hid (∀ (w' : World) (D' : DevS), StAt w' B S D' → w'.heap[b7]? = some (.cells #[.int .i64 (S.gen + 1), .int .i64 0, .string note] 93 (0, 0)) → (fun w' : World => w'.cell? ⟨b7, 0, none⟩ = some (.int .i64 (S.gen + 1)) ∧ w'.cell? ⟨b7, 1, none⟩ = some (.int .i64 0) ∧ w'.cell? ⟨b7, 2, none⟩ = some (.string note) ∧ w'.cell? ⟨B.s, 3, none⟩ = some (.pointer (some ⟨B.d, 0, none⟩))) w') := fun w' D' h1 h2 => ⟨cell_at h2 0, cell_at h2 1, cell_at h2 2, h1.cell.2.2.2.1⟩
      have hS0 : (fun w' : World => w'.cell? ⟨b7, 0, none⟩ = some (.int .i64 (S.gen + 1)) ∧ w'.cell? ⟨b7, 1, none⟩ = some (.int .i64 0) ∧ w'.cell? ⟨b7, 2, none⟩ = some (.string note) ∧ w'.cell? ⟨B.s, 3, none⟩ = some (.pointer (some ⟨B.d, 0, none⟩))) w3.drew := HF.out _ _ H3d.out.1 H3d.out.2.1
      clear H3 e0 e1 e2 c3
      refine wp_region_held_drew (S := (fun w' : World => w'.cell? ⟨b7, 0, none⟩ = some (.int .i64 (S.gen + 1)) ∧ w'.cell? ⟨b7, 1, none⟩ = some (.int .i64 0) ∧ w'.cell? ⟨b7, 2, none⟩ = some (.string note) ∧ w'.cell? ⟨B.s, 3, none⟩ = some (.pointer (some ⟨B.d, 0, none⟩)))) (by kernel_rfl) hS0 (fun hHeld => ?_)
      clear hHeld
      refine Pair.take (i := 0) (fuel := 15) (d := 52) (v := ?_) (by kernel_rfl) rfl rfl (by kernel_rfl) (by kernel_rfl) (by kernel_rfl) (fun _ _ _ h => h) (Or.inl ⟨by rfl, ?_⟩) hS0 ?_
      rotate_left 1
      · (intro w' hSw; obtain ⟨f0, f1, f2, f3⟩ := hSw; go_simp; try with_reducible rfl)
      try simp only [Act.put, List.setIfInBounds_toArray, List.set_cons_zero, List.set_cons_succ]
      refine Pair.take (i := 1) (fuel := 14) (d := 53) (v := ?_) (by kernel_rfl) rfl rfl (by kernel_rfl) (by kernel_rfl) (by kernel_rfl) (fun _ _ _ h => h) (Or.inl ⟨by rfl, ?_⟩) hS0 ?_
      rotate_left 1
      · (intro w' hSw; obtain ⟨f0, f1, f2, f3⟩ := hSw; go_simp; try with_reducible rfl)
      try simp only [Act.put, List.setIfInBounds_toArray, List.set_cons_zero, List.set_cons_succ]
      refine Pair.take (i := 2) (fuel := 13) (d := 54) (v := ?_) (by kernel_rfl) rfl rfl (by kernel_rfl) (by kernel_rfl) (by kernel_rfl) (fun _ _ _ h => h) (Or.inl ⟨by rfl, ?_⟩) hS0 ?_
      rotate_left 1
      · (intro w' hSw; obtain ⟨f0, f1, f2, f3⟩ := hSw; go_simp; try with_reducible rfl)
      try simp only [Act.put, List.setIfInBounds_toArray, List.set_cons_zero, List.set_cons_succ]
      refine Pair.take (i := 3) (fuel := 12) (d := 55) (v := ?_) (by kernel_rfl) rfl rfl (by kernel_rfl) (by kernel_rfl) (by kernel_rfl) (fun _ _ _ h => h) (Or.inl ⟨by rfl, ?_⟩) hS0 ?_
      rotate_left 1
      · (intro w' hSw; obtain ⟨f0, f1, f2, f3⟩ := hSw; go_simp; try with_reducible rfl)
      try simp only [Act.put, List.setIfInBounds_toArray, List.set_cons_zero, List.set_cons_succ]
      refine Pair.take (i := 4) (fuel := 11) (d := 56) (v := ?_) (by kernel_rfl) rfl rfl (by kernel_rfl) (by kernel_rfl) (by kernel_rfl) (fun _ _ _ h => h) (Or.inl ⟨by rfl, ?_⟩) hS0 ?_
      rotate_left 1
      · (intro w' hSw; obtain ⟨f0, f1, f2, f3⟩ := hSw; go_simp; try with_reducible rfl)
      try simp only [Act.put, List.setIfInBounds_toArray, List.set_cons_zero, List.set_cons_succ]
      refine Pair.take (i := 5) (fuel := 10) (d := 57) (v := ?_) (by kernel_rfl) rfl rfl (by kernel_rfl) (by kernel_rfl) (by kernel_rfl) (fun _ _ _ h => h) (Or.inl ⟨by rfl, ?_⟩) hS0 ?_
      rotate_left 1
      · (intro w' hSw; obtain ⟨f0, f1, f2, f3⟩ := hSw; go_simp; try with_reducible rfl)
      try simp only [Act.put, List.setIfInBounds_toArray, List.set_cons_zero, List.set_cons_succ]
      refine Pair.take (i := 6) (fuel := 9) (d := 58) (v := ?_) (by kernel_rfl) rfl rfl (by kernel_rfl) (by kernel_rfl) (by kernel_rfl) (fun _ _ _ h => h) (Or.inl ⟨by rfl, ?_⟩) hS0 ?_
      rotate_left 1
      · (intro w' hSw; obtain ⟨f0, f1, f2, f3⟩ := hSw; go_simp; try with_reducible rfl)
      try simp only [Act.put, List.setIfInBounds_toArray, List.set_cons_zero, List.set_cons_succ]
      refine Pair.take (i := 7) (fuel := 8) (d := 59) (v := ?_) (by kernel_rfl) rfl rfl (by kernel_rfl) (by kernel_rfl) (by kernel_rfl) (fun _ _ _ h => h) (Or.inl ⟨by rfl, ?_⟩) hS0 ?_
      rotate_left 1
      · (intro w' hSw; obtain ⟨f0, f1, f2, f3⟩ := hSw; go_simp; try with_reducible rfl)
      try simp only [Act.put, List.setIfInBounds_toArray, List.set_cons_zero, List.set_cons_succ]
      refine Pair.take (i := 8) (fuel := 7) (d := 60) (v := ?_) (by kernel_rfl) rfl rfl (by kernel_rfl) (by kernel_rfl) (by kernel_rfl) (fun _ _ _ h => h) (Or.inl ⟨by rfl, ?_⟩) hS0 ?_
      rotate_left 1
      · (intro w' hSw; obtain ⟨f0, f1, f2, f3⟩ := hSw; go_simp; try with_reducible rfl)
      try simp only [Act.put, List.setIfInBounds_toArray, List.set_cons_zero, List.set_cons_succ]
      refine Pair.take (i := 9) (fuel := 6) (d := 61) (v := ?_) (by kernel_rfl) rfl rfl (by kernel_rfl) (by kernel_rfl) (by kernel_rfl) (fun _ _ _ h => h) (Or.inl ⟨by rfl, ?_⟩) hS0 ?_
      rotate_left 1
      · (intro w' hSw; obtain ⟨f0, f1, f2, f3⟩ := hSw; go_simp; try with_reducible rfl)
      try simp only [Act.put, List.setIfInBounds_toArray, List.set_cons_zero, List.set_cons_succ]
      refine Pair.take (i := 10) (fuel := 5) (d := 62) (v := ?_) (by kernel_rfl) rfl rfl (by kernel_rfl) (by kernel_rfl) (by kernel_rfl) (fun _ _ _ h => h) (Or.inl ⟨by rfl, ?_⟩) hS0 ?_
      rotate_left 1
      · (intro w' hSw; obtain ⟨f0, f1, f2, f3⟩ := hSw; go_simp; try with_reducible rfl)
      try simp only [Act.put, List.setIfInBounds_toArray, List.set_cons_zero, List.set_cons_succ]
      refine Pair.take (i := 11) (fuel := 4) (d := 63) (v := ?_) (by kernel_rfl) rfl rfl (by kernel_rfl) (by kernel_rfl) (by kernel_rfl) (fun _ _ _ h => h) (Or.inl ⟨by rfl, ?_⟩) hS0 ?_
      rotate_left 1
      · (intro w' hSw; obtain ⟨f0, f1, f2, f3⟩ := hSw; go_simp; try with_reducible rfl)
      try simp only [Act.put, List.setIfInBounds_toArray, List.set_cons_zero, List.set_cons_succ]
      refine Pair.call1 (i := 12) (fuel := 3) (by kernel_rfl) rfl (by kernel_rfl) (fun K hK => ?_)
      go_simp
      go_at_call 45
      refine (size_at w3.drew B S D.flush H3d.out.1).mono ?_
      rintro e w4 ⟨rfl, rfl⟩
      refine hK.out _ _ hS0 (fun hHeld => ?_)
      clear hHeld hK K
      try simp only [Act.put, List.setIfInBounds_toArray, List.set_cons_zero, List.set_cons_succ]
      refine Pair.call1 (i := 13) (fuel := 2) (by kernel_rfl) rfl (by kernel_rfl) (fun K hK => ?_)
      go_simp
      go_at_call 60
      refine (bytes_k (S.gen + 1) 0 D.flush.n note w3.drew (by omega) (by omega) (by omega) (by omega) (by rw [flush_n]; omega) (by rw [flush_n]; omega) (by omega)).mono ?_
      rintro e w4 ⟨rfl, hb4⟩
      have H4 : Hid (StAt w4 B S D.flush ∧ w4.heap[b7]? = some (.cells #[.int .i64 (S.gen + 1), .int .i64 0, .string note] 93 (0, 0)) ∧ Chg B.all w w4) := ⟨H3d.out.1.on hb4, (hb4.block _ (heap_lt H3d.out.2.1)).trans H3d.out.2.1, H3d.out.2.2.trans (Chg.of_below hb4)⟩
      clear hb4
      rw [flush_n]
      refine hK.out _ _ (HF.out _ _ H4.out.1 H4.out.2.1) (fun hHeld => ?_)
      clear hHeld hK K
      try simp only [Act.put, List.setIfInBounds_toArray, List.set_cons_zero, List.set_cons_succ]
      refine Pair.call1 (i := 14) (fuel := 1) (by kernel_rfl) rfl (by kernel_rfl) (fun K hK => ?_)
      go_simp
      go_at_call 10
      refine (write_any w4 B.d B.k B.y D.flush ((S.gen + 1).tmod 2) (superB (S.gen + 1).toNat 0 D.n.toNat note) H4.out.1.dev).mono ?_
      rintro e w5 ⟨rfl, hd5, hc5⟩
      have H5 : Hid (StAt w5 B S (D.flush.write ((S.gen + 1).tmod 2) (superB (S.gen + 1).toNat 0 D.n.toNat note)) ∧ w5.heap[b7]? = some (.cells #[.int .i64 (S.gen + 1), .int .i64 0, .string note] 93 (0, 0)) ∧ Chg B.all w w5) := ⟨H4.out.1.setDev hc5 hd5 (write_small H4.out.1.small _ _), (hc5.block b7 (heap_lt H4.out.2.1) (fun hm => HO.out.1 b7 (B.dev_mem b7 hm) rfl)).trans H4.out.2.1, H4.out.2.2.trans (hc5.mono B.dev_mem)⟩
      clear hd5 hc5
      refine hK.out _ _ (HF.out _ _ H5.out.1 H5.out.2.1) (fun hHeld => ?_)
      clear hHeld hK K
      try simp only [Act.put, List.setIfInBounds_toArray, List.set_cons_zero, List.set_cons_succ]
      refine Pair.take (i := 15) (fuel := 0) (d := 9) (v := ?_) (by kernel_rfl) rfl rfl (by kernel_rfl) (by kernel_rfl) (by kernel_rfl) (fun _ _ _ h => h) (Or.inl ⟨by rfl, ?_⟩) (HF.out _ _ H5.out.1 H5.out.2.1) ?_
      rotate_left 1
      · (intro w' hSw; obtain ⟨f0, f1, f2, f3⟩ := hSw; go_simp; try with_reducible rfl)
      try simp only [Act.put, List.setIfInBounds_toArray, List.set_cons_zero, List.set_cons_succ]
      refine wpAnyH_done (by kernel_rfl) ?_ _
      clear H4 H3d hS0
      obtain ⟨D2, hD2⟩ : ∃ D2, D2 = (D.flush.write ((S.gen + 1).tmod 2) (superB (S.gen + 1).toNat 0 D.n.toNat note)) := ⟨_, rfl⟩
      obtain ⟨we, hwe⟩ : ∃ we, we = D.flush.writeE ((S.gen + 1).tmod 2) (superB (S.gen + 1).toNat 0 D.n.toNat note) := ⟨_, rfl⟩
      have HR3 : Hid (R = if we ≠ 0 then (we, S, D2) else if D2.flushE ≠ 0 then (D2.flushE, S, D2.flush) else (0, ({ gen := S.gen + 1, root := 0, note := note, cells := S.cells, kept := fun _ => false } : StS).keepF D.n.toNat 0, D2.flush)) := by rw [HR2.out, hwe, hD2]; exact rfl
      have hDn : D2.n = D.n := by rw [hD2, write_n, flush_n]
      rw [← hD2] at H5
      rw [← hwe]
      clear hD2 hwe HR2
      cases hwb : (we == 0) with
      | false =>
        have hf : we ≠ 0 := by simpa using hwb
        have HR4 : Hid (R = (we, S, D2)) := by rw [HR3.out, if_pos hf]; exact rfl
        clear HR3 hf
        go_wp2
        go_ret
        rw [HR4.out]
        exact ⟨B, Blk.Next.refl _ _, rfl, H5.out.1, H5.out.2.2⟩
      | true =>
        have hf : we = 0 := by simpa using hwb
        subst hf
        have HR4 : Hid (R = if D2.flushE ≠ 0 then (D2.flushE, S, D2.flush) else (0, ({ gen := S.gen + 1, root := 0, note := note, cells := S.cells, kept := fun _ => false } : StS).keepF D.n.toNat 0, D2.flush)) := by rw [HR3.out, if_neg (by simp)]; exact rfl
        clear HR3 hwb
        have c3 := H5.out.1.cell.2.2.2.1
        go_wp2_with fail
        refine (flush_any w5 B.d B.k B.y D2 H5.out.1.dev).mono ?_
        rintro e w6 ⟨rfl, hd6, hc6⟩
        have H6 : Hid (StAt w6 B S D2.flush ∧ w6.heap[b7]? = some (.cells #[.int .i64 (S.gen + 1), .int .i64 0, .string note] 93 (0, 0)) ∧ Chg B.all w w6) := ⟨H5.out.1.setDev hc6 hd6 (flush_small H5.out.1.small), (hc6.block b7 (heap_lt H5.out.2.1) (fun hm => HO.out.1 b7 (B.dev_mem b7 hm) rfl)).trans H5.out.2.1, H5.out.2.2.trans (hc6.mono B.dev_mem)⟩
        clear hd6 hc6 H5 c3
        cases hgb : (D2.flushE == 0) with
        | false =>
          have hf : D2.flushE ≠ 0 := by simpa using hgb
          have HR5 : Hid (R = (D2.flushE, S, D2.flush)) := by rw [HR4.out, if_pos hf]; exact rfl
          clear HR4 hf
          go_wp2
          go_ret
          rw [HR5.out]
          exact ⟨B, Blk.Next.refl _ _, rfl, H6.out.1, H6.out.2.2⟩
        | true =>
          have hf : D2.flushE = 0 := by simpa using hgb
          rw [hf]
          have HR5 : Hid (R = (0, ({ gen := S.gen + 1, root := 0, note := note, cells := S.cells, kept := fun _ => false } : StS).keepF D.n.toNat 0, D2.flush)) := by rw [HR4.out, if_neg (by simp [hf])]; exact rfl
          clear HR4 hf hgb
          have e0 : w6.cell? ⟨b7, 0, none⟩ = some (.int .i64 (S.gen + 1)) := cell_at H6.out.2.1 0
          have e1 : w6.cell? ⟨b7, 1, none⟩ = some (.int .i64 0) := cell_at H6.out.2.1 1
          have e2 : w6.cell? ⟨b7, 2, none⟩ = some (.string note) := cell_at H6.out.2.1 2
          obtain ⟨c0, c1, c2, c3, c4, c5, cf⟩ := H6.out.1.cell
          have hlt := heap_lt H6.out.1.box
          have hmm := @run_makeMap Tryz.prog
          go_wp2_with fail
          obtain ⟨w7, hw7⟩ : ∃ w7, w7 = (((((w6.setCell ⟨B.s, 0, none⟩ (.int .i64 (S.gen + 1))).setCell ⟨B.s, 1, none⟩ (.int .i64 0)).setCell ⟨B.s, 2, none⟩ (.string note)).setCell ⟨B.s, 5, none⟩ (.map (some w6.heap.size))).alloc (.map #[] 0)) := ⟨_, rfl⟩
          have hs7 := H6.out.1.renew (S.gen + 1) 0 note
          rw [← hw7] at hs7 ⊢
          have hc7 : Chg B.all w w7 := by rw [hw7]; exact H6.out.2.2.trans (((((((Chg.refl B.all w6).setCell ⟨B.s, 0, none⟩ (.int .i64 (S.gen + 1)) (.inl B.s_mem)).setCell ⟨B.s, 1, none⟩ (.int .i64 0) (.inl B.s_mem)).setCell ⟨B.s, 2, none⟩ (.string note) (.inl B.s_mem)).setCell ⟨B.s, 5, none⟩ (.map (some w6.heap.size)) (.inl B.s_mem)).alloc (.map #[] 0)))
          have H7 : Hid (StAt w7 (B.anew w6.heap.size) ({ gen := S.gen + 1, root := 0, note := note, cells := S.cells, kept := fun _ => false } : StS) D2.flush ∧ Chg B.all w w7) := ⟨hs7, hc7⟩
          have hz : Hid (w.heap.size ≤ w6.heap.size) := H6.out.2.2.size
          clear hw7 hs7 hc7 H6 e0 e1 e2 c0 c1 c2 c3 c4 c5 cf hlt hmm
          have hwf' : WF D.n.toNat ({ gen := S.gen + 1, root := 0, note := note, cells := S.cells, kept := fun _ => false } : StS) [] := ⟨HW.out.1.dom, HW.out.1.kids, HW.out.1.pend, HW.out.1.named, HW.out.1.top, HW.out.1.held, HW.out.1.len, HW.out.1.high, HW.out.1.below⟩
          refine (keep_any D2.flush (B.anew w6.heap.size) D.n.toNat D.n.toNat w7 _ 0 H7.out.1 hwf' (unk_le _ _) (.inl rfl)).mono ?_
          rintro e w8 ⟨rfl, hs8, hc8⟩
          have H8 : Hid (StAt w8 (B.anew w6.heap.size) (({ gen := S.gen + 1, root := 0, note := note, cells := S.cells, kept := fun _ => false } : StS).keepF D.n.toNat 0) D2.flush ∧ Chg B.all w w8) := ⟨hs8, H7.out.2.trans' hc8 (fun x hx => B.anew_mem hz.out x hx)⟩
          clear hs8 hc8 hwf'
          go_wp2
          go_ret
          rw [HR5.out]
          exact ⟨B.anew w6.heap.size, B.anew_next hz.out, rfl, H8.out.1, H8.out.2⟩
  · have hb0 : (root == 0) = false := by simp [h0]
    clear c0 c3
    go_enter Tryz.func39, Tryz.ntmps39
    go_wp2_with (first
      | (go_at_call 72; refine (dead_any _ B S D H.out).mono ?_; rintro e w1 ⟨rfl, rfl⟩)
      | (go_at_call 75; refine (has_any _ B S D root H.out).mono ?_; rintro e w1 ⟨rfl, hb⟩; rw [hh]; have HB : Hid (Below _ _ w1) := hb; obtain ⟨c0, c1, c2, c3, c4, c5, cf⟩ := (H.out.on hb).cell; have hlt := heap_lt (H.out.on hb).box; clear hb c1 c2 c4 c5 cf)
      | fail)
    -- WAY2
    have hb7 : Below w.heap.size w (w1.alloc (.cells #[.int .i64 (S.gen + 1), .int .i64 root, .string note] 93)) := HB.out.alloc HB.out.size _
    have hx7 : (w1.alloc (.cells #[.int .i64 (S.gen + 1), .int .i64 root, .string note] 93)).heap[w1.heap.size]? = some (.cells #[.int .i64 (S.gen + 1), .int .i64 root, .string note] 93 (0, 0)) := heap_alloc_last _ _
    have hs7 : StAt (w1.alloc (.cells #[.int .i64 (S.gen + 1), .int .i64 root, .string note] 93)) B S D := (H.out.on HB.out).on ((Below.refl _ _).alloc (Nat.le_refl _) _)
    obtain ⟨b7, hb7e⟩ : ∃ b7, b7 = w1.heap.size := ⟨_, rfl⟩
    have hge : w.heap.size ≤ b7 := by rw [hb7e]; exact HB.out.size
    rw [← hb7e] at hx7 ⊢
    clear hb7e
    clear HB c0 c3 hlt
    generalize w1.alloc (.cells #[.int .i64 (S.gen + 1), .int .i64 root, .string note] 93) = w2 at hb7 hx7 hs7 ⊢
    have hout : ∀ t ∈ B.all, b7 ≠ t := fun t ht e => by have := H.out.lt t ht; omega
    have hcB : Chg B.all w w2 := Chg.of_below hb7
    refine (flush_any w2 B.d B.k B.y D hs7.dev).mono ?_
    rintro e w3 ⟨rfl, hd3, hc3⟩
    have hs3 : StAt w3 B S D.flush := hs7.setDev hc3 hd3 (flush_small hs7.small)
    have hx3 : w3.heap[b7]? = some (.cells #[.int .i64 (S.gen + 1), .int .i64 root, .string note] 93 (0, 0)) := (hc3.block b7 (heap_lt hx7) (fun hm => hout b7 (B.dev_mem b7 hm) rfl)).trans hx7
    have hcB3 : Chg B.all w w3 := hcB.trans (hc3.mono B.dev_mem)
    have HO : Hid ((∀ t ∈ B.all, b7 ≠ t) ∧ w.heap.size ≤ b7) := ⟨hout, hge⟩
    have H3 : Hid (StAt w3 B S D.flush ∧ w3.heap[b7]? = some (.cells #[.int .i64 (S.gen + 1), .int .i64 root, .string note] 93 (0, 0)) ∧ Chg B.all w w3) := ⟨hs3, hx3, hcB3⟩
    clear hb7 hx7 hs7 hge hout hcB hd3 hc3 hs3 hx3 hcB3
    cases hfb : (D.flushE == 0) with
    | false =>
      have hf : D.flushE ≠ 0 := by simpa using hfb
      have HR2 : Hid (R = (D.flushE, S, D.flush)) := by rw [HR.out, if_pos hf]; exact rfl
      clear HR hf
      go_wp2
      go_ret
      rw [HR2.out]
      exact ⟨B, Blk.Next.refl _ _, rfl, H3.out.1, H3.out.2.2⟩
    | true =>
      have hf : D.flushE = 0 := by simpa using hfb
      rw [hf]
      have HR2 : Hid (R = if D.flush.writeE ((S.gen + 1).tmod 2) (superB (S.gen + 1).toNat root.toNat D.n.toNat note) ≠ 0 then (D.flush.writeE ((S.gen + 1).tmod 2) (superB (S.gen + 1).toNat root.toNat D.n.toNat note), S, (D.flush.write ((S.gen + 1).tmod 2) (superB (S.gen + 1).toNat root.toNat D.n.toNat note))) else if (D.flush.write ((S.gen + 1).tmod 2) (superB (S.gen + 1).toNat root.toNat D.n.toNat note)).flushE ≠ 0 then ((D.flush.write ((S.gen + 1).tmod 2) (superB (S.gen + 1).toNat root.toNat D.n.toNat note)).flushE, S, (D.flush.write ((S.gen + 1).tmod 2) (superB (S.gen + 1).toNat root.toNat D.n.toNat note)).flush) else (0, ({ gen := S.gen + 1, root := root, note := note, cells := S.cells, kept := fun _ => false } : StS).keepF D.n.toNat root, (D.flush.write ((S.gen + 1).tmod 2) (superB (S.gen + 1).toNat root.toNat D.n.toNat note)).flush)) := by rw [HR.out, if_neg (by simp [hf])]; exact rfl
      clear HR hf hfb
      have e0 : w3.cell? ⟨b7, 0, none⟩ = some (.int .i64 (S.gen + 1)) := cell_at H3.out.2.1 0
      have e1 : w3.cell? ⟨b7, 1, none⟩ = some (.int .i64 root) := cell_at H3.out.2.1 1
      have e2 : w3.cell? ⟨b7, 2, none⟩ = some (.string note) := cell_at H3.out.2.1 2
      have c3 := H3.out.1.cell.2.2.2.1
      go_wp2_with fail
      have H3d : Hid (StAt w3.drew B S D.flush ∧ w3.drew.heap[b7]? = some (.cells #[.int .i64 (S.gen + 1), .int .i64 root, .string note] 93 (0, 0)) ∧ Chg B.all w w3.drew) := ⟨H3.out.1.drew, H3.out.2.1, H3.out.2.2.drew⟩
      have HF : Hid (∀ (w' : World) (D' : DevS), StAt w' B S D' → w'.heap[b7]? = some (.cells #[.int .i64 (S.gen + 1), .int .i64 root, .string note] 93 (0, 0)) → (fun w' : World => w'.cell? ⟨b7, 0, none⟩ = some (.int .i64 (S.gen + 1)) ∧ w'.cell? ⟨b7, 1, none⟩ = some (.int .i64 root) ∧ w'.cell? ⟨b7, 2, none⟩ = some (.string note) ∧ w'.cell? ⟨B.s, 3, none⟩ = some (.pointer (some ⟨B.d, 0, none⟩))) w') := fun w' D' h1 h2 => ⟨cell_at h2 0, cell_at h2 1, cell_at h2 2, h1.cell.2.2.2.1⟩
      have hS0 : (fun w' : World => w'.cell? ⟨b7, 0, none⟩ = some (.int .i64 (S.gen + 1)) ∧ w'.cell? ⟨b7, 1, none⟩ = some (.int .i64 root) ∧ w'.cell? ⟨b7, 2, none⟩ = some (.string note) ∧ w'.cell? ⟨B.s, 3, none⟩ = some (.pointer (some ⟨B.d, 0, none⟩))) w3.drew := HF.out _ _ H3d.out.1 H3d.out.2.1
      clear H3 e0 e1 e2 c3
      refine wp_region_held_drew (S := (fun w' : World => w'.cell? ⟨b7, 0, none⟩ = some (.int .i64 (S.gen + 1)) ∧ w'.cell? ⟨b7, 1, none⟩ = some (.int .i64 root) ∧ w'.cell? ⟨b7, 2, none⟩ = some (.string note) ∧ w'.cell? ⟨B.s, 3, none⟩ = some (.pointer (some ⟨B.d, 0, none⟩)))) (by kernel_rfl) hS0 (fun hHeld => ?_)
      clear hHeld
      refine Pair.take (i := 0) (fuel := 15) (d := 52) (v := ?_) (by kernel_rfl) rfl rfl (by kernel_rfl) (by kernel_rfl) (by kernel_rfl) (fun _ _ _ h => h) (Or.inl ⟨by rfl, ?_⟩) hS0 ?_
      rotate_left 1
      · (intro w' hSw; obtain ⟨f0, f1, f2, f3⟩ := hSw; go_simp; try with_reducible rfl)
      try simp only [Act.put, List.setIfInBounds_toArray, List.set_cons_zero, List.set_cons_succ]
      refine Pair.take (i := 1) (fuel := 14) (d := 53) (v := ?_) (by kernel_rfl) rfl rfl (by kernel_rfl) (by kernel_rfl) (by kernel_rfl) (fun _ _ _ h => h) (Or.inl ⟨by rfl, ?_⟩) hS0 ?_
      rotate_left 1
      · (intro w' hSw; obtain ⟨f0, f1, f2, f3⟩ := hSw; go_simp; try with_reducible rfl)
      try simp only [Act.put, List.setIfInBounds_toArray, List.set_cons_zero, List.set_cons_succ]
      refine Pair.take (i := 2) (fuel := 13) (d := 54) (v := ?_) (by kernel_rfl) rfl rfl (by kernel_rfl) (by kernel_rfl) (by kernel_rfl) (fun _ _ _ h => h) (Or.inl ⟨by rfl, ?_⟩) hS0 ?_
      rotate_left 1
      · (intro w' hSw; obtain ⟨f0, f1, f2, f3⟩ := hSw; go_simp; try with_reducible rfl)
      try simp only [Act.put, List.setIfInBounds_toArray, List.set_cons_zero, List.set_cons_succ]
      refine Pair.take (i := 3) (fuel := 12) (d := 55) (v := ?_) (by kernel_rfl) rfl rfl (by kernel_rfl) (by kernel_rfl) (by kernel_rfl) (fun _ _ _ h => h) (Or.inl ⟨by rfl, ?_⟩) hS0 ?_
      rotate_left 1
      · (intro w' hSw; obtain ⟨f0, f1, f2, f3⟩ := hSw; go_simp; try with_reducible rfl)
      try simp only [Act.put, List.setIfInBounds_toArray, List.set_cons_zero, List.set_cons_succ]
      refine Pair.take (i := 4) (fuel := 11) (d := 56) (v := ?_) (by kernel_rfl) rfl rfl (by kernel_rfl) (by kernel_rfl) (by kernel_rfl) (fun _ _ _ h => h) (Or.inl ⟨by rfl, ?_⟩) hS0 ?_
      rotate_left 1
      · (intro w' hSw; obtain ⟨f0, f1, f2, f3⟩ := hSw; go_simp; try with_reducible rfl)
      try simp only [Act.put, List.setIfInBounds_toArray, List.set_cons_zero, List.set_cons_succ]
      refine Pair.take (i := 5) (fuel := 10) (d := 57) (v := ?_) (by kernel_rfl) rfl rfl (by kernel_rfl) (by kernel_rfl) (by kernel_rfl) (fun _ _ _ h => h) (Or.inl ⟨by rfl, ?_⟩) hS0 ?_
      rotate_left 1
      · (intro w' hSw; obtain ⟨f0, f1, f2, f3⟩ := hSw; go_simp; try with_reducible rfl)
      try simp only [Act.put, List.setIfInBounds_toArray, List.set_cons_zero, List.set_cons_succ]
      refine Pair.take (i := 6) (fuel := 9) (d := 58) (v := ?_) (by kernel_rfl) rfl rfl (by kernel_rfl) (by kernel_rfl) (by kernel_rfl) (fun _ _ _ h => h) (Or.inl ⟨by rfl, ?_⟩) hS0 ?_
      rotate_left 1
      · (intro w' hSw; obtain ⟨f0, f1, f2, f3⟩ := hSw; go_simp; try with_reducible rfl)
      try simp only [Act.put, List.setIfInBounds_toArray, List.set_cons_zero, List.set_cons_succ]
      refine Pair.take (i := 7) (fuel := 8) (d := 59) (v := ?_) (by kernel_rfl) rfl rfl (by kernel_rfl) (by kernel_rfl) (by kernel_rfl) (fun _ _ _ h => h) (Or.inl ⟨by rfl, ?_⟩) hS0 ?_
      rotate_left 1
      · (intro w' hSw; obtain ⟨f0, f1, f2, f3⟩ := hSw; go_simp; try with_reducible rfl)
      try simp only [Act.put, List.setIfInBounds_toArray, List.set_cons_zero, List.set_cons_succ]
      refine Pair.take (i := 8) (fuel := 7) (d := 60) (v := ?_) (by kernel_rfl) rfl rfl (by kernel_rfl) (by kernel_rfl) (by kernel_rfl) (fun _ _ _ h => h) (Or.inl ⟨by rfl, ?_⟩) hS0 ?_
      rotate_left 1
      · (intro w' hSw; obtain ⟨f0, f1, f2, f3⟩ := hSw; go_simp; try with_reducible rfl)
      try simp only [Act.put, List.setIfInBounds_toArray, List.set_cons_zero, List.set_cons_succ]
      refine Pair.take (i := 9) (fuel := 6) (d := 61) (v := ?_) (by kernel_rfl) rfl rfl (by kernel_rfl) (by kernel_rfl) (by kernel_rfl) (fun _ _ _ h => h) (Or.inl ⟨by rfl, ?_⟩) hS0 ?_
      rotate_left 1
      · (intro w' hSw; obtain ⟨f0, f1, f2, f3⟩ := hSw; go_simp; try with_reducible rfl)
      try simp only [Act.put, List.setIfInBounds_toArray, List.set_cons_zero, List.set_cons_succ]
      refine Pair.take (i := 10) (fuel := 5) (d := 62) (v := ?_) (by kernel_rfl) rfl rfl (by kernel_rfl) (by kernel_rfl) (by kernel_rfl) (fun _ _ _ h => h) (Or.inl ⟨by rfl, ?_⟩) hS0 ?_
      rotate_left 1
      · (intro w' hSw; obtain ⟨f0, f1, f2, f3⟩ := hSw; go_simp; try with_reducible rfl)
      try simp only [Act.put, List.setIfInBounds_toArray, List.set_cons_zero, List.set_cons_succ]
      refine Pair.take (i := 11) (fuel := 4) (d := 63) (v := ?_) (by kernel_rfl) rfl rfl (by kernel_rfl) (by kernel_rfl) (by kernel_rfl) (fun _ _ _ h => h) (Or.inl ⟨by rfl, ?_⟩) hS0 ?_
      rotate_left 1
      · (intro w' hSw; obtain ⟨f0, f1, f2, f3⟩ := hSw; go_simp; try with_reducible rfl)
      try simp only [Act.put, List.setIfInBounds_toArray, List.set_cons_zero, List.set_cons_succ]
      refine Pair.call1 (i := 12) (fuel := 3) (by kernel_rfl) rfl (by kernel_rfl) (fun K hK => ?_)
      go_simp
      go_at_call 45
      refine (size_at w3.drew B S D.flush H3d.out.1).mono ?_
      rintro e w4 ⟨rfl, rfl⟩
      refine hK.out _ _ hS0 (fun hHeld => ?_)
      clear hHeld hK K
      try simp only [Act.put, List.setIfInBounds_toArray, List.set_cons_zero, List.set_cons_succ]
      refine Pair.call1 (i := 13) (fuel := 2) (by kernel_rfl) rfl (by kernel_rfl) (fun K hK => ?_)
      go_simp
      go_at_call 60
      refine (bytes_k (S.gen + 1) root D.flush.n note w3.drew (by omega) (by omega) (by omega) (by omega) (by rw [flush_n]; omega) (by rw [flush_n]; omega) (by omega)).mono ?_
      rintro e w4 ⟨rfl, hb4⟩
      have H4 : Hid (StAt w4 B S D.flush ∧ w4.heap[b7]? = some (.cells #[.int .i64 (S.gen + 1), .int .i64 root, .string note] 93 (0, 0)) ∧ Chg B.all w w4) := ⟨H3d.out.1.on hb4, (hb4.block _ (heap_lt H3d.out.2.1)).trans H3d.out.2.1, H3d.out.2.2.trans (Chg.of_below hb4)⟩
      clear hb4
      rw [flush_n]
      refine hK.out _ _ (HF.out _ _ H4.out.1 H4.out.2.1) (fun hHeld => ?_)
      clear hHeld hK K
      try simp only [Act.put, List.setIfInBounds_toArray, List.set_cons_zero, List.set_cons_succ]
      refine Pair.call1 (i := 14) (fuel := 1) (by kernel_rfl) rfl (by kernel_rfl) (fun K hK => ?_)
      go_simp
      go_at_call 10
      refine (write_any w4 B.d B.k B.y D.flush ((S.gen + 1).tmod 2) (superB (S.gen + 1).toNat root.toNat D.n.toNat note) H4.out.1.dev).mono ?_
      rintro e w5 ⟨rfl, hd5, hc5⟩
      have H5 : Hid (StAt w5 B S (D.flush.write ((S.gen + 1).tmod 2) (superB (S.gen + 1).toNat root.toNat D.n.toNat note)) ∧ w5.heap[b7]? = some (.cells #[.int .i64 (S.gen + 1), .int .i64 root, .string note] 93 (0, 0)) ∧ Chg B.all w w5) := ⟨H4.out.1.setDev hc5 hd5 (write_small H4.out.1.small _ _), (hc5.block b7 (heap_lt H4.out.2.1) (fun hm => HO.out.1 b7 (B.dev_mem b7 hm) rfl)).trans H4.out.2.1, H4.out.2.2.trans (hc5.mono B.dev_mem)⟩
      clear hd5 hc5
      refine hK.out _ _ (HF.out _ _ H5.out.1 H5.out.2.1) (fun hHeld => ?_)
      clear hHeld hK K
      try simp only [Act.put, List.setIfInBounds_toArray, List.set_cons_zero, List.set_cons_succ]
      refine Pair.take (i := 15) (fuel := 0) (d := 9) (v := ?_) (by kernel_rfl) rfl rfl (by kernel_rfl) (by kernel_rfl) (by kernel_rfl) (fun _ _ _ h => h) (Or.inl ⟨by rfl, ?_⟩) (HF.out _ _ H5.out.1 H5.out.2.1) ?_
      rotate_left 1
      · (intro w' hSw; obtain ⟨f0, f1, f2, f3⟩ := hSw; go_simp; try with_reducible rfl)
      try simp only [Act.put, List.setIfInBounds_toArray, List.set_cons_zero, List.set_cons_succ]
      refine wpAnyH_done (by kernel_rfl) ?_ _
      clear H4 H3d hS0
      obtain ⟨D2, hD2⟩ : ∃ D2, D2 = (D.flush.write ((S.gen + 1).tmod 2) (superB (S.gen + 1).toNat root.toNat D.n.toNat note)) := ⟨_, rfl⟩
      obtain ⟨we, hwe⟩ : ∃ we, we = D.flush.writeE ((S.gen + 1).tmod 2) (superB (S.gen + 1).toNat root.toNat D.n.toNat note) := ⟨_, rfl⟩
      have HR3 : Hid (R = if we ≠ 0 then (we, S, D2) else if D2.flushE ≠ 0 then (D2.flushE, S, D2.flush) else (0, ({ gen := S.gen + 1, root := root, note := note, cells := S.cells, kept := fun _ => false } : StS).keepF D.n.toNat root, D2.flush)) := by rw [HR2.out, hwe, hD2]; exact rfl
      have hDn : D2.n = D.n := by rw [hD2, write_n, flush_n]
      rw [← hD2] at H5
      rw [← hwe]
      clear hD2 hwe HR2
      cases hwb : (we == 0) with
      | false =>
        have hf : we ≠ 0 := by simpa using hwb
        have HR4 : Hid (R = (we, S, D2)) := by rw [HR3.out, if_pos hf]; exact rfl
        clear HR3 hf
        go_wp2
        go_ret
        rw [HR4.out]
        exact ⟨B, Blk.Next.refl _ _, rfl, H5.out.1, H5.out.2.2⟩
      | true =>
        have hf : we = 0 := by simpa using hwb
        subst hf
        have HR4 : Hid (R = if D2.flushE ≠ 0 then (D2.flushE, S, D2.flush) else (0, ({ gen := S.gen + 1, root := root, note := note, cells := S.cells, kept := fun _ => false } : StS).keepF D.n.toNat root, D2.flush)) := by rw [HR3.out, if_neg (by simp)]; exact rfl
        clear HR3 hwb
        have c3 := H5.out.1.cell.2.2.2.1
        go_wp2_with fail
        refine (flush_any w5 B.d B.k B.y D2 H5.out.1.dev).mono ?_
        rintro e w6 ⟨rfl, hd6, hc6⟩
        have H6 : Hid (StAt w6 B S D2.flush ∧ w6.heap[b7]? = some (.cells #[.int .i64 (S.gen + 1), .int .i64 root, .string note] 93 (0, 0)) ∧ Chg B.all w w6) := ⟨H5.out.1.setDev hc6 hd6 (flush_small H5.out.1.small), (hc6.block b7 (heap_lt H5.out.2.1) (fun hm => HO.out.1 b7 (B.dev_mem b7 hm) rfl)).trans H5.out.2.1, H5.out.2.2.trans (hc6.mono B.dev_mem)⟩
        clear hd6 hc6 H5 c3
        cases hgb : (D2.flushE == 0) with
        | false =>
          have hf : D2.flushE ≠ 0 := by simpa using hgb
          have HR5 : Hid (R = (D2.flushE, S, D2.flush)) := by rw [HR4.out, if_pos hf]; exact rfl
          clear HR4 hf
          go_wp2
          go_ret
          rw [HR5.out]
          exact ⟨B, Blk.Next.refl _ _, rfl, H6.out.1, H6.out.2.2⟩
        | true =>
          have hf : D2.flushE = 0 := by simpa using hgb
          rw [hf]
          have HR5 : Hid (R = (0, ({ gen := S.gen + 1, root := root, note := note, cells := S.cells, kept := fun _ => false } : StS).keepF D.n.toNat root, D2.flush)) := by rw [HR4.out, if_neg (by simp [hf])]; exact rfl
          clear HR4 hf hgb
          have e0 : w6.cell? ⟨b7, 0, none⟩ = some (.int .i64 (S.gen + 1)) := cell_at H6.out.2.1 0
          have e1 : w6.cell? ⟨b7, 1, none⟩ = some (.int .i64 root) := cell_at H6.out.2.1 1
          have e2 : w6.cell? ⟨b7, 2, none⟩ = some (.string note) := cell_at H6.out.2.1 2
          obtain ⟨c0, c1, c2, c3, c4, c5, cf⟩ := H6.out.1.cell
          have hlt := heap_lt H6.out.1.box
          have hmm := @run_makeMap Tryz.prog
          go_wp2_with fail
          obtain ⟨w7, hw7⟩ : ∃ w7, w7 = (((((w6.setCell ⟨B.s, 0, none⟩ (.int .i64 (S.gen + 1))).setCell ⟨B.s, 1, none⟩ (.int .i64 root)).setCell ⟨B.s, 2, none⟩ (.string note)).setCell ⟨B.s, 5, none⟩ (.map (some w6.heap.size))).alloc (.map #[] 0)) := ⟨_, rfl⟩
          have hs7 := H6.out.1.renew (S.gen + 1) root note
          rw [← hw7] at hs7 ⊢
          have hc7 : Chg B.all w w7 := by rw [hw7]; exact H6.out.2.2.trans (((((((Chg.refl B.all w6).setCell ⟨B.s, 0, none⟩ (.int .i64 (S.gen + 1)) (.inl B.s_mem)).setCell ⟨B.s, 1, none⟩ (.int .i64 root) (.inl B.s_mem)).setCell ⟨B.s, 2, none⟩ (.string note) (.inl B.s_mem)).setCell ⟨B.s, 5, none⟩ (.map (some w6.heap.size)) (.inl B.s_mem)).alloc (.map #[] 0)))
          have H7 : Hid (StAt w7 (B.anew w6.heap.size) ({ gen := S.gen + 1, root := root, note := note, cells := S.cells, kept := fun _ => false } : StS) D2.flush ∧ Chg B.all w w7) := ⟨hs7, hc7⟩
          have hz : Hid (w.heap.size ≤ w6.heap.size) := H6.out.2.2.size
          clear hw7 hs7 hc7 H6 e0 e1 e2 c0 c1 c2 c3 c4 c5 cf hlt hmm
          have hwf' : WF D.n.toNat ({ gen := S.gen + 1, root := root, note := note, cells := S.cells, kept := fun _ => false } : StS) [] := ⟨HW.out.1.dom, HW.out.1.kids, HW.out.1.pend, HW.out.1.named, HW.out.1.top, HW.out.1.held, HW.out.1.len, HW.out.1.high, HW.out.1.below⟩
          refine (keep_any D2.flush (B.anew w6.heap.size) D.n.toNat D.n.toNat w7 _ root H7.out.1 hwf' (unk_le _ _) HW.out.2).mono ?_
          rintro e w8 ⟨rfl, hs8, hc8⟩
          have H8 : Hid (StAt w8 (B.anew w6.heap.size) (({ gen := S.gen + 1, root := root, note := note, cells := S.cells, kept := fun _ => false } : StS).keepF D.n.toNat root) D2.flush ∧ Chg B.all w w8) := ⟨hs8, H7.out.2.trans' hc8 (fun x hx => B.anew_mem hz.out x hx)⟩
          clear hs8 hc8 hwf'
          go_wp2
          go_ret
          rw [HR5.out]
          exact ⟨B.anew w6.heap.size, B.anew_next hz.out, rfl, H8.out.1, H8.out.2⟩
/-- Commit -/
theorem storeCommit_any (w : World) (B : Blk) (S : StS) (D : DevS) (root : Int) (note : ByteArray) (h : StAt w B S D) (hwf : WF D.n.toNat S []) (hg0 : 0 ≤ S.gen) :
    Calls Tryz.prog 39 #[.pointer (some ⟨B.s, 0, none⟩), .int .i64 root, .string note] w (CommitPost w B (commitOut S D root note)) := by
  by_cases hb : (root ≠ 0 ∧ S.has root = false) ∨ 3900 < note.size
  · exact commit_bad w B S D root note h hb
  · have hgood : root = 0 ∨ S.has root = true := by
      by_cases h0 : root = 0
      · exact .inl h0
      · cases hh : S.has root with
        | true => exact .inr rfl
        | false => exact absurd (.inl ⟨h0, hh⟩) hb
    have hn : note.size ≤ 3900 := by
      rcases Nat.lt_or_ge 3900 note.size with h1 | h1
      · exact absurd (.inr h1) hb
      · exact h1
    by_cases hl : S.gen < 1099511627776
    · exact commit_good w B S D root note h hwf hgood hn hg0 hl
    · exact commit_late w B S D root note h hgood hn (by omega)
end Go.Proofs.YtanpkghdgdkdlaaGreat.Sto
