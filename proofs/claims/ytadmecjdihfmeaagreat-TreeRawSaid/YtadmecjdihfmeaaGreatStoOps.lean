/- Layer 6: Get, Hold, Root, Refs. -/
import Derived.Test.YtadmecjdihfmeaaGreatStoBytes
import Derived.BigQuiet
namespace Go.Proofs.YtadmecjdihfmeaaGreat.Sto
set_option linter.unusedVariables false
set_option linter.unusedSimpArgs false
set_option maxRecDepth 100000
open Go.RowKit Go.Lib Go.Proofs.YtadmecjdihfmeaaGreat.Mem Go.Proofs.YtadmecjdihfmeaaGreat.Oct Go.Proofs.YtadmecjdihfmeaaGreat.Dev

theorem BlockIs.mono {base base' : Nat} {w : World} {v : Value} {d : ByteArray} {r : Option (List Int × ByteArray)} (h : BlockIs base w v d r) (hb : base' ≤ base) : BlockIs base' w v d r := by
  cases r with
  | none => exact h
  | some x => exact ⟨h.1, h.2.mono hb⟩
/-- Get -/
def StS.getR (S : StS) (D : DevS) (i : Int) : Int × Option (List Int × ByteArray) := if S.has i = true then readP D i else (22, none)
set_option maxHeartbeats 2000000 in
theorem storeGet_any (w : World) (B : Blk) (S : StS) (D : DevS) (i : Int) (h : StAt w B S D) :
    Calls Tryz.prog 67 #[.pointer (some ⟨B.s, 0, none⟩), .int .i64 i] w fun e w' => ∃ (a : Option Addr) (m c : Nat) (d : ByteArray), e = .returned (.tuple #[.agg #[.slice a m c, .string d], .int .i64 (S.getR D i).1]) ∧ BlockIs w.heap.size w' (.slice a m c) d (S.getR D i).2 ∧ Below w.heap.size w w' := by
  have hb0 : Below w.heap.size w (w.alloc (.cells #[.slice none 0 0, .string ⟨#[]⟩] 125)) := (Below.refl _ _).alloc (Nat.le_refl _) _
  have hbox : (w.alloc (.cells #[.slice none 0 0, .string ⟨#[]⟩] 125)).heap[w.heap.size]? = some (.cells #[.slice none 0 0, .string ⟨#[]⟩] 125 (0, 0)) := heap_alloc_last _ _
  have H : Hid (StAt (w.alloc (.cells #[.slice none 0 0, .string ⟨#[]⟩] 125)) B S D) := h.on hb0
  have HB : Hid (Below w.heap.size w (w.alloc (.cells #[.slice none 0 0, .string ⟨#[]⟩] 125)) ∧ (w.alloc (.cells #[.slice none 0 0, .string ⟨#[]⟩] 125)).heap[w.heap.size]? = some (.cells #[.slice none 0 0, .string ⟨#[]⟩] 125 (0, 0))) := ⟨hb0, hbox⟩
  clear h hb0 hbox
  go_enter Tryz.func67, Tryz.ntmps67
  cases hh : S.has i with
  | false =>
    have hg : Hid (S.getR D i = (22, none)) := by rw [StS.getR, if_neg (by rw [hh]; exact Bool.false_ne_true)]; exact rfl
    go_wp2_with (first
      | (go_at_call 46; refine (dead_any _ B S D H.out).mono ?_; rintro e w1 ⟨rfl, rfl⟩; obtain ⟨w2, hw2⟩ : ∃ w2, w2 = (w.alloc (.cells #[.slice none 0 0, .string ⟨#[]⟩] 125)) := ⟨_, rfl⟩; rw [← hw2] at H HB ⊢; clear hw2)
      | (go_at_call 51; refine (has_any _ B S D i H.out).mono ?_; rintro e w3 ⟨rfl, hb⟩; rw [hh]; have HX : Hid (Below w.heap.size w w3 ∧ w3.heap[w.heap.size]? = some (.cells #[.slice none 0 0, .string ⟨#[]⟩] 125 (0, 0))) := ⟨HB.out.1.trans (hb.mono HB.out.1.size), (hb.block _ (heap_lt HB.out.2)).trans HB.out.2⟩; clear hb; have c0 : w3.cell? ⟨w.heap.size, 0, none⟩ = some (.slice none 0 0) := cell_at HX.out.2 0; have c1 : w3.cell? ⟨w.heap.size, 1, none⟩ = some (.string ⟨#[]⟩) := cell_at HX.out.2 1; have cf : ∀ j, w3.frozen? ⟨w.heap.size, j, none⟩ = false := frozen_at HX.out.2)
      | fail)
    have hs := heap_set_at (heap_set_at HX.out.2 0 (.slice none 0 0)) 1 (.string ⟨#[]⟩)
    refine bodyPost_ret (results_cell_tmp Tryz.results67 _ _ w.heap.size 125 #[.slice none 0 0, .string ⟨#[]⟩] (0, 0) _ rfl hs Tryz.underlying125 rfl (by kernel_rfl)) rfl ?_
    refine ⟨none, 0, 0, ⟨#[]⟩, ?_, ?_, (HX.out.1.setCell (by simp) _).setCell (by simp) _⟩
    · rw [hg.out]; rfl
    · rw [hg.out]; exact ⟨rfl, rfl⟩
  | true =>
    have hg : Hid (S.getR D i = readP D i) := by rw [StS.getR, if_pos hh]; exact rfl
    go_wp2_with (first
      | (go_at_call 46; refine (dead_any _ B S D H.out).mono ?_; rintro e w1 ⟨rfl, rfl⟩; obtain ⟨w2, hw2⟩ : ∃ w2, w2 = (w.alloc (.cells #[.slice none 0 0, .string ⟨#[]⟩] 125)) := ⟨_, rfl⟩; rw [← hw2] at H HB ⊢; clear hw2)
      | (go_at_call 51; refine (has_any _ B S D i H.out).mono ?_; rintro e w3 ⟨rfl, hb⟩; rw [hh]; have HX : Hid (Below w.heap.size w w3 ∧ w3.heap[w.heap.size]? = some (.cells #[.slice none 0 0, .string ⟨#[]⟩] 125 (0, 0)) ∧ StAt w3 B S D) := ⟨HB.out.1.trans (hb.mono HB.out.1.size), (hb.block _ (heap_lt HB.out.2)).trans HB.out.2, H.out.on hb⟩; clear hb)
      | (go_at_call 89; refine (read_any _ B S D i HX.out.2.2).mono ?_; rintro e w4 ⟨a, m, c, d, rfl, his, hb⟩; have HY : Hid (Below w.heap.size w w4 ∧ w4.heap[w.heap.size]? = some (.cells #[.slice none 0 0, .string ⟨#[]⟩] 125 (0, 0)) ∧ BlockIs w3.heap.size w4 (.slice a m c) d (readP D i).2 ∧ w.heap.size < w3.heap.size) := ⟨HX.out.1.trans (hb.mono HX.out.1.size), (hb.block _ (heap_lt HX.out.2.1)).trans HX.out.2.1, his, heap_lt HX.out.2.1⟩; clear hb his; have c0 : w4.cell? ⟨w.heap.size, 0, none⟩ = some (.slice none 0 0) := cell_at HY.out.2.1 0; have c1 : w4.cell? ⟨w.heap.size, 1, none⟩ = some (.string ⟨#[]⟩) := cell_at HY.out.2.1 1; have cf : ∀ j, w4.frozen? ⟨w.heap.size, j, none⟩ = false := frozen_at HY.out.2.1)
      | fail)
    have hs := heap_set_at (heap_set_at HY.out.2.1 0 (.slice a m c)) 1 (.string d)
    refine bodyPost_ret (results_cell_tmp Tryz.results67 _ _ w.heap.size 125 #[.slice a m c, .string d] (0, 0) _ rfl hs Tryz.underlying125 rfl (by kernel_rfl)) rfl ?_
    refine ⟨a, m, c, d, ?_, ?_, (HY.out.1.setCell (by simp) _).setCell (by simp) _⟩
    · rw [hg.out]; rfl
    · rw [hg.out]
      exact BlockIs.mono (HY.out.2.2.1.chg (((Chg.refl [w.heap.size] w4).setCell ⟨w.heap.size, 0, none⟩ (.slice a m c) (.inl (by simp))).setCell ⟨w.heap.size, 1, none⟩ (.string d) (.inl (by simp))) (fun t ht => by have := HY.out.2.2.2; simp at ht; omega)) (Nat.le_of_lt HY.out.2.2.2)
/-- Hold -/
theorem storeHold_any (w : World) (B : Blk) (S : StS) (D : DevS) (i : Int) (h : StAt w B S D) (hr : ∀ c, S.cells i = some c → -9223372036854775808 ≤ c.held ∧ c.held < 9223372036854775807) :
    Calls Tryz.prog 28 #[.pointer (some ⟨B.s, 0, none⟩), .int .i64 i] w fun e w' => e = .returned (.int .i64 (S.holdE i)) ∧ StAt w' B (S.holds i) D ∧ Chg B.all w w' := by
  have H : Hid (StAt w B S D) := h
  clear h
  go_enter Tryz.func28, Tryz.ntmps28
  cases hh : S.has i with
  | false =>
    have he : Hid (S.holdE i = 22 ∧ S.holds i = S) := by simp [Hid, StS.holdE, StS.holds, hh]
    clear hr
    go_wp2_with (first
      | (go_at_call 46; refine (dead_any _ B S D H.out).mono ?_; rintro e w1 ⟨rfl, rfl⟩)
      | (go_at_call 51; refine (has_any _ B S D i H.out).mono ?_; rintro e w3 ⟨rfl, hb⟩; rw [hh]; have HX : Hid (Below w.heap.size w w3) := hb; clear hb)
      | fail)
    go_ret
    refine ⟨by rw [he.out.1]; rfl, ?_, Chg.of_below HX.out⟩
    rw [he.out.2]
    exact H.out.on HX.out
  | true =>
    have he : Hid (S.holdE i = 0 ∧ S.holds i = S.hold i 1) := by simp [Hid, StS.holdE, StS.holds, hh]
    have hr2 : Hid (-9223372036854775808 ≤ (S.cel i).held + 1 ∧ (S.cel i).held + 1 ≤ 9223372036854775807) := by
      unfold StS.has at hh
      obtain ⟨c, hc⟩ := Option.isSome_iff_exists.1 hh
      have := hr c hc
      simp only [StS.cel, hc, Option.getD_some]
      exact ⟨by omega, by omega⟩
    clear hr
    go_wp2_with (first
      | (go_at_call 46; refine (dead_any _ B S D H.out).mono ?_; rintro e w1 ⟨rfl, rfl⟩)
      | (go_at_call 51; refine (has_any _ B S D i H.out).mono ?_; rintro e w3 ⟨rfl, hb⟩; rw [hh]; have HX : Hid (Below w.heap.size w w3) := hb; clear hb)
      | (go_at_call 52; refine (hold_any _ B S D i 1 (H.out.on HX.out) hr2.out).mono ?_; rintro e w4 ⟨rfl, hs4, hc4⟩; have HY : Hid (StAt w4 B (S.hold i 1) D ∧ Chg B.all w w4) := ⟨hs4, (Chg.of_below HX.out).trans hc4⟩; clear hs4 hc4)
      | fail)
    go_ret
    refine ⟨by rw [he.out.1]; rfl, ?_, HY.out.2⟩
    rw [he.out.2]
    exact HY.out.1
end Go.Proofs.YtadmecjdihfmeaaGreat.Sto
