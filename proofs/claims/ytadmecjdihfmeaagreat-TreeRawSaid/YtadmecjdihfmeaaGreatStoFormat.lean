/- Layer 6: Format. -/
import Derived.Test.YtadmecjdihfmeaaGreatStoCommit
namespace Go.Proofs.YtadmecjdihfmeaaGreat.Sto
set_option linter.unusedVariables false
set_option linter.unusedSimpArgs false
set_option maxRecDepth 100000
open Go.RowKit Go.Lib Go.Proofs.YtadmecjdihfmeaaGreat.Mem Go.Proofs.YtadmecjdihfmeaaGreat.Oct Go.Proofs.YtadmecjdihfmeaaGreat.Dev

def nob : ByteArray := ⟨#[]⟩
def StS.fresh (note : ByteArray) : StS := ⟨1, 0, note, fun _ => none, fun _ => false⟩
/-- the first j blocks written over with nothing -/
def wiped (D : DevS) : Nat → DevS
  | 0 => D
  | j + 1 => (wiped D j).write j nob
theorem wiped_small {D : DevS} (h : D.small) : ∀ j, (wiped D j).small
  | 0 => h
  | j + 1 => write_small (wiped_small h j) _ _
theorem wiped_n (D : DevS) : ∀ j, (wiped D j).n = D.n
  | 0 => rfl
  | j + 1 => by rw [wiped, write_n, wiped_n D j]
/-- Format: the error, the device, and is there a store? -/
def formatOut (D : DevS) (note : ByteArray) : Int × DevS × Bool :=
  if 3900 < note.size then (22, D, false)
  else if D.writeE 0 nob ≠ 0 then (D.writeE 0 nob, wiped D 1, false)
  else if (wiped D 1).writeE 1 nob ≠ 0 then ((wiped D 1).writeE 1 nob, wiped D 2, false)
  else if (wiped D 2).flushE ≠ 0 then ((wiped D 2).flushE, (wiped D 2).flush, false)
  else if (wiped D 2).flush.writeE 1 (superB 1 0 D.n.toNat note) ≠ 0 then ((wiped D 2).flush.writeE 1 (superB 1 0 D.n.toNat note), (wiped D 2).flush.write 1 (superB 1 0 D.n.toNat note), false)
  else (((wiped D 2).flush.write 1 (superB 1 0 D.n.toNat note)).flushE, ((wiped D 2).flush.write 1 (superB 1 0 D.n.toNat note)).flush, true)
structure Blk.Over (w : World) (b bk bd : Nat) (B : Blk) : Prop where
  d : B.d = b
  k : B.k = bk
  y : B.y = bd
  s : w.heap.size ≤ B.s
  c : w.heap.size ≤ B.c
  p : w.heap.size ≤ B.p
theorem Blk.Over.dev_mem {w : World} {b bk bd : Nat} {B : Blk} (h : Blk.Over w b bk bd B) : ∀ t ∈ B.all, t ∈ [b, bk, bd] ∨ w.heap.size ≤ t := by
  intro t ht
  simp only [Blk.all, List.mem_cons, List.mem_nil_iff, or_false] at ht ⊢
  rcases ht with rfl | rfl | rfl | rfl | rfl | rfl
  · exact .inr h.s
  · exact .inl (.inl h.d)
  · exact .inl (.inr (.inl h.k))
  · exact .inl (.inr (.inr h.y))
  · exact .inr h.c
  · exact .inr h.p
def NoStore (w : World) (b bk bd : Nat) (r : Int × DevS) (e : Ending) (w' : World) : Prop := e = .returned (.tuple #[.pointer none, .int .i64 r.1]) ∧ At w' b bk bd r.2 ∧ r.2.small ∧ Chg [b, bk, bd] w w'
def AStore (w : World) (b bk bd : Nat) (S : StS) (r : Int × DevS) (e : Ending) (w' : World) : Prop := ∃ B, Blk.Over w b bk bd B ∧ e = .returned (.tuple #[.pointer (some ⟨B.s, 0, none⟩), .int .i64 r.1]) ∧ StAt w' B S r.2 ∧ Chg [b, bk, bd] w w'
def FormatPost (w : World) (b bk bd : Nat) (note : ByteArray) (r : Int × DevS × Bool) (e : Ending) (w' : World) : Prop :=
  if r.2.2 = true then AStore w b bk bd (StS.fresh note) (r.1, r.2.1) e w' else NoStore w b bk bd (r.1, r.2.1) e w'
theorem IsI.nothing {β : Type} {enc : β → Value} (w : World) : IsI enc (w.alloc (.map #[] 0)) w.heap.size (fun _ => none) := IsI.made w
/-- a new store over a device -/
theorem fresh_at (w : World) (b bk bd : Nat) (D : DevS) (note : ByteArray) (h : At w b bk bd D) (hs : D.small) :
    StAt (((w.alloc (.map #[] 0)).alloc (.map #[] 0)).alloc (.cells #[.int .i64 1, .int .i64 0, .string note, .pointer (some ⟨b, 0, none⟩), .map (some w.heap.size), .map (some (w.heap.size + 1))] 97)) ⟨w.heap.size + 1 + 1, b, bk, bd, w.heap.size, w.heap.size + 1, []⟩ (StS.fresh note) D := by
  have h1 : b < w.heap.size := heap_lt h.heap
  have h2 : bk < w.heap.size := h.kept.lt
  have h3 : bd < w.heap.size := h.dirty.lt
  have hne := h.bk_ne
  have hne2 := h.bd_ne
  have hne3 : bk ≠ bd := h.ne
  have hm1 := (IsI.made (enc := celV) w)
  have hm2 := (IsI.made (enc := keptV) (w.alloc (.map #[] 0)))
  have e1 : (w.alloc (.map #[] 0)).heap.size = w.heap.size + 1 := by simp
  have e2 : ((w.alloc (.map #[] 0)).alloc (.map #[] 0)).heap.size = w.heap.size + 2 := by simp
  rw [e1] at hm2
  refine ⟨?_, ((h.alloc _).alloc _).alloc _, ⟨fun _ => none, ⟨(hm1.alloc _).alloc _, fun i => rfl, fun i c a k hi => by cases hi⟩⟩, ?_, ?_, hs, fun q hq => by cases hq⟩
  · have := heap_alloc_last ((w.alloc (.map #[] 0)).alloc (.map #[] 0)) (.cells #[.int .i64 1, .int .i64 0, .string note, .pointer (some ⟨b, 0, none⟩), .map (some w.heap.size), .map (some (w.heap.size + 1))] 97)
    rw [e2] at this
    exact this
  · exact (hm2.alloc _).congr (fun i => by simp [StS.fresh])
  · simp only [Blk.all, List.nodup_cons, List.mem_cons, List.mem_nil_iff, or_false, not_or, List.nodup_nil, not_false_eq_true, and_true]
    omega
set_option maxHeartbeats 8000000 in
theorem format_any (w : World) (b bk bd : Nat) (D : DevS) (note : ByteArray) (h : At w b bk bd D) (hs : D.small) :
    Calls Tryz.prog 35 #[.pointer (some ⟨b, 0, none⟩), .string note] w (FormatPost w b bk bd note (formatOut D note)) := by
  obtain ⟨R, hR⟩ : ∃ R, R = formatOut D note := ⟨_, rfl⟩
  rw [← hR]
  have HR : Hid (R = formatOut D note) := hR
  have hdn := h.ok.2.2
  have H : Hid (At w b bk bd D ∧ D.small) := ⟨h, hs⟩
  have hmm := @run_makeMap Tryz.prog
  clear h hs hR
  by_cases hn : 3900 < note.size
  · have HR2 : Hid (R = (22, D, false)) := by rw [HR.out, formatOut, if_pos hn]; exact rfl
    clear HR
    go_enter Tryz.func35, Tryz.ntmps35
    go_wp2_with (first
      | (go_at_call 53; refine (size_any w b bk bd D H.out.1).mono ?_; rintro e w1 ⟨rfl, rfl⟩)
      | fail)
    go_ret2
    rw [HR2.out]
    exact ⟨rfl, H.out.1, H.out.2, Chg.refl _ _⟩
  have HR2 : Hid (R = if D.writeE 0 nob ≠ 0 then (D.writeE 0 nob, wiped D 1, false) else if (wiped D 1).writeE 1 nob ≠ 0 then ((wiped D 1).writeE 1 nob, wiped D 2, false) else if (wiped D 2).flushE ≠ 0 then ((wiped D 2).flushE, (wiped D 2).flush, false)
      else if (wiped D 2).flush.writeE 1 (superB 1 0 D.n.toNat note) ≠ 0 then ((wiped D 2).flush.writeE 1 (superB 1 0 D.n.toNat note), (wiped D 2).flush.write 1 (superB 1 0 D.n.toNat note), false) else (((wiped D 2).flush.write 1 (superB 1 0 D.n.toNat note)).flushE, ((wiped D 2).flush.write 1 (superB 1 0 D.n.toNat note)).flush, true)) := by rw [HR.out, formatOut, if_neg hn]; exact rfl
  clear HR
  have hn2 : note.size ≤ 3900 := by omega
  have hz : (D.n == 0) = false := by simp; omega
  clear hn
  go_enter Tryz.func35, Tryz.ntmps35
  go_wp2_with (first
    | (go_at_call 53; refine (size_any w b bk bd D H.out.1).mono ?_; rintro e w1 ⟨rfl, rfl⟩)
    | fail)
  have hst := fresh_at w b bk bd D note H.out.1 H.out.2
  have hbl : Below w.heap.size w (((w.alloc (.map #[] 0)).alloc (.map #[] 0)).alloc (.cells #[.int .i64 1, .int .i64 0, .string note, .pointer (some ⟨b, 0, none⟩), .map (some w.heap.size), .map (some (w.heap.size + 1))] 97)) := (((Below.refl _ _).alloc (Nat.le_refl _) _).alloc (by simp) _).alloc (by simp; omega) _
  obtain ⟨q, hq⟩ : ∃ q, q = w.heap.size + 1 + 1 := ⟨_, rfl⟩
  have hov : Blk.Over w b bk bd (⟨q, b, bk, bd, w.heap.size, w.heap.size + 1, []⟩ : Blk) := ⟨rfl, rfl, rfl, by show w.heap.size ≤ q; omega, Nat.le_refl _, by show w.heap.size ≤ w.heap.size + 1; omega⟩
  rw [← hq] at hst ⊢
  generalize ((w.alloc (.map #[] 0)).alloc (.map #[] 0)).alloc (.cells #[.int .i64 1, .int .i64 0, .string note, .pointer (some ⟨b, 0, none⟩), .map (some w.heap.size), .map (some (w.heap.size + 1))] 97) = w1 at hst hbl ⊢
  have HO : Hid (Blk.Over w b bk bd (⟨q, b, bk, bd, w.heap.size, w.heap.size + 1, []⟩ : Blk)) := hov
  have H1 : Hid (StAt w1 (⟨q, b, bk, bd, w.heap.size, w.heap.size + 1, []⟩ : Blk) (StS.fresh note) D ∧ Below w.heap.size w w1) := ⟨hst, hbl⟩
  clear hst hbl hov hq
  go_loopw [24] (fun v wr => ∃ j : Nat, j ≤ 2 ∧ v = .int .i64 j ∧ Hid (StAt wr (⟨q, b, bk, bd, w.heap.size, w.heap.size + 1, []⟩ : Blk) (StS.fresh note) (wiped D j) ∧ Chg [b, bk, bd] w wr) ∧ Hid ((1 ≤ j → D.writeE 0 nob = 0) ∧ (2 ≤ j → (wiped D 1).writeE 1 nob = 0))) (fun v _ => 2 - (intOf v).toNat)
  case atStart => exact ⟨0, by omega, rfl, ⟨H1.out.1, Chg.of_below H1.out.2⟩, fun h => absurd h (by decide), fun h => absurd h (by decide)⟩
  case round =>
    obtain ⟨j, hj, rfl, HT, HE⟩ := hrel
    rcases (show j = 0 ∨ j = 1 ∨ j = 2 by omega) with rfl | rfl | rfl
    · obtain ⟨we, hwe⟩ : ∃ we, we = D.writeE 0 nob := ⟨_, rfl⟩
      have HR3 : Hid (we ≠ 0 → R = (we, wiped D 1, false)) := fun h => by rw [HR2.out, if_pos (by rw [← hwe]; exact h), hwe]
      have HWE : Hid (we = D.writeE 0 nob) := hwe
      clear hwe
      go_wp2_with (first
        | (go_at_call 61; refine (write_any wr b bk bd D 0 nob HT.out.1.dev).mono ?_; rintro e w3 ⟨rfl, hd3, hc3⟩; rw [← HWE.out]; have H3 : Hid (StAt w3 (⟨q, b, bk, bd, w.heap.size, w.heap.size + 1, []⟩ : Blk) (StS.fresh note) (wiped D 1) ∧ Chg [b, bk, bd] w w3) := ⟨HT.out.1.setDev hc3 hd3 (write_small HT.out.1.small _ _), HT.out.2.trans hc3⟩; clear hd3 hc3; have hwc : (we == 0) = true ∨ (we == 0) = false := by cases (we == 0) <;> simp)
        | fail)
      · rename_i hq
        have h0 : we ≠ 0 := by simpa using hq
        go_ret2
        rw [HR3.out h0]
        exact ⟨rfl, H3.out.1.dev, H3.out.1.small, H3.out.2⟩
      · rename_i hq
        have h0 : we = 0 := by simpa using hq
        go_roundw
        case rel => exact ⟨1, by omega, by go_num, H3.out, fun _ => by rw [← HWE.out, h0], fun h => absurd h (by decide)⟩
        case measure => simp [intOf]
    · obtain ⟨we, hwe⟩ : ∃ we, we = (wiped D 1).writeE 1 nob := ⟨_, rfl⟩
      have HR3 : Hid (we ≠ 0 → R = (we, wiped D 2, false)) := fun h => by rw [HR2.out, if_neg (by simp [HE.out.1 (by omega)]), if_pos (by rw [← hwe]; exact h), hwe]
      have HWE : Hid (we = (wiped D 1).writeE 1 nob) := hwe
      clear hwe
      go_wp2_with (first
        | (go_at_call 61; refine (write_any wr b bk bd (wiped D 1) 1 nob HT.out.1.dev).mono ?_; rintro e w3 ⟨rfl, hd3, hc3⟩; rw [← HWE.out]; have H3 : Hid (StAt w3 (⟨q, b, bk, bd, w.heap.size, w.heap.size + 1, []⟩ : Blk) (StS.fresh note) (wiped D 2) ∧ Chg [b, bk, bd] w w3) := ⟨HT.out.1.setDev hc3 hd3 (write_small HT.out.1.small _ _), HT.out.2.trans hc3⟩; clear hd3 hc3; have hwc : (we == 0) = true ∨ (we == 0) = false := by cases (we == 0) <;> simp)
        | fail)
      · rename_i hq
        have h0 : we ≠ 0 := by simpa using hq
        go_ret2
        rw [HR3.out h0]
        exact ⟨rfl, H3.out.1.dev, H3.out.1.small, H3.out.2⟩
      · rename_i hq
        have h0 : we = 0 := by simpa using hq
        go_roundw
        case rel => exact ⟨2, by omega, by go_num, H3.out, fun _ => HE.out.1 (by omega), fun _ => by rw [← HWE.out, h0]⟩
        case measure => simp [intOf]
    · obtain ⟨we, hwe⟩ : ∃ we, we = (wiped D 2).flushE := ⟨_, rfl⟩
      have HR3 : Hid (R = if we ≠ 0 then (we, (wiped D 2).flush, false) else if (wiped D 2).flush.writeE 1 (superB 1 0 D.n.toNat note) ≠ 0 then ((wiped D 2).flush.writeE 1 (superB 1 0 D.n.toNat note), ((wiped D 2).flush.write 1 (superB 1 0 D.n.toNat note)), false) else (((wiped D 2).flush.write 1 (superB 1 0 D.n.toNat note)).flushE, ((wiped D 2).flush.write 1 (superB 1 0 D.n.toNat note)).flush, true)) := by rw [HR2.out, if_neg (by simp [HE.out.1 (by omega)]), if_neg (by simp [HE.out.2 (by omega)]), hwe]; exact rfl
      have HWE : Hid (we = (wiped D 2).flushE) := hwe
      clear hwe HR2
      go_wp2_with (first
        | (go_at_call 65; refine (flush_any wr b bk bd (wiped D 2) HT.out.1.dev).mono ?_; rintro e w3 ⟨rfl, hd3, hc3⟩; rw [← HWE.out]; have H3 : Hid (StAt w3 (⟨q, b, bk, bd, w.heap.size, w.heap.size + 1, []⟩ : Blk) (StS.fresh note) (wiped D 2).flush ∧ Chg [b, bk, bd] w w3) := ⟨HT.out.1.setDev hc3 hd3 (flush_small HT.out.1.small), HT.out.2.trans hc3⟩; clear hd3 hc3)
        | fail)
      · rename_i hq
        have h0 : we ≠ 0 := by simpa using hq
        go_ret2
        rw [HR3.out, if_pos h0]
        exact ⟨rfl, H3.out.1.dev, H3.out.1.small, H3.out.2⟩
      · have h0 : we = 0 := by simpa using (by assumption : (we != 0) = false)
        have HR4 : Hid (R = if (wiped D 2).flush.writeE 1 (superB 1 0 D.n.toNat note) ≠ 0 then ((wiped D 2).flush.writeE 1 (superB 1 0 D.n.toNat note), ((wiped D 2).flush.write 1 (superB 1 0 D.n.toNat note)), false) else (((wiped D 2).flush.write 1 (superB 1 0 D.n.toNat note)).flushE, ((wiped D 2).flush.write 1 (superB 1 0 D.n.toNat note)).flush, true)) := by rw [HR3.out, if_neg (by simp [h0])]; exact rfl
        clear HR3 h0
        have H3d : Hid (StAt w3.drew (⟨q, b, bk, bd, w.heap.size, w.heap.size + 1, []⟩ : Blk) (StS.fresh note) (wiped D 2).flush ∧ Chg [b, bk, bd] w w3.drew) := ⟨H3.out.1.drew, H3.out.2.drew⟩
        have HF : Hid (∀ (w' : World) (D' : DevS), StAt w' (⟨q, b, bk, bd, w.heap.size, w.heap.size + 1, []⟩ : Blk) (StS.fresh note) D' → (fun w' : World => w'.cell? ⟨q, 0, none⟩ = some (.int .i64 1) ∧ w'.cell? ⟨q, 1, none⟩ = some (.int .i64 0) ∧ w'.cell? ⟨q, 2, none⟩ = some (.string note)) w') := fun w' D' h1 => ⟨h1.cell.1, h1.cell.2.1, h1.cell.2.2.1⟩
        have hS0 : (fun w' : World => w'.cell? ⟨q, 0, none⟩ = some (.int .i64 1) ∧ w'.cell? ⟨q, 1, none⟩ = some (.int .i64 0) ∧ w'.cell? ⟨q, 2, none⟩ = some (.string note)) w3.drew := HF.out _ _ H3d.out.1
        have HDN : Hid (D.n.toNat = (wiped D 2).flush.n.toNat ∧ 0 ≤ (wiped D 2).flush.n ∧ (wiped D 2).flush.n ≤ 4096) := by have e : (wiped D 2).flush.n = D.n := (flush_n _).trans (wiped_n D 2); exact ⟨by rw [e], by rw [e]; omega, by rw [e]; omega⟩
        clear H3
        refine wp_region_held_drew (S := (fun w' : World => w'.cell? ⟨q, 0, none⟩ = some (.int .i64 1) ∧ w'.cell? ⟨q, 1, none⟩ = some (.int .i64 0) ∧ w'.cell? ⟨q, 2, none⟩ = some (.string note))) (by kernel_rfl) hS0 (fun hHeld => ?_)
        clear hHeld
        refine Pair.take (i := 0) (fuel := 9) (d := 39) (v := ?_) (by kernel_rfl) rfl rfl (by kernel_rfl) (by kernel_rfl) (by kernel_rfl) (fun _ _ _ h => h) (Or.inl ⟨by rfl, ?_⟩) hS0 ?_
        rotate_left 1
        · (intro w' hSw; obtain ⟨f0, f1, f2⟩ := hSw; go_simp; try with_reducible rfl)
        try simp only [Act.put, List.setIfInBounds_toArray, List.set_cons_zero, List.set_cons_succ]
        refine Pair.take (i := 1) (fuel := 8) (d := 40) (v := ?_) (by kernel_rfl) rfl rfl (by kernel_rfl) (by kernel_rfl) (by kernel_rfl) (fun _ _ _ h => h) (Or.inl ⟨by rfl, ?_⟩) hS0 ?_
        rotate_left 1
        · (intro w' hSw; obtain ⟨f0, f1, f2⟩ := hSw; go_simp; try with_reducible rfl)
        try simp only [Act.put, List.setIfInBounds_toArray, List.set_cons_zero, List.set_cons_succ]
        refine Pair.take (i := 2) (fuel := 7) (d := 41) (v := ?_) (by kernel_rfl) rfl rfl (by kernel_rfl) (by kernel_rfl) (by kernel_rfl) (fun _ _ _ h => h) (Or.inl ⟨by rfl, ?_⟩) hS0 ?_
        rotate_left 1
        · (intro w' hSw; obtain ⟨f0, f1, f2⟩ := hSw; go_simp; try with_reducible rfl)
        try simp only [Act.put, List.setIfInBounds_toArray, List.set_cons_zero, List.set_cons_succ]
        refine Pair.take (i := 3) (fuel := 6) (d := 42) (v := ?_) (by kernel_rfl) rfl rfl (by kernel_rfl) (by kernel_rfl) (by kernel_rfl) (fun _ _ _ h => h) (Or.inl ⟨by rfl, ?_⟩) hS0 ?_
        rotate_left 1
        · (intro w' hSw; obtain ⟨f0, f1, f2⟩ := hSw; go_simp; try with_reducible rfl)
        try simp only [Act.put, List.setIfInBounds_toArray, List.set_cons_zero, List.set_cons_succ]
        refine Pair.take (i := 4) (fuel := 5) (d := 43) (v := ?_) (by kernel_rfl) rfl rfl (by kernel_rfl) (by kernel_rfl) (by kernel_rfl) (fun _ _ _ h => h) (Or.inl ⟨by rfl, ?_⟩) hS0 ?_
        rotate_left 1
        · (intro w' hSw; obtain ⟨f0, f1, f2⟩ := hSw; go_simp; try with_reducible rfl)
        try simp only [Act.put, List.setIfInBounds_toArray, List.set_cons_zero, List.set_cons_succ]
        refine Pair.take (i := 5) (fuel := 4) (d := 44) (v := ?_) (by kernel_rfl) rfl rfl (by kernel_rfl) (by kernel_rfl) (by kernel_rfl) (fun _ _ _ h => h) (Or.inl ⟨by rfl, ?_⟩) hS0 ?_
        rotate_left 1
        · (intro w' hSw; obtain ⟨f0, f1, f2⟩ := hSw; go_simp; try with_reducible rfl)
        try simp only [Act.put, List.setIfInBounds_toArray, List.set_cons_zero, List.set_cons_succ]
        refine Pair.call1 (i := 6) (fuel := 3) (by kernel_rfl) rfl (by kernel_rfl) (fun K hK => ?_)
        go_simp
        go_at_call 53
        refine (size_any w3.drew b bk bd (wiped D 2).flush H3d.out.1.dev).mono ?_
        rintro e w4 ⟨rfl, rfl⟩
        refine hK.out _ _ hS0 (fun hHeld => ?_)
        clear hHeld hK K
        try simp only [Act.put, List.setIfInBounds_toArray, List.set_cons_zero, List.set_cons_succ]
        refine Pair.call1 (i := 7) (fuel := 2) (by kernel_rfl) rfl (by kernel_rfl) (fun K hK => ?_)
        go_simp
        go_at_call 66
        refine (bytes_k 1 0 (wiped D 2).flush.n note w3.drew (by omega) (by omega) (by omega) (by omega) HDN.out.2.1 (by have := HDN.out.2.2; omega) (by omega)).mono ?_
        rintro e w4 ⟨rfl, hb4⟩
        have H4 : Hid (StAt w4 (⟨q, b, bk, bd, w.heap.size, w.heap.size + 1, []⟩ : Blk) (StS.fresh note) (wiped D 2).flush ∧ Chg [b, bk, bd] w w4) := ⟨H3d.out.1.on hb4, H3d.out.2.trans (Chg.of_below hb4)⟩
        clear hb4
        rw [← HDN.out.1]
        refine hK.out _ _ (HF.out _ _ H4.out.1) (fun hHeld => ?_)
        clear hHeld hK K
        try simp only [Act.put, List.setIfInBounds_toArray, List.set_cons_zero, List.set_cons_succ]
        refine Pair.call1 (i := 8) (fuel := 1) (by kernel_rfl) rfl (by kernel_rfl) (fun K hK => ?_)
        go_simp
        go_at_call 61
        refine (write_any w4 b bk bd (wiped D 2).flush 1 (superB 1 0 D.n.toNat note) H4.out.1.dev).mono ?_
        rintro e w5 ⟨rfl, hd5, hc5⟩
        have H5 : Hid (StAt w5 (⟨q, b, bk, bd, w.heap.size, w.heap.size + 1, []⟩ : Blk) (StS.fresh note) ((wiped D 2).flush.write 1 (superB 1 0 D.n.toNat note)) ∧ Chg [b, bk, bd] w w5) := ⟨H4.out.1.setDev hc5 hd5 (write_small H4.out.1.small _ _), H4.out.2.trans hc5⟩
        clear hd5 hc5
        refine hK.out _ _ (HF.out _ _ H5.out.1) (fun hHeld => ?_)
        clear hHeld hK K
        try simp only [Act.put, List.setIfInBounds_toArray, List.set_cons_zero, List.set_cons_succ]
        refine Pair.take (i := 9) (fuel := 0) (d := 10) (v := ?_) (by kernel_rfl) rfl rfl (by kernel_rfl) (by kernel_rfl) (by kernel_rfl) (fun _ _ _ h => h) (Or.inl ⟨by rfl, ?_⟩) (HF.out _ _ H5.out.1) ?_
        rotate_left 1
        · (intro w' hSw; obtain ⟨f0, f1, f2⟩ := hSw; go_simp; try with_reducible rfl)
        try simp only [Act.put, List.setIfInBounds_toArray, List.set_cons_zero, List.set_cons_succ]
        refine wpAnyH_done (by kernel_rfl) ?_ _
        clear H4 H3d hS0
        obtain ⟨D2, hD2⟩ : ∃ D2, D2 = ((wiped D 2).flush.write 1 (superB 1 0 D.n.toNat note)) := ⟨_, rfl⟩
        obtain ⟨we2, hwe⟩ : ∃ we2, we2 = (wiped D 2).flush.writeE 1 (superB 1 0 D.n.toNat note) := ⟨_, rfl⟩
        have HR5 : Hid (R = if we2 ≠ 0 then (we2, D2, false) else (D2.flushE, D2.flush, true)) := by rw [HR4.out, hwe, hD2]; exact rfl
        rw [← hD2] at H5
        rw [← hwe]
        clear hD2 hwe HR4
        cases hwb : (we2 == 0) with
        | false =>
          have hf : we2 ≠ 0 := by simpa using hwb
          have HR6 : Hid (R = (we2, D2, false)) := by rw [HR5.out, if_pos hf]; exact rfl
          clear HR5 hf
          go_wp2
          go_ret2
          rw [HR6.out]
          exact ⟨rfl, H5.out.1.dev, H5.out.1.small, H5.out.2⟩
        | true =>
          have hf : we2 = 0 := by simpa using hwb
          subst hf
          have HR6 : Hid (R = (D2.flushE, D2.flush, true)) := by rw [HR5.out, if_neg (by simp)]; exact rfl
          clear HR5 hwb
          go_wp2_with (first
            | (go_at_call 65; refine (flush_any w5 b bk bd D2 H5.out.1.dev).mono ?_; rintro e w6 ⟨rfl, hd6, hc6⟩; have H6 : Hid (StAt w6 (⟨q, b, bk, bd, w.heap.size, w.heap.size + 1, []⟩ : Blk) (StS.fresh note) D2.flush ∧ Chg [b, bk, bd] w w6) := ⟨H5.out.1.setDev hc6 hd6 (flush_small H5.out.1.small), H5.out.2.trans hc6⟩; clear hd6 hc6)
            | fail)
          go_ret2
          rw [HR6.out]
          exact ⟨_, HO.out, rfl, H6.out.1, H6.out.2⟩
end Go.Proofs.YtadmecjdihfmeaaGreat.Sto
