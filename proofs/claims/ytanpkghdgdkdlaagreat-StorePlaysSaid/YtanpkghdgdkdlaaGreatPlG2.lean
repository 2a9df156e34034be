/- RefBegins RefBlockP RefBlock: several texts of one proof, laid as one file (a claim has at most 60 files). No condition. -/
import Derived.Test.YtanpkghdgdkdlaaGreatBegins
import Derived.Test.YtanpkghdgdkdlaaGreatPlG1
import Derived.Deep.RegionHeld3
import Derived.Deep.RegionLaw
/- Layer 6, the reference: the beginning that bytes tell. -/
namespace Go.Proofs.YtanpkghdgdkdlaaGreat.Sto
set_option linter.unusedVariables false
set_option linter.unusedSimpArgs false
set_option maxRecDepth 100000
open Go.RowKit Go.Lib Go.Proofs.YtanpkghdgdkdlaaGreat.Mem Go.Proofs.YtanpkghdgdkdlaaGreat.Oct

/-! ### plain -/
/-- what the reference reads of a beginning: the kind, three numbers, the note, and how looking ended -/
def rdK (b : ByteArray) : ByteArray × Except Int ByteArray := rawS 1 (.ok b)
def rdG (b : ByteArray) : Nat × Except Int ByteArray := numS 6 (rdK b).2
def rdR (b : ByteArray) : Nat × Except Int ByteArray := numS 4 (rdG b).2
def rdZ (b : ByteArray) : Nat × Except Int ByteArray := numS 4 (rdR b).2
def rdN (b : ByteArray) : ByteArray × Except Int ByteArray := textS 3900 (rdZ b).2
def rdGood (b : ByteArray) (n : Int) : Prop := endE (rdN b).2 = 0 ∧ (rdK b).1 = ⟨#[83]⟩ ∧ ((rdZ b).1 : Int) = n ∧ 1 ≤ ((rdG b).1 : Int) ∧ ((rdG b).1 : Int) ≤ 1099511627776 ∧ ((rdR b).1 : Int) ≠ 1 ∧ ((rdR b).1 : Int) < n
theorem rawP_err {n : Int} {s : ByteArray} {why : Int} (h : rawP n s = .error why) : why ≠ 0 := by
  unfold rawP at h
  split at h
  · cases h
  · cases h; decide
theorem kind_eq (k : ByteArray) : (k.toList == [83]) = true ↔ k = ⟨#[83]⟩ := by
  rw [beq_iff_eq, ByteArray.toList_eq]
  constructor
  · intro h
    apply ByteArray.ext
    apply Array.toList_inj.1
    rw [h]
  · rintro rfl
    rfl
instance (b : ByteArray) (n : Int) : Decidable (rdGood b n) := by unfold rdGood; exact inferInstance
theorem rd_law (s b : ByteArray) (n : Int) (hn : 2 ≤ n) (ho : openP s = some b) : beginsP s n = if rdGood b n then some ((rdG b).1, (rdR b).1, (rdN b).1) else none := by
  have e1 : rdK b = rawS 1 (.ok b) := rfl
  have e2 : rdG b = numS 6 (rdK b).2 := rfl
  have e3 : rdR b = numS 4 (rdG b).2 := rfl
  have e4 : rdZ b = numS 4 (rdR b).2 := rfl
  have e5 : rdN b = textS 3900 (rdZ b).2 := rfl
  unfold beginsP
  rw [ho]
  dsimp only
  unfold beginsR
  obtain ⟨x1, h1⟩ : ∃ x, rawP 1 b = x := ⟨_, rfl⟩
  rw [h1]
  cases x1 with
  | error e =>
    have hne := rawP_err h1
    have hE : endE (rdN b).2 = e := by rw [e5, e4, e3, e2, e1]; simp [rawS, h1, numS, textS, endE]
    rw [if_neg (fun h => hne (hE.symm.trans h.1))]
  | ok x =>
    obtain ⟨k, s1⟩ := x
    have f1 : rdK b = (k, .ok s1) := by rw [e1]; simp [rawS, h1]
    rw [f1] at e2
    dsimp only
    by_cases hk : (k.toList == [83]) = true
    · rw [if_pos hk]
      have hk2 := (kind_eq k).1 hk
      obtain ⟨x2, h2⟩ : ∃ x, numP 6 s1 = x := ⟨_, rfl⟩
      rw [h2]
      cases x2 with
      | error e =>
        have hne := numP_err h2
        have hE : endE (rdN b).2 = e := by rw [e5, e4, e3, e2]; simp [h2, numS, textS, endE]
        rw [if_neg (fun h => hne (hE.symm.trans h.1))]
      | ok x =>
        obtain ⟨g, s2⟩ := x
        have f2 : rdG b = (g, .ok s2) := by rw [e2]; simp [numS, h2]
        rw [f2] at e3
        dsimp only
        obtain ⟨x3, h3⟩ : ∃ x, numP 4 s2 = x := ⟨_, rfl⟩
        rw [h3]
        cases x3 with
        | error e =>
          have hne := numP_err h3
          have hE : endE (rdN b).2 = e := by rw [e5, e4, e3]; simp [h3, numS, textS, endE]
          rw [if_neg (fun h => hne (hE.symm.trans h.1))]
        | ok x =>
          obtain ⟨r, s3⟩ := x
          have f3 : rdR b = (r, .ok s3) := by rw [e3]; simp [numS, h3]
          rw [f3] at e4
          dsimp only
          obtain ⟨x4, h4⟩ : ∃ x, numP 4 s3 = x := ⟨_, rfl⟩
          rw [h4]
          cases x4 with
          | error e =>
            have hne := numP_err h4
            have hE : endE (rdN b).2 = e := by rw [e5, e4]; simp [h4, numS, textS, endE]
            rw [if_neg (fun h => hne (hE.symm.trans h.1))]
          | ok x =>
            obtain ⟨z, s4⟩ := x
            have f4 : rdZ b = (z, .ok s4) := by rw [e4]; simp [numS, h4]
            rw [f4] at e5
            dsimp only
            have hbad : badSuper n (g : Int) (r : Int) (z : Int) = false ↔ ((z : Int) = n ∧ 1 ≤ (g : Int) ∧ (g : Int) ≤ 1099511627776 ∧ (r : Int) ≠ 1 ∧ (r : Int) < n) := by
              unfold badSuper
              simp
              omega
            by_cases hb : badSuper n (g : Int) (r : Int) (z : Int) = true
            · rw [if_pos hb, if_neg]
              intro h
              unfold rdGood at h
              rw [f2, f3, f4] at h
              obtain ⟨_, _, g1, g2, g3, g4, g5⟩ := h
              have := hbad.2 ⟨g1, g2, g3, g4, g5⟩
              rw [this] at hb
              cases hb
            · rw [if_neg hb]
              have hb2 := hbad.1 (by simpa using hb)
              obtain ⟨x5, h5⟩ : ∃ x, textP 3900 s4 = x := ⟨_, rfl⟩
              rw [h5]
              cases x5 with
              | error e =>
                have hne := textP_err h5
                have hE : endE (rdN b).2 = e := by rw [e5]; simp [h5, textS, endE]
                rw [if_neg (fun h => hne (hE.symm.trans h.1))]
              | ok x =>
                obtain ⟨nt, s5⟩ := x
                have f5 : rdN b = (nt, .ok s5) := by rw [e5]; simp [textS, h5]
                dsimp only
                cases he : s5.toList.isEmpty with
                | true =>
                  rw [if_pos rfl, if_pos (show rdGood b n from by unfold rdGood; rw [f1, f2, f3, f4, f5]; exact ⟨by simp [endE, he], hk2, hb2⟩), f2, f3, f5]
                | false =>
                  rw [if_neg (by simp), if_neg]
                  intro h
                  have h6 := h.1
                  rw [f5] at h6
                  simp [endE, he] at h6
    · rw [if_neg hk, if_neg]
      intro h
      have h7 := h.2.1
      rw [f1] at h7
      exact hk ((kind_eq k).2 h7)
/-! ### the walk -/
theorem rcopen_any (s : ByteArray) (w : World) (hs : s.size ≤ 140737488351232) :
    Calls Tryz.prog 97 #[.string s] w fun e w' => ∃ b ok, e = .returned (.tuple #[.string b, .bool ok]) ∧ openP s = (if ok = true then some b else none) ∧ b.size ≤ s.size ∧ Below w.heap.size w w' := by
  by_cases h : s.size < 8
  · refine (Crc.ropen_short s w h).mono ?_
    rintro e w' ⟨rfl, rfl⟩
    exact ⟨_, _, rfl, by simp [openP, h], Nat.zero_le _, Below.refl _ _⟩
  · refine (Crc.ropen_long s w hs (by omega)).mono ?_
    rintro e w' ⟨rfl, hb⟩
    exact ⟨_, _, rfl, by simp [openP, h], by simp, hb⟩
/-- what Begins hands back -/
def begR (s : ByteArray) (n : Int) : (Nat × Nat × ByteArray) × Bool := match beginsP s n with | some x => (x, true) | none => ((0, 0, ⟨#[]⟩), false)
structure Rb (w : World) (eb bx : Nat) (R : Except Int ByteArray) (g r : Int) (nt : ByteArray) (w' : World) : Prop where
  res : w'.heap[w.heap.size]? = some (.cells #[.int .i64 0, .int .i64 0, .string ⟨#[]⟩] 89 (0, 0))
  eye : REyeR w' eb R
  x : w'.heap[bx]? = some (.cells #[.int .i64 g, .int .i64 r, .string nt] 89 (0, 0))
  below : Below w.heap.size w w'
  e : w.heap.size < eb
  b : eb < bx
theorem Rb.eyed {w : World} {eb bx : Nat} {R R' : Except Int ByteArray} {g r : Int} {nt : ByteArray} {w' w'' : World} (h : Rb w eb bx R g r nt w') (he : REyeR w'' eb R') (hc : Chg [eb] w' w'') : Rb w eb bx R' g r nt w'' :=
  ⟨(hc.block _ (heap_lt h.res) (by have := h.e; simp; omega)).trans h.res, he, (hc.block _ (heap_lt h.x) (by have := h.b; simp; omega)).trans h.x, h.below.trans (hc.below h.below.size (by have := h.e; simp; omega) |>.mono (Nat.le_refl _)), h.e, h.b⟩
theorem REyeR.lt {w : World} {eb : Nat} {R : Except Int ByteArray} (h : REyeR w eb R) : eb < w.heap.size := by
  obtain ⟨s, a, h⟩ := h
  cases R with
  | ok r => exact heap_lt h.1.is
  | error e => exact heap_lt (REye.is h)
theorem Rb.cells {w : World} {eb bx : Nat} {R : Except Int ByteArray} {g r : Int} {nt : ByteArray} {w' : World} (h : Rb w eb bx R g r nt w') :
    w'.cell? ⟨bx, 0, none⟩ = some (.int .i64 g) ∧ w'.cell? ⟨bx, 1, none⟩ = some (.int .i64 r) ∧ w'.cell? ⟨bx, 2, none⟩ = some (.string nt) ∧ (∀ j, w'.frozen? ⟨bx, j, none⟩ = false) ∧
    w'.cell? ⟨w.heap.size, 0, none⟩ = some (.int .i64 0) ∧ w'.cell? ⟨w.heap.size, 1, none⟩ = some (.int .i64 0) ∧ w'.cell? ⟨w.heap.size, 2, none⟩ = some (.string ⟨#[]⟩) ∧ (∀ j, w'.frozen? ⟨w.heap.size, j, none⟩ = false) :=
  ⟨cell_at h.x 0, cell_at h.x 1, cell_at h.x 2, fun j => frozen_at h.x j, cell_at h.res 0, cell_at h.res 1, cell_at h.res 2, fun j => frozen_at h.res j⟩
theorem Rb.set {w : World} {eb bx : Nat} {R : Except Int ByteArray} {g r g' r' : Int} {nt nt' : ByteArray} {w' : World} (h : Rb w eb bx R g r nt w') (j : Nat) (v : Value) (hj : #[Value.int .i64 g, .int .i64 r, .string nt].setIfInBounds j v = #[Value.int .i64 g', .int .i64 r', .string nt']) : Rb w eb bx R g' r' nt' (w'.setCell ⟨bx, j, none⟩ v) :=
  ⟨(heap_set_other ⟨bx, j, none⟩ _ (by have := h.e; have := h.b; show w.heap.size ≠ bx; omega)).trans h.res, by
    obtain ⟨s, a, he⟩ := h.eye
    cases R with
    | ok r => exact ⟨s, a, ⟨(heap_set_other ⟨bx, j, none⟩ _ (by have := h.b; show eb ≠ bx; omega)).trans he.1.is, he.1.fits, he.1.small⟩, he.2⟩
    | error e => exact ⟨s, a, ⟨(heap_set_other ⟨bx, j, none⟩ _ (by have := h.b; show eb ≠ bx; omega)).trans (REye.is he), REye.fits he, REye.small he⟩⟩, by rw [heap_set_at h.x j v, hj], h.below.setCell (by have := h.e; have := h.b; show w.heap.size ≤ bx; omega) _, h.e, h.b⟩
structure Rc (w : World) (bx : Nat) (g r : Int) (nt : ByteArray) (w' : World) : Prop where
  res : w'.heap[w.heap.size]? = some (.cells #[.int .i64 0, .int .i64 0, .string ⟨#[]⟩] 89 (0, 0))
  x : w'.heap[bx]? = some (.cells #[.int .i64 g, .int .i64 r, .string nt] 89 (0, 0))
  below : Below w.heap.size w w'
theorem Rc.cells {w : World} {bx : Nat} {g r : Int} {nt : ByteArray} {w' : World} (h : Rc w bx g r nt w') :
    w'.cell? ⟨bx, 0, none⟩ = some (.int .i64 g) ∧ w'.cell? ⟨bx, 1, none⟩ = some (.int .i64 r) ∧ w'.cell? ⟨bx, 2, none⟩ = some (.string nt) ∧ (∀ j, w'.frozen? ⟨bx, j, none⟩ = false) ∧
    w'.cell? ⟨w.heap.size, 0, none⟩ = some (.int .i64 0) ∧ w'.cell? ⟨w.heap.size, 1, none⟩ = some (.int .i64 0) ∧ w'.cell? ⟨w.heap.size, 2, none⟩ = some (.string ⟨#[]⟩) ∧ (∀ j, w'.frozen? ⟨w.heap.size, j, none⟩ = false) :=
  ⟨cell_at h.x 0, cell_at h.x 1, cell_at h.x 2, fun j => frozen_at h.x j, cell_at h.res 0, cell_at h.res 1, cell_at h.res 2, fun j => frozen_at h.res j⟩
theorem Rb.ended {w : World} {eb bx : Nat} {R : Except Int ByteArray} {g r : Int} {nt : ByteArray} {w' w'' : World} (h : Rb w eb bx R g r nt w') (hc : Chg [eb] w' w'') : Rc w bx g r nt w'' :=
  ⟨(hc.block _ (heap_lt h.res) (by have := h.e; simp; omega)).trans h.res, (hc.block _ (heap_lt h.x) (by have := h.b; simp; omega)).trans h.x, h.below.trans (hc.below h.below.size (by have := h.e; simp; omega))⟩
set_option maxHeartbeats 8000000 in
theorem rbegins_any (s : ByteArray) (n : Int) (w : World) (hs : s.size ≤ 140737488351232) (hn : 2 ≤ n) :
    Calls Tryz.prog 51 #[.string s, .int .i64 n] w fun e w' => e = .returned (.tuple #[.agg #[.int .i64 ((begR s n).1.1 : Nat), .int .i64 ((begR s n).1.2.1 : Nat), .string (begR s n).1.2.2], .bool (begR s n).2]) ∧ Below w.heap.size w w' := by
  go_enter Tryz.func51, Tryz.ntmps51
  go_wp2_with fail
  have hx0 : (w.alloc (.cells #[.int .i64 0, .int .i64 0, .string ⟨#[]⟩] 89)).heap[w.heap.size]? = some (.cells #[.int .i64 0, .int .i64 0, .string ⟨#[]⟩] 89 (0, 0)) := heap_alloc_last _ _
  have hb0 : Below w.heap.size w (w.alloc (.cells #[.int .i64 0, .int .i64 0, .string ⟨#[]⟩] 89)) := (Below.refl _ _).alloc (Nat.le_refl _) _
  generalize w.alloc (.cells #[.int .i64 0, .int .i64 0, .string ⟨#[]⟩] 89) = w1 at hx0 hb0 ⊢
  refine (rcopen_any s w1 hs).mono ?_
  rintro e w2 ⟨b, ok, rfl, hop, hsz, hb2⟩
  have HO : Hid (openP s = (if ok = true then some b else none) ∧ b.size ≤ 140737488351232) := ⟨hop, by omega⟩
  have H2 : Hid (w2.heap[w.heap.size]? = some (.cells #[.int .i64 0, .int .i64 0, .string ⟨#[]⟩] 89 (0, 0)) ∧ Below w.heap.size w w2) := ⟨(hb2.block _ (heap_lt hx0)).trans hx0, hb0.trans (hb2.mono hb0.size)⟩
  clear hx0 hb0 hop hsz hb2
  go_wp2_with fail
  have hr3 : (w2.alloc (.cells #[.string b, .int .i64 0, .bool false, .int .i64 0] 143)).heap[w.heap.size]? = some (.cells #[.int .i64 0, .int .i64 0, .string ⟨#[]⟩] 89 (0, 0)) := (heap_alloc_other _ (heap_lt H2.out.1)).trans H2.out.1
  have he3 : REyeR (w2.alloc (.cells #[.string b, .int .i64 0, .bool false, .int .i64 0] 143)) w2.heap.size (.ok b) := ⟨b, 0, ⟨heap_alloc_last _ _, Nat.zero_le _, HO.out.2⟩, by apply ByteArray.ext; simp⟩
  have hb3 : Below w.heap.size w (w2.alloc (.cells #[.string b, .int .i64 0, .bool false, .int .i64 0] 143)) := H2.out.2.alloc H2.out.2.size _
  have hlt3 := heap_lt H2.out.1
  obtain ⟨eb, heb⟩ : ∃ eb, eb = w2.heap.size := ⟨_, rfl⟩
  rw [← heb] at he3 hlt3 ⊢
  clear heb
  generalize w2.alloc (.cells #[.string b, .int .i64 0, .bool false, .int .i64 0] 143) = w3 at hr3 he3 hb3 ⊢
  have H3 : Hid (w3.heap[w.heap.size]? = some (.cells #[.int .i64 0, .int .i64 0, .string ⟨#[]⟩] 89 (0, 0)) ∧ REyeR w3 eb (.ok b) ∧ Below w.heap.size w w3 ∧ w.heap.size < eb) := ⟨hr3, he3, hb3, hlt3⟩
  clear hr3 he3 hb3 hlt3 H2
  refine (rraw_any w3 eb (.ok b) 1 H3.out.2.1).mono ?_
  rintro e w4 ⟨rfl, he, hc⟩
  have H4 : Hid (w4.heap[w.heap.size]? = some (.cells #[.int .i64 0, .int .i64 0, .string ⟨#[]⟩] 89 (0, 0)) ∧ REyeR w4 eb (rdK b).2 ∧ Below w.heap.size w w4 ∧ w.heap.size < eb) := ⟨(hc.block _ (heap_lt H3.out.1) (by have := H3.out.2.2.2; simp; omega)).trans H3.out.1, he, H3.out.2.2.1.trans (hc.below H3.out.2.2.1.size (by have := H3.out.2.2.2; simp; omega)), H3.out.2.2.2⟩
  rw [show (rawS 1 (.ok b)).1 = (rdK b).1 from rfl]
  clear he hc H3
  go_wp2_with fail
  refine (rnum_any w4 eb (rdK b).2 6 6 rfl (by omega) (by omega) H4.out.2.1).mono ?_
  rintro e w5 ⟨rfl, he, hc⟩
  have H5 : Hid (w5.heap[w.heap.size]? = some (.cells #[.int .i64 0, .int .i64 0, .string ⟨#[]⟩] 89 (0, 0)) ∧ REyeR w5 eb (rdG b).2 ∧ Below w.heap.size w w5 ∧ w.heap.size < eb) := ⟨(hc.block _ (heap_lt H4.out.1) (by have := H4.out.2.2.2; simp; omega)).trans H4.out.1, he, H4.out.2.2.1.trans (hc.below H4.out.2.2.1.size (by have := H4.out.2.2.2; simp; omega)), H4.out.2.2.2⟩
  rw [show (numS 6 (rdK b).2).1 = (rdG b).1 from rfl]
  clear he hc H4
  go_wp2_with fail
  obtain ⟨bx, hbx⟩ : ∃ bx, bx = w5.heap.size := ⟨_, rfl⟩
  have A6 : Hid (Rb w eb bx (rdG b).2 ((rdG b).1 : Nat) 0 ⟨#[]⟩ (w5.alloc (.cells #[.int .i64 ((rdG b).1 : Nat), .int .i64 0, .string ⟨#[]⟩] 89))) := by
    refine ⟨(heap_alloc_other _ (heap_lt H5.out.1)).trans H5.out.1, H5.out.2.1.on ((Below.refl _ _).alloc (Nat.le_refl _) _), by rw [hbx]; exact heap_alloc_last _ _, H5.out.2.2.1.alloc H5.out.2.2.1.size _, H5.out.2.2.2, by rw [hbx]; exact REyeR.lt H5.out.2.1⟩
  rw [← hbx]
  clear H5 hbx
  generalize w5.alloc (.cells #[.int .i64 ((rdG b).1 : Nat), .int .i64 0, .string ⟨#[]⟩] 89) = w6 at A6 ⊢
  refine (rnum_any w6 eb (rdG b).2 4 4 rfl (by omega) (by omega) A6.out.eye).mono ?_
  rintro e w7 ⟨rfl, he, hc⟩
  have A7 : Hid (Rb w eb bx (rdR b).2 ((rdG b).1 : Nat) 0 ⟨#[]⟩ w7) := A6.out.eyed he hc
  rw [show (numS 4 (rdG b).2).1 = (rdR b).1 from rfl]
  clear he hc A6
  obtain ⟨x0, x1, x2, xf, c0, c1, c2, cf⟩ := A7.out.cells
  go_wp2_with fail
  have A8 : Hid (Rb w eb bx (rdR b).2 ((rdG b).1 : Nat) ((rdR b).1 : Nat) ⟨#[]⟩ (w7.setCell ⟨bx, 1, none⟩ (.int .i64 ((rdR b).1 : Nat)))) := A7.out.set 1 _ rfl
  clear A7 x0 x1 x2 xf c0 c1 c2 cf
  generalize w7.setCell ⟨bx, 1, none⟩ (.int .i64 ((rdR b).1 : Nat)) = w8 at A8 ⊢
  refine (rnum_any w8 eb (rdR b).2 4 4 rfl (by omega) (by omega) A8.out.eye).mono ?_
  rintro e w9 ⟨rfl, he, hc⟩
  have A9 : Hid (Rb w eb bx (rdZ b).2 ((rdG b).1 : Nat) ((rdR b).1 : Nat) ⟨#[]⟩ w9) := A8.out.eyed he hc
  rw [show (numS 4 (rdR b).2).1 = (rdZ b).1 from rfl]
  clear he hc A8
  go_wp2_with fail
  refine (rtext_any w9 eb (rdZ b).2 3900 3900 rfl A9.out.eye).mono ?_
  rintro e w10 ⟨rfl, he, hc⟩
  have A10 : Hid (Rb w eb bx (rdN b).2 ((rdG b).1 : Nat) ((rdR b).1 : Nat) ⟨#[]⟩ w10) := A9.out.eyed he hc
  rw [show (textS 3900 (rdZ b).2).1 = (rdN b).1 from rfl]
  clear he hc A9
  obtain ⟨x0, x1, x2, xf, c0, c1, c2, cf⟩ := A10.out.cells
  have A11 : Hid (Rb w eb bx (rdN b).2 ((rdG b).1 : Nat) ((rdR b).1 : Nat) (rdN b).1 (w10.setCell ⟨bx, 2, none⟩ (.string (rdN b).1))) := A10.out.set 2 _ rfl
  have hne : ¬ bx = w.heap.size := by have := A10.out.e; have := A10.out.b; omega
  have hne2 : ¬ w.heap.size = bx := by omega
  cases ok with
  | false =>
    have HB : Hid (begR s n = ((0, 0, ⟨#[]⟩), false)) := by
      show _ = _
      unfold begR beginsP
      rw [HO.out.1]
      rfl
    go_wp2_with fail
    have hbox := heap_set_at (heap_set_at (heap_set_at A11.out.res 0 (.int .i64 0)) 1 (.int .i64 0)) 2 (.string ⟨#[]⟩)
    refine bodyPost_ret (results_cell_tmp Tryz.results51 _ _ w.heap.size 89 #[.int .i64 0, .int .i64 0, .string ⟨#[]⟩] (0, 0) _ rfl hbox Tryz.underlying89 rfl (by kernel_rfl)) rfl ?_
    rw [HB.out]
    exact ⟨rfl, ((A11.out.below.setCell (Nat.le_refl _) _).setCell (Nat.le_refl _) _).setCell (Nat.le_refl _) _⟩
  | true =>
    have HG : Hid (beginsP s n = if rdGood b n then some ((rdG b).1, (rdR b).1, (rdN b).1) else none) := rd_law s b n hn HO.out.1
    go_wp2_with fail
    clear A10 x0 x1 x2 xf c0 c1 c2 cf hne hne2
    generalize w10.setCell ⟨bx, 2, none⟩ (.string (rdN b).1) = w11 at A11 ⊢
    refine (rend_any w11 eb (rdN b).2 A11.out.eye).mono ?_
    rintro e w12 ⟨rfl, hc⟩
    have A12 : Hid (Rc w bx ((rdG b).1 : Nat) ((rdR b).1 : Nat) (rdN b).1 w12) := A11.out.ended hc
    have hres := A11.out.e
    clear hc A11
    obtain ⟨x0, x1, x2, xf, c0, c1, c2, cf⟩ := A12.out.cells
    have HBad : Hid (¬ rdGood b n → begR s n = ((0, 0, ⟨#[]⟩), false)) := fun h => by
      unfold begR
      rw [HG.out, if_neg h]
    have HGood : Hid (rdGood b n → begR s n = (((rdG b).1, (rdR b).1, (rdN b).1), true)) := fun h => by
      unfold begR
      rw [HG.out, if_pos h]
    have hrg : rdGood b n ↔ (endE (rdN b).2 = 0 ∧ (rdK b).1 = ⟨#[83]⟩ ∧ ((rdZ b).1 : Int) = n ∧ 1 ≤ ((rdG b).1 : Int) ∧ ((rdG b).1 : Int) ≤ 1099511627776 ∧ ((rdR b).1 : Int) ≠ 1 ∧ ((rdR b).1 : Int) < n) := Iff.rfl
    have HRG : Hid _ := hrg
    clear HG hrg HO
    generalize rdGood b n = good at HBad HGood HRG
    generalize endE (rdN b).2 = err at HRG ⊢
    generalize (rdK b).1 = k at HRG ⊢
    generalize (rdZ b).1 = z at HRG ⊢
    generalize (rdG b).1 = g at HRG HGood A12 x0 ⊢
    generalize (rdR b).1 = r at HRG HGood A12 x1 ⊢
    generalize (rdN b).1 = nt at HGood A12 x2 ⊢
    by_cases hq0 : err = 0
    rotate_left 1
    · have HB : Hid (begR s n = ((0, 0, ⟨#[]⟩), false)) := HBad.out (fun hg => by have h := HRG.out.1 hg; exact hq0 h.1)
      have hd : (err == 0) = false := by simp [hq0]
      go_wp2_with fail
      have hbox := heap_set_at (heap_set_at (heap_set_at A12.out.res 0 (.int .i64 0)) 1 (.int .i64 0)) 2 (.string ⟨#[]⟩)
      refine bodyPost_ret (results_cell_tmp Tryz.results51 _ _ w.heap.size 89 #[.int .i64 0, .int .i64 0, .string ⟨#[]⟩] (0, 0) _ rfl hbox Tryz.underlying89 rfl (by kernel_rfl)) rfl ?_
      rw [HB.out]
      exact ⟨rfl, ((A12.out.below.setCell (Nat.le_refl _) _).setCell (Nat.le_refl _) _).setCell (Nat.le_refl _) _⟩
    subst hq0
    by_cases hq1 : k = ⟨#[83]⟩
    rotate_left 1
    · have HB : Hid (begR s n = ((0, 0, ⟨#[]⟩), false)) := HBad.out (fun hg => by have h := HRG.out.1 hg; exact hq1 h.2.1)
      have hd : ¬ k.toList = [83] := fun h => hq1 ((kind_eq k).1 (beq_iff_eq.2 h))
      have hd2 : (k.toList == [83]) = false := beq_eq_false_iff_ne.2 hd
      go_wp2_with fail
      have hbox := heap_set_at (heap_set_at (heap_set_at A12.out.res 0 (.int .i64 0)) 1 (.int .i64 0)) 2 (.string ⟨#[]⟩)
      refine bodyPost_ret (results_cell_tmp Tryz.results51 _ _ w.heap.size 89 #[.int .i64 0, .int .i64 0, .string ⟨#[]⟩] (0, 0) _ rfl hbox Tryz.underlying89 rfl (by kernel_rfl)) rfl ?_
      rw [HB.out]
      exact ⟨rfl, ((A12.out.below.setCell (Nat.le_refl _) _).setCell (Nat.le_refl _) _).setCell (Nat.le_refl _) _⟩
    have hk1 : k.toList = [83] := beq_iff_eq.1 ((kind_eq k).2 hq1)
    have HQ1 : Hid (k = ⟨#[83]⟩) := hq1
    clear hq1
    by_cases hq2 : (z : Int) = n
    rotate_left 1
    · have HB : Hid (begR s n = ((0, 0, ⟨#[]⟩), false)) := HBad.out (fun hg => by have h := HRG.out.1 hg; exact hq2 h.2.2.1)
      go_wp2_with fail
      have hbox := heap_set_at (heap_set_at (heap_set_at A12.out.res 0 (.int .i64 0)) 1 (.int .i64 0)) 2 (.string ⟨#[]⟩)
      refine bodyPost_ret (results_cell_tmp Tryz.results51 _ _ w.heap.size 89 #[.int .i64 0, .int .i64 0, .string ⟨#[]⟩] (0, 0) _ rfl hbox Tryz.underlying89 rfl (by kernel_rfl)) rfl ?_
      rw [HB.out]
      exact ⟨rfl, ((A12.out.below.setCell (Nat.le_refl _) _).setCell (Nat.le_refl _) _).setCell (Nat.le_refl _) _⟩
    by_cases hq3 : 1 ≤ (g : Int)
    rotate_left 1
    · have HB : Hid (begR s n = ((0, 0, ⟨#[]⟩), false)) := HBad.out (fun hg => by have h := HRG.out.1 hg; exact hq3 h.2.2.2.1)
      go_wp2_with fail
      have hbox := heap_set_at (heap_set_at (heap_set_at A12.out.res 0 (.int .i64 0)) 1 (.int .i64 0)) 2 (.string ⟨#[]⟩)
      refine bodyPost_ret (results_cell_tmp Tryz.results51 _ _ w.heap.size 89 #[.int .i64 0, .int .i64 0, .string ⟨#[]⟩] (0, 0) _ rfl hbox Tryz.underlying89 rfl (by kernel_rfl)) rfl ?_
      rw [HB.out]
      exact ⟨rfl, ((A12.out.below.setCell (Nat.le_refl _) _).setCell (Nat.le_refl _) _).setCell (Nat.le_refl _) _⟩
    by_cases hq4 : (g : Int) ≤ 1099511627776
    rotate_left 1
    · have HB : Hid (begR s n = ((0, 0, ⟨#[]⟩), false)) := HBad.out (fun hg => by have h := HRG.out.1 hg; exact hq4 h.2.2.2.2.1)
      go_wp2_with fail
      have hbox := heap_set_at (heap_set_at (heap_set_at A12.out.res 0 (.int .i64 0)) 1 (.int .i64 0)) 2 (.string ⟨#[]⟩)
      refine bodyPost_ret (results_cell_tmp Tryz.results51 _ _ w.heap.size 89 #[.int .i64 0, .int .i64 0, .string ⟨#[]⟩] (0, 0) _ rfl hbox Tryz.underlying89 rfl (by kernel_rfl)) rfl ?_
      rw [HB.out]
      exact ⟨rfl, ((A12.out.below.setCell (Nat.le_refl _) _).setCell (Nat.le_refl _) _).setCell (Nat.le_refl _) _⟩
    by_cases hq5 : (r : Int) ≠ 1
    rotate_left 1
    · have HB : Hid (begR s n = ((0, 0, ⟨#[]⟩), false)) := HBad.out (fun hg => by have h := HRG.out.1 hg; exact hq5 h.2.2.2.2.2.1)
      go_wp2_with fail
      have hbox := heap_set_at (heap_set_at (heap_set_at A12.out.res 0 (.int .i64 0)) 1 (.int .i64 0)) 2 (.string ⟨#[]⟩)
      refine bodyPost_ret (results_cell_tmp Tryz.results51 _ _ w.heap.size 89 #[.int .i64 0, .int .i64 0, .string ⟨#[]⟩] (0, 0) _ rfl hbox Tryz.underlying89 rfl (by kernel_rfl)) rfl ?_
      rw [HB.out]
      exact ⟨rfl, ((A12.out.below.setCell (Nat.le_refl _) _).setCell (Nat.le_refl _) _).setCell (Nat.le_refl _) _⟩
    by_cases hq6 : (r : Int) < n
    rotate_left 1
    · have HB : Hid (begR s n = ((0, 0, ⟨#[]⟩), false)) := HBad.out (fun hg => by have h := HRG.out.1 hg; exact hq6 h.2.2.2.2.2.2)
      go_wp2_with fail
      have hbox := heap_set_at (heap_set_at (heap_set_at A12.out.res 0 (.int .i64 0)) 1 (.int .i64 0)) 2 (.string ⟨#[]⟩)
      refine bodyPost_ret (results_cell_tmp Tryz.results51 _ _ w.heap.size 89 #[.int .i64 0, .int .i64 0, .string ⟨#[]⟩] (0, 0) _ rfl hbox Tryz.underlying89 rfl (by kernel_rfl)) rfl ?_
      rw [HB.out]
      exact ⟨rfl, ((A12.out.below.setCell (Nat.le_refl _) _).setCell (Nat.le_refl _) _).setCell (Nat.le_refl _) _⟩
    have HB : Hid (begR s n = ((g, r, nt), true)) := HGood.out (HRG.out.2 ⟨rfl, HQ1.out, hq2, hq3, hq4, hq5, hq6⟩)
    have d3 : decide ((g : Int) < 1) = false := decide_eq_false (by omega)
    have d4 : decide (1099511627776 < (g : Int)) = false := decide_eq_false (by omega)
    have d5 : ((r : Int) == 1) = false := by simpa using hq5
    have d6 : decide (n ≤ (r : Int)) = false := decide_eq_false (by omega)
    clear hq3 hq4 hq5 hq6
    go_wp2_with fail
    have hbox := heap_set_at (heap_set_at (heap_set_at A12.out.res 0 (.int .i64 (g : Nat))) 1 (.int .i64 (r : Nat))) 2 (.string nt)
    refine bodyPost_ret (results_cell_tmp Tryz.results51 _ _ w.heap.size 89 #[.int .i64 (g : Nat), .int .i64 (r : Nat), .string nt] (0, 0) _ rfl hbox Tryz.underlying89 rfl (by kernel_rfl)) rfl ?_
    rw [HB.out]
    exact ⟨rfl, ((A12.out.below.setCell (Nat.le_refl _) _).setCell (Nat.le_refl _) _).setCell (Nat.le_refl _) _⟩
end Go.Proofs.YtanpkghdgdkdlaaGreat.Sto

/- Layer 6, the reference: the block that bytes tell: the plain law. -/
namespace Go.Proofs.YtanpkghdgdkdlaaGreat.Sto
set_option linter.unusedVariables false
set_option linter.unusedSimpArgs false
open Go.RowKit Go.Lib Go.Proofs.YtanpkghdgdkdlaaGreat.Mem Go.Proofs.YtanpkghdgdkdlaaGreat.Oct

/-- so many numbers, whatever they are -/
def kidsS : Nat → List Int → Except Int ByteArray → List Int × Except Int ByteArray
  | 0, acc, R => (acc, R)
  | k + 1, acc, R => kidsS k (acc ++ [((numS 4 R).1 : Int)]) (numS 4 R).2
theorem kidsS_error (e : Int) : ∀ (k : Nat) (acc : List Int), (kidsS k acc (.error e)).2 = .error e
  | 0, _ => rfl
  | k + 1, acc => kidsS_error e k _
theorem kidsS_mem {x : Int} : ∀ (k : Nat) (acc : List Int) (R : Except Int ByteArray), x ∈ acc → x ∈ (kidsS k acc R).1
  | 0, _, _, h => h
  | k + 1, acc, R, h => kidsS_mem k _ _ (by simp [h])
theorem kidsS_snoc (k : Nat) : ∀ (acc : List Int) (R : Except Int ByteArray), kidsS (k + 1) acc R = ((kidsS k acc R).1 ++ [((numS 4 (kidsS k acc R).2).1 : Int)], (numS 4 (kidsS k acc R).2).2) := by
  induction k with
  | zero => intro acc R; rfl
  | succ k ih =>
    intro acc R
    show kidsS (k + 1) (acc ++ [((numS 4 R).1 : Int)]) (numS 4 R).2 = _
    rw [ih]
    rfl
theorem kids_ok (n : Int) : ∀ (k : Nat) (acc : List Int) (r : ByteArray) (l : List Int) (r' : ByteArray), kidsGo n k acc r = .ok (l, r') → kidsS k acc (.ok r) = (l, .ok r') ∧ ∀ x ∈ l, x ∈ acc ∨ (2 ≤ x ∧ x < n)
  | 0, acc, r, l, r', h => by
    cases h
    exact ⟨rfl, fun x hx => .inl hx⟩
  | k + 1, acc, r, l, r', h => by
    rw [kidsGo_succ] at h
    obtain ⟨y, hy⟩ : ∃ y, numP 4 r = y := ⟨_, rfl⟩
    rw [hy] at h
    cases y with
    | error e => cases h
    | ok y =>
      obtain ⟨x, s'⟩ := y
      dsimp only at h
      split at h
      · cases h
      · rename_i hx
        obtain ⟨h1, h2⟩ := kids_ok n k _ s' l r' h
        refine ⟨?_, fun z hz => ?_⟩
        · show kidsS k (acc ++ [((numS 4 (.ok r)).1 : Int)]) (numS 4 (.ok r)).2 = _
          have : numS 4 (.ok r) = (x, .ok s') := by simp [numS, hy]
          rw [this]
          exact h1
        · rcases h2 z hz with h3 | h3
          · rcases List.mem_append.1 h3 with h4 | h4
            · exact .inl h4
            · have : z = (x : Int) := by simpa using h4
              subst this
              exact .inr (by omega)
          · exact .inr h3
theorem kids_bad (n : Int) : ∀ (k : Nat) (acc : List Int) (r : ByteArray) (e : Int), kidsGo n k acc r = .error e → (∃ e', e' ≠ 0 ∧ (kidsS k acc (.ok r)).2 = .error e') ∨ ∃ x ∈ (kidsS k acc (.ok r)).1, ¬ (2 ≤ x ∧ x < n)
  | 0, acc, r, e, h => by cases h
  | k + 1, acc, r, e, h => by
    rw [kidsGo_succ] at h
    obtain ⟨y, hy⟩ : ∃ y, numP 4 r = y := ⟨_, rfl⟩
    rw [hy] at h
    cases y with
    | error e2 =>
      have hne := numP_err hy
      refine .inl ⟨e2, hne, ?_⟩
      show (kidsS k (acc ++ [((numS 4 (.ok r)).1 : Int)]) (numS 4 (.ok r)).2).2 = _
      have : numS 4 (.ok r) = (0, .error e2) := by simp [numS, hy]
      rw [this]
      exact kidsS_error e2 k _
    | ok y =>
      obtain ⟨x, s'⟩ := y
      have hn : numS 4 (.ok r) = (x, .ok s') := by simp [numS, hy]
      have hs : kidsS (k + 1) acc (.ok r) = kidsS k (acc ++ [(x : Int)]) (.ok s') := by
        show kidsS k (acc ++ [((numS 4 (.ok r)).1 : Int)]) (numS 4 (.ok r)).2 = _
        rw [hn]
      rw [hs]
      dsimp only at h
      split at h
      · rename_i hx
        exact .inr ⟨(x : Int), kidsS_mem k _ _ (by simp), by omega⟩
      · exact kids_bad n k _ s' e h
def blkM (b : ByteArray) : Nat × Except Int ByteArray := numS 1 (.ok b)
def blkK (b : ByteArray) : List Int × Except Int ByteArray := kidsS (min (blkM b).1 16) [] (blkM b).2
def blkD (b : ByteArray) : ByteArray × Except Int ByteArray := textS 3900 (blkK b).2
def blkGood (b : ByteArray) (n : Int) : Prop := endE (blkD b).2 = 0 ∧ (blkM b).1 ≤ 16 ∧ ∀ k ∈ (blkK b).1, 2 ≤ k ∧ k < n
instance (b : ByteArray) (n : Int) : Decidable (blkGood b n) := by unfold blkGood; exact inferInstance
theorem textS_bad {m : Nat} {R : Except Int ByteArray} {e : Int} (he : e ≠ 0) (h : R = .error e) : endE (textS m R).2 ≠ 0 := by
  subst h
  simpa [textS, endE] using he
theorem blk_law (s b : ByteArray) (n : Int) (ho : openP s = some b) : getP s n = if blkGood b n then some ((blkK b).1, (blkD b).1) else none := by
  have e1 : blkM b = numS 1 (.ok b) := rfl
  have e2 : blkK b = kidsS (min (blkM b).1 16) [] (blkM b).2 := rfl
  have e3 : blkD b = textS 3900 (blkK b).2 := rfl
  unfold getP
  rw [ho]
  dsimp only
  unfold getR
  obtain ⟨x1, h1⟩ : ∃ x, numP 1 b = x := ⟨_, rfl⟩
  rw [h1]
  cases x1 with
  | error e =>
    have hne := numP_err h1
    have f1 : blkM b = (0, .error e) := by rw [e1]; simp [numS, h1]
    have f2 : (blkK b).2 = .error e := by rw [e2, f1]; exact kidsS_error e _ _
    rw [if_neg (fun h => textS_bad hne f2 h.1)]
  | ok x =>
    obtain ⟨many, s1⟩ := x
    have f1 : blkM b = (many, .ok s1) := by rw [e1]; simp [numS, h1]
    dsimp only
    by_cases hm : 16 < many
    · rw [if_pos hm, if_neg]
      intro h
      have := h.2.1
      rw [f1] at this
      dsimp only at this
      omega
    · rw [if_neg hm]
      have f2 : blkK b = kidsS many [] (.ok s1) := by
        rw [e2, f1]
        dsimp only
        rw [Nat.min_eq_left (by omega)]
      obtain ⟨x2, h2⟩ : ∃ x, kidsGo n many [] s1 = x := ⟨_, rfl⟩
      rw [h2]
      cases x2 with
      | error e =>
        dsimp only
        rw [if_neg]
        intro h
        rcases kids_bad n many [] s1 e h2 with ⟨e', he, h3⟩ | ⟨x, hx, h3⟩
        · exact textS_bad he (by rw [f2]; exact h3) h.1
        · exact h3 (h.2.2 x (by rw [f2]; exact hx))
      | ok x =>
        obtain ⟨l, s2⟩ := x
        obtain ⟨g1, g2⟩ := kids_ok n many [] s1 l s2 h2
        rw [g1] at f2
        rw [f2] at e3
        dsimp only
        obtain ⟨x3, h3⟩ : ∃ x, textP 3900 s2 = x := ⟨_, rfl⟩
        rw [h3]
        cases x3 with
        | error e =>
          have hne := textP_err h3
          dsimp only
          have hE : endE (blkD b).2 = e := by rw [e3]; simp [textS, h3, endE]
          rw [if_neg (fun h => hne (hE.symm.trans h.1))]
        | ok x =>
          obtain ⟨d, s3⟩ := x
          have f3 : blkD b = (d, .ok s3) := by rw [e3]; simp [textS, h3]
          dsimp only
          cases he : s3.toList.isEmpty with
          | true =>
            rw [if_pos rfl, if_pos (show blkGood b n from ⟨by rw [f3]; simp [endE, he], by rw [f1]; dsimp only; omega, fun k hk => by rw [f2] at hk; rcases g2 k hk with h | h; (· cases h); exact h⟩), f2, f3]
          | false =>
            rw [if_neg (by simp), if_neg]
            intro h
            have h6 := h.1
            rw [f3] at h6
            simp [endE, he] at h6
end Go.Proofs.YtanpkghdgdkdlaaGreat.Sto

/- Layer 6, the reference: the block that bytes tell: the walk. -/
namespace Go.Proofs.YtanpkghdgdkdlaaGreat.Sto
set_option linter.unusedVariables false
set_option linter.unusedSimpArgs false
set_option maxRecDepth 100000
open Go.RowKit Go.Lib Go.Proofs.YtanpkghdgdkdlaaGreat.Mem Go.Proofs.YtanpkghdgdkdlaaGreat.Oct

/-- 'append(out, x)' in a region that draws its order -/
theorem step_append_i64 {ops : Array Oper} {o : Oper} {a : Act} {w : World} {K : Act → World → Prop} {Q : Exit → Act → World → Prop} {E : Prop} (hgd : o.guard = none) (s x : Operand)
    (ho : o.op = .call { callee := .builtin .append, args := #[s, x], argTypes := #[23, 23] }) (base : Nat) (hbase : base ≤ w.heap.size)
    (v : Value) (l : List Int) (hs : a.eval s = v) (hown : OwnI base w v l) (b : Nat) (y : Int) (hx : a.eval x = .slice (some ⟨b, 0, none⟩) 1 1) (hc : w.cell? ⟨b, 0, none⟩ = some (.int .i64 y)) (hl : l.length ≤ 1048576)
    (h : ∀ v' w', OwnI base w' v' (l ++ [y]) → Below base w w' → w.grownBy w' v.ownBlock → K (a.put o.dst v') w') : if Region.wanted o (yielded ops a.tmps) = true then Oper.wp Tryz.prog o a w K Q else E := by
  have hw : Region.wanted o (yielded ops a.tmps) = true := by simp [Region.wanted, hgd]
  rw [if_pos hw]
  obtain ⟨i0, hi, hz0, hz1, hz2⟩ := info_parts info_int
  refine wp_append_own _ s x 23 ho base 3 i0 (.int .i64 0) 1 8 Tryz.underlying23 hi hz0 hz1 hz2 rfl (by decide) v _ _ hs hown ⟨b, 0, none⟩ 1 1 [.int .i64 y] hx (by simp) (fun j u hj => ?_) (fun u hu => ?_) (by unfold maxLen; omega) (by omega) hbase (fun v' w' h1 h2 _ => ?_)
  · match j, hj with
    | 0, hj => simp at hj; subst hj; rw [add_at]; exact hc
  · simp at hu; subst hu; rfl
  · refine h _ _ ?_ (below_of_grown' h2 (fun k hk => (World.ownsRow.lt hown k hk).1) hbase) h2
    unfold OwnI
    simpa using h1
/-- a block that is being read -/
structure Bb (w : World) (eb bx : Nat) (R : Except Int ByteArray) (v : Value) (l : List Int) (d : ByteArray) (w' : World) : Prop where
  res : w'.heap[w.heap.size]? = some (.cells #[.slice none 0 0, .string ⟨#[]⟩] 58 (0, 0))
  eye : REyeR w' eb R
  x : w'.heap[bx]? = some (.cells #[v, .string d] 58 (0, 0))
  own : OwnI (bx + 1) w' v l
  below : Below w.heap.size w w'
  e : w.heap.size < eb
  b : eb < bx
theorem Bb.eyed {w : World} {eb bx : Nat} {R R' : Except Int ByteArray} {v : Value} {l : List Int} {d : ByteArray} {w' w'' : World} (h : Bb w eb bx R v l d w') (he : REyeR w'' eb R') (hc : Chg [eb] w' w'') : Bb w eb bx R' v l d w'' :=
  ⟨(hc.block _ (heap_lt h.res) (by have := h.e; simp; omega)).trans h.res, he, (hc.block _ (heap_lt h.x) (by have := h.b; simp; omega)).trans h.x, h.own.chg hc (fun t ht => by have := h.b; simp at ht; omega), h.below.trans (hc.below h.below.size (by have := h.e; simp; omega)), h.e, h.b⟩
theorem Bb.on {w : World} {eb bx : Nat} {R : Except Int ByteArray} {v : Value} {l : List Int} {d : ByteArray} {w' w'' : World} (h : Bb w eb bx R v l d w') (hb : Below w'.heap.size w' w'') : Bb w eb bx R v l d w'' :=
  ⟨(hb.block _ (heap_lt h.res)).trans h.res, h.eye.on hb, (hb.block _ (heap_lt h.x)).trans h.x, h.own.chg (T := []) (Chg.of_below hb) (by simp), h.below.trans (hb.mono h.below.size), h.e, h.b⟩
theorem REyeR.heap {w w' : World} {eb : Nat} {R : Except Int ByteArray} (h : REyeR w eb R) (hh : w'.heap[eb]? = w.heap[eb]?) : REyeR w' eb R := by
  obtain ⟨s, a, h⟩ := h
  cases R with
  | ok r => exact ⟨s, a, ⟨hh.trans h.1.is, h.1.fits, h.1.small⟩, h.2⟩
  | error e => exact ⟨s, a, ⟨hh.trans (REye.is h), REye.fits h, REye.small h⟩⟩
theorem Bb.put {w : World} {eb bx : Nat} {R : Except Int ByteArray} {v v' : Value} {l l' : List Int} {d : ByteArray} {w' w'' : World} (h : Bb w eb bx R v l d w') (ho : OwnI (bx + 1) w'' v' l') (hb : Below (bx + 1) w' w'') : Bb w eb bx R v' l' d (w''.setCell ⟨bx, 0, none⟩ v') := by
  have he := h.e
  have hbb := h.b
  refine ⟨(heap_set_other ⟨bx, 0, none⟩ _ (by show w.heap.size ≠ bx; omega)).trans ((hb.block _ (by omega)).trans h.res), REyeR.heap h.eye ((heap_set_other ⟨bx, 0, none⟩ _ (by show eb ≠ bx; omega)).trans (hb.block _ (by omega))), ?_, ho.chg ((Chg.refl [bx] w'').setCell _ _ (.inl (by simp))) (by simp), (h.below.trans (hb.mono (by omega))).setCell (by show w.heap.size ≤ bx; omega) _, h.e, h.b⟩
  have := heap_set_at ((hb.block _ (by omega)).trans h.x) 0 v'
  rw [this]
  simp
theorem Bb.data {w : World} {eb bx : Nat} {R : Except Int ByteArray} {v : Value} {l : List Int} {d : ByteArray} {w' : World} (h : Bb w eb bx R v l d w') (d' : ByteArray) : Bb w eb bx R v l d' (w'.setCell ⟨bx, 1, none⟩ (.string d')) := by
  have he := h.e
  have hbb := h.b
  refine ⟨(heap_set_other ⟨bx, 1, none⟩ _ (by show w.heap.size ≠ bx; omega)).trans h.res, REyeR.heap h.eye (heap_set_other ⟨bx, 1, none⟩ _ (by show eb ≠ bx; omega)), ?_, h.own.chg ((Chg.refl [bx] w').setCell _ _ (.inl (by simp))) (by simp), h.below.setCell (by show w.heap.size ≤ bx; omega) _, h.e, h.b⟩
  have := heap_set_at h.x 1 (.string d')
  rw [this]
  simp
structure Be (w : World) (bx : Nat) (v : Value) (l : List Int) (d : ByteArray) (w' : World) : Prop where
  res : w'.heap[w.heap.size]? = some (.cells #[.slice none 0 0, .string ⟨#[]⟩] 58 (0, 0))
  x : w'.heap[bx]? = some (.cells #[v, .string d] 58 (0, 0))
  own : OwnI (bx + 1) w' v l
  below : Below w.heap.size w w'
  b : w.heap.size < bx
theorem Bb.ended {w : World} {eb bx : Nat} {R : Except Int ByteArray} {v : Value} {l : List Int} {d : ByteArray} {w' w'' : World} (h : Bb w eb bx R v l d w') (hc : Chg [eb] w' w'') : Be w bx v l d w'' :=
  ⟨(hc.block _ (heap_lt h.res) (by have := h.e; simp; omega)).trans h.res, (hc.block _ (heap_lt h.x) (by have := h.b; simp; omega)).trans h.x, h.own.chg hc (fun t ht => by have := h.b; simp at ht; omega), h.below.trans (hc.below h.below.size (by have := h.e; simp; omega)), Nat.lt_trans h.e h.b⟩
theorem kidsS_len : ∀ (k : Nat) (acc : List Int) (R : Except Int ByteArray), (kidsS k acc R).1.length = acc.length + k
  | 0, _, _ => rfl
  | k + 1, acc, R => by
    have := kidsS_len k (acc ++ [((numS 4 R).1 : Int)]) (numS 4 R).2
    simp only [kidsS, this, List.length_append, List.length_singleton]
    omega
/-- what Block hands back -/
def blkR (s : ByteArray) (n : Int) : (List Int × ByteArray) × Bool := match getP s n with | some x => (x, true) | none => (([], ⟨#[]⟩), false)
set_option maxHeartbeats 8000000 in
theorem rblock_any (s : ByteArray) (n : Int) (w : World) (hs : s.size ≤ 140737488351232) :
    Calls Tryz.prog 54 #[.string s, .int .i64 n] w fun e w' => ∃ v, e = .returned (.tuple #[.agg #[v, .string (blkR s n).1.2], .bool (blkR s n).2]) ∧ OwnI w.heap.size w' v (blkR s n).1.1 ∧ Below w.heap.size w w' := by
  go_enter Tryz.func54, Tryz.ntmps54
  go_wp2_with fail
  have hx0 : (w.alloc (.cells #[.slice none 0 0, .string ⟨#[]⟩] 58)).heap[w.heap.size]? = some (.cells #[.slice none 0 0, .string ⟨#[]⟩] 58 (0, 0)) := heap_alloc_last _ _
  have hb0 : Below w.heap.size w (w.alloc (.cells #[.slice none 0 0, .string ⟨#[]⟩] 58)) := (Below.refl _ _).alloc (Nat.le_refl _) _
  generalize w.alloc (.cells #[.slice none 0 0, .string ⟨#[]⟩] 58) = w1 at hx0 hb0 ⊢
  refine (rcopen_any s w1 hs).mono ?_
  rintro e w2 ⟨b, ok, rfl, hop, hsz, hb2⟩
  have HO : Hid (openP s = (if ok = true then some b else none) ∧ b.size ≤ 140737488351232) := ⟨hop, by omega⟩
  have H2 : Hid (w2.heap[w.heap.size]? = some (.cells #[.slice none 0 0, .string ⟨#[]⟩] 58 (0, 0)) ∧ Below w.heap.size w w2) := ⟨(hb2.block _ (heap_lt hx0)).trans hx0, hb0.trans (hb2.mono hb0.size)⟩
  clear hx0 hb0 hop hsz hb2
  go_wp2_with fail
  have hr3 : (w2.alloc (.cells #[.string b, .int .i64 0, .bool false, .int .i64 0] 143)).heap[w.heap.size]? = some (.cells #[.slice none 0 0, .string ⟨#[]⟩] 58 (0, 0)) := (heap_alloc_other _ (heap_lt H2.out.1)).trans H2.out.1
  have he3 : REyeR (w2.alloc (.cells #[.string b, .int .i64 0, .bool false, .int .i64 0] 143)) w2.heap.size (.ok b) := ⟨b, 0, ⟨heap_alloc_last _ _, Nat.zero_le _, HO.out.2⟩, by apply ByteArray.ext; simp⟩
  have hb3 : Below w.heap.size w (w2.alloc (.cells #[.string b, .int .i64 0, .bool false, .int .i64 0] 143)) := H2.out.2.alloc H2.out.2.size _
  have hlt3 := heap_lt H2.out.1
  obtain ⟨eb, heb⟩ : ∃ eb, eb = w2.heap.size := ⟨_, rfl⟩
  rw [← heb] at he3 hlt3 ⊢
  clear heb
  generalize w2.alloc (.cells #[.string b, .int .i64 0, .bool false, .int .i64 0] 143) = w3 at hr3 he3 hb3 ⊢
  have H3 : Hid (w3.heap[w.heap.size]? = some (.cells #[.slice none 0 0, .string ⟨#[]⟩] 58 (0, 0)) ∧ REyeR w3 eb (.ok b) ∧ Below w.heap.size w w3 ∧ w.heap.size < eb) := ⟨hr3, he3, hb3, hlt3⟩
  clear hr3 he3 hb3 hlt3 H2
  refine (rnum_any w3 eb (.ok b) 1 1 rfl (by omega) (by omega) H3.out.2.1).mono ?_
  rintro e w4 ⟨rfl, he, hc⟩
  have H4 : Hid (w4.heap[w.heap.size]? = some (.cells #[.slice none 0 0, .string ⟨#[]⟩] 58 (0, 0)) ∧ REyeR w4 eb (blkM b).2 ∧ Below w.heap.size w w4 ∧ w.heap.size < eb) := ⟨(hc.block _ (heap_lt H3.out.1) (by have := H3.out.2.2.2; simp; omega)).trans H3.out.1, he, H3.out.2.2.1.trans (hc.below H3.out.2.2.1.size (by have := H3.out.2.2.2; simp; omega)), H3.out.2.2.2⟩
  rw [show (numS 1 (.ok b)).1 = (blkM b).1 from rfl]
  clear he hc H3
  obtain ⟨many, hmany⟩ : ∃ many, many = min (blkM b).1 16 := ⟨_, rfl⟩
  have hmin : min (((blkM b).1 : Nat) : Int) 16 = (many : Int) := by omega
  have HM : Hid (many = min (blkM b).1 16) := hmany
  have h16 : many ≤ 16 := by omega
  clear hmany
  go_wp2_with fail
  obtain ⟨bx, hbx⟩ : ∃ bx, bx = w4.heap.size := ⟨_, rfl⟩
  have A5 : Hid (Bb w eb bx (blkM b).2 (.slice none 0 0) [] ⟨#[]⟩ (w4.alloc (.cells #[.slice none 0 0, .string ⟨#[]⟩] 58))) := by
    refine ⟨(heap_alloc_other _ (heap_lt H4.out.1)).trans H4.out.1, H4.out.2.1.on ((Below.refl _ _).alloc (Nat.le_refl _) _), by rw [hbx]; exact heap_alloc_last _ _, OwnI.nil _ _, H4.out.2.2.1.alloc H4.out.2.2.1.size _, H4.out.2.2.2, by rw [hbx]; exact REyeR.lt H4.out.2.1⟩
  rw [← hbx]
  clear H4 hbx hmin
  generalize w4.alloc (.cells #[.slice none 0 0, .string ⟨#[]⟩] 58) = w5 at A5 ⊢
  obtain ⟨R0, hR0⟩ : ∃ R0, R0 = (blkM b).2 := ⟨_, rfl⟩
  have HR0 : Hid (R0 = (blkM b).2) := hR0
  rw [← hR0] at A5
  clear hR0
  go_loopw [26] (fun i wr => ∃ (j : Nat) (v : Value), j ≤ many ∧ i = .int .i64 j ∧ Hid (Bb w eb bx (kidsS j [] R0).2 v (kidsS j [] R0).1 ⟨#[]⟩ wr)) (fun i _ => many - (intOf i).toNat)
  case atStart => exact ⟨0, _, by omega, rfl, A5.out⟩
  case round =>
    obtain ⟨j, v, hj, rfl, HG⟩ := hrel
    by_cases hlt : j < many
    · have hsn := kidsS_snoc j [] R0
      obtain ⟨l, hl⟩ : ∃ l, l = (kidsS j [] R0).1 := ⟨_, rfl⟩
      obtain ⟨R, hR⟩ : ∃ R, R = (kidsS j [] R0).2 := ⟨_, rfl⟩
      rw [← hl, ← hR] at hsn HG
      have HSN : Hid (kidsS (j + 1) [] R0 = (l ++ [((numS 4 R).1 : Int)], (numS 4 R).2)) := hsn
      have hll : l.length ≤ 1048576 := by
        rw [hl, kidsS_len]
        simp
        omega
      have HLL : Hid _ := hll
      clear hsn hl hR hll
      have A0 : Hid (Bb w eb bx R v l ⟨#[]⟩ wr.drew) := HG.out.on ((Below.refl _ _).drew)
      have c0 : wr.drew.cell? ⟨bx, 0, none⟩ = some v := cell_at A0.out.x 0
      clear HG A5
      go_wp2_with fail
      go_region_law
        (first
          | (go_simp; go_at_call 99; refine (rnum_any _ eb R 4 4 rfl (by omega) (by omega) A0.out.eye).mono ?_; rintro e w9 ⟨rfl, he, hc⟩; have A9 : Hid (Bb w eb bx (numS 4 R).2 v l ⟨#[]⟩ w9) := A0.out.eyed he hc; have cA : w9.cell? ⟨bx, 0, none⟩ = some v := cell_at A9.out.x 0; have cB : ∀ o, (w9.alloc o).cell? ⟨bx, 0, none⟩ = some v := fun o => cell_at (A9.out.on ((Below.refl _ _).alloc (Nat.le_refl _) o)).x 0; clear he hc)
          | (refine step_append_i64 rfl _ _ rfl (bx + 1) (by have := heap_lt A9.out.x; simp; omega) v l rfl (A9.out.own.alloc _) _ ((numS 4 R).1 : Int) rfl (by simp) HLL.out ?_; intro v9 w10 hown hb _; obtain ⟨a3, c3, hv3⟩ := hown.form; rw [List.length_append, List.length_singleton] at hv3; subst hv3; have A10 : Hid (OwnI (bx + 1) w10 (.slice a3 (l.length + 1) c3) (l ++ [((numS 4 R).1 : Int)]) ∧ Below (bx + 1) w9 w10) := ⟨hown, ((Below.refl _ _).alloc (by have := heap_lt A9.out.x; omega) _).trans hb⟩; have cC : w10.cell? ⟨bx, 0, none⟩ = some v := cell_at ((A10.out.2.block _ (by omega)).trans A9.out.x) 0; have cF : ∀ j, w10.frozen? ⟨bx, j, none⟩ = false := fun j => frozen_at ((A10.out.2.block _ (by omega)).trans A9.out.x) j; clear hown hb))
      all_goals
        have A11 : Hid (Bb w eb bx (kidsS (j + 1) [] R0).2 (.slice a3 (l.length + 1) c3) (kidsS (j + 1) [] R0).1 ⟨#[]⟩ (w10.setCell ⟨bx, 0, none⟩ (.slice a3 (l.length + 1) c3))) := by
          rw [HSN.out]
          exact A9.out.put A10.out.1 A10.out.2
        clear A0 A9 A10 c0 cA cB cC cF
        have hj1 : j + 1 ≤ many := hlt
        go_wp2_with fail
        go_roundw
        case rel => exact ⟨j + 1, _, hj1, by go_num, A11.out⟩
        case measure => simp [intOf]; omega
    · have hjm : j = many := by omega
      subst hjm
      have A6 : Hid (Bb w eb bx (blkK b).2 v (blkK b).1 ⟨#[]⟩ wr) := by
        have h1 := HG.out
        have e1 : blkK b = kidsS j [] R0 := by rw [HM.out, HR0.out]; rfl
        rw [e1]
        exact h1
      clear HG A5
      go_wp2_with fail
      refine (rtext_any wr eb (blkK b).2 3900 3900 rfl A6.out.eye).mono ?_
      rintro e w7 ⟨rfl, he, hc⟩
      have A7 : Hid (Bb w eb bx (blkD b).2 v (blkK b).1 ⟨#[]⟩ w7) := A6.out.eyed he hc
      rw [show (textS 3900 (blkK b).2).1 = (blkD b).1 from rfl]
      clear he hc A6
      have A8 : Hid (Bb w eb bx (blkD b).2 v (blkK b).1 (blkD b).1 (w7.setCell ⟨bx, 1, none⟩ (.string (blkD b).1))) := A7.out.data _
      have x1 : w7.cell? ⟨bx, 1, none⟩ = some (.string ⟨#[]⟩) := cell_at A7.out.x 1
      have xf : ∀ j, w7.frozen? ⟨bx, j, none⟩ = false := fun j => frozen_at A7.out.x j
      have c0 : w7.cell? ⟨w.heap.size, 0, none⟩ = some (.slice none 0 0) := cell_at A7.out.res 0
      have c1 : w7.cell? ⟨w.heap.size, 1, none⟩ = some (.string ⟨#[]⟩) := cell_at A7.out.res 1
      have cf : ∀ j, w7.frozen? ⟨w.heap.size, j, none⟩ = false := fun j => frozen_at A7.out.res j
      have hne : ¬ bx = w.heap.size := by have := A7.out.e; have := A7.out.b; omega
      have hne2 : ¬ w.heap.size = bx := by omega
      cases ok with
      | false =>
        have HB : Hid (blkR s n = (([], ⟨#[]⟩), false)) := by
          show _ = _
          unfold blkR getP
          rw [HO.out.1]
          rfl
        go_wp2_with fail
        have hbox := heap_set_at (heap_set_at A8.out.res 0 (.slice none 0 0)) 1 (.string ⟨#[]⟩)
        refine bodyPost_ret (results_cell_tmp Tryz.results54 _ _ w.heap.size 58 #[.slice none 0 0, .string ⟨#[]⟩] (0, 0) _ rfl hbox Tryz.underlying58 rfl (by kernel_rfl)) rfl ?_
        rw [HB.out]
        exact ⟨_, rfl, OwnI.nil _ _, (A8.out.below.setCell (Nat.le_refl _) _).setCell (Nat.le_refl _) _⟩
      | true =>
        have HG : Hid (getP s n = if blkGood b n then some ((blkK b).1, (blkD b).1) else none) := blk_law s b n HO.out.1
        have HBad : Hid (¬ blkGood b n → blkR s n = (([], ⟨#[]⟩), false)) := fun h => by
          unfold blkR
          rw [HG.out, if_neg h]
        go_wp2_with fail
        clear A7 x1 xf c0 c1 cf hne hne2
        generalize w7.setCell ⟨bx, 1, none⟩ (.string (blkD b).1) = w8 at A8 ⊢
        refine (rend_any w8 eb (blkD b).2 A8.out.eye).mono ?_
        rintro e w9 ⟨rfl, hc⟩
        have A9 : Hid (Be w bx v (blkK b).1 (blkD b).1 w9) := A8.out.ended hc
        clear hc A8
        have c0 : w9.cell? ⟨w.heap.size, 0, none⟩ = some (.slice none 0 0) := cell_at A9.out.res 0
        have c1 : w9.cell? ⟨w.heap.size, 1, none⟩ = some (.string ⟨#[]⟩) := cell_at A9.out.res 1
        have cf : ∀ j, w9.frozen? ⟨w.heap.size, j, none⟩ = false := fun j => frozen_at A9.out.res j
        by_cases hq0 : endE (blkD b).2 = 0
        rotate_left 1
        · have HB : Hid (blkR s n = (([], ⟨#[]⟩), false)) := HBad.out (fun hg => hq0 hg.1)
          have hd : (endE (blkD b).2 == 0) = false := by simp [hq0]
          go_wp2_with fail
          have hbox := heap_set_at (heap_set_at A9.out.res 0 (.slice none 0 0)) 1 (.string ⟨#[]⟩)
          refine bodyPost_ret (results_cell_tmp Tryz.results54 _ _ w.heap.size 58 #[.slice none 0 0, .string ⟨#[]⟩] (0, 0) _ rfl hbox Tryz.underlying58 rfl (by kernel_rfl)) rfl ?_
          rw [HB.out]
          exact ⟨_, rfl, OwnI.nil _ _, (A9.out.below.setCell (Nat.le_refl _) _).setCell (Nat.le_refl _) _⟩
        by_cases hq1 : (blkM b).1 ≤ 16
        rotate_left 1
        · have HB : Hid (blkR s n = (([], ⟨#[]⟩), false)) := HBad.out (fun hg => hq1 hg.2.1)
          have hd : decide (16 < (((blkM b).1 : Nat) : Int)) = true := decide_eq_true (by omega)
          go_wp2_with fail
          have hbox := heap_set_at (heap_set_at A9.out.res 0 (.slice none 0 0)) 1 (.string ⟨#[]⟩)
          refine bodyPost_ret (results_cell_tmp Tryz.results54 _ _ w.heap.size 58 #[.slice none 0 0, .string ⟨#[]⟩] (0, 0) _ rfl hbox Tryz.underlying58 rfl (by kernel_rfl)) rfl ?_
          rw [HB.out]
          exact ⟨_, rfl, OwnI.nil _ _, (A9.out.below.setCell (Nat.le_refl _) _).setCell (Nat.le_refl _) _⟩
        have HGood : Hid ((∀ k ∈ (blkK b).1, 2 ≤ k ∧ k < n) → blkR s n = (((blkK b).1, (blkD b).1), true)) := fun h => by
          unfold blkR
          rw [HG.out, if_pos ⟨hq0, hq1, h⟩]
        have HBad2 : Hid (¬ (∀ k ∈ (blkK b).1, 2 ≤ k ∧ k < n) → blkR s n = (([], ⟨#[]⟩), false)) := fun h => HBad.out (fun hg => h hg.2.2)
        have hd : decide (16 < (((blkM b).1 : Nat) : Int)) = false := decide_eq_false (by omega)
        have hll : (blkK b).1.length ≤ 9223372036854775807 := by
          unfold blkK
          rw [kidsS_len]
          simp
          omega
        have x0 : w9.cell? ⟨bx, 0, none⟩ = some v := cell_at A9.out.x 0
        obtain ⟨a, c, hv⟩ := A9.out.own.form
        generalize (blkK b).1 = l at A9 HGood HBad2 hll hv
        generalize (blkD b).1 = d at A9 HGood ⊢
        subst hv
        generalize (blkM b).1 = mm at hd ⊢
        clear hq1 HBad HG HM
        rw [hq0]
        clear hq0
        go_wp2_with fail
        go_loopw [54] (fun i wr => ∃ j : Nat, j ≤ l.length ∧ i = .int .i64 j ∧ Hid ((∀ q (hq : q < l.length), q < j → 2 ≤ l[q] ∧ l[q] < n) ∧ Be w bx (.slice a l.length c) l d wr)) (fun i _ => l.length - (intOf i).toNat)
        case atStart => exact ⟨0, by omega, rfl, fun q _ hq => by omega, A9.out⟩
        case round =>
          obtain ⟨j, hj, rfl, HT⟩ := hrel
          clear c0 c1 cf x0
          have c0 : wr.cell? ⟨w.heap.size, 0, none⟩ = some (.slice none 0 0) := cell_at HT.out.2.res 0
          have c1 : wr.cell? ⟨w.heap.size, 1, none⟩ = some (.string ⟨#[]⟩) := cell_at HT.out.2.res 1
          have cf : ∀ j, wr.frozen? ⟨w.heap.size, j, none⟩ = false := fun j => frozen_at HT.out.2.res j
          have x0 : wr.cell? ⟨bx, 0, none⟩ = some (.slice a l.length c) := cell_at HT.out.2.x 0
          have x1 : wr.cell? ⟨bx, 1, none⟩ = some (.string d) := cell_at HT.out.2.x 1
          by_cases hlt : j < l.length
          · obtain ⟨a', c', e', _, hcell⟩ := (HT.out.2.own.ints hll).form
            obtain ⟨bb, o, ha, hcj⟩ := hcell j hlt
            have haa : a = a' := by injection e'
            subst haa
            subst ha
            obtain ⟨y, hy⟩ : ∃ y, y = l[j] := ⟨_, rfl⟩
            rw [← hy] at hcj
            have HY : Hid (y = l[j]) := hy
            clear e' hcell hy
            by_cases h2 : y < 2
            · have HB : Hid (blkR s n = (([], ⟨#[]⟩), false)) := HBad2.out (fun h => by have h3 := h _ (List.getElem_mem hlt); rw [← HY.out] at h3; omega)
              go_wp2_with fail
              have hbox := heap_set_at (heap_set_at HT.out.2.res 0 (.slice none 0 0)) 1 (.string ⟨#[]⟩)
              refine bodyPost_ret (results_cell_tmp Tryz.results54 _ _ w.heap.size 58 #[.slice none 0 0, .string ⟨#[]⟩] (0, 0) _ rfl hbox Tryz.underlying58 rfl (by kernel_rfl)) rfl ?_
              rw [HB.out]
              exact ⟨_, rfl, OwnI.nil _ _, (HT.out.2.below.setCell (Nat.le_refl _) _).setCell (Nat.le_refl _) _⟩
            · have h2' : decide (y < 2) = false := decide_eq_false h2
              by_cases h3 : n ≤ y
              · have HB : Hid (blkR s n = (([], ⟨#[]⟩), false)) := HBad2.out (fun h => by have h4 := h _ (List.getElem_mem hlt); rw [← HY.out] at h4; omega)
                go_wp2_with fail
                have hbox := heap_set_at (heap_set_at HT.out.2.res 0 (.slice none 0 0)) 1 (.string ⟨#[]⟩)
                refine bodyPost_ret (results_cell_tmp Tryz.results54 _ _ w.heap.size 58 #[.slice none 0 0, .string ⟨#[]⟩] (0, 0) _ rfl hbox Tryz.underlying58 rfl (by kernel_rfl)) rfl ?_
                rw [HB.out]
                exact ⟨_, rfl, OwnI.nil _ _, (HT.out.2.below.setCell (Nat.le_refl _) _).setCell (Nat.le_refl _) _⟩
              · have h3' : decide (n ≤ y) = false := decide_eq_false h3
                have hj1 : j + 1 ≤ l.length := hlt
                have HN : Hid ((∀ q (hq : q < l.length), q < j + 1 → 2 ≤ l[q] ∧ l[q] < n) ∧ Be w bx (.slice (some ⟨bb, o, none⟩) l.length c) l d wr) := by
                  refine ⟨fun q hq hqj => ?_, HT.out.2⟩
                  by_cases hqe : q = j
                  · subst hqe
                    rw [← HY.out]
                    omega
                  · exact HT.out.1 q hq (by omega)
                go_wp2_with fail
                go_roundw
                case rel => exact ⟨j + 1, hj1, by go_num, HN.out⟩
                case measure => simp [intOf]; omega
          · have hall : ∀ k ∈ l, 2 ≤ k ∧ k < n := fun k hk => by
              obtain ⟨q, hq, rfl⟩ := List.mem_iff_getElem.1 hk
              exact HT.out.1 q hq (by omega)
            have HB : Hid (blkR s n = ((l, d), true)) := HGood.out hall
            clear hall
            go_wp2_with fail
            have hbox := heap_set_at (heap_set_at HT.out.2.res 0 (.slice a l.length c)) 1 (.string d)
            refine bodyPost_ret (results_cell_tmp Tryz.results54 _ _ w.heap.size 58 #[.slice a l.length c, .string d] (0, 0) _ rfl hbox Tryz.underlying58 rfl (by kernel_rfl)) rfl ?_
            rw [HB.out]
            exact ⟨_, rfl, (HT.out.2.own.chg (T := [w.heap.size]) (((Chg.refl _ _).setCell _ _ (.inl (by simp))).setCell _ _ (.inl (by simp))) (fun t ht => by have := HT.out.2.b; simp at ht; omega)).mono (by have := HT.out.2.b; omega), (HT.out.2.below.setCell (Nat.le_refl _) _).setCell (Nat.le_refl _) _⟩
end Go.Proofs.YtanpkghdgdkdlaaGreat.Sto

