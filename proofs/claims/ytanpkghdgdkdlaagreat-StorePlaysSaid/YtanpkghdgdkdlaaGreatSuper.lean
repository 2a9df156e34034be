/- Layer 6: what a beginning tells. -/
import Derived.Test.YtanpkghdgdkdlaaGreatLook
import Derived.Test.YtanpkghdgdkdlaaGreatCrcSeal
import Derived.Deep.RegionHeld3
import Derived.Test.YtanpkghdgdkdlaaGreatTwo
namespace Go.Proofs.YtanpkghdgdkdlaaGreat.Sto
set_option linter.unusedVariables false
set_option linter.unusedSimpArgs false
set_option maxRecDepth 100000
open Go.RowKit Go.Lib Go.Proofs.YtanpkghdgdkdlaaGreat.Mem Go.Proofs.YtanpkghdgdkdlaaGreat.Oct

theorem lookErr {T : List Nat} {F : Nat → Except Int ByteArray → World → Prop} {w1 w2 : World} {eb : Nat} {why : Int} {s' : ByteArray} (h1 : EyeAt w2 eb s') (h2 : Chg (eb :: T) w1 w2) (h3 : F w1.heap.size (.error why) w2) : LookPost T F w1 eb (.panicked (thrown why)) w2 := .inr ⟨why, s', rfl, h1, h2, h3⟩
theorem lookOk {T : List Nat} {F : Nat → Except Int ByteArray → World → Prop} {w1 w2 : World} {eb : Nat} {s' : ByteArray} (h1 : EyeAt w2 eb s') (h2 : Chg (eb :: T) w1 w2) (h3 : F w1.heap.size (.ok s') w2) : LookPost T F w1 eb (.returned (.tuple #[])) w2 := .inl ⟨s', rfl, h1, h2, h3⟩

/-- a beginning that is being read, and how many blocks there are -/
structure SupAt (w : World) (bx bn : Nat) (a b : Int) (c : ByteArray) (n : Int) : Prop where
  x : w.heap[bx]? = some (.cells #[.int .i64 a, .int .i64 b, .string c] 93 (0, 0))
  n : w.heap[bn]? = some (.cells #[.int .i64 n] 3 (0, 0))
def badSuper (n gen root sz : Int) : Bool := decide (sz ≠ n) || decide (gen < 1) || decide (1099511627776 < gen) || (decide (root ≠ 0) && (decide (root < 2) || decide (n ≤ root)))
def beginsR (n : Int) (s : ByteArray) : Except Int ((Nat × Nat × ByteArray) × ByteArray) :=
  match rawP 1 s with
  | .error e => .error e
  | .ok (k, s1) => if (k.toList == [83]) = true then
      match numP 6 s1 with
      | .error e => .error e
      | .ok (gen, s2) => match numP 4 s2 with
        | .error e => .error e
        | .ok (root, s3) => match numP 4 s3 with
          | .error e => .error e
          | .ok (sz, s4) => if badSuper n gen root sz = true then .error 201 else
            match textP 3900 s4 with
            | .error e => .error e
            | .ok (note, s5) => .ok ((gen, root, note), s5)
    else .error 201
def BeginsF (n : Int) (s : ByteArray) (bx : Nat) (N : Nat) (r : Except Int ByteArray) (w : World) : Prop :=
  match r with
  | .ok s' => ∃ gen root note, beginsR n s = .ok ((gen, root, note), s') ∧ w.heap[bx]? = some (.cells #[.int .i64 (gen : Nat), .int .i64 (root : Nat), .string note] 93 (0, 0))
  | .error why => beginsR n s = .error why ∧ ∃ a b c, w.heap[bx]? = some (.cells #[.int .i64 a, .int .i64 b, .string c] 93 (0, 0))
/-- what stands while a beginning is read -/
structure Beg (w w' : World) (eb bx bn : Nat) (s' : ByteArray) (a b : Int) (c : ByteArray) (n : Int) : Prop where
  eye : EyeAt w' eb s'
  sup : SupAt w' bx bn a b c n
  chg : Chg (eb :: [bx]) w w'
theorem Beg.eyed {w w' w'' : World} {eb bx bn : Nat} {s' s'' : ByteArray} {a b : Int} {c : ByteArray} {n : Int} (h : Beg w w' eb bx bn s' a b c n) (h1 : EyeAt w'' eb s'') (h2 : Chg [eb] w' w'') : Beg w w'' eb bx bn s'' a b c n := by
  have hx : bx ∉ [eb] := by
    intro hm
    have : bx = eb := by simpa using hm
    subst this
    have := h.sup.x.symm.trans h.eye
    simp at this
  have hn : bn ∉ [eb] := by
    intro hm
    have : bn = eb := by simpa using hm
    subst this
    have := h.sup.n.symm.trans h.eye
    simp at this
  exact ⟨h1, ⟨(h2.block _ (heap_lt h.sup.x) hx).trans h.sup.x, (h2.block _ (heap_lt h.sup.n) hn).trans h.sup.n⟩, h.chg.trans (h2.mono (by simp))⟩
theorem Beg.err {w w' : World} {eb bx bn : Nat} {s s' : ByteArray} {a b : Int} {c : ByteArray} {n : Int} {why : Int} (h : Beg w w' eb bx bn s' a b c n) (hb : beginsR n s = .error why) : LookPost [bx] (BeginsF n s bx) w eb (.panicked (thrown why)) w' :=
  lookErr h.eye h.chg ⟨hb, _, _, _, h.sup.x⟩
theorem Beg.ne {w w' : World} {eb bx bn : Nat} {s' : ByteArray} {a b : Int} {c : ByteArray} {n : Int} (h : Beg w w' eb bx bn s' a b c n) : eb ≠ bx ∧ bn ≠ bx := by
  constructor
  · rintro rfl
    have := h.sup.x.symm.trans h.eye
    simp at this
  · rintro rfl
    have := h.sup.x.symm.trans h.sup.n
    simp at this
theorem Beg.cells {w w' : World} {eb bx bn : Nat} {s' : ByteArray} {a b : Int} {c : ByteArray} {n : Int} (h : Beg w w' eb bx bn s' a b c n) : w'.cell? ⟨bx, 0, none⟩ = some (.int .i64 a) ∧ w'.cell? ⟨bx, 1, none⟩ = some (.int .i64 b) ∧ w'.cell? ⟨bx, 2, none⟩ = some (.string c) ∧ w'.cell? ⟨bn, 0, none⟩ = some (.int .i64 n) ∧ ∀ j, w'.frozen? ⟨bx, j, none⟩ = false :=
  ⟨cell_at h.sup.x 0, cell_at h.sup.x 1, cell_at h.sup.x 2, cell_at h.sup.n 0, fun j => frozen_at h.sup.x j⟩
theorem Beg.put {w w' : World} {eb bx bn : Nat} {s' : ByteArray} {a b a' b' : Int} {c c' : ByteArray} {n : Int} (h : Beg w w' eb bx bn s' a b c n) (j : Nat) (v : Value) (hj : #[Value.int .i64 a, .int .i64 b, .string c].setIfInBounds j v = #[Value.int .i64 a', .int .i64 b', .string c']) : Beg w (w'.setCell ⟨bx, j, none⟩ v) eb bx bn s' a' b' c' n :=
  ⟨(heap_set_other ⟨bx, j, none⟩ _ h.ne.1).trans h.eye, ⟨by rw [heap_set_at h.sup.x j v, hj], (heap_set_other ⟨bx, j, none⟩ _ h.ne.2).trans h.sup.n⟩, h.chg.setCell _ _ (.inl (by simp))⟩
theorem Beg.drew {w w' : World} {eb bx bn : Nat} {s' : ByteArray} {a b : Int} {c : ByteArray} {n : Int} (h : Beg w w' eb bx bn s' a b c n) : Beg w w'.drew eb bx bn s' a b c n := ⟨h.eye, ⟨h.sup.x, h.sup.n⟩, h.chg.drew⟩
theorem super_cases (n : Int) (gen root sz : Nat) : (¬ (sz : Int) = n ∧ badSuper n gen root sz = true) ∨ ((sz : Int) = n ∧ (gen : Int) < 1 ∧ badSuper n gen root sz = true) ∨ ((sz : Int) = n ∧ 1 ≤ (gen : Int) ∧ 1099511627776 < (gen : Int) ∧ badSuper n gen root sz = true) ∨
    ((sz : Int) = n ∧ 1 ≤ (gen : Int) ∧ (gen : Int) ≤ 1099511627776 ∧ ¬ (root : Int) = 0 ∧ (root : Int) < 2 ∧ badSuper n gen root sz = true) ∨ ((sz : Int) = n ∧ 1 ≤ (gen : Int) ∧ (gen : Int) ≤ 1099511627776 ∧ ¬ (root : Int) = 0 ∧ 2 ≤ (root : Int) ∧ n ≤ (root : Int) ∧ badSuper n gen root sz = true) ∨
    ((sz : Int) = n ∧ 1 ≤ (gen : Int) ∧ (gen : Int) ≤ 1099511627776 ∧ (root : Int) = 0 ∧ badSuper n gen root sz = false) ∨ ((sz : Int) = n ∧ 1 ≤ (gen : Int) ∧ (gen : Int) ≤ 1099511627776 ∧ ¬ (root : Int) = 0 ∧ 2 ≤ (root : Int) ∧ (root : Int) < n ∧ badSuper n gen root sz = false) := by
  unfold badSuper
  by_cases h1 : (sz : Int) = n
  · by_cases h2 : (gen : Int) < 1
    · right; left; simp [h2, h1]
    · by_cases h3 : 1099511627776 < (gen : Int)
      · right; right; left; exact ⟨h1, by omega, h3, by simp [h3]⟩
      · by_cases h4 : (root : Int) = 0
        · right; right; right; right; right; left
          exact ⟨h1, by omega, by omega, h4, by simp [h1, h4]; omega⟩
        · by_cases h5 : (root : Int) < 2
          · right; right; right; left; exact ⟨h1, by omega, by omega, h4, h5, by simp [h5]; omega⟩
          · by_cases h6 : n ≤ (root : Int)
            · right; right; right; right; left; exact ⟨h1, by omega, by omega, h4, by omega, h6, by simp [h6]; omega⟩
            · right; right; right; right; right; right
              exact ⟨h1, by omega, by omega, h4, by omega, by omega, by simp [h1]; omega⟩
  · left; exact ⟨h1, by simp [h1]⟩
set_option maxHeartbeats 8000000 in
theorem begins1_any (w : World) (eb bx bn : Nat) (n : Int) (s : ByteArray) (he : EyeAt w eb s) (hx : SupAt w bx bn 0 0 ⟨#[]⟩ n) :
    Calls Tryz.prog 92 #[.pointer (some ⟨eb, 0, none⟩), .pointer (some ⟨bx, 0, none⟩), .pointer (some ⟨bn, 0, none⟩)] w (LookPost [bx] (BeginsF n s bx) w eb) := by
  have B0 : Hid (Beg w w eb bx bn s 0 0 ⟨#[]⟩ n) := ⟨he, hx, Chg.refl _ _⟩
  obtain ⟨R, hR⟩ : ∃ R, R = beginsR n s := ⟨_, rfl⟩
  have HR : Hid (R = beginsR n s) := hR
  unfold beginsR at hR
  clear he hx
  go_enter Tryz.func92, Tryz.ntmps92
  go_wp2_with fail
  refine (raw_any _ eb s 1 B0.out.eye).mono ?_
  cases hp : rawP 1 s with
  | error why =>
    rw [hp] at hR
    intro e w1 h1
    obtain ⟨rfl, s1, h1, h2⟩ := h1.of_err
    exact ⟨rfl, (B0.out.eyed h1 h2).err (HR.out.symm.trans hR)⟩
  | ok q =>
    obtain ⟨k, s1⟩ := q
    rw [hp] at hR
    dsimp only at hR
    intro e w1 h1
    obtain ⟨rfl, h1, h2⟩ := h1.of_ok
    have B1 : Hid (Beg w w1 eb bx bn s1 0 0 ⟨#[]⟩ n) := B0.out.eyed h1 h2
    clear h1 h2 B0 hp
    by_cases hk : (k.toList == [83]) = true
    · rw [if_pos hk] at hR
      have HR2 : Hid (R = _) := hR
      clear hR
      go_wp2_with fail
      have hR := HR2.out
      clear HR2
      refine (num_any _ eb s1 6 6 rfl B1.out.eye (by omega) (by omega)).mono ?_
      cases hp : numP 6 s1 with
      | error why =>
        rw [hp] at hR
        intro e w2 h1
        obtain ⟨rfl, s2, h1, h2⟩ := h1.of_err
        exact ⟨rfl, (B1.out.eyed h1 h2).err (HR.out.symm.trans hR)⟩
      | ok q =>
        obtain ⟨gen, s2⟩ := q
        rw [hp] at hR
        dsimp only at hR
        intro e w2 h1
        obtain ⟨rfl, h1, h2⟩ := h1.of_ok
        have B2 : Hid (Beg w w2 eb bx bn s2 0 0 ⟨#[]⟩ n) := B1.out.eyed h1 h2
        have hgen : gen < 281474976710656 := numP_lt hp
        have HR2 : Hid (R = _) := hR
        clear h1 h2 B1 hp hR
        go_wp2_with fail
        have hR := HR2.out
        clear HR2
        refine (num_any _ eb s2 4 4 rfl B2.out.eye (by omega) (by omega)).mono ?_
        cases hp : numP 4 s2 with
        | error why =>
          rw [hp] at hR
          intro e w3 h1
          obtain ⟨rfl, s3, h1, h2⟩ := h1.of_err
          exact ⟨rfl, (B2.out.eyed h1 h2).err (HR.out.symm.trans hR)⟩
        | ok q =>
          obtain ⟨root, s3⟩ := q
          rw [hp] at hR
          dsimp only at hR
          intro e w3 h1
          obtain ⟨rfl, h1, h2⟩ := h1.of_ok
          have B3 : Hid (Beg w w3 eb bx bn s3 0 0 ⟨#[]⟩ n) := B2.out.eyed h1 h2
          have hroot : root < 4294967296 := numP_lt hp
          have HR2 : Hid (R = _) := hR
          clear h1 h2 B2 hp hR
          obtain ⟨c0, c1, c2, c3, cf⟩ := B3.out.cells
          go_wp2_with fail
          have B4 : Hid (Beg w ((w3.setCell ⟨bx, 0, none⟩ (.int .i64 (gen : Nat))).setCell ⟨bx, 1, none⟩ (.int .i64 (root : Nat))) eb bx bn s3 gen root ⟨#[]⟩ n) := (B3.out.put 0 (.int .i64 (gen : Nat)) rfl).put 1 (.int .i64 (root : Nat)) rfl
          clear c0 c1 c2 c3 cf B3
          generalize (w3.setCell ⟨bx, 0, none⟩ (.int .i64 (gen : Nat))).setCell ⟨bx, 1, none⟩ (.int .i64 (root : Nat)) = w4 at B4 ⊢
          have hR := HR2.out
          clear HR2
          have A0 : Hid (Beg w w4.drew eb bx bn s3 gen root ⟨#[]⟩ n) := B4.out.drew
          clear B4
          have hnum := fun w' h => num_any w' eb s3 4 4 rfl h (by omega) (by omega)
          cases hp : numP 4 s3 with
          | error why =>
            rw [hp] at hR
            simp only [hp] at hnum
            have HE : Hid (beginsR n s = .error why) := HR.out.symm.trans hR
            clear hR hp
            have hS0 : (fun w' => w'.cell? ⟨bx, 0, none⟩ = some (.int .i64 gen) ∧ w'.cell? ⟨bx, 1, none⟩ = some (.int .i64 root) ∧ w'.cell? ⟨bn, 0, none⟩ = some (.int .i64 n)) w4.drew := ⟨A0.out.cells.1, A0.out.cells.2.1, A0.out.cells.2.2.2.1⟩
            refine wp_region_held_drew (S := (fun w' => w'.cell? ⟨bx, 0, none⟩ = some (.int .i64 gen) ∧ w'.cell? ⟨bx, 1, none⟩ = some (.int .i64 root) ∧ w'.cell? ⟨bn, 0, none⟩ = some (.int .i64 n))) (by kernel_rfl) hS0 (fun hHeld => ?_)
            clear hHeld
            refine Pair.take (i := 0) (fuel := 29) (d := 15) (v := ?_) (by kernel_rfl) rfl rfl (by kernel_rfl) (by kernel_rfl) (by kernel_rfl) (fun _ _ _ h => h) (Or.inl ⟨by rfl, ?_⟩) hS0 ?_
            rotate_left 1
            · (intro w' hSw; go_simp; try with_reducible rfl)
            try simp only [Act.put, List.setIfInBounds_toArray, List.set_cons_zero, List.set_cons_succ]
            refine Pair.take (i := 2) (fuel := 28) (d := 17) (v := ?_) (by kernel_rfl) rfl rfl (by kernel_rfl) (by kernel_rfl) (by kernel_rfl) (fun _ _ _ h => h) (Or.inl ⟨by rfl, ?_⟩) hS0 ?_
            rotate_left 1
            · (intro w' hSw; obtain ⟨f0, f1, f2⟩ := hSw; go_simp; try with_reducible rfl)
            try simp only [Act.put, List.setIfInBounds_toArray, List.set_cons_zero, List.set_cons_succ]
            refine Pair.call1 (i := 1) (fuel := 27) (by kernel_rfl) rfl (by kernel_rfl) (fun K hK => ?_)
            clear hK
            go_simp
            go_at_call 95
            refine (hnum _ A0.out.eye).mono ?_
            intro e w5 h1
            obtain ⟨rfl, s4, h1, h2⟩ := h1.of_err
            exact ⟨rfl, (A0.out.eyed h1 h2).err HE.out⟩
          | ok q =>
            obtain ⟨sz, s4⟩ := q
            rw [hp] at hR
            simp only [hp] at hnum
            have hsz : sz < 4294967296 := numP_lt hp
            dsimp only at hR
            clear hp
            rcases super_cases n gen root sz with ⟨g1, gb⟩ | ⟨g1, g2, gb⟩ | ⟨g1, g2, g3, gb⟩ | ⟨g1, g2, g3, g4, g5, gb⟩ | ⟨g1, g2, g3, g4, g5, g6, gb⟩ | ⟨g1, g2, g3, g4, gb⟩ | ⟨g1, g2, g3, g4, g5, g6, gb⟩
            · rw [if_pos gb] at hR
              have hb1 : ((sz : Int) != n) = true := bne_iff_ne.2 g1
              have HE : Hid (beginsR n s = .error 201) := HR.out.symm.trans hR
              clear hR gb
              have hS0 : (fun w' => w'.cell? ⟨bx, 0, none⟩ = some (.int .i64 gen) ∧ w'.cell? ⟨bx, 1, none⟩ = some (.int .i64 root) ∧ w'.cell? ⟨bn, 0, none⟩ = some (.int .i64 n)) w4.drew := ⟨A0.out.cells.1, A0.out.cells.2.1, A0.out.cells.2.2.2.1⟩
              refine wp_region_held_drew (S := (fun w' => w'.cell? ⟨bx, 0, none⟩ = some (.int .i64 gen) ∧ w'.cell? ⟨bx, 1, none⟩ = some (.int .i64 root) ∧ w'.cell? ⟨bn, 0, none⟩ = some (.int .i64 n))) (by kernel_rfl) hS0 (fun hHeld => ?_)
              clear hHeld
              refine Pair.take (i := 0) (fuel := 29) (d := 15) (v := ?_) (by kernel_rfl) rfl rfl (by kernel_rfl) (by kernel_rfl) (by kernel_rfl) (fun _ _ _ h => h) (Or.inl ⟨by rfl, ?_⟩) hS0 ?_
              rotate_left 1
              · (intro w' hSw; obtain ⟨f0, f1, f2⟩ := hSw; go_simp; try with_reducible rfl)
              try simp only [Act.put, List.setIfInBounds_toArray, List.set_cons_zero, List.set_cons_succ]
              refine Pair.take (i := 2) (fuel := 28) (d := 17) (v := ?_) (by kernel_rfl) rfl rfl (by kernel_rfl) (by kernel_rfl) (by kernel_rfl) (fun _ _ _ h => h) (Or.inl ⟨by rfl, ?_⟩) hS0 ?_
              rotate_left 1
              · (intro w' hSw; obtain ⟨f0, f1, f2⟩ := hSw; go_simp; try with_reducible rfl)
              try simp only [Act.put, List.setIfInBounds_toArray, List.set_cons_zero, List.set_cons_succ]
              refine Pair.call1 (i := 1) (fuel := 27) (by kernel_rfl) rfl (by kernel_rfl) (fun K hK => ?_)
              go_simp
              go_at_call 95
              refine (hnum _ A0.out.eye).mono ?_
              intro e w5 h1
              obtain ⟨rfl, h1, h2⟩ := h1.of_ok
              have A2 : Hid (Beg w w5 eb bx bn s4 gen root ⟨#[]⟩ n) := A0.out.eyed h1 h2
              have hS5 : (fun w' => w'.cell? ⟨bx, 0, none⟩ = some (.int .i64 gen) ∧ w'.cell? ⟨bx, 1, none⟩ = some (.int .i64 root) ∧ w'.cell? ⟨bn, 0, none⟩ = some (.int .i64 n)) w5 := ⟨A2.out.cells.1, A2.out.cells.2.1, A2.out.cells.2.2.2.1⟩
              clear h1 h2
              refine hK.out _ _ hS5 (fun hHeld => ?_)
              clear hHeld hK K
              try simp only [Act.put, List.setIfInBounds_toArray, List.set_cons_zero, List.set_cons_succ]
              refine Pair.take (i := 3) (fuel := 26) (d := 18) (v := .bool true) (by kernel_rfl) rfl rfl (by kernel_rfl) (by kernel_rfl) (by kernel_rfl) (fun _ _ _ h => h) (Or.inl ⟨by rfl, ?_⟩) hS5 ?_
              · (intro w' hSw; obtain ⟨f0, f1, f2⟩ := hSw; go_simp; try simp only [hb1])
              try simp only [Act.put, List.setIfInBounds_toArray, List.set_cons_zero, List.set_cons_succ]
              refine Pair.take (i := 4) (fuel := 25) (d := 19) (v := .bool true) (by kernel_rfl) rfl rfl (by kernel_rfl) (by kernel_rfl) (by kernel_rfl) (fun _ _ _ h => h) (Or.inl ⟨by rfl, ?_⟩) hS5 ?_
              · (intro w' hSw; obtain ⟨f0, f1, f2⟩ := hSw; go_simp; try simp only [hb1])
              try simp only [Act.put, List.setIfInBounds_toArray, List.set_cons_zero, List.set_cons_succ]
              refine Pair.take (i := 5) (fuel := 24) (d := 20) (v := undef) (by kernel_rfl) rfl rfl (by kernel_rfl) (by kernel_rfl) (by kernel_rfl) (fun _ _ _ h => h) (Or.inr ⟨by rfl, rfl⟩) hS5 ?_
              try simp only [Act.put, List.setIfInBounds_toArray, List.set_cons_zero, List.set_cons_succ]
              refine Pair.take (i := 6) (fuel := 23) (d := 21) (v := undef) (by kernel_rfl) rfl rfl (by kernel_rfl) (by kernel_rfl) (by kernel_rfl) (fun _ _ _ h => h) (Or.inr ⟨by rfl, rfl⟩) hS5 ?_
              try simp only [Act.put, List.setIfInBounds_toArray, List.set_cons_zero, List.set_cons_succ]
              refine Pair.take (i := 7) (fuel := 22) (d := 22) (v := undef) (by kernel_rfl) rfl rfl (by kernel_rfl) (by kernel_rfl) (by kernel_rfl) (fun _ _ _ h => h) (Or.inr ⟨by rfl, rfl⟩) hS5 ?_
              try simp only [Act.put, List.setIfInBounds_toArray, List.set_cons_zero, List.set_cons_succ]
              refine Pair.take (i := 8) (fuel := 21) (d := 23) (v := .bool true) (by kernel_rfl) rfl rfl (by kernel_rfl) (by kernel_rfl) (by kernel_rfl) (fun _ _ _ h => h) (Or.inl ⟨by rfl, ?_⟩) hS5 ?_
              · (intro w' hSw; obtain ⟨f0, f1, f2⟩ := hSw; go_simp; try simp only [hb1])
              try simp only [Act.put, List.setIfInBounds_toArray, List.set_cons_zero, List.set_cons_succ]
              refine Pair.take (i := 9) (fuel := 20) (d := 24) (v := .bool true) (by kernel_rfl) rfl rfl (by kernel_rfl) (by kernel_rfl) (by kernel_rfl) (fun _ _ _ h => h) (Or.inl ⟨by rfl, ?_⟩) hS5 ?_
              · (intro w' hSw; obtain ⟨f0, f1, f2⟩ := hSw; go_simp; try simp only [hb1])
              try simp only [Act.put, List.setIfInBounds_toArray, List.set_cons_zero, List.set_cons_succ]
              refine Pair.take (i := 10) (fuel := 19) (d := 25) (v := undef) (by kernel_rfl) rfl rfl (by kernel_rfl) (by kernel_rfl) (by kernel_rfl) (fun _ _ _ h => h) (Or.inr ⟨by rfl, rfl⟩) hS5 ?_
              try simp only [Act.put, List.setIfInBounds_toArray, List.set_cons_zero, List.set_cons_succ]
              refine Pair.take (i := 11) (fuel := 18) (d := 26) (v := undef) (by kernel_rfl) rfl rfl (by kernel_rfl) (by kernel_rfl) (by kernel_rfl) (fun _ _ _ h => h) (Or.inr ⟨by rfl, rfl⟩) hS5 ?_
              try simp only [Act.put, List.setIfInBounds_toArray, List.set_cons_zero, List.set_cons_succ]
              refine Pair.take (i := 12) (fuel := 17) (d := 27) (v := undef) (by kernel_rfl) rfl rfl (by kernel_rfl) (by kernel_rfl) (by kernel_rfl) (fun _ _ _ h => h) (Or.inr ⟨by rfl, rfl⟩) hS5 ?_
              try simp only [Act.put, List.setIfInBounds_toArray, List.set_cons_zero, List.set_cons_succ]
              refine Pair.take (i := 13) (fuel := 16) (d := 28) (v := .bool true) (by kernel_rfl) rfl rfl (by kernel_rfl) (by kernel_rfl) (by kernel_rfl) (fun _ _ _ h => h) (Or.inl ⟨by rfl, ?_⟩) hS5 ?_
              · (intro w' hSw; obtain ⟨f0, f1, f2⟩ := hSw; go_simp; try simp only [hb1])
              try simp only [Act.put, List.setIfInBounds_toArray, List.set_cons_zero, List.set_cons_succ]
              refine Pair.take (i := 14) (fuel := 15) (d := 29) (v := .bool true) (by kernel_rfl) rfl rfl (by kernel_rfl) (by kernel_rfl) (by kernel_rfl) (fun _ _ _ h => h) (Or.inl ⟨by rfl, ?_⟩) hS5 ?_
              · (intro w' hSw; obtain ⟨f0, f1, f2⟩ := hSw; go_simp; try simp only [hb1])
              try simp only [Act.put, List.setIfInBounds_toArray, List.set_cons_zero, List.set_cons_succ]
              refine Pair.take (i := 15) (fuel := 14) (d := 30) (v := undef) (by kernel_rfl) rfl rfl (by kernel_rfl) (by kernel_rfl) (by kernel_rfl) (fun _ _ _ h => h) (Or.inr ⟨by rfl, rfl⟩) hS5 ?_
              try simp only [Act.put, List.setIfInBounds_toArray, List.set_cons_zero, List.set_cons_succ]
              refine Pair.take (i := 16) (fuel := 13) (d := 31) (v := undef) (by kernel_rfl) rfl rfl (by kernel_rfl) (by kernel_rfl) (by kernel_rfl) (fun _ _ _ h => h) (Or.inr ⟨by rfl, rfl⟩) hS5 ?_
              try simp only [Act.put, List.setIfInBounds_toArray, List.set_cons_zero, List.set_cons_succ]
              refine Pair.take (i := 17) (fuel := 12) (d := 32) (v := undef) (by kernel_rfl) rfl rfl (by kernel_rfl) (by kernel_rfl) (by kernel_rfl) (fun _ _ _ h => h) (Or.inr ⟨by rfl, rfl⟩) hS5 ?_
              try simp only [Act.put, List.setIfInBounds_toArray, List.set_cons_zero, List.set_cons_succ]
              refine Pair.take (i := 18) (fuel := 11) (d := 33) (v := undef) (by kernel_rfl) rfl rfl (by kernel_rfl) (by kernel_rfl) (by kernel_rfl) (fun _ _ _ h => h) (Or.inr ⟨by rfl, rfl⟩) hS5 ?_
              try simp only [Act.put, List.setIfInBounds_toArray, List.set_cons_zero, List.set_cons_succ]
              refine Pair.take (i := 19) (fuel := 10) (d := 34) (v := undef) (by kernel_rfl) rfl rfl (by kernel_rfl) (by kernel_rfl) (by kernel_rfl) (fun _ _ _ h => h) (Or.inr ⟨by rfl, rfl⟩) hS5 ?_
              try simp only [Act.put, List.setIfInBounds_toArray, List.set_cons_zero, List.set_cons_succ]
              refine Pair.take (i := 20) (fuel := 9) (d := 35) (v := undef) (by kernel_rfl) rfl rfl (by kernel_rfl) (by kernel_rfl) (by kernel_rfl) (fun _ _ _ h => h) (Or.inr ⟨by rfl, rfl⟩) hS5 ?_
              try simp only [Act.put, List.setIfInBounds_toArray, List.set_cons_zero, List.set_cons_succ]
              refine Pair.take (i := 21) (fuel := 8) (d := 36) (v := undef) (by kernel_rfl) rfl rfl (by kernel_rfl) (by kernel_rfl) (by kernel_rfl) (fun _ _ _ h => h) (Or.inr ⟨by rfl, rfl⟩) hS5 ?_
              try simp only [Act.put, List.setIfInBounds_toArray, List.set_cons_zero, List.set_cons_succ]
              refine Pair.take (i := 22) (fuel := 7) (d := 37) (v := undef) (by kernel_rfl) rfl rfl (by kernel_rfl) (by kernel_rfl) (by kernel_rfl) (fun _ _ _ h => h) (Or.inr ⟨by rfl, rfl⟩) hS5 ?_
              try simp only [Act.put, List.setIfInBounds_toArray, List.set_cons_zero, List.set_cons_succ]
              refine Pair.take (i := 23) (fuel := 6) (d := 38) (v := undef) (by kernel_rfl) rfl rfl (by kernel_rfl) (by kernel_rfl) (by kernel_rfl) (fun _ _ _ h => h) (Or.inr ⟨by rfl, rfl⟩) hS5 ?_
              try simp only [Act.put, List.setIfInBounds_toArray, List.set_cons_zero, List.set_cons_succ]
              refine Pair.take (i := 24) (fuel := 5) (d := 39) (v := undef) (by kernel_rfl) rfl rfl (by kernel_rfl) (by kernel_rfl) (by kernel_rfl) (fun _ _ _ h => h) (Or.inr ⟨by rfl, rfl⟩) hS5 ?_
              try simp only [Act.put, List.setIfInBounds_toArray, List.set_cons_zero, List.set_cons_succ]
              refine Pair.take (i := 25) (fuel := 4) (d := 40) (v := undef) (by kernel_rfl) rfl rfl (by kernel_rfl) (by kernel_rfl) (by kernel_rfl) (fun _ _ _ h => h) (Or.inr ⟨by rfl, rfl⟩) hS5 ?_
              try simp only [Act.put, List.setIfInBounds_toArray, List.set_cons_zero, List.set_cons_succ]
              refine Pair.take (i := 26) (fuel := 3) (d := 41) (v := undef) (by kernel_rfl) rfl rfl (by kernel_rfl) (by kernel_rfl) (by kernel_rfl) (fun _ _ _ h => h) (Or.inr ⟨by rfl, rfl⟩) hS5 ?_
              try simp only [Act.put, List.setIfInBounds_toArray, List.set_cons_zero, List.set_cons_succ]
              refine Pair.take (i := 27) (fuel := 2) (d := 42) (v := undef) (by kernel_rfl) rfl rfl (by kernel_rfl) (by kernel_rfl) (by kernel_rfl) (fun _ _ _ h => h) (Or.inr ⟨by rfl, rfl⟩) hS5 ?_
              try simp only [Act.put, List.setIfInBounds_toArray, List.set_cons_zero, List.set_cons_succ]
              refine Pair.take (i := 28) (fuel := 1) (d := 43) (v := undef) (by kernel_rfl) rfl rfl (by kernel_rfl) (by kernel_rfl) (by kernel_rfl) (fun _ _ _ h => h) (Or.inr ⟨by rfl, rfl⟩) hS5 ?_
              try simp only [Act.put, List.setIfInBounds_toArray, List.set_cons_zero, List.set_cons_succ]
              refine Pair.take (i := 29) (fuel := 0) (d := 44) (v := .bool true) (by kernel_rfl) rfl rfl (by kernel_rfl) (by kernel_rfl) (by kernel_rfl) (fun _ _ _ h => h) (Or.inl ⟨by rfl, ?_⟩) hS5 ?_
              · (intro w' hSw; obtain ⟨f0, f1, f2⟩ := hSw; go_simp; try simp only [hb1])
              try simp only [Act.put, List.setIfInBounds_toArray, List.set_cons_zero, List.set_cons_succ]
              refine wpAnyH_done (by kernel_rfl) ?_ _
              go_wp2_with (first
                | (go_at_call 94; refine (fail_any _ eb s4 201 A2.out.eye).mono ?_; rintro e w6 ⟨rfl, rfl⟩)
                | fail)
              exact ⟨rfl, A2.out.err HE.out⟩
            · rw [if_pos gb] at hR
              have hb1 : ((sz : Int) != n) = false := by rw [g1]; exact bne_self_eq_false _
              have hb2 : decide ((gen : Int) < 1) = true := decide_eq_true (by omega)
              have HE : Hid (beginsR n s = .error 201) := HR.out.symm.trans hR
              clear hR gb
              have hS0 : (fun w' => w'.cell? ⟨bx, 0, none⟩ = some (.int .i64 gen) ∧ w'.cell? ⟨bx, 1, none⟩ = some (.int .i64 root) ∧ w'.cell? ⟨bn, 0, none⟩ = some (.int .i64 n)) w4.drew := ⟨A0.out.cells.1, A0.out.cells.2.1, A0.out.cells.2.2.2.1⟩
              refine wp_region_held_drew (S := (fun w' => w'.cell? ⟨bx, 0, none⟩ = some (.int .i64 gen) ∧ w'.cell? ⟨bx, 1, none⟩ = some (.int .i64 root) ∧ w'.cell? ⟨bn, 0, none⟩ = some (.int .i64 n))) (by kernel_rfl) hS0 (fun hHeld => ?_)
              clear hHeld
              refine Pair.take (i := 0) (fuel := 29) (d := 15) (v := ?_) (by kernel_rfl) rfl rfl (by kernel_rfl) (by kernel_rfl) (by kernel_rfl) (fun _ _ _ h => h) (Or.inl ⟨by rfl, ?_⟩) hS0 ?_
              rotate_left 1
              · (intro w' hSw; obtain ⟨f0, f1, f2⟩ := hSw; go_simp; try with_reducible rfl)
              try simp only [Act.put, List.setIfInBounds_toArray, List.set_cons_zero, List.set_cons_succ]
              refine Pair.take (i := 2) (fuel := 28) (d := 17) (v := ?_) (by kernel_rfl) rfl rfl (by kernel_rfl) (by kernel_rfl) (by kernel_rfl) (fun _ _ _ h => h) (Or.inl ⟨by rfl, ?_⟩) hS0 ?_
              rotate_left 1
              · (intro w' hSw; obtain ⟨f0, f1, f2⟩ := hSw; go_simp; try with_reducible rfl)
              try simp only [Act.put, List.setIfInBounds_toArray, List.set_cons_zero, List.set_cons_succ]
              refine Pair.call1 (i := 1) (fuel := 27) (by kernel_rfl) rfl (by kernel_rfl) (fun K hK => ?_)
              go_simp
              go_at_call 95
              refine (hnum _ A0.out.eye).mono ?_
              intro e w5 h1
              obtain ⟨rfl, h1, h2⟩ := h1.of_ok
              have A2 : Hid (Beg w w5 eb bx bn s4 gen root ⟨#[]⟩ n) := A0.out.eyed h1 h2
              have hS5 : (fun w' => w'.cell? ⟨bx, 0, none⟩ = some (.int .i64 gen) ∧ w'.cell? ⟨bx, 1, none⟩ = some (.int .i64 root) ∧ w'.cell? ⟨bn, 0, none⟩ = some (.int .i64 n)) w5 := ⟨A2.out.cells.1, A2.out.cells.2.1, A2.out.cells.2.2.2.1⟩
              clear h1 h2
              refine hK.out _ _ hS5 (fun hHeld => ?_)
              clear hHeld hK K
              try simp only [Act.put, List.setIfInBounds_toArray, List.set_cons_zero, List.set_cons_succ]
              refine Pair.take (i := 3) (fuel := 26) (d := 18) (v := .bool false) (by kernel_rfl) rfl rfl (by kernel_rfl) (by kernel_rfl) (by kernel_rfl) (fun _ _ _ h => h) (Or.inl ⟨by rfl, ?_⟩) hS5 ?_
              · (intro w' hSw; obtain ⟨f0, f1, f2⟩ := hSw; go_simp; try simp only [hb1, hb2])
              try simp only [Act.put, List.setIfInBounds_toArray, List.set_cons_zero, List.set_cons_succ]
              refine Pair.take (i := 4) (fuel := 25) (d := 19) (v := .bool false) (by kernel_rfl) rfl rfl (by kernel_rfl) (by kernel_rfl) (by kernel_rfl) (fun _ _ _ h => h) (Or.inl ⟨by rfl, ?_⟩) hS5 ?_
              · (intro w' hSw; obtain ⟨f0, f1, f2⟩ := hSw; go_simp; try simp only [hb1, hb2])
              try simp only [Act.put, List.setIfInBounds_toArray, List.set_cons_zero, List.set_cons_succ]
              refine Pair.take (i := 5) (fuel := 24) (d := 20) (v := ?_) (by kernel_rfl) rfl rfl (by kernel_rfl) (by kernel_rfl) (by kernel_rfl) (fun _ _ _ h => h) (Or.inl ⟨by rfl, ?_⟩) hS5 ?_
              rotate_left 1
              · (intro w' hSw; obtain ⟨f0, f1, f2⟩ := hSw; go_simp; try with_reducible rfl)
              try simp only [Act.put, List.setIfInBounds_toArray, List.set_cons_zero, List.set_cons_succ]
              refine Pair.take (i := 6) (fuel := 23) (d := 21) (v := ?_) (by kernel_rfl) rfl rfl (by kernel_rfl) (by kernel_rfl) (by kernel_rfl) (fun _ _ _ h => h) (Or.inl ⟨by rfl, ?_⟩) hS5 ?_
              rotate_left 1
              · (intro w' hSw; obtain ⟨f0, f1, f2⟩ := hSw; go_simp; try with_reducible rfl)
              try simp only [Act.put, List.setIfInBounds_toArray, List.set_cons_zero, List.set_cons_succ]
              refine Pair.take (i := 7) (fuel := 22) (d := 22) (v := .bool true) (by kernel_rfl) rfl rfl (by kernel_rfl) (by kernel_rfl) (by kernel_rfl) (fun _ _ _ h => h) (Or.inl ⟨by rfl, ?_⟩) hS5 ?_
              · (intro w' hSw; obtain ⟨f0, f1, f2⟩ := hSw; go_simp; try simp only [hb1, hb2])
              try simp only [Act.put, List.setIfInBounds_toArray, List.set_cons_zero, List.set_cons_succ]
              refine Pair.take (i := 8) (fuel := 21) (d := 23) (v := .bool true) (by kernel_rfl) rfl rfl (by kernel_rfl) (by kernel_rfl) (by kernel_rfl) (fun _ _ _ h => h) (Or.inl ⟨by rfl, ?_⟩) hS5 ?_
              · (intro w' hSw; obtain ⟨f0, f1, f2⟩ := hSw; go_simp; try simp only [hb1, hb2])
              try simp only [Act.put, List.setIfInBounds_toArray, List.set_cons_zero, List.set_cons_succ]
              refine Pair.take (i := 9) (fuel := 20) (d := 24) (v := .bool true) (by kernel_rfl) rfl rfl (by kernel_rfl) (by kernel_rfl) (by kernel_rfl) (fun _ _ _ h => h) (Or.inl ⟨by rfl, ?_⟩) hS5 ?_
              · (intro w' hSw; obtain ⟨f0, f1, f2⟩ := hSw; go_simp; try simp only [hb1, hb2])
              try simp only [Act.put, List.setIfInBounds_toArray, List.set_cons_zero, List.set_cons_succ]
              refine Pair.take (i := 10) (fuel := 19) (d := 25) (v := undef) (by kernel_rfl) rfl rfl (by kernel_rfl) (by kernel_rfl) (by kernel_rfl) (fun _ _ _ h => h) (Or.inr ⟨by rfl, rfl⟩) hS5 ?_
              try simp only [Act.put, List.setIfInBounds_toArray, List.set_cons_zero, List.set_cons_succ]
              refine Pair.take (i := 11) (fuel := 18) (d := 26) (v := undef) (by kernel_rfl) rfl rfl (by kernel_rfl) (by kernel_rfl) (by kernel_rfl) (fun _ _ _ h => h) (Or.inr ⟨by rfl, rfl⟩) hS5 ?_
              try simp only [Act.put, List.setIfInBounds_toArray, List.set_cons_zero, List.set_cons_succ]
              refine Pair.take (i := 12) (fuel := 17) (d := 27) (v := undef) (by kernel_rfl) rfl rfl (by kernel_rfl) (by kernel_rfl) (by kernel_rfl) (fun _ _ _ h => h) (Or.inr ⟨by rfl, rfl⟩) hS5 ?_
              try simp only [Act.put, List.setIfInBounds_toArray, List.set_cons_zero, List.set_cons_succ]
              refine Pair.take (i := 13) (fuel := 16) (d := 28) (v := .bool true) (by kernel_rfl) rfl rfl (by kernel_rfl) (by kernel_rfl) (by kernel_rfl) (fun _ _ _ h => h) (Or.inl ⟨by rfl, ?_⟩) hS5 ?_
              · (intro w' hSw; obtain ⟨f0, f1, f2⟩ := hSw; go_simp; try simp only [hb1, hb2])
              try simp only [Act.put, List.setIfInBounds_toArray, List.set_cons_zero, List.set_cons_succ]
              refine Pair.take (i := 14) (fuel := 15) (d := 29) (v := .bool true) (by kernel_rfl) rfl rfl (by kernel_rfl) (by kernel_rfl) (by kernel_rfl) (fun _ _ _ h => h) (Or.inl ⟨by rfl, ?_⟩) hS5 ?_
              · (intro w' hSw; obtain ⟨f0, f1, f2⟩ := hSw; go_simp; try simp only [hb1, hb2])
              try simp only [Act.put, List.setIfInBounds_toArray, List.set_cons_zero, List.set_cons_succ]
              refine Pair.take (i := 15) (fuel := 14) (d := 30) (v := undef) (by kernel_rfl) rfl rfl (by kernel_rfl) (by kernel_rfl) (by kernel_rfl) (fun _ _ _ h => h) (Or.inr ⟨by rfl, rfl⟩) hS5 ?_
              try simp only [Act.put, List.setIfInBounds_toArray, List.set_cons_zero, List.set_cons_succ]
              refine Pair.take (i := 16) (fuel := 13) (d := 31) (v := undef) (by kernel_rfl) rfl rfl (by kernel_rfl) (by kernel_rfl) (by kernel_rfl) (fun _ _ _ h => h) (Or.inr ⟨by rfl, rfl⟩) hS5 ?_
              try simp only [Act.put, List.setIfInBounds_toArray, List.set_cons_zero, List.set_cons_succ]
              refine Pair.take (i := 17) (fuel := 12) (d := 32) (v := undef) (by kernel_rfl) rfl rfl (by kernel_rfl) (by kernel_rfl) (by kernel_rfl) (fun _ _ _ h => h) (Or.inr ⟨by rfl, rfl⟩) hS5 ?_
              try simp only [Act.put, List.setIfInBounds_toArray, List.set_cons_zero, List.set_cons_succ]
              refine Pair.take (i := 18) (fuel := 11) (d := 33) (v := undef) (by kernel_rfl) rfl rfl (by kernel_rfl) (by kernel_rfl) (by kernel_rfl) (fun _ _ _ h => h) (Or.inr ⟨by rfl, rfl⟩) hS5 ?_
              try simp only [Act.put, List.setIfInBounds_toArray, List.set_cons_zero, List.set_cons_succ]
              refine Pair.take (i := 19) (fuel := 10) (d := 34) (v := undef) (by kernel_rfl) rfl rfl (by kernel_rfl) (by kernel_rfl) (by kernel_rfl) (fun _ _ _ h => h) (Or.inr ⟨by rfl, rfl⟩) hS5 ?_
              try simp only [Act.put, List.setIfInBounds_toArray, List.set_cons_zero, List.set_cons_succ]
              refine Pair.take (i := 20) (fuel := 9) (d := 35) (v := undef) (by kernel_rfl) rfl rfl (by kernel_rfl) (by kernel_rfl) (by kernel_rfl) (fun _ _ _ h => h) (Or.inr ⟨by rfl, rfl⟩) hS5 ?_
              try simp only [Act.put, List.setIfInBounds_toArray, List.set_cons_zero, List.set_cons_succ]
              refine Pair.take (i := 21) (fuel := 8) (d := 36) (v := undef) (by kernel_rfl) rfl rfl (by kernel_rfl) (by kernel_rfl) (by kernel_rfl) (fun _ _ _ h => h) (Or.inr ⟨by rfl, rfl⟩) hS5 ?_
              try simp only [Act.put, List.setIfInBounds_toArray, List.set_cons_zero, List.set_cons_succ]
              refine Pair.take (i := 22) (fuel := 7) (d := 37) (v := undef) (by kernel_rfl) rfl rfl (by kernel_rfl) (by kernel_rfl) (by kernel_rfl) (fun _ _ _ h => h) (Or.inr ⟨by rfl, rfl⟩) hS5 ?_
              try simp only [Act.put, List.setIfInBounds_toArray, List.set_cons_zero, List.set_cons_succ]
              refine Pair.take (i := 23) (fuel := 6) (d := 38) (v := undef) (by kernel_rfl) rfl rfl (by kernel_rfl) (by kernel_rfl) (by kernel_rfl) (fun _ _ _ h => h) (Or.inr ⟨by rfl, rfl⟩) hS5 ?_
              try simp only [Act.put, List.setIfInBounds_toArray, List.set_cons_zero, List.set_cons_succ]
              refine Pair.take (i := 24) (fuel := 5) (d := 39) (v := undef) (by kernel_rfl) rfl rfl (by kernel_rfl) (by kernel_rfl) (by kernel_rfl) (fun _ _ _ h => h) (Or.inr ⟨by rfl, rfl⟩) hS5 ?_
              try simp only [Act.put, List.setIfInBounds_toArray, List.set_cons_zero, List.set_cons_succ]
              refine Pair.take (i := 25) (fuel := 4) (d := 40) (v := undef) (by kernel_rfl) rfl rfl (by kernel_rfl) (by kernel_rfl) (by kernel_rfl) (fun _ _ _ h => h) (Or.inr ⟨by rfl, rfl⟩) hS5 ?_
              try simp only [Act.put, List.setIfInBounds_toArray, List.set_cons_zero, List.set_cons_succ]
              refine Pair.take (i := 26) (fuel := 3) (d := 41) (v := undef) (by kernel_rfl) rfl rfl (by kernel_rfl) (by kernel_rfl) (by kernel_rfl) (fun _ _ _ h => h) (Or.inr ⟨by rfl, rfl⟩) hS5 ?_
              try simp only [Act.put, List.setIfInBounds_toArray, List.set_cons_zero, List.set_cons_succ]
              refine Pair.take (i := 27) (fuel := 2) (d := 42) (v := undef) (by kernel_rfl) rfl rfl (by kernel_rfl) (by kernel_rfl) (by kernel_rfl) (fun _ _ _ h => h) (Or.inr ⟨by rfl, rfl⟩) hS5 ?_
              try simp only [Act.put, List.setIfInBounds_toArray, List.set_cons_zero, List.set_cons_succ]
              refine Pair.take (i := 28) (fuel := 1) (d := 43) (v := undef) (by kernel_rfl) rfl rfl (by kernel_rfl) (by kernel_rfl) (by kernel_rfl) (fun _ _ _ h => h) (Or.inr ⟨by rfl, rfl⟩) hS5 ?_
              try simp only [Act.put, List.setIfInBounds_toArray, List.set_cons_zero, List.set_cons_succ]
              refine Pair.take (i := 29) (fuel := 0) (d := 44) (v := .bool true) (by kernel_rfl) rfl rfl (by kernel_rfl) (by kernel_rfl) (by kernel_rfl) (fun _ _ _ h => h) (Or.inl ⟨by rfl, ?_⟩) hS5 ?_
              · (intro w' hSw; obtain ⟨f0, f1, f2⟩ := hSw; go_simp; try simp only [hb1, hb2])
              try simp only [Act.put, List.setIfInBounds_toArray, List.set_cons_zero, List.set_cons_succ]
              refine wpAnyH_done (by kernel_rfl) ?_ _
              go_wp2_with (first
                | (go_at_call 94; refine (fail_any _ eb s4 201 A2.out.eye).mono ?_; rintro e w6 ⟨rfl, rfl⟩)
                | fail)
              exact ⟨rfl, A2.out.err HE.out⟩
            · rw [if_pos gb] at hR
              have hb1 : ((sz : Int) != n) = false := by rw [g1]; exact bne_self_eq_false _
              have hb2 : decide ((gen : Int) < 1) = false := decide_eq_false (by omega)
              have hb3 : decide (1099511627776 < (gen : Int)) = true := decide_eq_true (by omega)
              have HE : Hid (beginsR n s = .error 201) := HR.out.symm.trans hR
              clear hR gb
              have hS0 : (fun w' => w'.cell? ⟨bx, 0, none⟩ = some (.int .i64 gen) ∧ w'.cell? ⟨bx, 1, none⟩ = some (.int .i64 root) ∧ w'.cell? ⟨bn, 0, none⟩ = some (.int .i64 n)) w4.drew := ⟨A0.out.cells.1, A0.out.cells.2.1, A0.out.cells.2.2.2.1⟩
              refine wp_region_held_drew (S := (fun w' => w'.cell? ⟨bx, 0, none⟩ = some (.int .i64 gen) ∧ w'.cell? ⟨bx, 1, none⟩ = some (.int .i64 root) ∧ w'.cell? ⟨bn, 0, none⟩ = some (.int .i64 n))) (by kernel_rfl) hS0 (fun hHeld => ?_)
              clear hHeld
              refine Pair.take (i := 0) (fuel := 29) (d := 15) (v := ?_) (by kernel_rfl) rfl rfl (by kernel_rfl) (by kernel_rfl) (by kernel_rfl) (fun _ _ _ h => h) (Or.inl ⟨by rfl, ?_⟩) hS0 ?_
              rotate_left 1
              · (intro w' hSw; obtain ⟨f0, f1, f2⟩ := hSw; go_simp; try with_reducible rfl)
              try simp only [Act.put, List.setIfInBounds_toArray, List.set_cons_zero, List.set_cons_succ]
              refine Pair.take (i := 2) (fuel := 28) (d := 17) (v := ?_) (by kernel_rfl) rfl rfl (by kernel_rfl) (by kernel_rfl) (by kernel_rfl) (fun _ _ _ h => h) (Or.inl ⟨by rfl, ?_⟩) hS0 ?_
              rotate_left 1
              · (intro w' hSw; obtain ⟨f0, f1, f2⟩ := hSw; go_simp; try with_reducible rfl)
              try simp only [Act.put, List.setIfInBounds_toArray, List.set_cons_zero, List.set_cons_succ]
              refine Pair.call1 (i := 1) (fuel := 27) (by kernel_rfl) rfl (by kernel_rfl) (fun K hK => ?_)
              go_simp
              go_at_call 95
              refine (hnum _ A0.out.eye).mono ?_
              intro e w5 h1
              obtain ⟨rfl, h1, h2⟩ := h1.of_ok
              have A2 : Hid (Beg w w5 eb bx bn s4 gen root ⟨#[]⟩ n) := A0.out.eyed h1 h2
              have hS5 : (fun w' => w'.cell? ⟨bx, 0, none⟩ = some (.int .i64 gen) ∧ w'.cell? ⟨bx, 1, none⟩ = some (.int .i64 root) ∧ w'.cell? ⟨bn, 0, none⟩ = some (.int .i64 n)) w5 := ⟨A2.out.cells.1, A2.out.cells.2.1, A2.out.cells.2.2.2.1⟩
              clear h1 h2
              refine hK.out _ _ hS5 (fun hHeld => ?_)
              clear hHeld hK K
              try simp only [Act.put, List.setIfInBounds_toArray, List.set_cons_zero, List.set_cons_succ]
              refine Pair.take (i := 3) (fuel := 26) (d := 18) (v := .bool false) (by kernel_rfl) rfl rfl (by kernel_rfl) (by kernel_rfl) (by kernel_rfl) (fun _ _ _ h => h) (Or.inl ⟨by rfl, ?_⟩) hS5 ?_
              · (intro w' hSw; obtain ⟨f0, f1, f2⟩ := hSw; go_simp; try simp only [hb1, hb2, hb3])
              try simp only [Act.put, List.setIfInBounds_toArray, List.set_cons_zero, List.set_cons_succ]
              refine Pair.take (i := 4) (fuel := 25) (d := 19) (v := .bool false) (by kernel_rfl) rfl rfl (by kernel_rfl) (by kernel_rfl) (by kernel_rfl) (fun _ _ _ h => h) (Or.inl ⟨by rfl, ?_⟩) hS5 ?_
              · (intro w' hSw; obtain ⟨f0, f1, f2⟩ := hSw; go_simp; try simp only [hb1, hb2, hb3])
              try simp only [Act.put, List.setIfInBounds_toArray, List.set_cons_zero, List.set_cons_succ]
              refine Pair.take (i := 5) (fuel := 24) (d := 20) (v := ?_) (by kernel_rfl) rfl rfl (by kernel_rfl) (by kernel_rfl) (by kernel_rfl) (fun _ _ _ h => h) (Or.inl ⟨by rfl, ?_⟩) hS5 ?_
              rotate_left 1
              · (intro w' hSw; obtain ⟨f0, f1, f2⟩ := hSw; go_simp; try with_reducible rfl)
              try simp only [Act.put, List.setIfInBounds_toArray, List.set_cons_zero, List.set_cons_succ]
              refine Pair.take (i := 6) (fuel := 23) (d := 21) (v := ?_) (by kernel_rfl) rfl rfl (by kernel_rfl) (by kernel_rfl) (by kernel_rfl) (fun _ _ _ h => h) (Or.inl ⟨by rfl, ?_⟩) hS5 ?_
              rotate_left 1
              · (intro w' hSw; obtain ⟨f0, f1, f2⟩ := hSw; go_simp; try with_reducible rfl)
              try simp only [Act.put, List.setIfInBounds_toArray, List.set_cons_zero, List.set_cons_succ]
              refine Pair.take (i := 7) (fuel := 22) (d := 22) (v := .bool false) (by kernel_rfl) rfl rfl (by kernel_rfl) (by kernel_rfl) (by kernel_rfl) (fun _ _ _ h => h) (Or.inl ⟨by rfl, ?_⟩) hS5 ?_
              · (intro w' hSw; obtain ⟨f0, f1, f2⟩ := hSw; go_simp; try simp only [hb1, hb2, hb3])
              try simp only [Act.put, List.setIfInBounds_toArray, List.set_cons_zero, List.set_cons_succ]
              refine Pair.take (i := 8) (fuel := 21) (d := 23) (v := .bool false) (by kernel_rfl) rfl rfl (by kernel_rfl) (by kernel_rfl) (by kernel_rfl) (fun _ _ _ h => h) (Or.inl ⟨by rfl, ?_⟩) hS5 ?_
              · (intro w' hSw; obtain ⟨f0, f1, f2⟩ := hSw; go_simp; try simp only [hb1, hb2, hb3])
              try simp only [Act.put, List.setIfInBounds_toArray, List.set_cons_zero, List.set_cons_succ]
              refine Pair.take (i := 9) (fuel := 20) (d := 24) (v := .bool false) (by kernel_rfl) rfl rfl (by kernel_rfl) (by kernel_rfl) (by kernel_rfl) (fun _ _ _ h => h) (Or.inl ⟨by rfl, ?_⟩) hS5 ?_
              · (intro w' hSw; obtain ⟨f0, f1, f2⟩ := hSw; go_simp; try simp only [hb1, hb2, hb3])
              try simp only [Act.put, List.setIfInBounds_toArray, List.set_cons_zero, List.set_cons_succ]
              refine Pair.take (i := 10) (fuel := 19) (d := 25) (v := ?_) (by kernel_rfl) rfl rfl (by kernel_rfl) (by kernel_rfl) (by kernel_rfl) (fun _ _ _ h => h) (Or.inl ⟨by rfl, ?_⟩) hS5 ?_
              rotate_left 1
              · (intro w' hSw; obtain ⟨f0, f1, f2⟩ := hSw; go_simp; try with_reducible rfl)
              try simp only [Act.put, List.setIfInBounds_toArray, List.set_cons_zero, List.set_cons_succ]
              refine Pair.take (i := 11) (fuel := 18) (d := 26) (v := ?_) (by kernel_rfl) rfl rfl (by kernel_rfl) (by kernel_rfl) (by kernel_rfl) (fun _ _ _ h => h) (Or.inl ⟨by rfl, ?_⟩) hS5 ?_
              rotate_left 1
              · (intro w' hSw; obtain ⟨f0, f1, f2⟩ := hSw; go_simp; try with_reducible rfl)
              try simp only [Act.put, List.setIfInBounds_toArray, List.set_cons_zero, List.set_cons_succ]
              refine Pair.take (i := 12) (fuel := 17) (d := 27) (v := .bool true) (by kernel_rfl) rfl rfl (by kernel_rfl) (by kernel_rfl) (by kernel_rfl) (fun _ _ _ h => h) (Or.inl ⟨by rfl, ?_⟩) hS5 ?_
              · (intro w' hSw; obtain ⟨f0, f1, f2⟩ := hSw; go_simp; try simp only [hb1, hb2, hb3])
              try simp only [Act.put, List.setIfInBounds_toArray, List.set_cons_zero, List.set_cons_succ]
              refine Pair.take (i := 13) (fuel := 16) (d := 28) (v := .bool true) (by kernel_rfl) rfl rfl (by kernel_rfl) (by kernel_rfl) (by kernel_rfl) (fun _ _ _ h => h) (Or.inl ⟨by rfl, ?_⟩) hS5 ?_
              · (intro w' hSw; obtain ⟨f0, f1, f2⟩ := hSw; go_simp; try simp only [hb1, hb2, hb3])
              try simp only [Act.put, List.setIfInBounds_toArray, List.set_cons_zero, List.set_cons_succ]
              refine Pair.take (i := 14) (fuel := 15) (d := 29) (v := .bool true) (by kernel_rfl) rfl rfl (by kernel_rfl) (by kernel_rfl) (by kernel_rfl) (fun _ _ _ h => h) (Or.inl ⟨by rfl, ?_⟩) hS5 ?_
              · (intro w' hSw; obtain ⟨f0, f1, f2⟩ := hSw; go_simp; try simp only [hb1, hb2, hb3])
              try simp only [Act.put, List.setIfInBounds_toArray, List.set_cons_zero, List.set_cons_succ]
              refine Pair.take (i := 15) (fuel := 14) (d := 30) (v := undef) (by kernel_rfl) rfl rfl (by kernel_rfl) (by kernel_rfl) (by kernel_rfl) (fun _ _ _ h => h) (Or.inr ⟨by rfl, rfl⟩) hS5 ?_
              try simp only [Act.put, List.setIfInBounds_toArray, List.set_cons_zero, List.set_cons_succ]
              refine Pair.take (i := 16) (fuel := 13) (d := 31) (v := undef) (by kernel_rfl) rfl rfl (by kernel_rfl) (by kernel_rfl) (by kernel_rfl) (fun _ _ _ h => h) (Or.inr ⟨by rfl, rfl⟩) hS5 ?_
              try simp only [Act.put, List.setIfInBounds_toArray, List.set_cons_zero, List.set_cons_succ]
              refine Pair.take (i := 17) (fuel := 12) (d := 32) (v := undef) (by kernel_rfl) rfl rfl (by kernel_rfl) (by kernel_rfl) (by kernel_rfl) (fun _ _ _ h => h) (Or.inr ⟨by rfl, rfl⟩) hS5 ?_
              try simp only [Act.put, List.setIfInBounds_toArray, List.set_cons_zero, List.set_cons_succ]
              refine Pair.take (i := 18) (fuel := 11) (d := 33) (v := undef) (by kernel_rfl) rfl rfl (by kernel_rfl) (by kernel_rfl) (by kernel_rfl) (fun _ _ _ h => h) (Or.inr ⟨by rfl, rfl⟩) hS5 ?_
              try simp only [Act.put, List.setIfInBounds_toArray, List.set_cons_zero, List.set_cons_succ]
              refine Pair.take (i := 19) (fuel := 10) (d := 34) (v := undef) (by kernel_rfl) rfl rfl (by kernel_rfl) (by kernel_rfl) (by kernel_rfl) (fun _ _ _ h => h) (Or.inr ⟨by rfl, rfl⟩) hS5 ?_
              try simp only [Act.put, List.setIfInBounds_toArray, List.set_cons_zero, List.set_cons_succ]
              refine Pair.take (i := 20) (fuel := 9) (d := 35) (v := undef) (by kernel_rfl) rfl rfl (by kernel_rfl) (by kernel_rfl) (by kernel_rfl) (fun _ _ _ h => h) (Or.inr ⟨by rfl, rfl⟩) hS5 ?_
              try simp only [Act.put, List.setIfInBounds_toArray, List.set_cons_zero, List.set_cons_succ]
              refine Pair.take (i := 21) (fuel := 8) (d := 36) (v := undef) (by kernel_rfl) rfl rfl (by kernel_rfl) (by kernel_rfl) (by kernel_rfl) (fun _ _ _ h => h) (Or.inr ⟨by rfl, rfl⟩) hS5 ?_
              try simp only [Act.put, List.setIfInBounds_toArray, List.set_cons_zero, List.set_cons_succ]
              refine Pair.take (i := 22) (fuel := 7) (d := 37) (v := undef) (by kernel_rfl) rfl rfl (by kernel_rfl) (by kernel_rfl) (by kernel_rfl) (fun _ _ _ h => h) (Or.inr ⟨by rfl, rfl⟩) hS5 ?_
              try simp only [Act.put, List.setIfInBounds_toArray, List.set_cons_zero, List.set_cons_succ]
              refine Pair.take (i := 23) (fuel := 6) (d := 38) (v := undef) (by kernel_rfl) rfl rfl (by kernel_rfl) (by kernel_rfl) (by kernel_rfl) (fun _ _ _ h => h) (Or.inr ⟨by rfl, rfl⟩) hS5 ?_
              try simp only [Act.put, List.setIfInBounds_toArray, List.set_cons_zero, List.set_cons_succ]
              refine Pair.take (i := 24) (fuel := 5) (d := 39) (v := undef) (by kernel_rfl) rfl rfl (by kernel_rfl) (by kernel_rfl) (by kernel_rfl) (fun _ _ _ h => h) (Or.inr ⟨by rfl, rfl⟩) hS5 ?_
              try simp only [Act.put, List.setIfInBounds_toArray, List.set_cons_zero, List.set_cons_succ]
              refine Pair.take (i := 25) (fuel := 4) (d := 40) (v := undef) (by kernel_rfl) rfl rfl (by kernel_rfl) (by kernel_rfl) (by kernel_rfl) (fun _ _ _ h => h) (Or.inr ⟨by rfl, rfl⟩) hS5 ?_
              try simp only [Act.put, List.setIfInBounds_toArray, List.set_cons_zero, List.set_cons_succ]
              refine Pair.take (i := 26) (fuel := 3) (d := 41) (v := undef) (by kernel_rfl) rfl rfl (by kernel_rfl) (by kernel_rfl) (by kernel_rfl) (fun _ _ _ h => h) (Or.inr ⟨by rfl, rfl⟩) hS5 ?_
              try simp only [Act.put, List.setIfInBounds_toArray, List.set_cons_zero, List.set_cons_succ]
              refine Pair.take (i := 27) (fuel := 2) (d := 42) (v := undef) (by kernel_rfl) rfl rfl (by kernel_rfl) (by kernel_rfl) (by kernel_rfl) (fun _ _ _ h => h) (Or.inr ⟨by rfl, rfl⟩) hS5 ?_
              try simp only [Act.put, List.setIfInBounds_toArray, List.set_cons_zero, List.set_cons_succ]
              refine Pair.take (i := 28) (fuel := 1) (d := 43) (v := undef) (by kernel_rfl) rfl rfl (by kernel_rfl) (by kernel_rfl) (by kernel_rfl) (fun _ _ _ h => h) (Or.inr ⟨by rfl, rfl⟩) hS5 ?_
              try simp only [Act.put, List.setIfInBounds_toArray, List.set_cons_zero, List.set_cons_succ]
              refine Pair.take (i := 29) (fuel := 0) (d := 44) (v := .bool true) (by kernel_rfl) rfl rfl (by kernel_rfl) (by kernel_rfl) (by kernel_rfl) (fun _ _ _ h => h) (Or.inl ⟨by rfl, ?_⟩) hS5 ?_
              · (intro w' hSw; obtain ⟨f0, f1, f2⟩ := hSw; go_simp; try simp only [hb1, hb2, hb3])
              try simp only [Act.put, List.setIfInBounds_toArray, List.set_cons_zero, List.set_cons_succ]
              refine wpAnyH_done (by kernel_rfl) ?_ _
              go_wp2_with (first
                | (go_at_call 94; refine (fail_any _ eb s4 201 A2.out.eye).mono ?_; rintro e w6 ⟨rfl, rfl⟩)
                | fail)
              exact ⟨rfl, A2.out.err HE.out⟩
            · rw [if_pos gb] at hR
              have hb1 : ((sz : Int) != n) = false := by rw [g1]; exact bne_self_eq_false _
              have hb2 : decide ((gen : Int) < 1) = false := decide_eq_false (by omega)
              have hb3 : decide (1099511627776 < (gen : Int)) = false := decide_eq_false (by omega)
              have hb4 : ((root : Int) != 0) = true := bne_iff_ne.2 g4
              have hb5 : decide ((root : Int) < 2) = true := decide_eq_true (by omega)
              have HE : Hid (beginsR n s = .error 201) := HR.out.symm.trans hR
              clear hR gb
              have hS0 : (fun w' => w'.cell? ⟨bx, 0, none⟩ = some (.int .i64 gen) ∧ w'.cell? ⟨bx, 1, none⟩ = some (.int .i64 root) ∧ w'.cell? ⟨bn, 0, none⟩ = some (.int .i64 n)) w4.drew := ⟨A0.out.cells.1, A0.out.cells.2.1, A0.out.cells.2.2.2.1⟩
              refine wp_region_held_drew (S := (fun w' => w'.cell? ⟨bx, 0, none⟩ = some (.int .i64 gen) ∧ w'.cell? ⟨bx, 1, none⟩ = some (.int .i64 root) ∧ w'.cell? ⟨bn, 0, none⟩ = some (.int .i64 n))) (by kernel_rfl) hS0 (fun hHeld => ?_)
              clear hHeld
              refine Pair.take (i := 0) (fuel := 29) (d := 15) (v := ?_) (by kernel_rfl) rfl rfl (by kernel_rfl) (by kernel_rfl) (by kernel_rfl) (fun _ _ _ h => h) (Or.inl ⟨by rfl, ?_⟩) hS0 ?_
              rotate_left 1
              · (intro w' hSw; obtain ⟨f0, f1, f2⟩ := hSw; go_simp; try with_reducible rfl)
              try simp only [Act.put, List.setIfInBounds_toArray, List.set_cons_zero, List.set_cons_succ]
              refine Pair.take (i := 2) (fuel := 28) (d := 17) (v := ?_) (by kernel_rfl) rfl rfl (by kernel_rfl) (by kernel_rfl) (by kernel_rfl) (fun _ _ _ h => h) (Or.inl ⟨by rfl, ?_⟩) hS0 ?_
              rotate_left 1
              · (intro w' hSw; obtain ⟨f0, f1, f2⟩ := hSw; go_simp; try with_reducible rfl)
              try simp only [Act.put, List.setIfInBounds_toArray, List.set_cons_zero, List.set_cons_succ]
              refine Pair.call1 (i := 1) (fuel := 27) (by kernel_rfl) rfl (by kernel_rfl) (fun K hK => ?_)
              go_simp
              go_at_call 95
              refine (hnum _ A0.out.eye).mono ?_
              intro e w5 h1
              obtain ⟨rfl, h1, h2⟩ := h1.of_ok
              have A2 : Hid (Beg w w5 eb bx bn s4 gen root ⟨#[]⟩ n) := A0.out.eyed h1 h2
              have hS5 : (fun w' => w'.cell? ⟨bx, 0, none⟩ = some (.int .i64 gen) ∧ w'.cell? ⟨bx, 1, none⟩ = some (.int .i64 root) ∧ w'.cell? ⟨bn, 0, none⟩ = some (.int .i64 n)) w5 := ⟨A2.out.cells.1, A2.out.cells.2.1, A2.out.cells.2.2.2.1⟩
              clear h1 h2
              refine hK.out _ _ hS5 (fun hHeld => ?_)
              clear hHeld hK K
              try simp only [Act.put, List.setIfInBounds_toArray, List.set_cons_zero, List.set_cons_succ]
              refine Pair.take (i := 3) (fuel := 26) (d := 18) (v := .bool false) (by kernel_rfl) rfl rfl (by kernel_rfl) (by kernel_rfl) (by kernel_rfl) (fun _ _ _ h => h) (Or.inl ⟨by rfl, ?_⟩) hS5 ?_
              · (intro w' hSw; obtain ⟨f0, f1, f2⟩ := hSw; go_simp; try simp only [hb1, hb2, hb3, hb4, hb5])
              try simp only [Act.put, List.setIfInBounds_toArray, List.set_cons_zero, List.set_cons_succ]
              refine Pair.take (i := 4) (fuel := 25) (d := 19) (v := .bool false) (by kernel_rfl) rfl rfl (by kernel_rfl) (by kernel_rfl) (by kernel_rfl) (fun _ _ _ h => h) (Or.inl ⟨by rfl, ?_⟩) hS5 ?_
              · (intro w' hSw; obtain ⟨f0, f1, f2⟩ := hSw; go_simp; try simp only [hb1, hb2, hb3, hb4, hb5])
              try simp only [Act.put, List.setIfInBounds_toArray, List.set_cons_zero, List.set_cons_succ]
              refine Pair.take (i := 5) (fuel := 24) (d := 20) (v := ?_) (by kernel_rfl) rfl rfl (by kernel_rfl) (by kernel_rfl) (by kernel_rfl) (fun _ _ _ h => h) (Or.inl ⟨by rfl, ?_⟩) hS5 ?_
              rotate_left 1
              · (intro w' hSw; obtain ⟨f0, f1, f2⟩ := hSw; go_simp; try with_reducible rfl)
              try simp only [Act.put, List.setIfInBounds_toArray, List.set_cons_zero, List.set_cons_succ]
              refine Pair.take (i := 6) (fuel := 23) (d := 21) (v := ?_) (by kernel_rfl) rfl rfl (by kernel_rfl) (by kernel_rfl) (by kernel_rfl) (fun _ _ _ h => h) (Or.inl ⟨by rfl, ?_⟩) hS5 ?_
              rotate_left 1
              · (intro w' hSw; obtain ⟨f0, f1, f2⟩ := hSw; go_simp; try with_reducible rfl)
              try simp only [Act.put, List.setIfInBounds_toArray, List.set_cons_zero, List.set_cons_succ]
              refine Pair.take (i := 7) (fuel := 22) (d := 22) (v := .bool false) (by kernel_rfl) rfl rfl (by kernel_rfl) (by kernel_rfl) (by kernel_rfl) (fun _ _ _ h => h) (Or.inl ⟨by rfl, ?_⟩) hS5 ?_
              · (intro w' hSw; obtain ⟨f0, f1, f2⟩ := hSw; go_simp; try simp only [hb1, hb2, hb3, hb4, hb5])
              try simp only [Act.put, List.setIfInBounds_toArray, List.set_cons_zero, List.set_cons_succ]
              refine Pair.take (i := 8) (fuel := 21) (d := 23) (v := .bool false) (by kernel_rfl) rfl rfl (by kernel_rfl) (by kernel_rfl) (by kernel_rfl) (fun _ _ _ h => h) (Or.inl ⟨by rfl, ?_⟩) hS5 ?_
              · (intro w' hSw; obtain ⟨f0, f1, f2⟩ := hSw; go_simp; try simp only [hb1, hb2, hb3, hb4, hb5])
              try simp only [Act.put, List.setIfInBounds_toArray, List.set_cons_zero, List.set_cons_succ]
              refine Pair.take (i := 9) (fuel := 20) (d := 24) (v := .bool false) (by kernel_rfl) rfl rfl (by kernel_rfl) (by kernel_rfl) (by kernel_rfl) (fun _ _ _ h => h) (Or.inl ⟨by rfl, ?_⟩) hS5 ?_
              · (intro w' hSw; obtain ⟨f0, f1, f2⟩ := hSw; go_simp; try simp only [hb1, hb2, hb3, hb4, hb5])
              try simp only [Act.put, List.setIfInBounds_toArray, List.set_cons_zero, List.set_cons_succ]
              refine Pair.take (i := 10) (fuel := 19) (d := 25) (v := ?_) (by kernel_rfl) rfl rfl (by kernel_rfl) (by kernel_rfl) (by kernel_rfl) (fun _ _ _ h => h) (Or.inl ⟨by rfl, ?_⟩) hS5 ?_
              rotate_left 1
              · (intro w' hSw; obtain ⟨f0, f1, f2⟩ := hSw; go_simp; try with_reducible rfl)
              try simp only [Act.put, List.setIfInBounds_toArray, List.set_cons_zero, List.set_cons_succ]
              refine Pair.take (i := 11) (fuel := 18) (d := 26) (v := ?_) (by kernel_rfl) rfl rfl (by kernel_rfl) (by kernel_rfl) (by kernel_rfl) (fun _ _ _ h => h) (Or.inl ⟨by rfl, ?_⟩) hS5 ?_
              rotate_left 1
              · (intro w' hSw; obtain ⟨f0, f1, f2⟩ := hSw; go_simp; try with_reducible rfl)
              try simp only [Act.put, List.setIfInBounds_toArray, List.set_cons_zero, List.set_cons_succ]
              refine Pair.take (i := 12) (fuel := 17) (d := 27) (v := .bool false) (by kernel_rfl) rfl rfl (by kernel_rfl) (by kernel_rfl) (by kernel_rfl) (fun _ _ _ h => h) (Or.inl ⟨by rfl, ?_⟩) hS5 ?_
              · (intro w' hSw; obtain ⟨f0, f1, f2⟩ := hSw; go_simp; try simp only [hb1, hb2, hb3, hb4, hb5])
              try simp only [Act.put, List.setIfInBounds_toArray, List.set_cons_zero, List.set_cons_succ]
              refine Pair.take (i := 13) (fuel := 16) (d := 28) (v := .bool false) (by kernel_rfl) rfl rfl (by kernel_rfl) (by kernel_rfl) (by kernel_rfl) (fun _ _ _ h => h) (Or.inl ⟨by rfl, ?_⟩) hS5 ?_
              · (intro w' hSw; obtain ⟨f0, f1, f2⟩ := hSw; go_simp; try simp only [hb1, hb2, hb3, hb4, hb5])
              try simp only [Act.put, List.setIfInBounds_toArray, List.set_cons_zero, List.set_cons_succ]
              refine Pair.take (i := 14) (fuel := 15) (d := 29) (v := .bool false) (by kernel_rfl) rfl rfl (by kernel_rfl) (by kernel_rfl) (by kernel_rfl) (fun _ _ _ h => h) (Or.inl ⟨by rfl, ?_⟩) hS5 ?_
              · (intro w' hSw; obtain ⟨f0, f1, f2⟩ := hSw; go_simp; try simp only [hb1, hb2, hb3, hb4, hb5])
              try simp only [Act.put, List.setIfInBounds_toArray, List.set_cons_zero, List.set_cons_succ]
              refine Pair.take (i := 15) (fuel := 14) (d := 30) (v := ?_) (by kernel_rfl) rfl rfl (by kernel_rfl) (by kernel_rfl) (by kernel_rfl) (fun _ _ _ h => h) (Or.inl ⟨by rfl, ?_⟩) hS5 ?_
              rotate_left 1
              · (intro w' hSw; obtain ⟨f0, f1, f2⟩ := hSw; go_simp; try with_reducible rfl)
              try simp only [Act.put, List.setIfInBounds_toArray, List.set_cons_zero, List.set_cons_succ]
              refine Pair.take (i := 16) (fuel := 13) (d := 31) (v := ?_) (by kernel_rfl) rfl rfl (by kernel_rfl) (by kernel_rfl) (by kernel_rfl) (fun _ _ _ h => h) (Or.inl ⟨by rfl, ?_⟩) hS5 ?_
              rotate_left 1
              · (intro w' hSw; obtain ⟨f0, f1, f2⟩ := hSw; go_simp; try with_reducible rfl)
              try simp only [Act.put, List.setIfInBounds_toArray, List.set_cons_zero, List.set_cons_succ]
              refine Pair.take (i := 17) (fuel := 12) (d := 32) (v := .bool true) (by kernel_rfl) rfl rfl (by kernel_rfl) (by kernel_rfl) (by kernel_rfl) (fun _ _ _ h => h) (Or.inl ⟨by rfl, ?_⟩) hS5 ?_
              · (intro w' hSw; obtain ⟨f0, f1, f2⟩ := hSw; go_simp; try simp only [hb1, hb2, hb3, hb4, hb5])
              try simp only [Act.put, List.setIfInBounds_toArray, List.set_cons_zero, List.set_cons_succ]
              refine Pair.take (i := 18) (fuel := 11) (d := 33) (v := .bool true) (by kernel_rfl) rfl rfl (by kernel_rfl) (by kernel_rfl) (by kernel_rfl) (fun _ _ _ h => h) (Or.inl ⟨by rfl, ?_⟩) hS5 ?_
              · (intro w' hSw; obtain ⟨f0, f1, f2⟩ := hSw; go_simp; try simp only [hb1, hb2, hb3, hb4, hb5])
              try simp only [Act.put, List.setIfInBounds_toArray, List.set_cons_zero, List.set_cons_succ]
              refine Pair.take (i := 19) (fuel := 10) (d := 34) (v := ?_) (by kernel_rfl) rfl rfl (by kernel_rfl) (by kernel_rfl) (by kernel_rfl) (fun _ _ _ h => h) (Or.inl ⟨by rfl, ?_⟩) hS5 ?_
              rotate_left 1
              · (intro w' hSw; obtain ⟨f0, f1, f2⟩ := hSw; go_simp; try with_reducible rfl)
              try simp only [Act.put, List.setIfInBounds_toArray, List.set_cons_zero, List.set_cons_succ]
              refine Pair.take (i := 20) (fuel := 9) (d := 35) (v := ?_) (by kernel_rfl) rfl rfl (by kernel_rfl) (by kernel_rfl) (by kernel_rfl) (fun _ _ _ h => h) (Or.inl ⟨by rfl, ?_⟩) hS5 ?_
              rotate_left 1
              · (intro w' hSw; obtain ⟨f0, f1, f2⟩ := hSw; go_simp; try with_reducible rfl)
              try simp only [Act.put, List.setIfInBounds_toArray, List.set_cons_zero, List.set_cons_succ]
              refine Pair.take (i := 21) (fuel := 8) (d := 36) (v := .bool true) (by kernel_rfl) rfl rfl (by kernel_rfl) (by kernel_rfl) (by kernel_rfl) (fun _ _ _ h => h) (Or.inl ⟨by rfl, ?_⟩) hS5 ?_
              · (intro w' hSw; obtain ⟨f0, f1, f2⟩ := hSw; go_simp; try simp only [hb1, hb2, hb3, hb4, hb5])
              try simp only [Act.put, List.setIfInBounds_toArray, List.set_cons_zero, List.set_cons_succ]
              refine Pair.take (i := 22) (fuel := 7) (d := 37) (v := .bool true) (by kernel_rfl) rfl rfl (by kernel_rfl) (by kernel_rfl) (by kernel_rfl) (fun _ _ _ h => h) (Or.inl ⟨by rfl, ?_⟩) hS5 ?_
              · (intro w' hSw; obtain ⟨f0, f1, f2⟩ := hSw; go_simp; try simp only [hb1, hb2, hb3, hb4, hb5])
              try simp only [Act.put, List.setIfInBounds_toArray, List.set_cons_zero, List.set_cons_succ]
              refine Pair.take (i := 23) (fuel := 6) (d := 38) (v := undef) (by kernel_rfl) rfl rfl (by kernel_rfl) (by kernel_rfl) (by kernel_rfl) (fun _ _ _ h => h) (Or.inr ⟨by rfl, rfl⟩) hS5 ?_
              try simp only [Act.put, List.setIfInBounds_toArray, List.set_cons_zero, List.set_cons_succ]
              refine Pair.take (i := 24) (fuel := 5) (d := 39) (v := undef) (by kernel_rfl) rfl rfl (by kernel_rfl) (by kernel_rfl) (by kernel_rfl) (fun _ _ _ h => h) (Or.inr ⟨by rfl, rfl⟩) hS5 ?_
              try simp only [Act.put, List.setIfInBounds_toArray, List.set_cons_zero, List.set_cons_succ]
              refine Pair.take (i := 25) (fuel := 4) (d := 40) (v := undef) (by kernel_rfl) rfl rfl (by kernel_rfl) (by kernel_rfl) (by kernel_rfl) (fun _ _ _ h => h) (Or.inr ⟨by rfl, rfl⟩) hS5 ?_
              try simp only [Act.put, List.setIfInBounds_toArray, List.set_cons_zero, List.set_cons_succ]
              refine Pair.take (i := 26) (fuel := 3) (d := 41) (v := undef) (by kernel_rfl) rfl rfl (by kernel_rfl) (by kernel_rfl) (by kernel_rfl) (fun _ _ _ h => h) (Or.inr ⟨by rfl, rfl⟩) hS5 ?_
              try simp only [Act.put, List.setIfInBounds_toArray, List.set_cons_zero, List.set_cons_succ]
              refine Pair.take (i := 27) (fuel := 2) (d := 42) (v := .bool true) (by kernel_rfl) rfl rfl (by kernel_rfl) (by kernel_rfl) (by kernel_rfl) (fun _ _ _ h => h) (Or.inl ⟨by rfl, ?_⟩) hS5 ?_
              · (intro w' hSw; obtain ⟨f0, f1, f2⟩ := hSw; go_simp; try simp only [hb1, hb2, hb3, hb4, hb5])
              try simp only [Act.put, List.setIfInBounds_toArray, List.set_cons_zero, List.set_cons_succ]
              refine Pair.take (i := 28) (fuel := 1) (d := 43) (v := .bool true) (by kernel_rfl) rfl rfl (by kernel_rfl) (by kernel_rfl) (by kernel_rfl) (fun _ _ _ h => h) (Or.inl ⟨by rfl, ?_⟩) hS5 ?_
              · (intro w' hSw; obtain ⟨f0, f1, f2⟩ := hSw; go_simp; try simp only [hb1, hb2, hb3, hb4, hb5])
              try simp only [Act.put, List.setIfInBounds_toArray, List.set_cons_zero, List.set_cons_succ]
              refine Pair.take (i := 29) (fuel := 0) (d := 44) (v := .bool true) (by kernel_rfl) rfl rfl (by kernel_rfl) (by kernel_rfl) (by kernel_rfl) (fun _ _ _ h => h) (Or.inl ⟨by rfl, ?_⟩) hS5 ?_
              · (intro w' hSw; obtain ⟨f0, f1, f2⟩ := hSw; go_simp; try simp only [hb1, hb2, hb3, hb4, hb5])
              try simp only [Act.put, List.setIfInBounds_toArray, List.set_cons_zero, List.set_cons_succ]
              refine wpAnyH_done (by kernel_rfl) ?_ _
              go_wp2_with (first
                | (go_at_call 94; refine (fail_any _ eb s4 201 A2.out.eye).mono ?_; rintro e w6 ⟨rfl, rfl⟩)
                | fail)
              exact ⟨rfl, A2.out.err HE.out⟩
            · rw [if_pos gb] at hR
              have hb1 : ((sz : Int) != n) = false := by rw [g1]; exact bne_self_eq_false _
              have hb2 : decide ((gen : Int) < 1) = false := decide_eq_false (by omega)
              have hb3 : decide (1099511627776 < (gen : Int)) = false := decide_eq_false (by omega)
              have hb4 : ((root : Int) != 0) = true := bne_iff_ne.2 g4
              have hb5 : decide ((root : Int) < 2) = false := decide_eq_false (by omega)
              have hb6 : decide (n ≤ (root : Int)) = true := decide_eq_true (by omega)
              have HE : Hid (beginsR n s = .error 201) := HR.out.symm.trans hR
              clear hR gb
              have hS0 : (fun w' => w'.cell? ⟨bx, 0, none⟩ = some (.int .i64 gen) ∧ w'.cell? ⟨bx, 1, none⟩ = some (.int .i64 root) ∧ w'.cell? ⟨bn, 0, none⟩ = some (.int .i64 n)) w4.drew := ⟨A0.out.cells.1, A0.out.cells.2.1, A0.out.cells.2.2.2.1⟩
              refine wp_region_held_drew (S := (fun w' => w'.cell? ⟨bx, 0, none⟩ = some (.int .i64 gen) ∧ w'.cell? ⟨bx, 1, none⟩ = some (.int .i64 root) ∧ w'.cell? ⟨bn, 0, none⟩ = some (.int .i64 n))) (by kernel_rfl) hS0 (fun hHeld => ?_)
              clear hHeld
              refine Pair.take (i := 0) (fuel := 29) (d := 15) (v := ?_) (by kernel_rfl) rfl rfl (by kernel_rfl) (by kernel_rfl) (by kernel_rfl) (fun _ _ _ h => h) (Or.inl ⟨by rfl, ?_⟩) hS0 ?_
              rotate_left 1
              · (intro w' hSw; obtain ⟨f0, f1, f2⟩ := hSw; go_simp; try with_reducible rfl)
              try simp only [Act.put, List.setIfInBounds_toArray, List.set_cons_zero, List.set_cons_succ]
              refine Pair.take (i := 2) (fuel := 28) (d := 17) (v := ?_) (by kernel_rfl) rfl rfl (by kernel_rfl) (by kernel_rfl) (by kernel_rfl) (fun _ _ _ h => h) (Or.inl ⟨by rfl, ?_⟩) hS0 ?_
              rotate_left 1
              · (intro w' hSw; obtain ⟨f0, f1, f2⟩ := hSw; go_simp; try with_reducible rfl)
              try simp only [Act.put, List.setIfInBounds_toArray, List.set_cons_zero, List.set_cons_succ]
              refine Pair.call1 (i := 1) (fuel := 27) (by kernel_rfl) rfl (by kernel_rfl) (fun K hK => ?_)
              go_simp
              go_at_call 95
              refine (hnum _ A0.out.eye).mono ?_
              intro e w5 h1
              obtain ⟨rfl, h1, h2⟩ := h1.of_ok
              have A2 : Hid (Beg w w5 eb bx bn s4 gen root ⟨#[]⟩ n) := A0.out.eyed h1 h2
              have hS5 : (fun w' => w'.cell? ⟨bx, 0, none⟩ = some (.int .i64 gen) ∧ w'.cell? ⟨bx, 1, none⟩ = some (.int .i64 root) ∧ w'.cell? ⟨bn, 0, none⟩ = some (.int .i64 n)) w5 := ⟨A2.out.cells.1, A2.out.cells.2.1, A2.out.cells.2.2.2.1⟩
              clear h1 h2
              refine hK.out _ _ hS5 (fun hHeld => ?_)
              clear hHeld hK K
              try simp only [Act.put, List.setIfInBounds_toArray, List.set_cons_zero, List.set_cons_succ]
              refine Pair.take (i := 3) (fuel := 26) (d := 18) (v := .bool false) (by kernel_rfl) rfl rfl (by kernel_rfl) (by kernel_rfl) (by kernel_rfl) (fun _ _ _ h => h) (Or.inl ⟨by rfl, ?_⟩) hS5 ?_
              · (intro w' hSw; obtain ⟨f0, f1, f2⟩ := hSw; go_simp; try simp only [hb1, hb2, hb3, hb4, hb5, hb6])
              try simp only [Act.put, List.setIfInBounds_toArray, List.set_cons_zero, List.set_cons_succ]
              refine Pair.take (i := 4) (fuel := 25) (d := 19) (v := .bool false) (by kernel_rfl) rfl rfl (by kernel_rfl) (by kernel_rfl) (by kernel_rfl) (fun _ _ _ h => h) (Or.inl ⟨by rfl, ?_⟩) hS5 ?_
              · (intro w' hSw; obtain ⟨f0, f1, f2⟩ := hSw; go_simp; try simp only [hb1, hb2, hb3, hb4, hb5, hb6])
              try simp only [Act.put, List.setIfInBounds_toArray, List.set_cons_zero, List.set_cons_succ]
              refine Pair.take (i := 5) (fuel := 24) (d := 20) (v := ?_) (by kernel_rfl) rfl rfl (by kernel_rfl) (by kernel_rfl) (by kernel_rfl) (fun _ _ _ h => h) (Or.inl ⟨by rfl, ?_⟩) hS5 ?_
              rotate_left 1
              · (intro w' hSw; obtain ⟨f0, f1, f2⟩ := hSw; go_simp; try with_reducible rfl)
              try simp only [Act.put, List.setIfInBounds_toArray, List.set_cons_zero, List.set_cons_succ]
              refine Pair.take (i := 6) (fuel := 23) (d := 21) (v := ?_) (by kernel_rfl) rfl rfl (by kernel_rfl) (by kernel_rfl) (by kernel_rfl) (fun _ _ _ h => h) (Or.inl ⟨by rfl, ?_⟩) hS5 ?_
              rotate_left 1
              · (intro w' hSw; obtain ⟨f0, f1, f2⟩ := hSw; go_simp; try with_reducible rfl)
              try simp only [Act.put, List.setIfInBounds_toArray, List.set_cons_zero, List.set_cons_succ]
              refine Pair.take (i := 7) (fuel := 22) (d := 22) (v := .bool false) (by kernel_rfl) rfl rfl (by kernel_rfl) (by kernel_rfl) (by kernel_rfl) (fun _ _ _ h => h) (Or.inl ⟨by rfl, ?_⟩) hS5 ?_
              · (intro w' hSw; obtain ⟨f0, f1, f2⟩ := hSw; go_simp; try simp only [hb1, hb2, hb3, hb4, hb5, hb6])
              try simp only [Act.put, List.setIfInBounds_toArray, List.set_cons_zero, List.set_cons_succ]
              refine Pair.take (i := 8) (fuel := 21) (d := 23) (v := .bool false) (by kernel_rfl) rfl rfl (by kernel_rfl) (by kernel_rfl) (by kernel_rfl) (fun _ _ _ h => h) (Or.inl ⟨by rfl, ?_⟩) hS5 ?_
              · (intro w' hSw; obtain ⟨f0, f1, f2⟩ := hSw; go_simp; try simp only [hb1, hb2, hb3, hb4, hb5, hb6])
              try simp only [Act.put, List.setIfInBounds_toArray, List.set_cons_zero, List.set_cons_succ]
              refine Pair.take (i := 9) (fuel := 20) (d := 24) (v := .bool false) (by kernel_rfl) rfl rfl (by kernel_rfl) (by kernel_rfl) (by kernel_rfl) (fun _ _ _ h => h) (Or.inl ⟨by rfl, ?_⟩) hS5 ?_
              · (intro w' hSw; obtain ⟨f0, f1, f2⟩ := hSw; go_simp; try simp only [hb1, hb2, hb3, hb4, hb5, hb6])
              try simp only [Act.put, List.setIfInBounds_toArray, List.set_cons_zero, List.set_cons_succ]
              refine Pair.take (i := 10) (fuel := 19) (d := 25) (v := ?_) (by kernel_rfl) rfl rfl (by kernel_rfl) (by kernel_rfl) (by kernel_rfl) (fun _ _ _ h => h) (Or.inl ⟨by rfl, ?_⟩) hS5 ?_
              rotate_left 1
              · (intro w' hSw; obtain ⟨f0, f1, f2⟩ := hSw; go_simp; try with_reducible rfl)
              try simp only [Act.put, List.setIfInBounds_toArray, List.set_cons_zero, List.set_cons_succ]
              refine Pair.take (i := 11) (fuel := 18) (d := 26) (v := ?_) (by kernel_rfl) rfl rfl (by kernel_rfl) (by kernel_rfl) (by kernel_rfl) (fun _ _ _ h => h) (Or.inl ⟨by rfl, ?_⟩) hS5 ?_
              rotate_left 1
              · (intro w' hSw; obtain ⟨f0, f1, f2⟩ := hSw; go_simp; try with_reducible rfl)
              try simp only [Act.put, List.setIfInBounds_toArray, List.set_cons_zero, List.set_cons_succ]
              refine Pair.take (i := 12) (fuel := 17) (d := 27) (v := .bool false) (by kernel_rfl) rfl rfl (by kernel_rfl) (by kernel_rfl) (by kernel_rfl) (fun _ _ _ h => h) (Or.inl ⟨by rfl, ?_⟩) hS5 ?_
              · (intro w' hSw; obtain ⟨f0, f1, f2⟩ := hSw; go_simp; try simp only [hb1, hb2, hb3, hb4, hb5, hb6])
              try simp only [Act.put, List.setIfInBounds_toArray, List.set_cons_zero, List.set_cons_succ]
              refine Pair.take (i := 13) (fuel := 16) (d := 28) (v := .bool false) (by kernel_rfl) rfl rfl (by kernel_rfl) (by kernel_rfl) (by kernel_rfl) (fun _ _ _ h => h) (Or.inl ⟨by rfl, ?_⟩) hS5 ?_
              · (intro w' hSw; obtain ⟨f0, f1, f2⟩ := hSw; go_simp; try simp only [hb1, hb2, hb3, hb4, hb5, hb6])
              try simp only [Act.put, List.setIfInBounds_toArray, List.set_cons_zero, List.set_cons_succ]
              refine Pair.take (i := 14) (fuel := 15) (d := 29) (v := .bool false) (by kernel_rfl) rfl rfl (by kernel_rfl) (by kernel_rfl) (by kernel_rfl) (fun _ _ _ h => h) (Or.inl ⟨by rfl, ?_⟩) hS5 ?_
              · (intro w' hSw; obtain ⟨f0, f1, f2⟩ := hSw; go_simp; try simp only [hb1, hb2, hb3, hb4, hb5, hb6])
              try simp only [Act.put, List.setIfInBounds_toArray, List.set_cons_zero, List.set_cons_succ]
              refine Pair.take (i := 15) (fuel := 14) (d := 30) (v := ?_) (by kernel_rfl) rfl rfl (by kernel_rfl) (by kernel_rfl) (by kernel_rfl) (fun _ _ _ h => h) (Or.inl ⟨by rfl, ?_⟩) hS5 ?_
              rotate_left 1
              · (intro w' hSw; obtain ⟨f0, f1, f2⟩ := hSw; go_simp; try with_reducible rfl)
              try simp only [Act.put, List.setIfInBounds_toArray, List.set_cons_zero, List.set_cons_succ]
              refine Pair.take (i := 16) (fuel := 13) (d := 31) (v := ?_) (by kernel_rfl) rfl rfl (by kernel_rfl) (by kernel_rfl) (by kernel_rfl) (fun _ _ _ h => h) (Or.inl ⟨by rfl, ?_⟩) hS5 ?_
              rotate_left 1
              · (intro w' hSw; obtain ⟨f0, f1, f2⟩ := hSw; go_simp; try with_reducible rfl)
              try simp only [Act.put, List.setIfInBounds_toArray, List.set_cons_zero, List.set_cons_succ]
              refine Pair.take (i := 17) (fuel := 12) (d := 32) (v := .bool true) (by kernel_rfl) rfl rfl (by kernel_rfl) (by kernel_rfl) (by kernel_rfl) (fun _ _ _ h => h) (Or.inl ⟨by rfl, ?_⟩) hS5 ?_
              · (intro w' hSw; obtain ⟨f0, f1, f2⟩ := hSw; go_simp; try simp only [hb1, hb2, hb3, hb4, hb5, hb6])
              try simp only [Act.put, List.setIfInBounds_toArray, List.set_cons_zero, List.set_cons_succ]
              refine Pair.take (i := 18) (fuel := 11) (d := 33) (v := .bool true) (by kernel_rfl) rfl rfl (by kernel_rfl) (by kernel_rfl) (by kernel_rfl) (fun _ _ _ h => h) (Or.inl ⟨by rfl, ?_⟩) hS5 ?_
              · (intro w' hSw; obtain ⟨f0, f1, f2⟩ := hSw; go_simp; try simp only [hb1, hb2, hb3, hb4, hb5, hb6])
              try simp only [Act.put, List.setIfInBounds_toArray, List.set_cons_zero, List.set_cons_succ]
              refine Pair.take (i := 19) (fuel := 10) (d := 34) (v := ?_) (by kernel_rfl) rfl rfl (by kernel_rfl) (by kernel_rfl) (by kernel_rfl) (fun _ _ _ h => h) (Or.inl ⟨by rfl, ?_⟩) hS5 ?_
              rotate_left 1
              · (intro w' hSw; obtain ⟨f0, f1, f2⟩ := hSw; go_simp; try with_reducible rfl)
              try simp only [Act.put, List.setIfInBounds_toArray, List.set_cons_zero, List.set_cons_succ]
              refine Pair.take (i := 20) (fuel := 9) (d := 35) (v := ?_) (by kernel_rfl) rfl rfl (by kernel_rfl) (by kernel_rfl) (by kernel_rfl) (fun _ _ _ h => h) (Or.inl ⟨by rfl, ?_⟩) hS5 ?_
              rotate_left 1
              · (intro w' hSw; obtain ⟨f0, f1, f2⟩ := hSw; go_simp; try with_reducible rfl)
              try simp only [Act.put, List.setIfInBounds_toArray, List.set_cons_zero, List.set_cons_succ]
              refine Pair.take (i := 21) (fuel := 8) (d := 36) (v := .bool false) (by kernel_rfl) rfl rfl (by kernel_rfl) (by kernel_rfl) (by kernel_rfl) (fun _ _ _ h => h) (Or.inl ⟨by rfl, ?_⟩) hS5 ?_
              · (intro w' hSw; obtain ⟨f0, f1, f2⟩ := hSw; go_simp; try simp only [hb1, hb2, hb3, hb4, hb5, hb6])
              try simp only [Act.put, List.setIfInBounds_toArray, List.set_cons_zero, List.set_cons_succ]
              refine Pair.take (i := 22) (fuel := 7) (d := 37) (v := .bool false) (by kernel_rfl) rfl rfl (by kernel_rfl) (by kernel_rfl) (by kernel_rfl) (fun _ _ _ h => h) (Or.inl ⟨by rfl, ?_⟩) hS5 ?_
              · (intro w' hSw; obtain ⟨f0, f1, f2⟩ := hSw; go_simp; try simp only [hb1, hb2, hb3, hb4, hb5, hb6])
              try simp only [Act.put, List.setIfInBounds_toArray, List.set_cons_zero, List.set_cons_succ]
              refine Pair.take (i := 23) (fuel := 6) (d := 38) (v := ?_) (by kernel_rfl) rfl rfl (by kernel_rfl) (by kernel_rfl) (by kernel_rfl) (fun _ _ _ h => h) (Or.inl ⟨by rfl, ?_⟩) hS5 ?_
              rotate_left 1
              · (intro w' hSw; obtain ⟨f0, f1, f2⟩ := hSw; go_simp; try with_reducible rfl)
              try simp only [Act.put, List.setIfInBounds_toArray, List.set_cons_zero, List.set_cons_succ]
              refine Pair.take (i := 24) (fuel := 5) (d := 39) (v := ?_) (by kernel_rfl) rfl rfl (by kernel_rfl) (by kernel_rfl) (by kernel_rfl) (fun _ _ _ h => h) (Or.inl ⟨by rfl, ?_⟩) hS5 ?_
              rotate_left 1
              · (intro w' hSw; obtain ⟨f0, f1, f2⟩ := hSw; go_simp; try with_reducible rfl)
              try simp only [Act.put, List.setIfInBounds_toArray, List.set_cons_zero, List.set_cons_succ]
              refine Pair.take (i := 25) (fuel := 4) (d := 40) (v := ?_) (by kernel_rfl) rfl rfl (by kernel_rfl) (by kernel_rfl) (by kernel_rfl) (fun _ _ _ h => h) (Or.inl ⟨by rfl, ?_⟩) hS5 ?_
              rotate_left 1
              · (intro w' hSw; obtain ⟨f0, f1, f2⟩ := hSw; go_simp; try with_reducible rfl)
              try simp only [Act.put, List.setIfInBounds_toArray, List.set_cons_zero, List.set_cons_succ]
              refine Pair.take (i := 26) (fuel := 3) (d := 41) (v := .bool true) (by kernel_rfl) rfl rfl (by kernel_rfl) (by kernel_rfl) (by kernel_rfl) (fun _ _ _ h => h) (Or.inl ⟨by rfl, ?_⟩) hS5 ?_
              · (intro w' hSw; obtain ⟨f0, f1, f2⟩ := hSw; go_simp; try simp only [hb1, hb2, hb3, hb4, hb5, hb6])
              try simp only [Act.put, List.setIfInBounds_toArray, List.set_cons_zero, List.set_cons_succ]
              refine Pair.take (i := 27) (fuel := 2) (d := 42) (v := .bool true) (by kernel_rfl) rfl rfl (by kernel_rfl) (by kernel_rfl) (by kernel_rfl) (fun _ _ _ h => h) (Or.inl ⟨by rfl, ?_⟩) hS5 ?_
              · (intro w' hSw; obtain ⟨f0, f1, f2⟩ := hSw; go_simp; try simp only [hb1, hb2, hb3, hb4, hb5, hb6])
              try simp only [Act.put, List.setIfInBounds_toArray, List.set_cons_zero, List.set_cons_succ]
              refine Pair.take (i := 28) (fuel := 1) (d := 43) (v := .bool true) (by kernel_rfl) rfl rfl (by kernel_rfl) (by kernel_rfl) (by kernel_rfl) (fun _ _ _ h => h) (Or.inl ⟨by rfl, ?_⟩) hS5 ?_
              · (intro w' hSw; obtain ⟨f0, f1, f2⟩ := hSw; go_simp; try simp only [hb1, hb2, hb3, hb4, hb5, hb6])
              try simp only [Act.put, List.setIfInBounds_toArray, List.set_cons_zero, List.set_cons_succ]
              refine Pair.take (i := 29) (fuel := 0) (d := 44) (v := .bool true) (by kernel_rfl) rfl rfl (by kernel_rfl) (by kernel_rfl) (by kernel_rfl) (fun _ _ _ h => h) (Or.inl ⟨by rfl, ?_⟩) hS5 ?_
              · (intro w' hSw; obtain ⟨f0, f1, f2⟩ := hSw; go_simp; try simp only [hb1, hb2, hb3, hb4, hb5, hb6])
              try simp only [Act.put, List.setIfInBounds_toArray, List.set_cons_zero, List.set_cons_succ]
              refine wpAnyH_done (by kernel_rfl) ?_ _
              go_wp2_with (first
                | (go_at_call 94; refine (fail_any _ eb s4 201 A2.out.eye).mono ?_; rintro e w6 ⟨rfl, rfl⟩)
                | fail)
              exact ⟨rfl, A2.out.err HE.out⟩
            · rw [if_neg (by rw [gb]; exact Bool.false_ne_true)] at hR
              have hb1 : ((sz : Int) != n) = false := by rw [g1]; exact bne_self_eq_false _
              have hb2 : decide ((gen : Int) < 1) = false := decide_eq_false (by omega)
              have hb3 : decide (1099511627776 < (gen : Int)) = false := decide_eq_false (by omega)
              have hb4 : ((root : Int) != 0) = false := by rw [g4]; exact bne_self_eq_false _
              have HR2 : Hid (R = _) := hR
              clear hR gb
              have hS0 : (fun w' => w'.cell? ⟨bx, 0, none⟩ = some (.int .i64 gen) ∧ w'.cell? ⟨bx, 1, none⟩ = some (.int .i64 root) ∧ w'.cell? ⟨bn, 0, none⟩ = some (.int .i64 n)) w4.drew := ⟨A0.out.cells.1, A0.out.cells.2.1, A0.out.cells.2.2.2.1⟩
              refine wp_region_held_drew (S := (fun w' => w'.cell? ⟨bx, 0, none⟩ = some (.int .i64 gen) ∧ w'.cell? ⟨bx, 1, none⟩ = some (.int .i64 root) ∧ w'.cell? ⟨bn, 0, none⟩ = some (.int .i64 n))) (by kernel_rfl) hS0 (fun hHeld => ?_)
              clear hHeld
              refine Pair.take (i := 0) (fuel := 29) (d := 15) (v := ?_) (by kernel_rfl) rfl rfl (by kernel_rfl) (by kernel_rfl) (by kernel_rfl) (fun _ _ _ h => h) (Or.inl ⟨by rfl, ?_⟩) hS0 ?_
              rotate_left 1
              · (intro w' hSw; obtain ⟨f0, f1, f2⟩ := hSw; go_simp; try with_reducible rfl)
              try simp only [Act.put, List.setIfInBounds_toArray, List.set_cons_zero, List.set_cons_succ]
              refine Pair.take (i := 2) (fuel := 28) (d := 17) (v := ?_) (by kernel_rfl) rfl rfl (by kernel_rfl) (by kernel_rfl) (by kernel_rfl) (fun _ _ _ h => h) (Or.inl ⟨by rfl, ?_⟩) hS0 ?_
              rotate_left 1
              · (intro w' hSw; obtain ⟨f0, f1, f2⟩ := hSw; go_simp; try with_reducible rfl)
              try simp only [Act.put, List.setIfInBounds_toArray, List.set_cons_zero, List.set_cons_succ]
              refine Pair.call1 (i := 1) (fuel := 27) (by kernel_rfl) rfl (by kernel_rfl) (fun K hK => ?_)
              go_simp
              go_at_call 95
              refine (hnum _ A0.out.eye).mono ?_
              intro e w5 h1
              obtain ⟨rfl, h1, h2⟩ := h1.of_ok
              have A2 : Hid (Beg w w5 eb bx bn s4 gen root ⟨#[]⟩ n) := A0.out.eyed h1 h2
              have hS5 : (fun w' => w'.cell? ⟨bx, 0, none⟩ = some (.int .i64 gen) ∧ w'.cell? ⟨bx, 1, none⟩ = some (.int .i64 root) ∧ w'.cell? ⟨bn, 0, none⟩ = some (.int .i64 n)) w5 := ⟨A2.out.cells.1, A2.out.cells.2.1, A2.out.cells.2.2.2.1⟩
              clear h1 h2
              refine hK.out _ _ hS5 (fun hHeld => ?_)
              clear hHeld hK K
              try simp only [Act.put, List.setIfInBounds_toArray, List.set_cons_zero, List.set_cons_succ]
              refine Pair.take (i := 3) (fuel := 26) (d := 18) (v := .bool false) (by kernel_rfl) rfl rfl (by kernel_rfl) (by kernel_rfl) (by kernel_rfl) (fun _ _ _ h => h) (Or.inl ⟨by rfl, ?_⟩) hS5 ?_
              · (intro w' hSw; obtain ⟨f0, f1, f2⟩ := hSw; go_simp; try simp only [hb1, hb2, hb3, hb4])
              try simp only [Act.put, List.setIfInBounds_toArray, List.set_cons_zero, List.set_cons_succ]
              refine Pair.take (i := 4) (fuel := 25) (d := 19) (v := .bool false) (by kernel_rfl) rfl rfl (by kernel_rfl) (by kernel_rfl) (by kernel_rfl) (fun _ _ _ h => h) (Or.inl ⟨by rfl, ?_⟩) hS5 ?_
              · (intro w' hSw; obtain ⟨f0, f1, f2⟩ := hSw; go_simp; try simp only [hb1, hb2, hb3, hb4])
              try simp only [Act.put, List.setIfInBounds_toArray, List.set_cons_zero, List.set_cons_succ]
              refine Pair.take (i := 5) (fuel := 24) (d := 20) (v := ?_) (by kernel_rfl) rfl rfl (by kernel_rfl) (by kernel_rfl) (by kernel_rfl) (fun _ _ _ h => h) (Or.inl ⟨by rfl, ?_⟩) hS5 ?_
              rotate_left 1
              · (intro w' hSw; obtain ⟨f0, f1, f2⟩ := hSw; go_simp; try with_reducible rfl)
              try simp only [Act.put, List.setIfInBounds_toArray, List.set_cons_zero, List.set_cons_succ]
              refine Pair.take (i := 6) (fuel := 23) (d := 21) (v := ?_) (by kernel_rfl) rfl rfl (by kernel_rfl) (by kernel_rfl) (by kernel_rfl) (fun _ _ _ h => h) (Or.inl ⟨by rfl, ?_⟩) hS5 ?_
              rotate_left 1
              · (intro w' hSw; obtain ⟨f0, f1, f2⟩ := hSw; go_simp; try with_reducible rfl)
              try simp only [Act.put, List.setIfInBounds_toArray, List.set_cons_zero, List.set_cons_succ]
              refine Pair.take (i := 7) (fuel := 22) (d := 22) (v := .bool false) (by kernel_rfl) rfl rfl (by kernel_rfl) (by kernel_rfl) (by kernel_rfl) (fun _ _ _ h => h) (Or.inl ⟨by rfl, ?_⟩) hS5 ?_
              · (intro w' hSw; obtain ⟨f0, f1, f2⟩ := hSw; go_simp; try simp only [hb1, hb2, hb3, hb4])
              try simp only [Act.put, List.setIfInBounds_toArray, List.set_cons_zero, List.set_cons_succ]
              refine Pair.take (i := 8) (fuel := 21) (d := 23) (v := .bool false) (by kernel_rfl) rfl rfl (by kernel_rfl) (by kernel_rfl) (by kernel_rfl) (fun _ _ _ h => h) (Or.inl ⟨by rfl, ?_⟩) hS5 ?_
              · (intro w' hSw; obtain ⟨f0, f1, f2⟩ := hSw; go_simp; try simp only [hb1, hb2, hb3, hb4])
              try simp only [Act.put, List.setIfInBounds_toArray, List.set_cons_zero, List.set_cons_succ]
              refine Pair.take (i := 9) (fuel := 20) (d := 24) (v := .bool false) (by kernel_rfl) rfl rfl (by kernel_rfl) (by kernel_rfl) (by kernel_rfl) (fun _ _ _ h => h) (Or.inl ⟨by rfl, ?_⟩) hS5 ?_
              · (intro w' hSw; obtain ⟨f0, f1, f2⟩ := hSw; go_simp; try simp only [hb1, hb2, hb3, hb4])
              try simp only [Act.put, List.setIfInBounds_toArray, List.set_cons_zero, List.set_cons_succ]
              refine Pair.take (i := 10) (fuel := 19) (d := 25) (v := ?_) (by kernel_rfl) rfl rfl (by kernel_rfl) (by kernel_rfl) (by kernel_rfl) (fun _ _ _ h => h) (Or.inl ⟨by rfl, ?_⟩) hS5 ?_
              rotate_left 1
              · (intro w' hSw; obtain ⟨f0, f1, f2⟩ := hSw; go_simp; try with_reducible rfl)
              try simp only [Act.put, List.setIfInBounds_toArray, List.set_cons_zero, List.set_cons_succ]
              refine Pair.take (i := 11) (fuel := 18) (d := 26) (v := ?_) (by kernel_rfl) rfl rfl (by kernel_rfl) (by kernel_rfl) (by kernel_rfl) (fun _ _ _ h => h) (Or.inl ⟨by rfl, ?_⟩) hS5 ?_
              rotate_left 1
              · (intro w' hSw; obtain ⟨f0, f1, f2⟩ := hSw; go_simp; try with_reducible rfl)
              try simp only [Act.put, List.setIfInBounds_toArray, List.set_cons_zero, List.set_cons_succ]
              refine Pair.take (i := 12) (fuel := 17) (d := 27) (v := .bool false) (by kernel_rfl) rfl rfl (by kernel_rfl) (by kernel_rfl) (by kernel_rfl) (fun _ _ _ h => h) (Or.inl ⟨by rfl, ?_⟩) hS5 ?_
              · (intro w' hSw; obtain ⟨f0, f1, f2⟩ := hSw; go_simp; try simp only [hb1, hb2, hb3, hb4])
              try simp only [Act.put, List.setIfInBounds_toArray, List.set_cons_zero, List.set_cons_succ]
              refine Pair.take (i := 13) (fuel := 16) (d := 28) (v := .bool false) (by kernel_rfl) rfl rfl (by kernel_rfl) (by kernel_rfl) (by kernel_rfl) (fun _ _ _ h => h) (Or.inl ⟨by rfl, ?_⟩) hS5 ?_
              · (intro w' hSw; obtain ⟨f0, f1, f2⟩ := hSw; go_simp; try simp only [hb1, hb2, hb3, hb4])
              try simp only [Act.put, List.setIfInBounds_toArray, List.set_cons_zero, List.set_cons_succ]
              refine Pair.take (i := 14) (fuel := 15) (d := 29) (v := .bool false) (by kernel_rfl) rfl rfl (by kernel_rfl) (by kernel_rfl) (by kernel_rfl) (fun _ _ _ h => h) (Or.inl ⟨by rfl, ?_⟩) hS5 ?_
              · (intro w' hSw; obtain ⟨f0, f1, f2⟩ := hSw; go_simp; try simp only [hb1, hb2, hb3, hb4])
              try simp only [Act.put, List.setIfInBounds_toArray, List.set_cons_zero, List.set_cons_succ]
              refine Pair.take (i := 15) (fuel := 14) (d := 30) (v := ?_) (by kernel_rfl) rfl rfl (by kernel_rfl) (by kernel_rfl) (by kernel_rfl) (fun _ _ _ h => h) (Or.inl ⟨by rfl, ?_⟩) hS5 ?_
              rotate_left 1
              · (intro w' hSw; obtain ⟨f0, f1, f2⟩ := hSw; go_simp; try with_reducible rfl)
              try simp only [Act.put, List.setIfInBounds_toArray, List.set_cons_zero, List.set_cons_succ]
              refine Pair.take (i := 16) (fuel := 13) (d := 31) (v := ?_) (by kernel_rfl) rfl rfl (by kernel_rfl) (by kernel_rfl) (by kernel_rfl) (fun _ _ _ h => h) (Or.inl ⟨by rfl, ?_⟩) hS5 ?_
              rotate_left 1
              · (intro w' hSw; obtain ⟨f0, f1, f2⟩ := hSw; go_simp; try with_reducible rfl)
              try simp only [Act.put, List.setIfInBounds_toArray, List.set_cons_zero, List.set_cons_succ]
              refine Pair.take (i := 17) (fuel := 12) (d := 32) (v := .bool false) (by kernel_rfl) rfl rfl (by kernel_rfl) (by kernel_rfl) (by kernel_rfl) (fun _ _ _ h => h) (Or.inl ⟨by rfl, ?_⟩) hS5 ?_
              · (intro w' hSw; obtain ⟨f0, f1, f2⟩ := hSw; go_simp; try simp only [hb1, hb2, hb3, hb4])
              try simp only [Act.put, List.setIfInBounds_toArray, List.set_cons_zero, List.set_cons_succ]
              refine Pair.take (i := 18) (fuel := 11) (d := 33) (v := .bool false) (by kernel_rfl) rfl rfl (by kernel_rfl) (by kernel_rfl) (by kernel_rfl) (fun _ _ _ h => h) (Or.inl ⟨by rfl, ?_⟩) hS5 ?_
              · (intro w' hSw; obtain ⟨f0, f1, f2⟩ := hSw; go_simp; try simp only [hb1, hb2, hb3, hb4])
              try simp only [Act.put, List.setIfInBounds_toArray, List.set_cons_zero, List.set_cons_succ]
              refine Pair.take (i := 19) (fuel := 10) (d := 34) (v := undef) (by kernel_rfl) rfl rfl (by kernel_rfl) (by kernel_rfl) (by kernel_rfl) (fun _ _ _ h => h) (Or.inr ⟨by rfl, rfl⟩) hS5 ?_
              try simp only [Act.put, List.setIfInBounds_toArray, List.set_cons_zero, List.set_cons_succ]
              refine Pair.take (i := 20) (fuel := 9) (d := 35) (v := undef) (by kernel_rfl) rfl rfl (by kernel_rfl) (by kernel_rfl) (by kernel_rfl) (fun _ _ _ h => h) (Or.inr ⟨by rfl, rfl⟩) hS5 ?_
              try simp only [Act.put, List.setIfInBounds_toArray, List.set_cons_zero, List.set_cons_succ]
              refine Pair.take (i := 21) (fuel := 8) (d := 36) (v := undef) (by kernel_rfl) rfl rfl (by kernel_rfl) (by kernel_rfl) (by kernel_rfl) (fun _ _ _ h => h) (Or.inr ⟨by rfl, rfl⟩) hS5 ?_
              try simp only [Act.put, List.setIfInBounds_toArray, List.set_cons_zero, List.set_cons_succ]
              refine Pair.take (i := 22) (fuel := 7) (d := 37) (v := undef) (by kernel_rfl) rfl rfl (by kernel_rfl) (by kernel_rfl) (by kernel_rfl) (fun _ _ _ h => h) (Or.inr ⟨by rfl, rfl⟩) hS5 ?_
              try simp only [Act.put, List.setIfInBounds_toArray, List.set_cons_zero, List.set_cons_succ]
              refine Pair.take (i := 23) (fuel := 6) (d := 38) (v := undef) (by kernel_rfl) rfl rfl (by kernel_rfl) (by kernel_rfl) (by kernel_rfl) (fun _ _ _ h => h) (Or.inr ⟨by rfl, rfl⟩) hS5 ?_
              try simp only [Act.put, List.setIfInBounds_toArray, List.set_cons_zero, List.set_cons_succ]
              refine Pair.take (i := 24) (fuel := 5) (d := 39) (v := undef) (by kernel_rfl) rfl rfl (by kernel_rfl) (by kernel_rfl) (by kernel_rfl) (fun _ _ _ h => h) (Or.inr ⟨by rfl, rfl⟩) hS5 ?_
              try simp only [Act.put, List.setIfInBounds_toArray, List.set_cons_zero, List.set_cons_succ]
              refine Pair.take (i := 25) (fuel := 4) (d := 40) (v := undef) (by kernel_rfl) rfl rfl (by kernel_rfl) (by kernel_rfl) (by kernel_rfl) (fun _ _ _ h => h) (Or.inr ⟨by rfl, rfl⟩) hS5 ?_
              try simp only [Act.put, List.setIfInBounds_toArray, List.set_cons_zero, List.set_cons_succ]
              refine Pair.take (i := 26) (fuel := 3) (d := 41) (v := undef) (by kernel_rfl) rfl rfl (by kernel_rfl) (by kernel_rfl) (by kernel_rfl) (fun _ _ _ h => h) (Or.inr ⟨by rfl, rfl⟩) hS5 ?_
              try simp only [Act.put, List.setIfInBounds_toArray, List.set_cons_zero, List.set_cons_succ]
              refine Pair.take (i := 27) (fuel := 2) (d := 42) (v := undef) (by kernel_rfl) rfl rfl (by kernel_rfl) (by kernel_rfl) (by kernel_rfl) (fun _ _ _ h => h) (Or.inr ⟨by rfl, rfl⟩) hS5 ?_
              try simp only [Act.put, List.setIfInBounds_toArray, List.set_cons_zero, List.set_cons_succ]
              refine Pair.take (i := 28) (fuel := 1) (d := 43) (v := .bool false) (by kernel_rfl) rfl rfl (by kernel_rfl) (by kernel_rfl) (by kernel_rfl) (fun _ _ _ h => h) (Or.inl ⟨by rfl, ?_⟩) hS5 ?_
              · (intro w' hSw; obtain ⟨f0, f1, f2⟩ := hSw; go_simp; try simp only [hb1, hb2, hb3, hb4])
              try simp only [Act.put, List.setIfInBounds_toArray, List.set_cons_zero, List.set_cons_succ]
              refine Pair.take (i := 29) (fuel := 0) (d := 44) (v := .bool false) (by kernel_rfl) rfl rfl (by kernel_rfl) (by kernel_rfl) (by kernel_rfl) (fun _ _ _ h => h) (Or.inl ⟨by rfl, ?_⟩) hS5 ?_
              · (intro w' hSw; obtain ⟨f0, f1, f2⟩ := hSw; go_simp; try simp only [hb1, hb2, hb3, hb4])
              try simp only [Act.put, List.setIfInBounds_toArray, List.set_cons_zero, List.set_cons_succ]
              refine wpAnyH_done (by kernel_rfl) ?_ _
              go_wp2_with fail
              have hR := HR2.out
              clear HR2
              refine (text_any _ eb s4 3900 3900 rfl A2.out.eye).mono ?_
              cases hp : textP 3900 s4 with
              | error why =>
                rw [hp] at hR
                intro e w6 h1
                obtain ⟨rfl, s5, h1, h2⟩ := h1.of_err
                exact ⟨rfl, (A2.out.eyed h1 h2).err (HR.out.symm.trans hR)⟩
              | ok q =>
                obtain ⟨note, s5⟩ := q
                rw [hp] at hR
                dsimp only at hR
                intro e w6 h1
                obtain ⟨rfl, h1, h2⟩ := h1.of_ok
                have B6 : Hid (Beg w w6 eb bx bn s5 gen root ⟨#[]⟩ n) := A2.out.eyed h1 h2
                have HE : Hid (beginsR n s = .ok ((gen, root, note), s5)) := HR.out.symm.trans hR
                clear h1 h2 hp hR A2 A0
                obtain ⟨c0, c1, c2, c3, cf⟩ := B6.out.cells
                go_wp2
                have B7 := B6.out.put 2 (.string note) rfl
                first | go_end0 | refine bodyPost_ret (results_none rfl _ _ _) rfl ?_
                exact lookOk B7.eye B7.chg ⟨gen, root, note, HE.out, B7.sup.x⟩
            · rw [if_neg (by rw [gb]; exact Bool.false_ne_true)] at hR
              have hb1 : ((sz : Int) != n) = false := by rw [g1]; exact bne_self_eq_false _
              have hb2 : decide ((gen : Int) < 1) = false := decide_eq_false (by omega)
              have hb3 : decide (1099511627776 < (gen : Int)) = false := decide_eq_false (by omega)
              have hb4 : ((root : Int) != 0) = true := bne_iff_ne.2 g4
              have hb5 : decide ((root : Int) < 2) = false := decide_eq_false (by omega)
              have hb6 : decide (n ≤ (root : Int)) = false := decide_eq_false (by omega)
              have HR2 : Hid (R = _) := hR
              clear hR gb
              have hS0 : (fun w' => w'.cell? ⟨bx, 0, none⟩ = some (.int .i64 gen) ∧ w'.cell? ⟨bx, 1, none⟩ = some (.int .i64 root) ∧ w'.cell? ⟨bn, 0, none⟩ = some (.int .i64 n)) w4.drew := ⟨A0.out.cells.1, A0.out.cells.2.1, A0.out.cells.2.2.2.1⟩
              refine wp_region_held_drew (S := (fun w' => w'.cell? ⟨bx, 0, none⟩ = some (.int .i64 gen) ∧ w'.cell? ⟨bx, 1, none⟩ = some (.int .i64 root) ∧ w'.cell? ⟨bn, 0, none⟩ = some (.int .i64 n))) (by kernel_rfl) hS0 (fun hHeld => ?_)
              clear hHeld
              refine Pair.take (i := 0) (fuel := 29) (d := 15) (v := ?_) (by kernel_rfl) rfl rfl (by kernel_rfl) (by kernel_rfl) (by kernel_rfl) (fun _ _ _ h => h) (Or.inl ⟨by rfl, ?_⟩) hS0 ?_
              rotate_left 1
              · (intro w' hSw; obtain ⟨f0, f1, f2⟩ := hSw; go_simp; try with_reducible rfl)
              try simp only [Act.put, List.setIfInBounds_toArray, List.set_cons_zero, List.set_cons_succ]
              refine Pair.take (i := 2) (fuel := 28) (d := 17) (v := ?_) (by kernel_rfl) rfl rfl (by kernel_rfl) (by kernel_rfl) (by kernel_rfl) (fun _ _ _ h => h) (Or.inl ⟨by rfl, ?_⟩) hS0 ?_
              rotate_left 1
              · (intro w' hSw; obtain ⟨f0, f1, f2⟩ := hSw; go_simp; try with_reducible rfl)
              try simp only [Act.put, List.setIfInBounds_toArray, List.set_cons_zero, List.set_cons_succ]
              refine Pair.call1 (i := 1) (fuel := 27) (by kernel_rfl) rfl (by kernel_rfl) (fun K hK => ?_)
              go_simp
              go_at_call 95
              refine (hnum _ A0.out.eye).mono ?_
              intro e w5 h1
              obtain ⟨rfl, h1, h2⟩ := h1.of_ok
              have A2 : Hid (Beg w w5 eb bx bn s4 gen root ⟨#[]⟩ n) := A0.out.eyed h1 h2
              have hS5 : (fun w' => w'.cell? ⟨bx, 0, none⟩ = some (.int .i64 gen) ∧ w'.cell? ⟨bx, 1, none⟩ = some (.int .i64 root) ∧ w'.cell? ⟨bn, 0, none⟩ = some (.int .i64 n)) w5 := ⟨A2.out.cells.1, A2.out.cells.2.1, A2.out.cells.2.2.2.1⟩
              clear h1 h2
              refine hK.out _ _ hS5 (fun hHeld => ?_)
              clear hHeld hK K
              try simp only [Act.put, List.setIfInBounds_toArray, List.set_cons_zero, List.set_cons_succ]
              refine Pair.take (i := 3) (fuel := 26) (d := 18) (v := .bool false) (by kernel_rfl) rfl rfl (by kernel_rfl) (by kernel_rfl) (by kernel_rfl) (fun _ _ _ h => h) (Or.inl ⟨by rfl, ?_⟩) hS5 ?_
              · (intro w' hSw; obtain ⟨f0, f1, f2⟩ := hSw; go_simp; try simp only [hb1, hb2, hb3, hb4, hb5, hb6])
              try simp only [Act.put, List.setIfInBounds_toArray, List.set_cons_zero, List.set_cons_succ]
              refine Pair.take (i := 4) (fuel := 25) (d := 19) (v := .bool false) (by kernel_rfl) rfl rfl (by kernel_rfl) (by kernel_rfl) (by kernel_rfl) (fun _ _ _ h => h) (Or.inl ⟨by rfl, ?_⟩) hS5 ?_
              · (intro w' hSw; obtain ⟨f0, f1, f2⟩ := hSw; go_simp; try simp only [hb1, hb2, hb3, hb4, hb5, hb6])
              try simp only [Act.put, List.setIfInBounds_toArray, List.set_cons_zero, List.set_cons_succ]
              refine Pair.take (i := 5) (fuel := 24) (d := 20) (v := ?_) (by kernel_rfl) rfl rfl (by kernel_rfl) (by kernel_rfl) (by kernel_rfl) (fun _ _ _ h => h) (Or.inl ⟨by rfl, ?_⟩) hS5 ?_
              rotate_left 1
              · (intro w' hSw; obtain ⟨f0, f1, f2⟩ := hSw; go_simp; try with_reducible rfl)
              try simp only [Act.put, List.setIfInBounds_toArray, List.set_cons_zero, List.set_cons_succ]
              refine Pair.take (i := 6) (fuel := 23) (d := 21) (v := ?_) (by kernel_rfl) rfl rfl (by kernel_rfl) (by kernel_rfl) (by kernel_rfl) (fun _ _ _ h => h) (Or.inl ⟨by rfl, ?_⟩) hS5 ?_
              rotate_left 1
              · (intro w' hSw; obtain ⟨f0, f1, f2⟩ := hSw; go_simp; try with_reducible rfl)
              try simp only [Act.put, List.setIfInBounds_toArray, List.set_cons_zero, List.set_cons_succ]
              refine Pair.take (i := 7) (fuel := 22) (d := 22) (v := .bool false) (by kernel_rfl) rfl rfl (by kernel_rfl) (by kernel_rfl) (by kernel_rfl) (fun _ _ _ h => h) (Or.inl ⟨by rfl, ?_⟩) hS5 ?_
              · (intro w' hSw; obtain ⟨f0, f1, f2⟩ := hSw; go_simp; try simp only [hb1, hb2, hb3, hb4, hb5, hb6])
              try simp only [Act.put, List.setIfInBounds_toArray, List.set_cons_zero, List.set_cons_succ]
              refine Pair.take (i := 8) (fuel := 21) (d := 23) (v := .bool false) (by kernel_rfl) rfl rfl (by kernel_rfl) (by kernel_rfl) (by kernel_rfl) (fun _ _ _ h => h) (Or.inl ⟨by rfl, ?_⟩) hS5 ?_
              · (intro w' hSw; obtain ⟨f0, f1, f2⟩ := hSw; go_simp; try simp only [hb1, hb2, hb3, hb4, hb5, hb6])
              try simp only [Act.put, List.setIfInBounds_toArray, List.set_cons_zero, List.set_cons_succ]
              refine Pair.take (i := 9) (fuel := 20) (d := 24) (v := .bool false) (by kernel_rfl) rfl rfl (by kernel_rfl) (by kernel_rfl) (by kernel_rfl) (fun _ _ _ h => h) (Or.inl ⟨by rfl, ?_⟩) hS5 ?_
              · (intro w' hSw; obtain ⟨f0, f1, f2⟩ := hSw; go_simp; try simp only [hb1, hb2, hb3, hb4, hb5, hb6])
              try simp only [Act.put, List.setIfInBounds_toArray, List.set_cons_zero, List.set_cons_succ]
              refine Pair.take (i := 10) (fuel := 19) (d := 25) (v := ?_) (by kernel_rfl) rfl rfl (by kernel_rfl) (by kernel_rfl) (by kernel_rfl) (fun _ _ _ h => h) (Or.inl ⟨by rfl, ?_⟩) hS5 ?_
              rotate_left 1
              · (intro w' hSw; obtain ⟨f0, f1, f2⟩ := hSw; go_simp; try with_reducible rfl)
              try simp only [Act.put, List.setIfInBounds_toArray, List.set_cons_zero, List.set_cons_succ]
              refine Pair.take (i := 11) (fuel := 18) (d := 26) (v := ?_) (by kernel_rfl) rfl rfl (by kernel_rfl) (by kernel_rfl) (by kernel_rfl) (fun _ _ _ h => h) (Or.inl ⟨by rfl, ?_⟩) hS5 ?_
              rotate_left 1
              · (intro w' hSw; obtain ⟨f0, f1, f2⟩ := hSw; go_simp; try with_reducible rfl)
              try simp only [Act.put, List.setIfInBounds_toArray, List.set_cons_zero, List.set_cons_succ]
              refine Pair.take (i := 12) (fuel := 17) (d := 27) (v := .bool false) (by kernel_rfl) rfl rfl (by kernel_rfl) (by kernel_rfl) (by kernel_rfl) (fun _ _ _ h => h) (Or.inl ⟨by rfl, ?_⟩) hS5 ?_
              · (intro w' hSw; obtain ⟨f0, f1, f2⟩ := hSw; go_simp; try simp only [hb1, hb2, hb3, hb4, hb5, hb6])
              try simp only [Act.put, List.setIfInBounds_toArray, List.set_cons_zero, List.set_cons_succ]
              refine Pair.take (i := 13) (fuel := 16) (d := 28) (v := .bool false) (by kernel_rfl) rfl rfl (by kernel_rfl) (by kernel_rfl) (by kernel_rfl) (fun _ _ _ h => h) (Or.inl ⟨by rfl, ?_⟩) hS5 ?_
              · (intro w' hSw; obtain ⟨f0, f1, f2⟩ := hSw; go_simp; try simp only [hb1, hb2, hb3, hb4, hb5, hb6])
              try simp only [Act.put, List.setIfInBounds_toArray, List.set_cons_zero, List.set_cons_succ]
              refine Pair.take (i := 14) (fuel := 15) (d := 29) (v := .bool false) (by kernel_rfl) rfl rfl (by kernel_rfl) (by kernel_rfl) (by kernel_rfl) (fun _ _ _ h => h) (Or.inl ⟨by rfl, ?_⟩) hS5 ?_
              · (intro w' hSw; obtain ⟨f0, f1, f2⟩ := hSw; go_simp; try simp only [hb1, hb2, hb3, hb4, hb5, hb6])
              try simp only [Act.put, List.setIfInBounds_toArray, List.set_cons_zero, List.set_cons_succ]
              refine Pair.take (i := 15) (fuel := 14) (d := 30) (v := ?_) (by kernel_rfl) rfl rfl (by kernel_rfl) (by kernel_rfl) (by kernel_rfl) (fun _ _ _ h => h) (Or.inl ⟨by rfl, ?_⟩) hS5 ?_
              rotate_left 1
              · (intro w' hSw; obtain ⟨f0, f1, f2⟩ := hSw; go_simp; try with_reducible rfl)
              try simp only [Act.put, List.setIfInBounds_toArray, List.set_cons_zero, List.set_cons_succ]
              refine Pair.take (i := 16) (fuel := 13) (d := 31) (v := ?_) (by kernel_rfl) rfl rfl (by kernel_rfl) (by kernel_rfl) (by kernel_rfl) (fun _ _ _ h => h) (Or.inl ⟨by rfl, ?_⟩) hS5 ?_
              rotate_left 1
              · (intro w' hSw; obtain ⟨f0, f1, f2⟩ := hSw; go_simp; try with_reducible rfl)
              try simp only [Act.put, List.setIfInBounds_toArray, List.set_cons_zero, List.set_cons_succ]
              refine Pair.take (i := 17) (fuel := 12) (d := 32) (v := .bool true) (by kernel_rfl) rfl rfl (by kernel_rfl) (by kernel_rfl) (by kernel_rfl) (fun _ _ _ h => h) (Or.inl ⟨by rfl, ?_⟩) hS5 ?_
              · (intro w' hSw; obtain ⟨f0, f1, f2⟩ := hSw; go_simp; try simp only [hb1, hb2, hb3, hb4, hb5, hb6])
              try simp only [Act.put, List.setIfInBounds_toArray, List.set_cons_zero, List.set_cons_succ]
              refine Pair.take (i := 18) (fuel := 11) (d := 33) (v := .bool true) (by kernel_rfl) rfl rfl (by kernel_rfl) (by kernel_rfl) (by kernel_rfl) (fun _ _ _ h => h) (Or.inl ⟨by rfl, ?_⟩) hS5 ?_
              · (intro w' hSw; obtain ⟨f0, f1, f2⟩ := hSw; go_simp; try simp only [hb1, hb2, hb3, hb4, hb5, hb6])
              try simp only [Act.put, List.setIfInBounds_toArray, List.set_cons_zero, List.set_cons_succ]
              refine Pair.take (i := 19) (fuel := 10) (d := 34) (v := ?_) (by kernel_rfl) rfl rfl (by kernel_rfl) (by kernel_rfl) (by kernel_rfl) (fun _ _ _ h => h) (Or.inl ⟨by rfl, ?_⟩) hS5 ?_
              rotate_left 1
              · (intro w' hSw; obtain ⟨f0, f1, f2⟩ := hSw; go_simp; try with_reducible rfl)
              try simp only [Act.put, List.setIfInBounds_toArray, List.set_cons_zero, List.set_cons_succ]
              refine Pair.take (i := 20) (fuel := 9) (d := 35) (v := ?_) (by kernel_rfl) rfl rfl (by kernel_rfl) (by kernel_rfl) (by kernel_rfl) (fun _ _ _ h => h) (Or.inl ⟨by rfl, ?_⟩) hS5 ?_
              rotate_left 1
              · (intro w' hSw; obtain ⟨f0, f1, f2⟩ := hSw; go_simp; try with_reducible rfl)
              try simp only [Act.put, List.setIfInBounds_toArray, List.set_cons_zero, List.set_cons_succ]
              refine Pair.take (i := 21) (fuel := 8) (d := 36) (v := .bool false) (by kernel_rfl) rfl rfl (by kernel_rfl) (by kernel_rfl) (by kernel_rfl) (fun _ _ _ h => h) (Or.inl ⟨by rfl, ?_⟩) hS5 ?_
              · (intro w' hSw; obtain ⟨f0, f1, f2⟩ := hSw; go_simp; try simp only [hb1, hb2, hb3, hb4, hb5, hb6])
              try simp only [Act.put, List.setIfInBounds_toArray, List.set_cons_zero, List.set_cons_succ]
              refine Pair.take (i := 22) (fuel := 7) (d := 37) (v := .bool false) (by kernel_rfl) rfl rfl (by kernel_rfl) (by kernel_rfl) (by kernel_rfl) (fun _ _ _ h => h) (Or.inl ⟨by rfl, ?_⟩) hS5 ?_
              · (intro w' hSw; obtain ⟨f0, f1, f2⟩ := hSw; go_simp; try simp only [hb1, hb2, hb3, hb4, hb5, hb6])
              try simp only [Act.put, List.setIfInBounds_toArray, List.set_cons_zero, List.set_cons_succ]
              refine Pair.take (i := 23) (fuel := 6) (d := 38) (v := ?_) (by kernel_rfl) rfl rfl (by kernel_rfl) (by kernel_rfl) (by kernel_rfl) (fun _ _ _ h => h) (Or.inl ⟨by rfl, ?_⟩) hS5 ?_
              rotate_left 1
              · (intro w' hSw; obtain ⟨f0, f1, f2⟩ := hSw; go_simp; try with_reducible rfl)
              try simp only [Act.put, List.setIfInBounds_toArray, List.set_cons_zero, List.set_cons_succ]
              refine Pair.take (i := 24) (fuel := 5) (d := 39) (v := ?_) (by kernel_rfl) rfl rfl (by kernel_rfl) (by kernel_rfl) (by kernel_rfl) (fun _ _ _ h => h) (Or.inl ⟨by rfl, ?_⟩) hS5 ?_
              rotate_left 1
              · (intro w' hSw; obtain ⟨f0, f1, f2⟩ := hSw; go_simp; try with_reducible rfl)
              try simp only [Act.put, List.setIfInBounds_toArray, List.set_cons_zero, List.set_cons_succ]
              refine Pair.take (i := 25) (fuel := 4) (d := 40) (v := ?_) (by kernel_rfl) rfl rfl (by kernel_rfl) (by kernel_rfl) (by kernel_rfl) (fun _ _ _ h => h) (Or.inl ⟨by rfl, ?_⟩) hS5 ?_
              rotate_left 1
              · (intro w' hSw; obtain ⟨f0, f1, f2⟩ := hSw; go_simp; try with_reducible rfl)
              try simp only [Act.put, List.setIfInBounds_toArray, List.set_cons_zero, List.set_cons_succ]
              refine Pair.take (i := 26) (fuel := 3) (d := 41) (v := .bool false) (by kernel_rfl) rfl rfl (by kernel_rfl) (by kernel_rfl) (by kernel_rfl) (fun _ _ _ h => h) (Or.inl ⟨by rfl, ?_⟩) hS5 ?_
              · (intro w' hSw; obtain ⟨f0, f1, f2⟩ := hSw; go_simp; try simp only [hb1, hb2, hb3, hb4, hb5, hb6])
              try simp only [Act.put, List.setIfInBounds_toArray, List.set_cons_zero, List.set_cons_succ]
              refine Pair.take (i := 27) (fuel := 2) (d := 42) (v := .bool false) (by kernel_rfl) rfl rfl (by kernel_rfl) (by kernel_rfl) (by kernel_rfl) (fun _ _ _ h => h) (Or.inl ⟨by rfl, ?_⟩) hS5 ?_
              · (intro w' hSw; obtain ⟨f0, f1, f2⟩ := hSw; go_simp; try simp only [hb1, hb2, hb3, hb4, hb5, hb6])
              try simp only [Act.put, List.setIfInBounds_toArray, List.set_cons_zero, List.set_cons_succ]
              refine Pair.take (i := 28) (fuel := 1) (d := 43) (v := .bool false) (by kernel_rfl) rfl rfl (by kernel_rfl) (by kernel_rfl) (by kernel_rfl) (fun _ _ _ h => h) (Or.inl ⟨by rfl, ?_⟩) hS5 ?_
              · (intro w' hSw; obtain ⟨f0, f1, f2⟩ := hSw; go_simp; try simp only [hb1, hb2, hb3, hb4, hb5, hb6])
              try simp only [Act.put, List.setIfInBounds_toArray, List.set_cons_zero, List.set_cons_succ]
              refine Pair.take (i := 29) (fuel := 0) (d := 44) (v := .bool false) (by kernel_rfl) rfl rfl (by kernel_rfl) (by kernel_rfl) (by kernel_rfl) (fun _ _ _ h => h) (Or.inl ⟨by rfl, ?_⟩) hS5 ?_
              · (intro w' hSw; obtain ⟨f0, f1, f2⟩ := hSw; go_simp; try simp only [hb1, hb2, hb3, hb4, hb5, hb6])
              try simp only [Act.put, List.setIfInBounds_toArray, List.set_cons_zero, List.set_cons_succ]
              refine wpAnyH_done (by kernel_rfl) ?_ _
              go_wp2_with fail
              have hR := HR2.out
              clear HR2
              refine (text_any _ eb s4 3900 3900 rfl A2.out.eye).mono ?_
              cases hp : textP 3900 s4 with
              | error why =>
                rw [hp] at hR
                intro e w6 h1
                obtain ⟨rfl, s5, h1, h2⟩ := h1.of_err
                exact ⟨rfl, (A2.out.eyed h1 h2).err (HR.out.symm.trans hR)⟩
              | ok q =>
                obtain ⟨note, s5⟩ := q
                rw [hp] at hR
                dsimp only at hR
                intro e w6 h1
                obtain ⟨rfl, h1, h2⟩ := h1.of_ok
                have B6 : Hid (Beg w w6 eb bx bn s5 gen root ⟨#[]⟩ n) := A2.out.eyed h1 h2
                have HE : Hid (beginsR n s = .ok ((gen, root, note), s5)) := HR.out.symm.trans hR
                clear h1 h2 hp hR A2 A0
                obtain ⟨c0, c1, c2, c3, cf⟩ := B6.out.cells
                go_wp2
                have B7 := B6.out.put 2 (.string note) rfl
                first | go_end0 | refine bodyPost_ret (results_none rfl _ _ _) rfl ?_
                exact lookOk B7.eye B7.chg ⟨gen, root, note, HE.out, B7.sup.x⟩
    · rw [if_neg hk] at hR
      have hk' : (k.toList == [83]) = false := Bool.eq_false_iff.2 hk
      have HE : Hid (beginsR n s = .error 201) := HR.out.symm.trans hR
      clear hR
      go_wp2_with (first
        | (go_at_call 94; refine (fail_any _ eb s1 201 B1.out.eye).mono ?_; rintro e w6 ⟨rfl, rfl⟩)
        | fail)
      exact ⟨rfl, B1.out.err HE.out⟩
end Go.Proofs.YtanpkghdgdkdlaaGreat.Sto
