/- Layer 6: what a beginning tells. -/
import Derived.Test.YtadmecjdihfmeaaGreatLook
import Derived.Test.YtadmecjdihfmeaaGreatCrcSeal
import Derived.Deep.RegionHeld3
import Derived.Test.YtadmecjdihfmeaaGreatTwo
namespace Go.Proofs.YtadmecjdihfmeaaGreat.Sto
set_option linter.unusedVariables false
set_option linter.unusedSimpArgs false
set_option maxRecDepth 100000
open Go.RowKit Go.Lib Go.Proofs.YtadmecjdihfmeaaGreat.Mem Go.Proofs.YtadmecjdihfmeaaGreat.Oct

theorem lookErr {T : List Nat} {F : Nat → Except Int ByteArray → World → Prop} {w1 w2 : World} {eb : Nat} {why : Int} {s' : ByteArray} (h1 : EyeAt w2 eb s') (h2 : Chg (eb :: T) w1 w2) (h3 : F w1.heap.size (.error why) w2) : LookPost T F w1 eb (.panicked (thrown why)) w2 := .inr ⟨why, s', rfl, h1, h2, h3⟩
theorem lookOk {T : List Nat} {F : Nat → Except Int ByteArray → World → Prop} {w1 w2 : World} {eb : Nat} {s' : ByteArray} (h1 : EyeAt w2 eb s') (h2 : Chg (eb :: T) w1 w2) (h3 : F w1.heap.size (.ok s') w2) : LookPost T F w1 eb (.returned (.tuple #[])) w2 := .inl ⟨s', rfl, h1, h2, h3⟩

/-- a beginning that is being read, and how many blocks there are -/
structure SupAt (w : World) (bx bn : Nat) (a b : Int) (c : ByteArray) (n : Int) : Prop where
  x : w.heap[bx]? = some (.cells #[.int .i64 a, .int .i64 b, .string c] 93 (0, 0))
  n : w.heap[bn]? = some (.cells #[.int .i64 n] 3 (0, 0))
def badSuper (n gen root sz : Int) : Bool := decide (sz ≠ n) || decide (gen < 1) || decide (1099511627776 < gen) || (decide (root ≠ 0) && (decide (root < 2) || decide (n ≤ root)))
def beginsR (n : Int) (s : ByteArray) : Except Int ((Nat × Nat × ByteArray) × ByteArray) :=
  match rawP 1 s with
  | .error e => .error e
  | .ok (k, s1) => if (k.toList == [83]) = true then
      match numP 6 s1 with
      | .error e => .error e
      | .ok (gen, s2) => match numP 4 s2 with
        | .error e => .error e
        | .ok (root, s3) => match numP 4 s3 with
          | .error e => .error e
          | .ok (sz, s4) => if badSuper n gen root sz = true then .error 201 else
            match textP 3900 s4 with
            | .error e => .error e
            | .ok (note, s5) => .ok ((gen, root, note), s5)
    else .error 201
def BeginsF (n : Int) (s : ByteArray) (bx : Nat) (N : Nat) (r : Except Int ByteArray) (w : World) : Prop :=
  match r with
  | .ok s' => ∃ gen root note, beginsR n s = .ok ((gen, root, note), s') ∧ w.heap[bx]? = some (.cells #[.int .i64 (gen : Nat), .int .i64 (root : Nat), .string note] 93 (0, 0))
  | .error why => beginsR n s = .error why ∧ ∃ a b c, w.heap[bx]? = some (.cells #[.int .i64 a, .int .i64 b, .string c] 93 (0, 0))
/-- what stands while a beginning is read -/
structure Beg (w w' : World) (eb bx bn : Nat) (s' : ByteArray) (a b : Int) (c : ByteArray) (n : Int) : Prop where
  eye : EyeAt w' eb s'
  sup : SupAt w' bx bn a b c n
  chg : Chg (eb :: [bx]) w w'
theorem Beg.eyed {w w' w'' : World} {eb bx bn : Nat} {s' s'' : ByteArray} {a b : Int} {c : ByteArray} {n : Int} (h : Beg w w' eb bx bn s' a b c n) (h1 : EyeAt w'' eb s'') (h2 : Chg [eb] w' w'') : Beg w w'' eb bx bn s'' a b c n := by
  have hx : bx ∉ [eb] := by
    intro hm
    have : bx = eb := by simpa using hm
    subst this
    have := h.sup.x.symm.trans h.eye
    simp at this
  have hn : bn ∉ [eb] := by
    intro hm
    have : bn = eb := by simpa using hm
    subst this
    have := h.sup.n.symm.trans h.eye
    simp at this
  exact ⟨h1, ⟨(h2.block _ (heap_lt h.sup.x) hx).trans h.sup.x, (h2.block _ (heap_lt h.sup.n) hn).trans h.sup.n⟩, h.chg.trans (h2.mono (by simp))⟩
theorem Beg.err {w w' : World} {eb bx bn : Nat} {s s' : ByteArray} {a b : Int} {c : ByteArray} {n : Int} {why : Int} (h : Beg w w' eb bx bn s' a b c n) (hb : beginsR n s = .error why) : LookPost [bx] (BeginsF n s bx) w eb (.panicked (thrown why)) w' :=
  lookErr h.eye h.chg ⟨hb, _, _, _, h.sup.x⟩
theorem Beg.ne {w w' : World} {eb bx bn : Nat} {s' : ByteArray} {a b : Int} {c : ByteArray} {n : Int} (h : Beg w w' eb bx bn s' a b c n) : eb ≠ bx ∧ bn ≠ bx := by
  constructor
  · rintro rfl
    have := h.sup.x.symm.trans h.eye
    simp at this
  · rintro rfl
    have := h.sup.x.symm.trans h.sup.n
    simp at this
theorem Beg.cells {w w' : World} {eb bx bn : Nat} {s' : ByteArray} {a b : Int} {c : ByteArray} {n : Int} (h : Beg w w' eb bx bn s' a b c n) : w'.cell? ⟨bx, 0, none⟩ = some (.int .i64 a) ∧ w'.cell? ⟨bx, 1, none⟩ = some (.int .i64 b) ∧ w'.cell? ⟨bx, 2, none⟩ = some (.string c) ∧ w'.cell? ⟨bn, 0, none⟩ = some (.int .i64 n) ∧ ∀ j, w'.frozen? ⟨bx, j, none⟩ = false :=
  ⟨cell_at h.sup.x 0, cell_at h.sup.x 1, cell_at h.sup.x 2, cell_at h.sup.n 0, fun j => frozen_at h.sup.x j⟩
theorem Beg.put {w w' : World} {eb bx bn : Nat} {s' : ByteArray} {a b a' b' : Int} {c c' : ByteArray} {n : Int} (h : Beg w w' eb bx bn s' a b c n) (j : Nat) (v : Value) (hj : #[Value.int .i64 a, .int .i64 b, .string c].setIfInBounds j v = #[Value.int .i64 a', .int .i64 b', .string c']) : Beg w (w'.setCell ⟨bx, j, none⟩ v) eb bx bn s' a' b' c' n :=
  ⟨(heap_set_other ⟨bx, j, none⟩ _ h.ne.1).trans h.eye, ⟨by rw [heap_set_at h.sup.x j v, hj], (heap_set_other ⟨bx, j, none⟩ _ h.ne.2).trans h.sup.n⟩, h.chg.setCell _ _ (.inl (by simp))⟩
theorem Beg.drew {w w' : World} {eb bx bn : Nat} {s' : ByteArray} {a b : Int} {c : ByteArray} {n : Int} (h : Beg w w' eb bx bn s' a b c n) : Beg w w'.drew eb bx bn s' a b c n := ⟨h.eye, ⟨h.sup.x, h.sup.n⟩, h.chg.drew⟩
theorem super_cases (n : Int) (gen root sz : Nat) : (¬ (sz : Int) = n ∧ badSuper n gen root sz = true) ∨ ((sz : Int) = n ∧ (gen : Int) < 1 ∧ badSuper n gen root sz = true) ∨ ((sz : Int) = n ∧ 1 ≤ (gen : Int) ∧ 1099511627776 < (gen : Int) ∧ badSuper n gen root sz = true) ∨
    ((sz : Int) = n ∧ 1 ≤ (gen : Int) ∧ (gen : Int) ≤ 1099511627776 ∧ ¬ (root : Int) = 0 ∧ (root : Int) < 2 ∧ badSuper n gen root sz = true) ∨ ((sz : Int) = n ∧ 1 ≤ (gen : Int) ∧ (gen : Int) ≤ 1099511627776 ∧ ¬ (root : Int) = 0 ∧ 2 ≤ (root : Int) ∧ n ≤ (root : Int) ∧ badSuper n gen root sz = true) ∨
    ((sz : Int) = n ∧ 1 ≤ (gen : Int) ∧ (gen : Int) ≤ 1099511627776 ∧ (root : Int) = 0 ∧ badSuper n gen root sz = false) ∨ ((sz : Int) = n ∧ 1 ≤ (gen : Int) ∧ (gen : Int) ≤ 1099511627776 ∧ ¬ (root : Int) = 0 ∧ 2 ≤ (root : Int) ∧ (root : Int) < n ∧ badSuper n gen root sz = false) := by
  unfold badSuper
  by_cases h1 : (sz : Int) = n
  · by_cases h2 : (gen : Int) < 1
    · right; left; simp [h2, h1]
    · by_cases h3 : 1099511627776 < (gen : Int)
      · right; right; left; exact ⟨h1, by omega, h3, by simp [h3]⟩
      · by_cases h4 : (root : Int) = 0
        · right; right; right; right; right; left
          exact ⟨h1, by omega, by omega, h4, by simp [h1, h4]; omega⟩
        · by_cases h5 : (root : Int) < 2
          · right; right; right; left; exact ⟨h1, by omega, by omega, h4, h5, by simp [h5]; omega⟩
          · by_cases h6 : n ≤ (root : Int)
            · right; right; right; right; left; exact ⟨h1, by omega, by omega, h4, by omega, h6, by simp [h6]; omega⟩
            · right; right; right; right; right; right
              exact ⟨h1, by omega, by omega, h4, by omega, by omega, by simp [h1]; omega⟩
  · left; exact ⟨h1, by simp [h1]⟩
end Go.Proofs.YtadmecjdihfmeaaGreat.Sto
