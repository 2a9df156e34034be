/- slices.Index, Contains, Equal, Clone at whole numbers and texts. -/
import Derived.Test.YtecnfhfofnbieaaDevMade
import Derived.Test.YtecnfhfofnbieaaDevShort
import Derived.Deep.QuietTactic
import Derived.BigQuiet
namespace Go.Proofs.Ytecnfhfofnbieaa.Dev
set_option linter.unusedVariables false
set_option linter.unusedSimpArgs false
set_option maxRecDepth 100000
open Go.RowKit Go.Proofs.Ytecnfhfofnbieaa.Mem

/-- slices.Index -/
theorem index_any (p : Nat → Prop) (w : World) (v : Value) (l : List Int) (x : Int) (h : Ints p w v l) :
    Calls Try.prog 46 #[v, .int .i64 x] w fun e w' => ∃ r : Int, e = .returned (.int .i64 r) ∧ (0 ≤ r ↔ x ∈ l) ∧ w = w' := by
  obtain ⟨a, c, rfl, hlen, hc⟩ := h.form
  clear h
  have HC : Hid _ := hc
  clear hc
  go_enter Try.func46, Try.ntmps46
  go_wp2
  go_loopw [8] (fun i wr => ∃ j : Nat, j ≤ l.length ∧ i = .int .i64 j ∧ Hid (x ∉ l.take j) ∧ wr = w) (fun i _ => l.length - (intOf i).toNat)
  case atStart => exact ⟨0, by omega, rfl, by simp [Hid], rfl⟩
  case round =>
    obtain ⟨j, hj, rfl, hA, rfl⟩ := hrel
    by_cases hlt : j < l.length
    · obtain ⟨b, o, rfl, hcell⟩ := HC.out j hlt
      have HS : Hid (l.take (j + 1) = l.take j ++ [l[j]]) := take_snoc l j hlt
      have HM : Hid (l[j] ∈ l) := List.getElem_mem hlt
      obtain ⟨y, hy⟩ : ∃ y, y = l[j] := ⟨_, rfl⟩
      rw [← hy] at hcell HS HM
      clear hy
      by_cases hxy : x = y
      · subst hxy
        go_wp2
        go_ret
        exact ⟨j, rfl, ⟨fun _ => HM.out, fun _ => by omega⟩, rfl⟩
      · have hne : (x == y) = false := by simpa using hxy
        go_wp2
        go_roundw
        case rel => exact ⟨j + 1, by omega, by go_num, by rw [HS.out]; simp [Hid]; exact ⟨hA.out, hxy⟩, trivial⟩
        case measure => simp [intOf]; omega
    · have he : Hid (x ∉ l) := by have := hA.out; rw [List.take_of_length_le (by omega)] at this; exact this
      go_wp2
      go_ret
      exact ⟨-1, rfl, ⟨fun h => by omega, fun h => absurd h he.out⟩, rfl⟩
/-- slices.Contains -/
theorem contains_any (p : Nat → Prop) (w : World) (v : Value) (l : List Int) (x : Int) (h : Ints p w v l) :
    Calls Try.prog 33 #[v, .int .i64 x] w fun e w' => e = .returned (.bool (decide (x ∈ l))) ∧ w = w' := by
  obtain ⟨a, c, e0, _, _⟩ := h.form
  subst e0
  have H : Hid (Ints p w (.slice a l.length c) l) := h
  clear h
  go_enter Try.func33, Try.ntmps33
  go_wp2_with fail
  refine (index_any p w _ l x H.out).mono ?_
  rintro e w1 ⟨r, rfl, hr, rfl⟩
  have HR : Hid _ := hr
  clear hr
  by_cases h0 : 0 ≤ r
  · have hd : decide (x ∈ l) = true := by simpa using HR.out.1 h0
    have HD : Hid _ := hd
    clear hd
    go_wp2_with fail
    go_ret
    exact ⟨by rw [HD.out]; rfl, rfl⟩
  · have hd : decide (x ∈ l) = false := by simpa using fun h => h0 (HR.out.2 h)
    have HD : Hid _ := hd
    clear hd
    go_wp2_with fail
    go_ret
    exact ⟨by rw [HD.out, show decide (0 ≤ r) = false by simpa using h0]; rfl, rfl⟩

theorem str_ne {y y' : ByteArray} (h : ¬y = y') : (y.toList == y'.toList) = false := by
  rw [beq_eq_false_iff_ne]
  intro e
  rw [ByteArray.toList_eq, ByteArray.toList_eq] at e
  exact h (ByteArray.ext (Array.toList_inj.1 e))
theorem take_ne {α : Type} [DecidableEq α] {l l' : List α} (j : Nat) (h : l.take j ≠ l'.take j) : l ≠ l' := fun e => h (by rw [e])
set_option maxHeartbeats 1000000 in
/-- slices.Equal at whole numbers -/
theorem equal_ints (p q : Nat → Prop) (w : World) (v v' : Value) (l l' : List Int) (h : Ints p w v l) (h' : Ints q w v' l') :
    Calls Try.prog 28 #[v, v'] w fun e w' => e = .returned (.bool (decide (l = l'))) ∧ Below w.heap.size w w' := by
  obtain ⟨a, c, rfl, hlen, hc⟩ := h.form
  obtain ⟨a', c', rfl, hlen', hc'⟩ := h'.form
  clear h h'
  have HC : Hid _ := hc
  have HC' : Hid _ := hc'
  clear hc hc'
  by_cases hll : l.length = l'.length
  · go_enter Try.func28, Try.ntmps28
    go_wp2
    go_loopw [13] (fun i wr => ∃ j : Nat, j ≤ l.length ∧ i = .int .i64 j ∧ Hid (l.take j = l'.take j) ∧ Hid (Below w.heap.size w wr)) (fun i _ => l.length - (intOf i).toNat)
    case atStart => exact ⟨0, by omega, rfl, by simp [Hid], Below.refl _ _⟩
    case round =>
      obtain ⟨j, hj, rfl, hA, hT⟩ := hrel
      by_cases hlt : j < l.length
      · have hlt' : j < l'.length := by omega
        obtain ⟨b, o, rfl, hcell⟩ := HC.out j hlt
        obtain ⟨b', o', rfl, hcell'⟩ := HC'.out j hlt'
        have hcell1 := cell_on hT.out hcell
        have hcell2 := cell_on hT.out hcell'
        clear hcell hcell'
        have HS : Hid (l.take (j + 1) = l.take j ++ [l[j]]) := take_snoc l j hlt
        have HS' : Hid (l'.take (j + 1) = l'.take j ++ [l'[j]]) := take_snoc l' j hlt'
        obtain ⟨y, hy⟩ : ∃ y, y = l[j] := ⟨_, rfl⟩
        rw [← hy] at hcell1 HS
        obtain ⟨y', hy'⟩ : ∃ y, y = l'[j] := ⟨_, rfl⟩
        rw [← hy'] at hcell2 HS'
        clear hy hy'
        by_cases hxy : y = y'
        · subst hxy
          go_wp2_with fail
          go_quiet (fail)
          go_wp2
          go_roundw
          case rel => exact ⟨j + 1, by omega, by go_num, by rw [HS.out, HS'.out, hA.out]; rfl, hT.out.trans (Joins.below_draws _ _ _)⟩
          case measure => simp [intOf]; omega
        · have hne : (y == y') = false := by simpa using hxy
          have HD : Hid (decide (l = l') = false) := by
            simp only [Hid, decide_eq_false_iff_not]
            refine take_ne (j + 1) ?_
            rw [HS.out, HS'.out, hA.out]
            intro e
            simp at e
            exact hxy e
          go_wp2_with fail
          go_quiet (fail)
          go_wp2
          go_ret
          exact ⟨by rw [HD.out]; rfl, hT.out.trans (Joins.below_draws _ _ _)⟩
      · have he : Hid (l = l') := by have := hA.out; rw [List.take_of_length_le (by omega), List.take_of_length_le (by omega)] at this; exact this
        go_wp2
        go_ret
        exact ⟨by rw [decide_eq_true he.out]; rfl, hT.out⟩
  · have hne : decide (l = l') = false := by simpa using fun e => hll (by rw [e])
    rw [hne]
    have hnn : ((l.length : Int) == (l'.length : Int)) = false := by simp; omega
    go_enter Try.func28, Try.ntmps28
    go_wp2
    go_ret
    exact ⟨rfl, Below.refl _ _⟩
set_option maxHeartbeats 1000000 in
/-- slices.Equal at texts -/
theorem equal_strs (p q : Nat → Prop) (w : World) (v v' : Value) (l l' : List ByteArray) (h : Strs p w v l) (h' : Strs q w v' l') :
    Calls Try.prog 34 #[v, v'] w fun e w' => e = .returned (.bool (decide (l = l'))) ∧ Below w.heap.size w w' := by
  obtain ⟨a, c, rfl, hlen, hc⟩ := h.form
  obtain ⟨a', c', rfl, hlen', hc'⟩ := h'.form
  clear h h'
  have HC : Hid _ := hc
  have HC' : Hid _ := hc'
  clear hc hc'
  by_cases hll : l.length = l'.length
  · go_enter Try.func34, Try.ntmps34
    go_wp2
    go_loopw [13] (fun i wr => ∃ j : Nat, j ≤ l.length ∧ i = .int .i64 j ∧ Hid (l.take j = l'.take j) ∧ Hid (Below w.heap.size w wr)) (fun i _ => l.length - (intOf i).toNat)
    case atStart => exact ⟨0, by omega, rfl, by simp [Hid], Below.refl _ _⟩
    case round =>
      obtain ⟨j, hj, rfl, hA, hT⟩ := hrel
      by_cases hlt : j < l.length
      · have hlt' : j < l'.length := by omega
        obtain ⟨b, o, rfl, hcell⟩ := HC.out j hlt
        obtain ⟨b', o', rfl, hcell'⟩ := HC'.out j hlt'
        have hcell1 := cell_on hT.out hcell
        have hcell2 := cell_on hT.out hcell'
        clear hcell hcell'
        have HS : Hid (l.take (j + 1) = l.take j ++ [l[j]]) := take_snoc l j hlt
        have HS' : Hid (l'.take (j + 1) = l'.take j ++ [l'[j]]) := take_snoc l' j hlt'
        obtain ⟨y, hy⟩ : ∃ y, y = l[j] := ⟨_, rfl⟩
        rw [← hy] at hcell1 HS
        obtain ⟨y', hy'⟩ : ∃ y, y = l'[j] := ⟨_, rfl⟩
        rw [← hy'] at hcell2 HS'
        clear hy hy'
        by_cases hxy : y = y'
        · subst hxy
          go_wp2_with fail
          go_quiet (fail)
          go_wp2
          go_roundw
          case rel => exact ⟨j + 1, by omega, by go_num, by rw [HS.out, HS'.out, hA.out]; rfl, hT.out.trans (Joins.below_draws _ _ _)⟩
          case measure => simp [intOf]; omega
        · have hne : (y.toList == y'.toList) = false := str_ne hxy
          have HD : Hid (decide (l = l') = false) := by
            simp only [Hid, decide_eq_false_iff_not]
            refine take_ne (j + 1) ?_
            rw [HS.out, HS'.out, hA.out]
            intro e
            simp at e
            exact hxy e
          go_wp2_with fail
          go_quiet (fail)
          go_wp2
          go_ret
          exact ⟨by rw [HD.out]; rfl, hT.out.trans (Joins.below_draws _ _ _)⟩
      · have he : Hid (l = l') := by have := hA.out; rw [List.take_of_length_le (by omega), List.take_of_length_le (by omega)] at this; exact this
        go_wp2
        go_ret
        exact ⟨by rw [decide_eq_true he.out]; rfl, hT.out⟩
  · have hne : decide (l = l') = false := by simpa using fun e => hll (by rw [e])
    rw [hne]
    have hnn : ((l.length : Int) == (l'.length : Int)) = false := by simp; omega
    go_enter Try.func34, Try.ntmps34
    go_wp2
    go_ret
    exact ⟨rfl, Below.refl _ _⟩
end Go.Proofs.Ytecnfhfofnbieaa.Dev
