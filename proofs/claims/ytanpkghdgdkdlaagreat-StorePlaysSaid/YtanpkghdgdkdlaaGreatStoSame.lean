/- slices.Equal at whole numbers; two lists of blocks, held together. -/
import Derived.Test.YtanpkghdgdkdlaaGreatStoAwake
import Derived.Test.YtanpkghdgdkdlaaGreatBelow
namespace Go.Proofs.YtanpkghdgdkdlaaGreat.Sto
set_option linter.unusedVariables false
set_option linter.unusedSimpArgs false
set_option maxRecDepth 100000
open Go.RowKit Go.Lib Go.Proofs.YtanpkghdgdkdlaaGreat.Mem Go.Proofs.YtanpkghdgdkdlaaGreat.Oct Go.Proofs.YtanpkghdgdkdlaaGreat.Dev

theorem take_snoc {α : Type} (l : List α) (j : Nat) (h : j < l.length) : l.take (j + 1) = l.take j ++ [l[j]] := by rw [List.take_add_one, List.getElem?_eq_getElem h]; rfl
theorem str_ne {y y' : ByteArray} (h : ¬y = y') : (y.toList == y'.toList) = false := by
  rw [beq_eq_false_iff_ne]
  intro e
  rw [ByteArray.toList_eq, ByteArray.toList_eq] at e
  exact h (ByteArray.ext (Array.toList_inj.1 e))
theorem take_ne {α : Type} [DecidableEq α] {l l' : List α} (j : Nat) (h : l.take j ≠ l'.take j) : l ≠ l' := fun e => h (by rw [e])
set_option maxHeartbeats 1000000 in
/-- slices.Equal at whole numbers -/
theorem equal_ints (p q : Nat → Prop) (w : World) (v v' : Value) (l l' : List Int) (h : Ints p w v l) (h' : Ints q w v' l') :
    Calls Tryz.prog 27 #[v, v'] w fun e w' => e = .returned (.bool (decide (l = l'))) ∧ Below w.heap.size w w' := by
  obtain ⟨a, c, rfl, hlen, hc⟩ := h.form
  obtain ⟨a', c', rfl, hlen', hc'⟩ := h'.form
  clear h h'
  have HC : Hid _ := hc
  have HC' : Hid _ := hc'
  clear hc hc'
  by_cases hll : l.length = l'.length
  · go_enter Tryz.func27, Tryz.ntmps27
    go_wp2
    go_loopw [13] (fun i wr => ∃ j : Nat, j ≤ l.length ∧ i = .int .i64 j ∧ Hid (l.take j = l'.take j) ∧ Hid (Below w.heap.size w wr)) (fun i _ => l.length - (intOf i).toNat)
    case atStart => exact ⟨0, by omega, rfl, by simp [Hid], Below.refl _ _⟩
    case round =>
      obtain ⟨j, hj, rfl, hA, hT⟩ := hrel
      by_cases hlt : j < l.length
      · have hlt' : j < l'.length := by omega
        obtain ⟨b, o, rfl, hcell⟩ := HC.out j hlt
        obtain ⟨b', o', rfl, hcell'⟩ := HC'.out j hlt'
        have hcell1 := cell_on hT.out hcell
        have hcell2 := cell_on hT.out hcell'
        clear hcell hcell'
        have HS : Hid (l.take (j + 1) = l.take j ++ [l[j]]) := take_snoc l j hlt
        have HS' : Hid (l'.take (j + 1) = l'.take j ++ [l'[j]]) := take_snoc l' j hlt'
        obtain ⟨y, hy⟩ : ∃ y, y = l[j] := ⟨_, rfl⟩
        rw [← hy] at hcell1 HS
        obtain ⟨y', hy'⟩ : ∃ y, y = l'[j] := ⟨_, rfl⟩
        rw [← hy'] at hcell2 HS'
        clear hy hy'
        by_cases hxy : y = y'
        · subst hxy
          go_wp2_with fail
          go_quiet (fail)
          go_wp2
          go_roundw
          case rel => exact ⟨j + 1, by omega, by go_num, by rw [HS.out, HS'.out, hA.out]; rfl, hT.out.trans (Joins.below_draws _ _ _)⟩
          case measure => simp [intOf]; omega
        · have hne : (y == y') = false := by simpa using hxy
          have HD : Hid (decide (l = l') = false) := by
            simp only [Hid, decide_eq_false_iff_not]
            refine take_ne (j + 1) ?_
            rw [HS.out, HS'.out, hA.out]
            intro e
            simp at e
            exact hxy e
          go_wp2_with fail
          go_quiet (fail)
          go_wp2
          go_ret
          exact ⟨by rw [HD.out]; rfl, hT.out.trans (Joins.below_draws _ _ _)⟩
      · have he : Hid (l = l') := by have := hA.out; rw [List.take_of_length_le (by omega), List.take_of_length_le (by omega)] at this; exact this
        go_wp2
        go_ret
        exact ⟨by rw [decide_eq_true he.out]; rfl, hT.out⟩
  · have hne : decide (l = l') = false := by simpa using fun e => hll (by rw [e])
    rw [hne]
    have hnn : ((l.length : Int) == (l'.length : Int)) = false := by simp; omega
    go_enter Tryz.func27, Tryz.ntmps27
    go_wp2
    go_ret
    exact ⟨rfl, Below.refl _ _⟩
theorem str_eq_dec (x y : ByteArray) : (x.toList == y.toList) = decide (x = y) := by
  by_cases h : x = y
  · subst h; rw [decide_eq_true rfl]; exact beq_self_eq_true _
  · rw [decide_eq_false h]; exact str_ne h
theorem same1_any (p q : Nat → Prop) (w : World) (x y : BlkT) (a a' : Option Addr) (c c' : Nat) (h : Ints p w (.slice a x.1.length c) x.1) (h' : Ints q w (.slice a' y.1.length c') y.1) :
    Calls Tryz.prog 80 #[.agg #[.slice a x.1.length c, .string x.2], .agg #[.slice a' y.1.length c', .string y.2]] w fun e w' => e = .returned (.bool (decide (x = y))) ∧ Below w.heap.size w w' := by
  obtain ⟨l, s⟩ := x
  obtain ⟨l', s'⟩ := y
  dsimp only at h h' ⊢
  have hb : Below w.heap.size w ((w.alloc (.cells #[.slice a l.length c, .string s] 58)).alloc (.cells #[.slice a' l'.length c', .string s'] 58)) := ((Below.refl _ _).alloc (Nat.le_refl _) _).alloc (by simp) _
  have H : Hid (Ints p ((w.alloc (.cells #[.slice a l.length c, .string s] 58)).alloc (.cells #[.slice a' l'.length c', .string s'] 58)) (.slice a l.length c) l ∧ Ints q ((w.alloc (.cells #[.slice a l.length c, .string s] 58)).alloc (.cells #[.slice a' l'.length c', .string s'] 58)) (.slice a' l'.length c') l' ∧ Below w.heap.size w ((w.alloc (.cells #[.slice a l.length c, .string s] 58)).alloc (.cells #[.slice a' l'.length c', .string s'] 58))) := ⟨Ints.on h hb, Ints.on h' hb, hb⟩
  clear h h' hb
  go_enter Tryz.func80, Tryz.ntmps80
  by_cases hs : s = s'
  · subst hs
    go_wp2_with fail
    refine (equal_ints p q _ _ _ l l' H.out.1 H.out.2.1).mono ?_
    rintro e w2 ⟨rfl, hb2⟩
    have HB : Hid (Below w.heap.size w w2) := H.out.2.2.trans (hb2.mono H.out.2.2.size)
    clear hb2
    go_wp2_with fail
    go_ret
    refine ⟨?_, HB.out⟩
    have e1 : decide ((l, s) = (l', s)) = decide (l = l') := by simp
    rw [e1]; rfl
  · have he : ¬ s.toList = s'.toList := fun e => hs (ByteArray.ext (Array.toList_inj.1 (by rw [ByteArray.toList_eq, ByteArray.toList_eq] at e; exact e)))
    have HB : Hid _ := H.out.2.2
    have e1 : decide ((l, s) = (l', s')) = false := by simp [hs]
    rw [e1]
    go_wp2_with fail
    go_ret
    exact ⟨rfl, HB.out⟩
/-- what one of them is, for a walk -/
theorem Blks.at {p : Nat → Prop} {w : World} {v : Value} {xs : List BlkT} (h : Blks p w v xs) : ∃ a c, v = .slice a xs.length c ∧ xs.length ≤ 9223372036854775807 ∧ ∀ j (h : j < xs.length), ∃ b o, a = some ⟨b, o, none⟩ ∧
    ∃ ka kc, w.cell? ⟨b, o + j * 2, none⟩ = some (.slice ka xs[j].1.length kc) ∧ w.cell? ⟨b, o + j * 2 + 1, none⟩ = some (.string xs[j].2) ∧ Ints p w (.slice ka xs[j].1.length kc) xs[j].1 := by
  obtain ⟨a, c, e, hm, hj⟩ := SliceOf.form h
  refine ⟨a, c, e, hm, fun j hlt => ?_⟩
  obtain ⟨b, o, h1, h2, cs, h3, h4, ka, kc, h5, h6⟩ := hj j hlt
  subst h5
  exact ⟨b, o, h1, ka, kc, h4 0 (by omega), h4 1 (by omega), h6⟩
theorem Blks.item {p : Nat → Prop} {w : World} {a : Option Addr} {c : Nat} {xs : List BlkT} (h : Blks p w (.slice a xs.length c) xs) (j : Nat) (hj : j < xs.length) : ∃ b o, a = some ⟨b, o, none⟩ ∧
    ∃ ka kc, w.cell? ⟨b, o + j * 2, none⟩ = some (.slice ka xs[j].1.length kc) ∧ w.cell? ⟨b, o + j * 2 + 1, none⟩ = some (.string xs[j].2) ∧ Ints p w (.slice ka xs[j].1.length kc) xs[j].1 := by
  obtain ⟨a', c', e, _, hx⟩ := h.at
  injection e with e _ _
  subst e
  exact hx j hj
set_option maxHeartbeats 4000000 in
theorem equalB_any (p q : Nat → Prop) (w : World) (v v' : Value) (l l' : List BlkT) (h : Blks p w v l) (h' : Blks q w v' l') :
    Calls Tryz.prog 79 #[v, v', .func (.func 80) #[] #[]] w fun e w' => e = .returned (.bool (decide (l = l'))) ∧ Below w.heap.size w w' := by
  obtain ⟨a, c, rfl, hlen, _⟩ := h.at
  obtain ⟨a', c', rfl, hlen', _⟩ := h'.at
  have H : Hid (Blks p w (.slice a l.length c) l ∧ Blks q w (.slice a' l'.length c') l') := ⟨h, h'⟩
  clear h h'
  by_cases hll : l.length = l'.length
  · go_enter Tryz.func79, Tryz.ntmps79
    go_wp2
    have HL : Hid (l.length = l'.length) := hll
    clear hll
    go_loopw [17] (fun i wr => ∃ j : Nat, j ≤ l.length ∧ i = .int .i64 j ∧ Hid (l.take j = l'.take j) ∧ Hid (Below w.heap.size w wr)) (fun i _ => l.length - (intOf i).toNat)
    case atStart => exact ⟨0, by omega, rfl, by simp [Hid], Below.refl _ _⟩
    case round =>
      obtain ⟨j, hj, rfl, hA, hT⟩ := hrel
      by_cases hlt : j < l.length
      · have hlt' : j < l'.length := by have := HL.out; omega
        obtain ⟨b, o, rfl, ka, kc, k1, k2, k3⟩ := (H.out.1.on hT.out).item j hlt
        obtain ⟨b', o', rfl, ka', kc', m1, m2, m3⟩ := (H.out.2.on hT.out).item j hlt'
        have HS : Hid (l.take (j + 1) = l.take j ++ [l[j]]) := take_snoc l j hlt
        have HS' : Hid (l'.take (j + 1) = l'.take j ++ [l'[j]]) := take_snoc l' j hlt'
        obtain ⟨y, hy0⟩ : ∃ y, y = l[j] := ⟨_, rfl⟩
        rw [← hy0] at k1 k2 k3 HS
        obtain ⟨y', hy1⟩ : ∃ y, y = l'[j] := ⟨_, rfl⟩
        rw [← hy1] at m1 m2 m3 HS'
        have HI : Hid (Ints p wr (.slice ka y.1.length kc) y.1 ∧ Ints q wr (.slice ka' y'.1.length kc') y'.1) := ⟨k3, m3⟩
        have m1a : ∀ o, (wr.alloc o).cell? ⟨b', o' + j * 2, none⟩ = some (.slice ka' y'.1.length kc') := fun o => cell_on ((Below.refl _ _).alloc (Nat.le_refl _) o) m1
        have m2a : ∀ o, (wr.alloc o).cell? ⟨b', o' + j * 2 + 1, none⟩ = some (.string y'.2) := fun o => cell_on ((Below.refl _ _).alloc (Nat.le_refl _) o) m2
        have hb2 : Below wr.heap.size wr ((wr.alloc (.cells #[.slice ka y.1.length kc, .string y.2] 58)).alloc (.cells #[.slice ka' y'.1.length kc', .string y'.2] 58)) := ((Below.refl _ _).alloc (Nat.le_refl _) _).alloc (by simp) _
        have HB2 : Hid _ := hb2
        clear hy0 hy1 k3 m3 hb2 m1 m2
        go_wp2_with fail
        refine (same1_any p q _ y y' ka ka' kc kc' (Ints.on HI.out.1 HB2.out) (Ints.on HI.out.2 HB2.out)).mono ?_
        rintro e w3 ⟨rfl, hb3⟩
        have HB3 : Hid (Below w.heap.size w w3) := hT.out.trans ((HB2.out.trans (hb3.mono HB2.out.size)).mono hT.out.size)
        clear hb3
        by_cases hxy : y = y'
        · subst hxy
          rw [decide_eq_true rfl]
          go_wp2_with fail
          go_roundw
          case rel => exact ⟨j + 1, by omega, by go_num, by rw [HS.out, HS'.out, hA.out]; rfl, HB3.out⟩
          case measure => simp [intOf]; omega
        · rw [decide_eq_false hxy]
          have HD : Hid (decide (l = l') = false) := by
            simp only [Hid, decide_eq_false_iff_not]
            refine take_ne (j + 1) ?_
            rw [HS.out, HS'.out, hA.out]
            intro e
            simp at e
            exact hxy e
          go_wp2_with fail
          go_ret
          exact ⟨by rw [HD.out]; rfl, HB3.out⟩
      · have hnl : ¬ j < l'.length := by have := HL.out; omega
        have he : Hid (l = l') := by have hL := HL.out; have := hA.out; rw [List.take_of_length_le (by omega), List.take_of_length_le (by omega)] at this; exact this
        go_wp2
        go_ret
        exact ⟨by rw [decide_eq_true he.out]; rfl, hT.out⟩
  · have hne : decide (l = l') = false := by simpa using fun e => hll (by rw [e])
    rw [hne]
    have hnn : ((l.length : Int) == (l'.length : Int)) = false := by simp; omega
    go_enter Tryz.func79, Tryz.ntmps79
    go_wp2
    go_ret
    exact ⟨rfl, Below.refl _ _⟩
/-- same -/
theorem same_any (p q : Nat → Prop) (w : World) (v v' : Value) (l l' : List BlkT) (h : Blks p w v l) (h' : Blks q w v' l') :
    Calls Tryz.prog 35 #[v, v'] w fun e w' => e = .returned (.bool (decide (l = l'))) ∧ Below w.heap.size w w' := by
  obtain ⟨a, c, rfl, hlen, _⟩ := h.at
  obtain ⟨a', c', rfl, hlen', _⟩ := h'.at
  have H : Hid (Blks p w (.slice a l.length c) l ∧ Blks q w (.slice a' l'.length c') l') := ⟨h, h'⟩
  clear h h'
  go_enter Tryz.func35, Tryz.ntmps35
  go_wp2_with fail
  refine (equalB_any p q w _ _ l l' H.out.1 H.out.2).mono ?_
  rintro e w2 ⟨rfl, hb2⟩
  have HB : Hid _ := hb2
  clear hb2
  go_wp2_with fail
  go_ret
  exact ⟨rfl, HB.out⟩
end Go.Proofs.YtanpkghdgdkdlaaGreat.Sto
