/- DevApart, walked. -/
import Derived.Test.YtecnfhfofnbieaaDevLawSome
namespace Go.Proofs.Ytecnfhfofnbieaa.Dev
set_option linter.unusedVariables false
set_option linter.unusedSimpArgs false
set_option maxRecDepth 100000
open Go.RowKit Go.Proofs.Ytecnfhfofnbieaa.Mem

/-- a slice of one's own, for a walk that writes into it -/
theorem Ints.own_at {p : Nat → Prop} {w : World} {a : Option Addr} {n c : Nat} {l : List Int} (h : Ints p w (.slice a n c) l) (ho : Own w (.slice a n c)) (j : Nat) (hj : j < l.length) :
    ∃ b o x, a = some ⟨b, o, none⟩ ∧ p b ∧ w.cell? ⟨b, o + j, none⟩ = some (.int .i64 x) ∧ ∀ i, w.frozen? ⟨b, i, none⟩ = false := by
  rcases h with ⟨rfl, _⟩ | ⟨b, o, c', e, hp, hm, hc⟩
  · simp at hj
  · injection e with e1 e2 e3
    subst e1
    exact ⟨b, o, l[j], rfl, hp, hc j hj, ho b o n c rfl⟩

set_option maxHeartbeats 4000000 in
/-- DevApart -/
theorem devApart_any (w : World) (n : Int) (v v' : Value) (l more : List DoS) (h : Dos (· < w.heap.size) w v l) (h' : Dos (· < w.heap.size) w v' more) :
    Calls Try.prog 8 #[.int .i64 n, v, v'] w fun e w' => e = .returned (.bool true) ∧ Below w.heap.size w w' := by
  obtain ⟨a, c, rfl, hlen, hx⟩ := h.at
  clear hx
  obtain ⟨a', c', rfl, hlen', hx⟩ := h'.at
  clear hx
  have H : Hid (Dos (· < w.heap.size) w (.slice a l.length c) l) := h
  have H' : Hid (Dos (· < w.heap.size) w (.slice a' more.length c') more) := h'
  clear h h'
  go_enter Try.func8, Try.ntmps8
  go_wp2_with fail
  refine (short_two w a a' c c' l more _ H.out H'.out).mono ?_
  rintro e w1 ⟨x, rfl, hb1⟩
  have HB1 : Hid (Below w.heap.size w w1) := hb1
  clear hb1
  cases x
  · go_wp2_with fail
    refine (awake_any w1).mono ?_
    rintro e w9 ⟨rfl, hb9⟩
    have H9 : Hid (Below w.heap.size w w9) := HB1.out.trans (hb9.mono HB1.out.size)
    clear hb9
    go_wp2_with fail
    go_ret
    exact ⟨rfl, H9.out⟩
  · go_wp2_with fail
    refine (made_any w.heap.size w1 n _ l (H.out.below HB1.out) HB1.out.size).mono ?_
    rintro e w2 ⟨b, bk, bd, rfl, hA, hb, hb1, hb2, hb3⟩
    have HA : Hid (At w2 b bk bd ((DevS.new (sizeOf n)).run l) ∧ Below w.heap.size w w2 ∧ w.heap.size ≤ b ∧ w.heap.size ≤ bk ∧ w.heap.size ≤ bd) := by
      have := HB1.out.size
      exact ⟨hA, HB1.out.trans (hb.mono this), by omega, by omega, by omega⟩
    clear hA hb hb1 hb2 hb3
    generalize (DevS.new (sizeOf n)).run l = S at HA
    go_wp2_with fail
    refine (clone_any w2 b bk bd S HA.out.1).mono ?_
    rintro e w3 ⟨b', bk', bd', rfl, h3, t3, g1, g2, g3⟩
    have H3 : Hid (At w3 b bk bd S ∧ At w3 b' bk' bd' S ∧ Below w.heap.size w w3) := ⟨HA.out.1.on t3, h3, HA.out.2.1.trans (t3.mono HA.out.2.1.size)⟩
    have HG : Hid ((w2.heap.size ≤ b' ∧ w2.heap.size ≤ bk' ∧ w2.heap.size ≤ bd') ∧ (b < w2.heap.size ∧ bk < w2.heap.size ∧ bd < w2.heap.size) ∧ (w.heap.size ≤ b ∧ w.heap.size ≤ bk ∧ w.heap.size ≤ bd) ∧ w2.heap.size ≤ w3.heap.size) :=
      ⟨⟨g1, g2, g3⟩, ⟨heap_lt HA.out.1.heap, HA.out.1.kept.lt, HA.out.1.dirty.lt⟩, HA.out.2.2, t3.size⟩
    clear h3 t3 g1 g2 g3
    go_wp2_with fail
    refine (blocks_any w3 b' bk' bd' _ H3.out.2.1).mono ?_
    rintro e w4 ⟨vw, rfl, hw4, t4⟩
    have hs34 := t4.size
    have H4 : Hid (At w4 b bk bd S ∧ At w4 b' bk' bd' S ∧ Below w.heap.size w w4 ∧ Strs (w3.heap.size ≤ ·) w4 vw S.blocks) := ⟨H3.out.1.on t4, H3.out.2.1.on t4, H3.out.2.2.trans (t4.mono H3.out.2.2.size), hw4⟩
    clear hw4 t4
    go_wp2_with fail
    refine (dirty_any w4 b' bk' bd' _ H4.out.2.1).mono ?_
    rintro e w5 ⟨vd, ld, rfl, hs5, hm5, hi5, _, t5, _⟩
    have H5 : Hid (At w5 b bk bd S ∧ At w5 b' bk' bd' S ∧ Below w.heap.size w w5 ∧ Strs (w3.heap.size ≤ ·) w5 vw S.blocks ∧ Ints (w3.heap.size ≤ ·) w5 vd ld) := ⟨H4.out.1.on t5, H4.out.2.1.on t5, H4.out.2.2.1.trans (t5.mono H4.out.2.2.1.size), Strs.on H4.out.2.2.2 t5, Ints.mono hi5 (fun q hq => by omega)⟩
    have HM5 : Hid (ld.Pairwise (· < ·) ∧ ∀ q, q ∈ ld ↔ S.dirty q ≠ none) := ⟨hs5, hm5⟩
    clear hs5 hm5 hi5 t5
    go_wp2_with fail
    go_loopw [31] (fun q wr => ∃ (j : Nat) (U : DevS), j ≤ more.length ∧ q = .int .i64 j ∧ Hid (At wr b bk bd U ∧ Chg [b, bk, bd] w5 wr)) (fun q _ => more.length - (intOf q).toNat)
    case atStart => exact ⟨0, S, by omega, rfl, H5.out.1, Chg.refl _ _⟩
    case round =>
      obtain ⟨j, U, hj, rfl, hA⟩ := hrel
      have hbw : Below w.heap.size w wr := H5.out.2.2.1.trans (hA.out.2.below H5.out.2.2.1.size (by have := HG.out; simp; omega))
      have HBW : Hid _ := hbw
      clear hbw
      by_cases hlt : j < more.length
      · have hd : Dos (· < w.heap.size) wr (.slice a' more.length c') more := H'.out.below HBW.out
        obtain ⟨k, bb, oo, kv, HS, ha, q0, q1, q2, q3, hf, hkv⟩ := hd.item j hlt
        obtain ⟨ka, kc, rfl, hkl, hkc⟩ := hkv.form
        have HKK : Hid (k.fits ∧ Ints (fun k => k ≠ b ∧ k ≠ bk ∧ k ≠ bd) wr (.slice ka k.keep.length kc) k.keep) := ⟨hf, hkv.mono (fun q hq => by have := HG.out; omega)⟩
        clear hf hkv hd hkl hkc HS
        subst ha
        go_wp2_with fail
        refine (does_step2 (k := k) hA.out.1 hA.out.2 HKK.out.1 HKK.out.2 _).mono ?_
        rintro e w7 ⟨rfl, h7, t7⟩
        have H7 : Hid (At w7 b bk bd (U.does k) ∧ Chg [b, bk, bd] w5 w7) := ⟨h7, t7⟩
        clear h7 t7
        go_wp2_with fail
        go_roundw
        case rel => exact ⟨j + 1, U.does k, by omega, by go_num, H7.out⟩
        case measure => simp [intOf]; omega
      · have hno : ∀ k, w3.heap.size ≤ k → k ∉ [b, bk, bd] := fun k hk => by have := HG.out; simp; omega
        have H6 : Hid (At wr b' bk' bd' S ∧ Strs (w3.heap.size ≤ ·) wr vw S.blocks ∧ Ints (w3.heap.size ≤ ·) wr vd ld) :=
          ⟨H5.out.2.1.of_touch hA.out.2 (by have := HG.out; simp; omega) (by have := HG.out; simp; omega) (by have := HG.out; simp; omega), Strs.chg H5.out.2.2.2.1 hA.out.2 hno, Ints.chg H5.out.2.2.2.2 hA.out.2 hno⟩
        clear hno
        go_wp2_with fail
        refine (dirty_any wr b bk bd _ hA.out.1).mono ?_
        rintro e w7 ⟨v1, l1, rfl, hs1, hm1, hi1, _, t7, _⟩
        obtain ⟨a1, c1, rfl, hl1, hx⟩ := hi1.form
        have HM1 : Hid (l1.Pairwise (· < ·) ∧ ∀ q, q ∈ l1 ↔ U.dirty q ≠ none) := ⟨hs1, hm1⟩
        have H7 : Hid (At w7 b bk bd U ∧ At w7 b' bk' bd' S ∧ Below w.heap.size w w7 ∧ Strs (w3.heap.size ≤ ·) w7 vw S.blocks ∧ Ints (w3.heap.size ≤ ·) w7 vd ld) :=
          ⟨hA.out.1.on t7, H6.out.1.on t7, HBW.out.trans (t7.mono HBW.out.size), Strs.on H6.out.2.1 t7, Ints.on H6.out.2.2 t7⟩
        clear hx hs1 hm1 hi1 t7
        go_wp2_with fail
        go_loopw [42] (fun q wq => ∃ (j : Nat), j ≤ l1.length ∧ q = .int .i64 j ∧ Hid (Below w7.heap.size w7 wq)) (fun q _ => l1.length - (intOf q).toNat)
        case atStart => exact ⟨0, by omega, rfl, Below.refl _ _⟩
        case round =>
          obtain ⟨q, hq, rfl, hT⟩ := hrel
          by_cases hql : q < l1.length
          · go_wp2_with fail
            refine (dirty_any wr b bk bd _ (H7.out.1.on hT.out)).mono ?_
            rintro e w8 ⟨v2, l2, rfl, hs2, hm2, hi2, _, t8, ho2⟩
            have hl2 : l1 = l2 := sorted_ext HM1.out.1 hs2 (fun q => by rw [HM1.out.2, hm2])
            subst hl2
            obtain ⟨a2, c2, rfl, _, hx⟩ := hi2.form
            obtain ⟨b2, o2, x2, rfl, hb2, hcell, hfr⟩ := Ints.own_at hi2 ho2 q hql
            have hT8 : Hid (Below w7.heap.size w7 (w8.setCell ⟨b2, o2 + q, none⟩ (.int .i64 (-1)))) := by
              have h1 : Below w7.heap.size w7 w8 := hT.out.trans (t8.mono hT.out.size)
              have hsz := hT.out.size
              exact h1.trans (((Chg.refl [b2] w8).setCell ⟨b2, o2 + q, none⟩ (.int .i64 (-1)) (.inl (by simp))).below h1.size (by simp; omega))
            have hfr' := hfr (o2 + q)
            clear hx hs2 hm2 hi2 t8 ho2 hfr
            go_wp2_with fail
            go_roundw
            case rel => exact ⟨q + 1, by omega, by go_num, hT8.out⟩
            case measure => simp [intOf]; omega
          · have H8 : Hid (At wr b' bk' bd' S ∧ Below w.heap.size w wr ∧ Strs (w3.heap.size ≤ ·) wr vw S.blocks ∧ Ints (w3.heap.size ≤ ·) wr vd ld) :=
              ⟨H7.out.2.1.on hT.out, H7.out.2.2.1.trans (hT.out.mono H7.out.2.2.1.size), Strs.on H7.out.2.2.2.1 hT.out, Ints.on H7.out.2.2.2.2 hT.out⟩
            go_wp2_with fail
            refine (blocks_any wr b' bk' bd' _ H8.out.1).mono ?_
            rintro e w8 ⟨v5, rfl, hw5, t8⟩
            have H9 : Hid (At w8 b' bk' bd' S ∧ Below w.heap.size w w8 ∧ Strs (w3.heap.size ≤ ·) w8 vw S.blocks ∧ Ints (w3.heap.size ≤ ·) w8 vd ld ∧ Strs (wr.heap.size ≤ ·) w8 v5 S.blocks) :=
              ⟨H8.out.1.on t8, H8.out.2.1.trans (t8.mono H8.out.2.1.size), Strs.on H8.out.2.2.1 t8, Ints.on H8.out.2.2.2 t8, hw5⟩
            clear hw5 t8
            go_wp2_with fail
            refine (equal_strs _ _ w8 v5 vw _ _ H9.out.2.2.2.2 H9.out.2.2.1).mono ?_
            rintro e w9 ⟨rfl, t9⟩
            rw [decide_eq_true (rfl : S.blocks = S.blocks)]
            have H10 : Hid (At w9 b' bk' bd' S ∧ Below w.heap.size w w9 ∧ Ints (w3.heap.size ≤ ·) w9 vd ld) := ⟨H9.out.1.on t9, H9.out.2.1.trans (t9.mono H9.out.2.1.size), Ints.on H9.out.2.2.2.1 t9⟩
            clear t9
            go_wp2_with fail
            refine (dirty_any w9 b' bk' bd' _ H10.out.1).mono ?_
            rintro e w10 ⟨v6, l6, rfl, hs6, hm6, hi6, _, t10, _⟩
            have hl6 : ld = l6 := sorted_ext HM5.out.1 hs6 (fun q => by rw [HM5.out.2, hm6])
            subst hl6
            have H11 : Hid (Below w.heap.size w w10 ∧ Ints (w3.heap.size ≤ ·) w10 vd ld ∧ Ints (w9.heap.size ≤ ·) w10 v6 ld) := ⟨H10.out.2.1.trans (t10.mono H10.out.2.1.size), Ints.on H10.out.2.2 t10, hi6⟩
            clear hs6 hm6 hi6 t10
            go_wp2_with fail
            refine (equal_ints _ _ w10 v6 vd ld ld H11.out.2.2 H11.out.2.1).mono ?_
            rintro e w11 ⟨rfl, t11⟩
            rw [decide_eq_true (rfl : ld = ld)]
            have H12 : Hid (Below w.heap.size w w11) := H11.out.1.trans (t11.mono H11.out.1.size)
            clear t11
            go_wp2_with fail
            refine (awake_any w11).mono ?_
            rintro e w12 ⟨rfl, hb12⟩
            have H13 : Hid (Below w.heap.size w w12) := H12.out.trans (hb12.mono H12.out.size)
            clear hb12
            go_wp2_with fail
            go_ret
            exact ⟨rfl, H13.out⟩
end Go.Proofs.Ytecnfhfofnbieaa.Dev
