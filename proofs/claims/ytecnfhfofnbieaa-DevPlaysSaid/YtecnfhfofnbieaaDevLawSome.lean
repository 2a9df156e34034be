/- DevSome, walked. -/
import Derived.Test.YtecnfhfofnbieaaDevLawWalks
namespace Go.Proofs.Ytecnfhfofnbieaa.Dev
set_option linter.unusedVariables false
set_option linter.unusedSimpArgs false
set_option maxRecDepth 100000
open Go.RowKit Go.Proofs.Ytecnfhfofnbieaa.Mem

theorem Ints.on {p : Nat → Prop} {w w' : World} {v : Value} {l : List Int} (h : Ints p w v l) (hb : Below w.heap.size w w') : Ints p w' v l := by
  rcases h with h | ⟨b, o, c, e, hp, hm, hc⟩
  · exact .inl h
  · exact .inr ⟨b, o, c, e, hp, hm, fun j hj => cell_on hb (hc j hj)⟩
theorem Strs.on {p : Nat → Prop} {w w' : World} {v : Value} {l : List ByteArray} (h : Strs p w v l) (hb : Below w.heap.size w w') : Strs p w' v l := by
  rcases h with h | ⟨b, o, c, e, hp, hm, hc⟩
  · exact .inl h
  · exact .inr ⟨b, o, c, e, hp, hm, fun j hj => cell_on hb (hc j hj)⟩
theorem Strs.at' {p : Nat → Prop} {w : World} {a : Option Addr} {n c : Nat} {l : List ByteArray} (h : Strs p w (.slice a n c) l) (j : Nat) (hj : j < l.length) :
    ∃ b o x, a = some ⟨b, o, none⟩ ∧ w.cell? ⟨b, o + j, none⟩ = some (.string x) ∧ l[j]? = some x := by
  obtain ⟨a', c', e, _, hc⟩ := h.form
  injection e with e _ _
  subst e
  obtain ⟨b, o, h1, h2⟩ := hc j hj
  exact ⟨b, o, l[j], h1, h2, List.getElem?_eq_getElem hj⟩
theorem off_crash {S : DevS} {keep : List Int} : (S.crash keep).dirty = fun _ => none := rfl

set_option maxHeartbeats 4000000 in
/-- DevSome -/
theorem devSome_any (w : World) (n : Int) (v vk : Value) (l : List DoS) (keep : List Int) (h : Dos (· < w.heap.size) w v l) (hk : Ints (· < w.heap.size) w vk keep) :
    Calls Try.prog 7 #[.int .i64 n, v, vk] w fun e w' => e = .returned (.bool true) ∧ Below w.heap.size w w' := by
  obtain ⟨a, c, rfl, hlen, hx⟩ := h.at
  clear hx
  obtain ⟨ak, ck, rfl, hlenk, hx⟩ := hk.form
  clear hx
  have H : Hid (Dos (· < w.heap.size) w (.slice a l.length c) l) := h
  have HK : Hid (Ints (· < w.heap.size) w (.slice ak keep.length ck) keep) := hk
  clear h hk
  go_enter Try.func7, Try.ntmps7
  go_wp2_with fail
  refine (short_one w a c l _ H.out).mono ?_
  rintro e w1 ⟨x, rfl, hb1⟩
  have HB1 : Hid (Below w.heap.size w w1) := hb1
  clear hb1
  have hgo : x = false ∨ (x = true ∧ 200 < keep.length) ∨ (x = true ∧ keep.length ≤ 200) := by
    cases x
    · exact .inl rfl
    · by_cases q2 : 200 < keep.length
      · exact .inr (.inl ⟨rfl, q2⟩)
      · exact .inr (.inr ⟨rfl, by omega⟩)
  rcases hgo with rfl | ⟨rfl, hgo⟩ | ⟨rfl, hk2⟩
  rotate_left 2
  · go_wp2_with fail
    refine (made_any w.heap.size w1 n _ l (H.out.below HB1.out) HB1.out.size).mono ?_
    rintro e w2 ⟨b, bk, bd, rfl, hA, hb, hb1, hb2, hb3⟩
    have HA : Hid (At w2 b bk bd ((DevS.new (sizeOf n)).run l) ∧ Below w.heap.size w w2 ∧ w.heap.size ≤ b ∧ w.heap.size ≤ bk ∧ w.heap.size ≤ bd) := by
      have := HB1.out.size
      exact ⟨hA, HB1.out.trans (hb.mono this), by omega, by omega, by omega⟩
    clear hA hb hb1 hb2 hb3
    generalize (DevS.new (sizeOf n)).run l = S at HA
    go_wp2_with fail
    refine (offs_any w2 b bk bd S HA.out.1).mono ?_
    rintro e w3 ⟨rfl, rfl⟩
    cases hoff : S.off
    rotate_left 1
    · go_wp2_with fail
      refine (awake_any w2).mono ?_
      rintro e w9 ⟨rfl, hb9⟩
      have H9 : Hid (Below w.heap.size w w9) := HA.out.2.1.trans (hb9.mono HA.out.2.1.size)
      clear hb9
      go_wp2_with fail
      go_ret
      exact ⟨rfl, H9.out⟩
    · have HO : Hid (S.off = false) := hoff
      clear hoff
      go_wp2_with fail
      refine (clone_any w2 b bk bd S HA.out.1).mono ?_
      rintro e w3 ⟨b', bk', bd', rfl, h3, t3, g1, g2, g3⟩
      have H3 : Hid (At w3 b bk bd S ∧ At w3 b' bk' bd' S ∧ Below w2.heap.size w2 w3 ∧ (w2.heap.size ≤ b' ∧ w2.heap.size ≤ bk' ∧ w2.heap.size ≤ bd') ∧ (b < w2.heap.size ∧ bk < w2.heap.size ∧ bd < w2.heap.size)) :=
        ⟨HA.out.1.on t3, h3, t3, ⟨g1, g2, g3⟩, heap_lt HA.out.1.heap, HA.out.1.kept.lt, HA.out.1.dirty.lt⟩
      clear h3 t3 g1 g2 g3
      go_wp2_with fail
      refine (crash_any w3 b' bk' bd' S (.slice none 0 0) [] H3.out.2.1 (.inl ⟨rfl, _, _, rfl⟩)).mono ?_
      rintro e w4 ⟨rfl, h4, t4⟩
      have H4 : Hid (At w4 b bk bd S ∧ At w4 b' bk' bd' (S.crash []) ∧ Below w2.heap.size w2 w4) :=
        ⟨H3.out.1.of_touch t4 (by have := H3.out.2.2.2; simp; omega) (by have := H3.out.2.2.2; simp; omega) (by have := H3.out.2.2.2; simp; omega), h4, H3.out.2.2.1.trans (t4.below H3.out.2.2.1.size (by have := H3.out.2.2.2; simp; omega))⟩
      clear h4 t4
      go_wp2_with fail
      refine (blocks_any w4 b' bk' bd' _ H4.out.2.1).mono ?_
      rintro e w5 ⟨vw, rfl, hw5, t5⟩
      have H5 : Hid (At w5 b bk bd S ∧ Below w2.heap.size w2 w5 ∧ Strs (w4.heap.size ≤ ·) w5 vw (S.crash []).blocks) := ⟨H4.out.1.on t5, H4.out.2.2.trans (t5.mono H4.out.2.2.size), hw5⟩
      obtain ⟨aw, cw, rfl, hlw, hx⟩ := hw5.form
      have hlt45 := t5.size
      clear hx hw5 t5
      go_wp2_with fail
      refine (blocks_any w5 b bk bd _ H5.out.1).mono ?_
      rintro e w6 ⟨vl, rfl, hw6, t6⟩
      have H6 : Hid (At w6 b bk bd S ∧ Below w2.heap.size w2 w6 ∧ Strs (w4.heap.size ≤ ·) w6 (.slice aw (S.crash []).blocks.length cw) (S.crash []).blocks ∧ Strs (w5.heap.size ≤ ·) w6 vl S.blocks) := ⟨H5.out.1.on t6, H5.out.2.1.trans (t6.mono H5.out.2.1.size), Strs.on H5.out.2.2 t6, hw6⟩
      obtain ⟨al, cl, rfl, hll, hx⟩ := hw6.form
      have hlt56 := t6.size
      clear hx hw6 t6 H5
      go_wp2_with fail
      refine (dirty_any w6 b bk bd _ H6.out.1).mono ?_
      rintro e w7 ⟨vd, ld, rfl, hs7, hm7, hi7, _, t7, _⟩
      have H7 : Hid (At w7 b bk bd S ∧ Below w2.heap.size w2 w7 ∧ Strs (w4.heap.size ≤ ·) w7 (.slice aw (S.crash []).blocks.length cw) (S.crash []).blocks ∧ Strs (w5.heap.size ≤ ·) w7 (.slice al S.blocks.length cl) S.blocks ∧ Ints (w6.heap.size ≤ ·) w7 vd ld) :=
        ⟨H6.out.1.on t7, H6.out.2.1.trans (t7.mono H6.out.2.1.size), Strs.on H6.out.2.2.1 t7, Strs.on H6.out.2.2.2 t7, hi7⟩
      have HM : Hid (∀ k, k ∈ ld ↔ S.dirty k ≠ none) := hm7
      obtain ⟨ad, cd, rfl, hld, hx⟩ := hi7.form
      clear hx hs7 hm7 hi7 t7 H6
      have hgg : Hid (w2.heap.size ≤ w4.heap.size) := H4.out.2.2.size
      have HG : Hid (b < w2.heap.size ∧ bk < w2.heap.size ∧ bd < w2.heap.size) := H3.out.2.2.2.2
      go_wp2_with fail
      refine (crash_any w7 b bk bd S _ keep H7.out.1 (Ints.mono (Ints.on (Ints.on HK.out HA.out.2.1) H7.out.2.1) (fun k hk => by have := HA.out.2.2; omega))).mono ?_
      rintro e w8 ⟨rfl, h8, t8⟩
      have hno : ∀ k, w4.heap.size ≤ k → k ∉ [b, bk, bd] := fun k hk => by have := hgg.out; have := HG.out; simp; omega
      have H8 : Hid (At w8 b bk bd (S.crash keep) ∧ Below w.heap.size w w8 ∧ Strs (w4.heap.size ≤ ·) w8 (.slice aw (S.crash []).blocks.length cw) (S.crash []).blocks ∧ Strs (w4.heap.size ≤ ·) w8 (.slice al S.blocks.length cl) S.blocks ∧ Ints (w4.heap.size ≤ ·) w8 (.slice ad ld.length cd) ld) := by
        refine ⟨h8, (HA.out.2.1.trans (H7.out.2.1.mono HA.out.2.1.size)).trans (t8.below (by have := HA.out.2.1.size; have := H7.out.2.1.size; omega) (by have := HA.out.2.2; simp; omega)), Strs.chg H7.out.2.2.1 t8 hno, ?_, ?_⟩
        · exact Strs.chg (Strs.mono H7.out.2.2.2.1 (fun k hk => by have := hlt45; omega)) t8 hno
        · exact Ints.chg (Ints.mono H7.out.2.2.2.2 (fun k hk => by have := hlt45; have := hlt56; omega)) t8 hno
      clear h8 t8 hno H7
      go_wp2_with fail
      refine (blocks_any w8 b bk bd _ H8.out.1).mono ?_
      rintro e w9 ⟨vn, rfl, hw9, t9⟩
      obtain ⟨an, cn, rfl, hln, hx⟩ := hw9.form
      have H9 : Hid (At w9 b bk bd (S.crash keep) ∧ Below w.heap.size w w9 ∧ Strs (w4.heap.size ≤ ·) w9 (.slice aw (S.crash []).blocks.length cw) (S.crash []).blocks ∧ Strs (w4.heap.size ≤ ·) w9 (.slice al S.blocks.length cl) S.blocks ∧ Ints (w4.heap.size ≤ ·) w9 (.slice ad ld.length cd) ld ∧
          Strs (w8.heap.size ≤ ·) w9 (.slice an (S.crash keep).blocks.length cn) (S.crash keep).blocks) :=
        ⟨H8.out.1.on t9, H8.out.2.1.trans (t9.mono H8.out.2.1.size), Strs.on H8.out.2.2.1 t9, Strs.on H8.out.2.2.2.1 t9, Ints.on H8.out.2.2.2.2 t9, hw9⟩
      clear hx hw9 t9 H8
      have hlen1 : (S.crash []).blocks.length = S.n.toNat := blocks_len _
      have hlen2 : S.blocks.length = S.n.toNat := blocks_len _
      have hlen3 : (S.crash keep).blocks.length = S.n.toNat := blocks_len _
      rw [hlen1] at hlw
      simp only [hlen1, hlen2, hlen3]
      have HS : Hid (∀ j, j < S.n.toNat → (((j : Int) ∈ keep ∧ S.dirty j ≠ none) → (S.crash keep).blocks[j]? = S.blocks[j]?) ∧ (¬((j : Int) ∈ keep ∧ S.dirty j ≠ none) → (S.crash keep).blocks[j]? = (S.crash []).blocks[j]?)) := fun j hj => some_now HO.out keep j hj
      have HL : Hid ((S.crash []).blocks.length = S.n.toNat ∧ S.blocks.length = S.n.toNat ∧ (S.crash keep).blocks.length = S.n.toNat) := ⟨hlen1, hlen2, hlen3⟩
      clear hlen1 hlen2 hlen3
      generalize S.n.toNat = N at hlw HS HL ⊢
      clear hll hln
      go_wp2_with fail
      go_loopw [60] (fun q wr => ∃ j : Nat, j ≤ N ∧ q = .int .i64 j ∧ Hid (Below w9.heap.size w9 wr)) (fun q _ => N - (intOf q).toNat)
      case atStart => exact ⟨0, by omega, rfl, Below.refl _ _⟩
      case round =>
        obtain ⟨j, hj, rfl, hT⟩ := hrel
        by_cases hlt : j < N
        · have hc1 := (Strs.on H9.out.2.2.1 hT.out)
          have hc2 := (Strs.on H9.out.2.2.2.1 hT.out)
          have hc3 := (Strs.on H9.out.2.2.2.2.2 hT.out)
          obtain ⟨bw, ow, xw, rfl, hcw, hxw⟩ := Strs.at' hc1 j (by rw [HL.out.1]; exact hlt)
          obtain ⟨bl, ol, xl, rfl, hcl, hxl⟩ := Strs.at' hc2 j (by rw [HL.out.2.1]; exact hlt)
          obtain ⟨bn, on, xn, rfl, hcn, hxn⟩ := Strs.at' hc3 j (by rw [HL.out.2.2]; exact hlt)
          have HD : Hid (Ints (w4.heap.size ≤ ·) wr (.slice ad ld.length cd) ld) := Ints.on H9.out.2.2.2.2.1 hT.out
          have HKK : Hid (Ints (· < w.heap.size) wr (.slice ak keep.length ck) keep) := Ints.on (Ints.on HK.out H9.out.2.1) hT.out
          have HSj := HS.out j hlt
          rw [hxw, hxl, hxn] at HSj
          have HSS : Hid _ := HSj
          clear hc1 hc2 hc3 hxw hxl hxn HSj
          by_cases hk : (j : Int) ∈ keep
          · by_cases hd : (j : Int) ∈ ld
            · have hxx : xn = xl := Option.some.inj (HSS.out.1 ⟨hk, (HM.out _).1 hd⟩)
              subst hxx
              have e1 : decide ((j : Int) ∈ keep) = true := decide_eq_true hk
              have e2 : decide ((j : Int) ∈ ld) = true := decide_eq_true hd
              clear hk hd HSS
              go_wp2_with fail
              refine (contains_any _ wr _ keep j HKK.out).mono ?_
              rintro e w10 ⟨rfl, rfl⟩
              rw [e1]
              go_wp2_with fail
              refine (contains_any _ wr _ ld j HD.out).mono ?_
              rintro e w10 ⟨rfl, rfl⟩
              rw [e2]
              go_wp2_with fail
              go_quiet (fail)
              go_wp2
              go_roundw
              case rel => exact ⟨j + 1, by omega, by go_num, hT.out.trans (Joins.below_draws _ _ _)⟩
              case measure => simp [intOf]; omega
            · have hxx : xn = xw := Option.some.inj (HSS.out.2 (fun h => hd ((HM.out _).2 h.2)))
              subst hxx
              have e1 : decide ((j : Int) ∈ keep) = true := decide_eq_true hk
              have e2 : decide ((j : Int) ∈ ld) = false := decide_eq_false hd
              clear hk hd HSS
              go_wp2_with fail
              refine (contains_any _ wr _ keep j HKK.out).mono ?_
              rintro e w10 ⟨rfl, rfl⟩
              rw [e1]
              go_wp2_with fail
              refine (contains_any _ wr _ ld j HD.out).mono ?_
              rintro e w10 ⟨rfl, rfl⟩
              rw [e2]
              go_wp2_with fail
              go_quiet (fail)
              go_wp2
              go_roundw
              case rel => exact ⟨j + 1, by omega, by go_num, hT.out.trans (Joins.below_draws _ _ _)⟩
              case measure => simp [intOf]; omega
          · have hxx : xn = xw := Option.some.inj (HSS.out.2 (fun h => hk h.1))
            subst hxx
            have e1 : decide ((j : Int) ∈ keep) = false := decide_eq_false hk
            clear hk HSS
            go_wp2_with fail
            refine (contains_any _ wr _ keep j HKK.out).mono ?_
            rintro e w10 ⟨rfl, rfl⟩
            rw [e1]
            go_wp2_with fail
            go_quiet (fail)
            go_wp2
            go_roundw
            case rel => exact ⟨j + 1, by omega, by go_num, hT.out.trans (Joins.below_draws _ _ _)⟩
            case measure => simp [intOf]; omega
        · have HE : Hid (At wr b bk bd (S.crash keep) ∧ Below w.heap.size w wr) := ⟨H9.out.1.on hT.out, H9.out.2.1.trans (hT.out.mono H9.out.2.1.size)⟩
          go_wp2_with fail
          refine (dirty_any wr b bk bd _ HE.out.1).mono ?_
          rintro e w10 ⟨ve, le, rfl, _, hme, hie, _, t10, _⟩
          obtain ⟨ae, ce, rfl, _, _⟩ := hie.form
          have hle : le = [] := by
            cases le with
            | nil => rfl
            | cons x le => exact absurd rfl ((hme x).1 (by simp))
          subst hle
          have H10 : Hid (Below w.heap.size w w10) := HE.out.2.trans (t10.mono HE.out.2.size)
          clear hme hie t10
          go_wp2_with fail
          refine (awake_any w10).mono ?_
          rintro e w11 ⟨rfl, hb11⟩
          have H11 : Hid (Below w.heap.size w w11) := H10.out.trans (hb11.mono H10.out.size)
          clear hb11
          go_wp2_with fail
          go_ret
          exact ⟨rfl, H11.out⟩
  all_goals
    go_wp2_with fail
    refine (awake_any w1).mono ?_
    rintro e w9 ⟨rfl, hb9⟩
    have H9 : Hid (Below w.heap.size w w9) := HB1.out.trans (hb9.mono HB1.out.size)
    clear hb9
    go_wp2_with fail
    go_ret
    exact ⟨rfl, H9.out⟩
end Go.Proofs.Ytecnfhfofnbieaa.Dev
