/- DevPlays, walked. -/
import Derived.Test.YtecnfhfofnbieaaRefDoes
import Derived.Deep.RegionHeld3
namespace Go.Proofs.Ytecnfhfofnbieaa.Dev
set_option linter.unusedVariables false
set_option linter.unusedSimpArgs false
set_option maxRecDepth 100000
open Go.RowKit Go.Proofs.Ytecnfhfofnbieaa.Mem

/-- what stands while the two devices are held against each other -/
structure Play (w w' : World) (b bk bd x xk xd xi bx m : Nat) (T : DevS) (k : DoS) (ka va : Option Addr) (kc vc : Nat) : Prop where
  dev : At w' b bk bd T
  ref : RefAt w' x xk xd xi T
  below : Below w.heap.size w w'
  n : T.n = m
  keep : Ints (· < w.heap.size) w' (.slice ka k.keep.length kc) k.keep
  box : w'.heap[bx]? = some (.cells #[.int .i64 k.op, .int .i64 k.i, .string k.s, .slice ka k.keep.length kc] 34 (0, 0))
  copy : Ints (bx ≤ ·) w' (.slice va k.keep.length vc) k.keep
section
variable {w w' w'' : World} {b bk bd x xk xd xi bx m : Nat} {T : DevS} {k : DoS} {ka va : Option Addr} {kc vc : Nat}
theorem Play.on (h : Play w w' b bk bd x xk xd xi bx m T k ka va kc vc) (hb : Below w'.heap.size w' w'') : Play w w'' b bk bd x xk xd xi bx m T k ka va kc vc :=
  ⟨h.dev.on hb, h.ref.on hb, h.below.trans (hb.mono h.below.size), h.n, Ints.on h.keep hb, (hb.block _ (heap_lt h.box)).trans h.box, Ints.on h.copy hb⟩
theorem Play.held (h : Play w w' b bk bd x xk xd xi bx m T k ka va kc vc) : w'.cell? ⟨bx, 3, none⟩ = some (.slice ka k.keep.length kc) ∧ w'.cell? ⟨x, 0, none⟩ = some (.slice (some ⟨xk, 0, none⟩) m m) ∧ Hid (Play w w' b bk bd x xk xd xi bx m T k ka va kc vc) := by
  refine ⟨cell_at h.box 3, ?_, h⟩
  have := h.ref.cells.1
  rw [h.n] at this
  exact this
end
set_option maxHeartbeats 8000000 in
/-- DevPlays -/
theorem devPlays_any (w : World) (n : Int) (v : Value) (l : List DoS) (h : Dos (· < w.heap.size) w v l) (hn : -9223372036854775808 ≤ n ∧ n ≤ 9223372036854775807) :
    Calls Try.prog 6 #[.int .i64 n, v] w fun e w' => e = .returned (.bool true) ∧ Below w.heap.size w w' := by
  obtain ⟨a, c, rfl, hlen, hx⟩ := h.at
  clear hx
  have H : Hid (Dos (· < w.heap.size) w (.slice a l.length c) l) := h
  clear h
  go_enter Try.func6, Try.ntmps6
  go_wp2_with fail
  refine (short_one w a c l _ H.out).mono ?_
  rintro e w1 ⟨x, rfl, hb1⟩
  have HB1 : Hid (Below w.heap.size w w1) := hb1
  clear hb1
  cases x
  · go_wp2_with fail
    refine (awake_any w1).mono ?_
    rintro e w9 ⟨rfl, hb9⟩
    have H9 : Hid (Below w.heap.size w w9) := HB1.out.trans (hb9.mono HB1.out.size)
    clear hb9
    go_wp2_with fail
    go_ret
    exact ⟨rfl, H9.out⟩
  · go_wp2_with fail
    by_cases hnn : 8 ≤ n ∧ n ≤ 4096
    rotate_left 1
    · refine (new_no w1 n (by omega)).mono ?_
      rintro e w2 ⟨rfl, rfl⟩
      go_wp2_with fail
      refine (rnew_no w1 n (by omega)).mono ?_
      rintro e w2 ⟨rfl, rfl⟩
      clear hnn hn
      go_wp2_with fail
      refine (awake_any w1).mono ?_
      rintro e w9 ⟨rfl, hb9⟩
      have H9 : Hid (Below w.heap.size w w9) := HB1.out.trans (hb9.mono HB1.out.size)
      clear hb9
      go_wp2_with fail
      go_ret
      exact ⟨rfl, H9.out⟩
    · obtain ⟨m, rfl⟩ := Int.eq_ofNat_of_zero_le (by omega : 0 ≤ n)
      refine (new_yes w1 m hnn).mono ?_
      rintro e w2 ⟨b, bk, bd, rfl, hA, hb, hb1, hb2, hb3⟩
      have HA : Hid (At w2 b bk bd (DevS.new m) ∧ Below w.heap.size w w2 ∧ w.heap.size ≤ b ∧ w.heap.size ≤ bk ∧ w.heap.size ≤ bd) := by
        have := HB1.out.size
        exact ⟨hA, HB1.out.trans (hb.mono this), by omega, by omega, by omega⟩
      clear hA hb hb1 hb2 hb3
      go_wp2_with fail
      refine (rnew_yes w2 m hnn).mono ?_
      rintro e w3 ⟨x, xk, xd, xi, rfl, hR, hb, hb1, hb2, hb3, hb4⟩
      have HR : Hid (At w3 b bk bd (DevS.new m) ∧ RefAt w3 x xk xd xi (DevS.new m) ∧ Below w.heap.size w w3) := ⟨HA.out.1.on hb, hR, HA.out.2.1.trans (hb.mono HA.out.2.1.size)⟩
      have HG : Hid ((w.heap.size ≤ b ∧ w.heap.size ≤ bk ∧ w.heap.size ≤ bd) ∧ (b < w2.heap.size ∧ bk < w2.heap.size ∧ bd < w2.heap.size) ∧ (w2.heap.size ≤ x ∧ w2.heap.size ≤ xk ∧ w2.heap.size ≤ xd ∧ w2.heap.size ≤ xi) ∧ w.heap.size ≤ w2.heap.size) :=
        ⟨HA.out.2.2, ⟨heap_lt HA.out.1.heap, HA.out.1.kept.lt, HA.out.1.dirty.lt⟩, ⟨hb1, hb2, hb3, hb4⟩, HA.out.2.1.size⟩
      have HN : Hid ((DevS.new m).n = m) := rfl
      have hnn1 := hnn.1
      have hnn2 := hnn.2
      clear hR hb hb1 hb2 hb3 hb4 HA hnn hn
      generalize DevS.new m = S0 at HR HN
      go_wp2_with fail
      go_loopw [52] (fun q wr => ∃ (j : Nat) (S : DevS), j ≤ l.length ∧ q = .int .i64 j ∧ Hid (At wr b bk bd S ∧ RefAt wr x xk xd xi S ∧ Below w.heap.size w wr ∧ S.n = m)) (fun q _ => l.length - (intOf q).toNat)
      case atStart => exact ⟨0, S0, by omega, rfl, HR.out.1, HR.out.2.1, HR.out.2.2, HN.out⟩
      case round =>
        obtain ⟨j, S, hj, rfl, hA⟩ := hrel
        by_cases hlt : j < l.length
        · have hd : Dos (· < w.heap.size) wr (.slice a l.length c) l := H.out.below hA.out.2.2.1
          obtain ⟨k, bb, oo, kv, HS, ha, q0, q1, q2, q3, hf, hkv⟩ := hd.item j hlt
          obtain ⟨ka, kc, rfl, hkl, hkc⟩ := hkv.form
          have HK : Hid (k.fits ∧ Ints (· < w.heap.size) wr (.slice ka k.keep.length kc) k.keep) := ⟨hf, hkv⟩
          clear hf hkv hd hkl hkc HS
          subst ha
          go_wp2_with fail
          obtain ⟨w4, hw4⟩ : ∃ w4, w4 = wr.alloc (.cells #[.int .i64 k.op, .int .i64 k.i, .string k.s, .slice ka k.keep.length kc] 34) := ⟨_, rfl⟩
          have hb4 : Below wr.heap.size wr w4 := by rw [hw4]; exact (Below.refl _ _).alloc (Nat.le_refl _) _
          have hc4 : w4.heap[wr.heap.size]? = some (.cells #[.int .i64 k.op, .int .i64 k.i, .string k.s, .slice ka k.keep.length kc] 34 (0, 0)) := by rw [hw4]; exact heap_alloc_last _ _
          rw [← hw4]
          clear hw4
          generalize hbx : wr.heap.size = bx at hc4 ⊢
          have H4 : Hid (At w4 b bk bd S ∧ RefAt w4 x xk xd xi S ∧ Below w.heap.size w w4 ∧ S.n = m ∧ Ints (· < w.heap.size) w4 (.slice ka k.keep.length kc) k.keep ∧ w4.heap[bx]? = some (.cells #[.int .i64 k.op, .int .i64 k.i, .string k.s, .slice ka k.keep.length kc] 34 (0, 0))) :=
            ⟨hA.out.1.on hb4, hA.out.2.1.on hb4, hA.out.2.2.1.trans (hb4.mono hA.out.2.2.1.size), hA.out.2.2.2, Ints.on HK.out.2 hb4, hc4⟩
          have HX : Hid (b < bx ∧ bk < bx ∧ bd < bx ∧ x < bx ∧ xk < bx ∧ xd < bx ∧ xi < bx ∧ w.heap.size ≤ bx) := by
            have h1 := hA.out.1
            have h2 := hA.out.2.1.lt
            have h3 := hA.out.2.2.1.size
            rw [← hbx]
            exact ⟨heap_lt h1.heap, h1.kept.lt, h1.dirty.lt, h2.1, h2.2.1, h2.2.2.1, h2.2.2.2, h3⟩
          clear hb4 hc4 hbx
          refine (clone_ints _ w4 _ k.keep H4.out.2.2.2.2.1 HK.out.1.2.2.2).mono ?_
          rintro e w5 ⟨vc, rfl, hi5, hb5⟩
          have H5 : Hid (At w5 b bk bd S ∧ RefAt w5 x xk xd xi S ∧ Below w.heap.size w w5 ∧ S.n = m ∧ Ints (· < w.heap.size) w5 (.slice ka k.keep.length kc) k.keep ∧ w5.heap[bx]? = some (.cells #[.int .i64 k.op, .int .i64 k.i, .string k.s, .slice ka k.keep.length kc] 34 (0, 0)) ∧ Ints (bx ≤ ·) w5 vc k.keep) :=
            ⟨H4.out.1.on hb5, H4.out.2.1.on hb5, H4.out.2.2.1.trans (hb5.mono H4.out.2.2.1.size), H4.out.2.2.2.1, Ints.on H4.out.2.2.2.2.1 hb5, (hb5.block _ (heap_lt H4.out.2.2.2.2.2)).trans H4.out.2.2.2.2.2, hi5.mono (fun q hq => by have := heap_lt H4.out.2.2.2.2.2; omega)⟩
          obtain ⟨vca, vcc, rfl, _, _⟩ := hi5.form
          clear hi5 hb5 H4
          have q0 := cell_at H5.out.2.2.2.2.2.1 0
          have q1 := cell_at H5.out.2.2.2.2.2.1 1
          have q2 := cell_at H5.out.2.2.2.2.2.1 2
          have q3 := cell_at H5.out.2.2.2.2.2.1 3
          simp only [List.getElem?_toArray, List.getElem?_cons_zero, List.getElem?_cons_succ] at q0 q1 q2 q3
          go_wp2_with fail
          refine (does_any w5 b bk bd S k (.slice vca k.keep.length vcc) H5.out.1 HK.out.1 (Ints.mono H5.out.2.2.2.2.2.2 (fun q hq => by have := HX.out; omega))).mono ?_
          rintro e w6 ⟨rfl, h6, t6⟩
          have H6 : Hid (At w6 b bk bd (S.does k) ∧ RefAt w6 x xk xd xi S ∧ Below w.heap.size w w6 ∧ S.n = m ∧ Ints (· < w.heap.size) w6 (.slice ka k.keep.length kc) k.keep ∧ w6.heap[bx]? = some (.cells #[.int .i64 k.op, .int .i64 k.i, .string k.s, .slice ka k.keep.length kc] 34 (0, 0)) ∧ Ints (bx ≤ ·) w6 (.slice vca k.keep.length vcc) k.keep) := by
            have hg := HG.out
            have hx := HX.out
            refine ⟨h6, H5.out.2.1.chg t6 (by simp; omega) (by simp; omega) (by simp; omega) (by simp; omega), H5.out.2.2.1.trans (t6.below H5.out.2.2.1.size (by simp; omega)), H5.out.2.2.2.1, ?_, (t6.block _ (heap_lt H5.out.2.2.2.2.2.1) (by simp; omega)).trans H5.out.2.2.2.2.2.1, ?_⟩
            · exact Ints.chg H5.out.2.2.2.2.1 t6 (fun q hq => by simp; omega)
            · exact Ints.chg H5.out.2.2.2.2.2.2 t6 (fun q hq => by simp; omega)
          clear h6 t6 q0 q1 q2 q3 H5
          have q0 := cell_at H6.out.2.2.2.2.2.1 0
          have q1 := cell_at H6.out.2.2.2.2.2.1 1
          have q2 := cell_at H6.out.2.2.2.2.2.1 2
          have q3 := cell_at H6.out.2.2.2.2.2.1 3
          simp only [List.getElem?_toArray, List.getElem?_cons_zero, List.getElem?_cons_succ] at q0 q1 q2 q3
          go_wp2_with fail
          refine (also_any w6 x xk xd xi S k (.slice ka k.keep.length kc) H6.out.2.1 HK.out.1 (Ints.mono H6.out.2.2.2.2.1 (fun q hq => by have := HG.out; omega))).mono ?_
          rintro e w7 ⟨rfl, h7, t7⟩
          have H7 : Hid (At w7 b bk bd (S.does k) ∧ RefAt w7 x xk xd xi (S.does k) ∧ Below w.heap.size w w7 ∧ (S.does k).n = m ∧ Ints (· < w.heap.size) w7 (.slice ka k.keep.length kc) k.keep ∧ w7.heap[bx]? = some (.cells #[.int .i64 k.op, .int .i64 k.i, .string k.s, .slice ka k.keep.length kc] 34 (0, 0)) ∧ Ints (bx ≤ ·) w7 (.slice vca k.keep.length vcc) k.keep) := by
            have hg := HG.out
            have hx := HX.out
            refine ⟨H6.out.1.of_touch t7 (by simp; omega) (by simp; omega) (by simp; omega), h7, H6.out.2.2.1.trans (t7.below H6.out.2.2.1.size (by simp; omega)), (S.does_n k).trans H6.out.2.2.2.1, ?_, (t7.block _ (heap_lt H6.out.2.2.2.2.2.1) (by simp; omega)).trans H6.out.2.2.2.2.2.1, ?_⟩
            · exact Ints.chg H6.out.2.2.2.2.1 t7 (fun q hq => by simp; omega)
            · exact Ints.chg H6.out.2.2.2.2.2.2 t7 (fun q hq => by simp; omega)
          clear h7 t7 q0 q1 q2 q3 H6
          generalize S.doesS k = tx
          generalize S.doesE k = te
          generalize S.does k = T at H7
          go_wp2_with fail
          have A0 : Hid (Play w w7.drew b bk bd x xk xd xi bx m T k ka vca kc vcc) := ⟨H7.out.1.on ((Below.refl _ _).drew), H7.out.2.1.on ((Below.refl _ _).drew), H7.out.2.2.1.drew, H7.out.2.2.2.1, Ints.on H7.out.2.2.2.2.1 ((Below.refl _ _).drew), H7.out.2.2.2.2.2.1, Ints.on H7.out.2.2.2.2.2.2 ((Below.refl _ _).drew)⟩
          clear H7 HB1 HR HN hA HK HG H HX
          go_region_held3 (fun w' => w'.cell? ⟨bx, 3, none⟩ = some (.slice ka k.keep.length kc) ∧ w'.cell? ⟨x, 0, none⟩ = some (.slice (some ⟨xk, 0, none⟩) m m) ∧ Hid (Play w w' b bk bd x xk xd xi bx m T k ka vca kc vcc))
            (first | exact A5.out.1.held | exact A4.out.1.held | exact A3.out.1.held | exact A2.out.held | exact A0.out.held)
            (first
              | (go_at_call_of 28 vca; refine (equal_ints _ _ _ _ _ k.keep k.keep A0.out.copy A0.out.keep).mono ?_; rintro e w8 ⟨rfl, t8⟩; rw [decide_eq_true (rfl : k.keep = k.keep)]; have A2 : Hid (Play w w8 b bk bd x xk xd xi bx m T k ka vca kc vcc) := A0.out.on t8; clear t8)
              | (go_at_call 23; refine (dirty_any _ b bk bd T A2.out.dev).mono ?_; rintro e w9 ⟨v1, l1, rfl, hs1, hm1, hi1, hx1, t9, hx2⟩; have A3 : Hid (Play w w9 b bk bd x xk xd xi bx m T k ka vca kc vcc ∧ Ints (fun _ => True) w9 v1 l1 ∧ l1.Pairwise (· < ·) ∧ ∀ q, q ∈ l1 ↔ T.dirty q ≠ none) := ⟨A2.out.on t9, Ints.mono hi1 (fun _ _ => trivial), hs1, hm1⟩; clear hs1 hm1 hi1 hx1 t9 hx2)
              | (go_at_call 29; refine (rdirty_any _ x xk xd xi T A3.out.1.ref).mono ?_; rintro e w10 ⟨v2, l2, rfl, hs2, hm2, hi2, t10⟩; have A4 : Hid (Play w w10 b bk bd x xk xd xi bx m T k ka vca kc vcc ∧ Ints (fun _ => True) w10 v1 l1 ∧ Ints (fun _ => True) w10 v2 l2 ∧ l1 = l2) := ⟨A3.out.1.on t10, Ints.on A3.out.2.1 t10, Ints.mono hi2 (fun _ _ => trivial), sorted_ext A3.out.2.2.1 hs2 (fun q => by rw [A3.out.2.2.2, hm2])⟩; clear hs2 hm2 hi2 t10)
              | (go_at_call_of 28 v1; refine (equal_ints _ _ _ _ _ l1 l2 A4.out.2.1 A4.out.2.2.1).mono ?_; rintro e w11 ⟨rfl, t11⟩; rw [decide_eq_true A4.out.2.2.2]; have A5 : Hid (Play w w11 b bk bd x xk xd xi bx m T k ka vca kc vcc ∧ True) := ⟨A4.out.1.on t11, trivial⟩; clear t11)
              | (go_at_call 22; refine (size_any _ b bk bd T A5.out.1.dev).mono ?_; rintro e w12 ⟨rfl, rfl⟩; rw [A5.out.1.n]))
          rename_i hh
          clear hh A0 A2 A3 A4
          have HP : Hid (Play w w11 b bk bd x xk xd xi bx m T k ka vca kc vcc) := A5.out.1
          have r1 := cell_at HP.out.box 1
          simp only [List.getElem?_toArray, List.getElem?_cons_zero, List.getElem?_cons_succ] at r1
          clear A5 q0 q1 q2 q3
          go_wp2_with fail
          clear r1
          obtain ⟨w12, hw12⟩ : ∃ w12, w12 = w11.alloc (.cells #[.int .i64 (-1), .int .i64 k.i, .int .i64 0, .int .i64 3, .int .i64 ((m : Int) - 1), .int .i64 m] 3) := ⟨_, rfl⟩
          have hb12 : Below w11.heap.size w11 w12 := by rw [hw12]; exact (Below.refl _ _).alloc (Nat.le_refl _) _
          have hc12 : w12.heap[w11.heap.size]? = some (.cells #[.int .i64 (-1), .int .i64 k.i, .int .i64 0, .int .i64 3, .int .i64 ((m : Int) - 1), .int .i64 m] 3 (0, 0)) := by rw [hw12]; exact heap_alloc_last _ _
          have hl12 : ∀ q, q < 6 → ∃ y : Int, w12.cell? ⟨w11.heap.size, q, none⟩ = some (.int .i64 y) := by
            intro q hq
            match q, hq with
            | 0, _ => exact ⟨_, cell_at hc12 0⟩
            | 1, _ => exact ⟨_, cell_at hc12 1⟩
            | 2, _ => exact ⟨_, cell_at hc12 2⟩
            | 3, _ => exact ⟨_, cell_at hc12 3⟩
            | 4, _ => exact ⟨_, cell_at hc12 4⟩
            | 5, _ => exact ⟨_, cell_at hc12 5⟩
          have HL : Hid _ := hl12
          have HQ : Hid (Play w w12 b bk bd x xk xd xi bx m T k ka vca kc vcc) := HP.out.on hb12
          rw [← hw12]
          clear hw12 hb12 hc12 hl12 HP
          generalize w11.heap.size = bl at HL ⊢
          go_loopw [118] (fun i wq => ∃ q : Nat, q ≤ 6 ∧ i = .int .i64 q ∧ wq = w12) (fun i _ => 6 - (intOf i).toNat)
          case atStart => exact ⟨0, by omega, rfl, rfl⟩
          case round =>
            obtain ⟨q, hq, rfl, rfl⟩ := hrel
            by_cases hql : q < 6
            · obtain ⟨y, hy⟩ := HL.out q hql
              go_wp2_with fail
              refine (read_any _ b bk bd T y HQ.out.dev).mono ?_
              rintro e w13 ⟨rfl, rfl⟩
              go_wp2_with fail
              refine (rread_any _ x xk xd xi T y HQ.out.ref).mono ?_
              rintro e w13 ⟨rfl, rfl⟩
              clear hy
              go_wp2_with fail
              go_roundw
              case rel => exact ⟨q + 1, by omega, by go_num, trivial⟩
              case measure => simp [intOf]; omega
            · go_wp2_with fail
              go_roundw
              case rel => exact ⟨j + 1, T, by omega, by go_num, HQ.out.dev, HQ.out.ref, HQ.out.below, HQ.out.n⟩
              case measure => simp [intOf]; omega
        · go_wp2_with fail
          refine (awake_any wr).mono ?_
          rintro e w9 ⟨rfl, hb9⟩
          have H9 : Hid (Below w.heap.size w w9) := hA.out.2.2.1.trans (hb9.mono hA.out.2.2.1.size)
          clear hb9
          go_wp2_with fail
          go_ret
          exact ⟨rfl, H9.out⟩
end Go.Proofs.Ytecnfhfofnbieaa.Dev
