/- DevRefused, walked. -/
import Derived.Test.YtecnfhfofnbieaaDevLawSome
namespace Go.Proofs.Ytecnfhfofnbieaa.Dev
set_option linter.unusedVariables false
set_option linter.unusedSimpArgs false
set_option maxRecDepth 100000
open Go.RowKit Go.Proofs.Ytecnfhfofnbieaa.Mem

/-- a list of one thing, laid -/
theorem one_laid {p : Nat → Prop} {w : World} {k : DoS} {kv : Value} {g : Nat} (t : TypeId) (hk : k.fits) (hv : Ints p w kv k.keep) (hp : p g) (h : w.heap[g]? = some (.cells #[.int .i64 k.op, .int .i64 k.i, .string k.s, kv] t (0, 0))) :
    Dos p w (.slice (some ⟨g, 0, none⟩) 1 1) [k] := by
  refine .inr ⟨g, 0, 1, rfl, hp, by simp, fun j hj => ?_⟩
  have h0 : j = 0 := by simp only [List.length_cons, List.length_nil] at hj; omega
  subst h0
  refine ⟨[.int .i64 k.op, .int .i64 k.i, .string k.s, kv], rfl, fun q hq => ?_, kv, rfl, hk, hv⟩
  rw [cell_at h]
  match q, hq with
  | 0, _ => rfl
  | 1, _ => rfl
  | 2, _ => rfl
  | 3, _ => rfl

set_option maxHeartbeats 4000000 in
/-- DevRefused -/
theorem devRefused_any (w : World) (n : Int) (v kv : Value) (l : List DoS) (k : DoS) (h : Dos (· < w.heap.size) w v l) (hk : k.fits) (hkv : Ints (· < w.heap.size) w kv k.keep) :
    Calls Try.prog 9 #[.int .i64 n, v, .agg #[.int .i64 k.op, .int .i64 k.i, .string k.s, kv]] w fun e w' => e = .returned (.bool true) ∧ Below w.heap.size w w' := by
  obtain ⟨a, c, rfl, hlen, hx⟩ := h.at
  clear hx
  obtain ⟨ak, ck, rfl, hlenk, hx⟩ := hkv.form
  clear hx
  have H : Hid (Dos (· < w.heap.size) w (.slice a l.length c) l) := h
  have HK : Hid (k.fits ∧ Ints (· < w.heap.size) w (.slice ak k.keep.length ck) k.keep) := ⟨hk, hkv⟩
  clear h hk hkv
  go_enter Try.func9, Try.ntmps9
  go_wp2_with fail
  obtain ⟨w0, hw0⟩ : ∃ w0, w0 = (w.alloc (.cells #[.int .i64 k.op, .int .i64 k.i, .string k.s, .slice ak k.keep.length ck] 34)) := ⟨_, rfl⟩
  have hs0 : w0.heap.size = w.heap.size + 1 := by rw [hw0]; simp
  have hb0 : Below w.heap.size w w0 := by rw [hw0]; exact (Below.refl _ _).alloc (Nat.le_refl _) _
  have hc0 : w0.heap[w.heap.size]? = some (.cells #[.int .i64 k.op, .int .i64 k.i, .string k.s, .slice ak k.keep.length ck] 34 (0, 0)) := by rw [hw0]; exact heap_alloc_last _ _
  rw [← hw0, ← hs0]
  clear hw0
  have H0 : Hid (Below w.heap.size w w0 ∧ w0.heap[w.heap.size]? = some (.cells #[.int .i64 k.op, .int .i64 k.i, .string k.s, .slice ak k.keep.length ck] 34 (0, 0)) ∧ w0.heap.size = w.heap.size + 1) := ⟨hb0, hc0, hs0⟩
  clear hb0 hc0 hs0
  have e1 : w0.heap.size + 1 = (w0.alloc (.cells #[.int .i64 k.op, .int .i64 k.i, .string k.s, .slice ak k.keep.length ck] 34)).heap.size := by simp
  rw [e1]
  have hb1 : Below w0.heap.size w0 (w0.alloc (.cells #[.int .i64 k.op, .int .i64 k.i, .string k.s, .slice ak k.keep.length ck] 34)) := (Below.refl _ _).alloc (Nat.le_refl _) _
  refine (short_two (p := (· < w.heap.size)) (q := fun _ => True) (w0.alloc (.cells #[.int .i64 k.op, .int .i64 k.i, .string k.s, .slice ak k.keep.length ck] 34)) a (some ⟨w0.heap.size, 0, none⟩) c 1 l [k] _
    (H.out.below (H0.out.1.trans (hb1.mono H0.out.1.size))) (one_laid 34 HK.out.1 (Ints.on (Ints.mono (Ints.on HK.out.2 H0.out.1) (fun _ _ => trivial)) hb1) trivial (heap_alloc_last _ _))).mono ?_
  clear e1
  rintro e w1 ⟨x, rfl, hb2⟩
  have HB1 : Hid (Below w0.heap.size w0 w1) := hb1.trans (hb2.mono (by simp))
  have HW : Hid (Below w.heap.size w w1) := H0.out.1.trans (HB1.out.mono H0.out.1.size)
  clear hb1 hb2
  cases x
  · go_wp2_with fail
    refine (awake_any w1).mono ?_
    rintro e w9 ⟨rfl, hb9⟩
    have H9 : Hid (Below w.heap.size w w9) := HW.out.trans (hb9.mono HW.out.size)
    clear hb9
    go_wp2_with fail
    go_ret
    exact ⟨rfl, H9.out⟩
  · go_wp2_with fail
    refine (made_any w.heap.size w1 n _ l (H.out.below HW.out) HW.out.size).mono ?_
    rintro e w2 ⟨b, bk, bd, rfl, hA, hb, hb1, hb2, hb3⟩
    have HA : Hid (At w2 b bk bd ((DevS.new (sizeOf n)).run l) ∧ Below w0.heap.size w0 w2 ∧ w0.heap.size ≤ b ∧ w0.heap.size ≤ bk ∧ w0.heap.size ≤ bd) := by
      have := HB1.out.size
      exact ⟨hA, HB1.out.trans (hb.mono this), by omega, by omega, by omega⟩
    clear hA hb hb1 hb2 hb3
    generalize (DevS.new (sizeOf n)).run l = S at HA
    go_wp2_with fail
    refine (clone_any w2 b bk bd S HA.out.1).mono ?_
    rintro e w3 ⟨b', bk', bd', rfl, h3, t3, g1, g2, g3⟩
    have H3 : Hid (At w3 b bk bd S ∧ At w3 b' bk' bd' S ∧ Below w0.heap.size w0 w3) := ⟨HA.out.1.on t3, h3, HA.out.2.1.trans (t3.mono HA.out.2.1.size)⟩
    have HG : Hid ((w2.heap.size ≤ b' ∧ w2.heap.size ≤ bk' ∧ w2.heap.size ≤ bd') ∧ (b < w2.heap.size ∧ bk < w2.heap.size ∧ bd < w2.heap.size) ∧ (w0.heap.size ≤ b ∧ w0.heap.size ≤ bk ∧ w0.heap.size ≤ bd) ∧ w0.heap.size ≤ w2.heap.size) :=
      ⟨⟨g1, g2, g3⟩, ⟨heap_lt HA.out.1.heap, HA.out.1.kept.lt, HA.out.1.dirty.lt⟩, HA.out.2.2, HA.out.2.1.size⟩
    clear h3 t3 g1 g2 g3
    have hcell : w3.heap[w.heap.size]? = some (.cells #[.int .i64 k.op, .int .i64 k.i, .string k.s, .slice ak k.keep.length ck] 34 (0, 0)) := (H3.out.2.2.block _ (by rw [H0.out.2.2]; omega)).trans H0.out.2.1
    have q0 := cell_at hcell 0
    have q1 := cell_at hcell 1
    have q2 := cell_at hcell 2
    have q3 := cell_at hcell 3
    simp only [List.getElem?_toArray, List.getElem?_cons_zero, List.getElem?_cons_succ] at q0 q1 q2 q3
    clear hcell
    go_wp2_with fail
    refine (does_any w3 b bk bd S k _ H3.out.1 HK.out.1 ((Ints.on (Ints.on HK.out.2 H0.out.1) H3.out.2.2).mono (fun q hq => by have := HG.out.2.2; have := H0.out.2.2; omega))).mono ?_
    rintro e w4 ⟨rfl, h4, t4⟩
    have H4 : Hid (At w4 b bk bd (S.does k) ∧ At w4 b' bk' bd' S ∧ Below w0.heap.size w0 w4) :=
      ⟨h4, H3.out.2.1.of_touch t4 (by have := HG.out; simp; omega) (by have := HG.out; simp; omega) (by have := HG.out; simp; omega), H3.out.2.2.trans (t4.below H3.out.2.2.size (by have := HG.out; simp; omega))⟩
    clear h4 t4 q0 q1 q2 q3 H3
    by_cases e0 : S.doesE k = 0
    · rw [e0]
      go_wp2_with fail
      refine (awake_any w4).mono ?_
      rintro e w9 ⟨rfl, hb9⟩
      have H9 : Hid (Below w.heap.size w w9) := H0.out.1.trans ((H4.out.2.2.trans (hb9.mono H4.out.2.2.size)).mono H0.out.1.size)
      clear hb9
      go_wp2_with fail
      go_ret
      exact ⟨rfl, H9.out⟩
    · obtain ⟨r1, r2, r3⟩ := refused e0
      have HR : Hid ((S.does k).dirty = S.dirty ∧ (S.does k).kept = S.kept ∧ (S.does k).n = S.n) := ⟨r1, r2, r3⟩
      have e0' : (S.doesE k == 0) = false := by simpa using e0
      clear r1 r2 r3 e0
      generalize S.does k = T at H4 HR
      go_wp2_with fail
      refine (dirty_any w4 b bk bd _ H4.out.1).mono ?_
      rintro e w5 ⟨v1, l1, rfl, hs1, hm1, hi1, _, t5, _⟩
      have H5 : Hid (At w5 b bk bd T ∧ At w5 b' bk' bd' S ∧ Below w0.heap.size w0 w5 ∧ Ints (w4.heap.size ≤ ·) w5 v1 l1) := ⟨H4.out.1.on t5, H4.out.2.1.on t5, H4.out.2.2.trans (t5.mono H4.out.2.2.size), hi1⟩
      have HM1 : Hid (l1.Pairwise (· < ·) ∧ ∀ q, q ∈ l1 ↔ T.dirty q ≠ none) := ⟨hs1, hm1⟩
      clear hs1 hm1 hi1 t5
      go_wp2_with fail
      refine (dirty_any w5 b' bk' bd' _ H5.out.2.1).mono ?_
      rintro e w6 ⟨v2, l2, rfl, hs2, hm2, hi2, _, t6, _⟩
      have hl2 : l1 = l2 := sorted_ext HM1.out.1 hs2 (fun q => by rw [HM1.out.2, hm2, HR.out.1])
      subst hl2
      have H6 : Hid (At w6 b bk bd T ∧ At w6 b' bk' bd' S ∧ Below w0.heap.size w0 w6 ∧ Ints (w4.heap.size ≤ ·) w6 v1 l1 ∧ Ints (w5.heap.size ≤ ·) w6 v2 l1) := ⟨H5.out.1.on t6, H5.out.2.1.on t6, H5.out.2.2.1.trans (t6.mono H5.out.2.2.1.size), Ints.on H5.out.2.2.2 t6, hi2⟩
      clear hs2 hm2 hi2 t6
      go_wp2_with fail
      refine (equal_ints _ _ w6 v1 v2 l1 l1 H6.out.2.2.2.1 H6.out.2.2.2.2).mono ?_
      rintro e w7 ⟨rfl, t7⟩
      rw [decide_eq_true (rfl : l1 = l1)]
      have H7 : Hid (At w7 b bk bd T ∧ At w7 b' bk' bd' S ∧ Below w0.heap.size w0 w7) := ⟨H6.out.1.on t7, H6.out.2.1.on t7, H6.out.2.2.1.trans (t7.mono H6.out.2.2.1.size)⟩
      clear t7
      go_wp2_with fail
      refine (dirty_any w7 b bk bd _ H7.out.1).mono ?_
      rintro e w8 ⟨v3, l3, rfl, hs3, hm3, hi3, _, t8, _⟩
      have hl3 : l1 = l3 := sorted_ext HM1.out.1 hs3 (fun q => by rw [HM1.out.2, hm3])
      subst hl3
      have hgg : w0.heap.size ≤ w7.heap.size ∧ b < w7.heap.size ∧ bk < w7.heap.size ∧ bd < w7.heap.size ∧ b' < w7.heap.size ∧ bk' < w7.heap.size ∧ bd' < w7.heap.size :=
        ⟨H7.out.2.2.size, heap_lt H7.out.1.heap, H7.out.1.kept.lt, H7.out.1.dirty.lt, heap_lt H7.out.2.1.heap, H7.out.2.1.kept.lt, H7.out.2.1.dirty.lt⟩
      have HGG : Hid _ := hgg
      have H8 : Hid (At w8 b bk bd T ∧ At w8 b' bk' bd' S ∧ Below w0.heap.size w0 w8 ∧ Ints (w7.heap.size ≤ ·) w8 v3 l1) := ⟨H7.out.1.on t8, H7.out.2.1.on t8, H7.out.2.2.trans (t8.mono H7.out.2.2.size), hi3⟩
      clear hs3 hm3 hi3 t8 hgg
      go_wp2_with fail
      refine (crash_any w8 b bk bd T v3 l1 H8.out.1 (Ints.mono H8.out.2.2.2 (fun q hq => by have := HGG.out; omega))).mono ?_
      rintro e w9 ⟨rfl, h9, t9⟩
      have H9 : Hid (At w9 b bk bd (T.crash l1) ∧ At w9 b' bk' bd' S ∧ Below w0.heap.size w0 w9) :=
        ⟨h9, H8.out.2.1.of_touch t9 (by have := HG.out; simp; omega) (by have := HG.out; simp; omega) (by have := HG.out; simp; omega), H8.out.2.2.1.trans (t9.below H8.out.2.2.1.size (by have := HG.out; simp; omega))⟩
      clear h9 t9
      go_wp2_with fail
      refine (dirty_any w9 b' bk' bd' _ H9.out.2.1).mono ?_
      rintro e w10 ⟨v4, l4, rfl, hs4, hm4, hi4, _, t10, _⟩
      have hl4 : l1 = l4 := sorted_ext HM1.out.1 hs4 (fun q => by rw [HM1.out.2, hm4, HR.out.1])
      subst hl4
      have hgg : w0.heap.size ≤ w9.heap.size ∧ b < w9.heap.size ∧ bk < w9.heap.size ∧ bd < w9.heap.size ∧ b' < w9.heap.size ∧ bk' < w9.heap.size ∧ bd' < w9.heap.size :=
        ⟨H9.out.2.2.size, heap_lt H9.out.1.heap, H9.out.1.kept.lt, H9.out.1.dirty.lt, heap_lt H9.out.2.1.heap, H9.out.2.1.kept.lt, H9.out.2.1.dirty.lt⟩
      have HG9 : Hid _ := hgg
      have H10 : Hid (At w10 b bk bd (T.crash l1) ∧ At w10 b' bk' bd' S ∧ Below w0.heap.size w0 w10 ∧ Ints (w9.heap.size ≤ ·) w10 v4 l1) := ⟨H9.out.1.on t10, H9.out.2.1.on t10, H9.out.2.2.trans (t10.mono H9.out.2.2.size), hi4⟩
      clear hs4 hm4 hi4 t10 hgg
      go_wp2_with fail
      refine (crash_any w10 b' bk' bd' S v4 l1 H10.out.2.1 (Ints.mono H10.out.2.2.2 (fun q hq => by have := HG9.out; omega))).mono ?_
      rintro e w11 ⟨rfl, h11, t11⟩
      have H11 : Hid (At w11 b bk bd (T.crash l1) ∧ At w11 b' bk' bd' (S.crash l1) ∧ Below w0.heap.size w0 w11) :=
        ⟨H10.out.1.of_touch t11 (by have := HG.out; simp; omega) (by have := HG.out; simp; omega) (by have := HG.out; simp; omega), h11, H10.out.2.2.1.trans (t11.below H10.out.2.2.1.size (by have := HG.out; simp; omega))⟩
      clear h11 t11
      go_wp2_with fail
      refine (blocks_any w11 b bk bd _ H11.out.1).mono ?_
      rintro e w12 ⟨v5, rfl, hw5, t12⟩
      have H12 : Hid (At w12 b' bk' bd' (S.crash l1) ∧ Below w0.heap.size w0 w12 ∧ Strs (w11.heap.size ≤ ·) w12 v5 (T.crash l1).blocks) := ⟨H11.out.2.1.on t12, H11.out.2.2.trans (t12.mono H11.out.2.2.size), hw5⟩
      clear hw5 t12
      go_wp2_with fail
      refine (blocks_any w12 b' bk' bd' _ H12.out.1).mono ?_
      rintro e w13 ⟨v6, rfl, hw6, t13⟩
      have H13 : Hid (Below w0.heap.size w0 w13 ∧ Strs (w11.heap.size ≤ ·) w13 v5 (T.crash l1).blocks ∧ Strs (w12.heap.size ≤ ·) w13 v6 (S.crash l1).blocks) := ⟨H12.out.2.1.trans (t13.mono H12.out.2.1.size), Strs.on H12.out.2.2 t13, hw6⟩
      clear hw6 t13
      go_wp2_with fail
      refine (equal_strs _ _ w13 v5 v6 _ _ H13.out.2.1 H13.out.2.2).mono ?_
      rintro e w14 ⟨rfl, t14⟩
      rw [crash_blocks HR.out.1 HR.out.2.1 HR.out.2.2, decide_eq_true (rfl : (S.crash l1).blocks = (S.crash l1).blocks)]
      have H14 : Hid (Below w.heap.size w w14) := H0.out.1.trans ((H13.out.1.trans (t14.mono H13.out.1.size)).mono H0.out.1.size)
      clear t14
      go_wp2_with fail
      refine (awake_any w14).mono ?_
      rintro e w15 ⟨rfl, hb15⟩
      have H15 : Hid (Below w.heap.size w w15) := H14.out.trans (hb15.mono H14.out.size)
      clear hb15
      go_wp2_with fail
      go_ret
      exact ⟨rfl, H15.out⟩
end Go.Proofs.Ytecnfhfofnbieaa.Dev
