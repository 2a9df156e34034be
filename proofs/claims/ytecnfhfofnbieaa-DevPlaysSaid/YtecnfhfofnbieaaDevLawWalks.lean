/- Layer 5's laws, walked: for every input they return true and leave what was there as it was. -/
import Derived.Test.YtecnfhfofnbieaaDevAwake
import Derived.Test.YtecnfhfofnbieaaDevLawPure
namespace Go.Proofs.Ytecnfhfofnbieaa.Dev
set_option linter.unusedVariables false
set_option linter.unusedSimpArgs false
set_option maxRecDepth 100000
open Go.RowKit Go.Proofs.Ytecnfhfofnbieaa.Mem

theorem Below.refl' {B : Nat} (w : World) : Below B w w := Below.refl _ _
/-- 'short', of one list -/
theorem short_one {p : Nat → Prop} (w : World) (a : Option Addr) (c : Nat) (l : List DoS) (t : TypeId) (h : Dos p w (.slice a l.length c) l) :
    Calls Try.prog 10 #[.slice (some ⟨w.heap.size, 0, none⟩) 1 1] (w.alloc (.cells #[.slice a l.length c] t)) fun e w' => ∃ x, e = .returned (.bool x) ∧ Below w.heap.size w w' := by
  have hb : Below w.heap.size w (w.alloc (.cells #[.slice a l.length c] t)) := (Below.refl _ _).alloc (Nat.le_refl _) _
  refine (short_any _ w.heap.size 1 1 (by decide) ?_).mono ?_
  · intro i hi
    have h0 : i = 0 := by omega
    subst h0
    exact ⟨a, l.length, c, cell_at (heap_alloc_last w _) 0, h.rd.below hb⟩
  · rintro e w' ⟨x, rfl, hb2⟩
    exact ⟨x, rfl, hb.trans (hb2.mono (by simp))⟩
/-- 'short', of two lists -/
theorem short_two {p q : Nat → Prop} (w : World) (a a' : Option Addr) (c c' : Nat) (l l' : List DoS) (t : TypeId) (h : Dos p w (.slice a l.length c) l) (h' : Dos q w (.slice a' l'.length c') l') :
    Calls Try.prog 10 #[.slice (some ⟨w.heap.size, 0, none⟩) 2 2] (w.alloc (.cells #[.slice a l.length c, .slice a' l'.length c'] t)) fun e w' => ∃ x, e = .returned (.bool x) ∧ Below w.heap.size w w' := by
  have hb : Below w.heap.size w (w.alloc (.cells #[.slice a l.length c, .slice a' l'.length c'] t)) := (Below.refl _ _).alloc (Nat.le_refl _) _
  refine (short_any _ w.heap.size 2 2 (by decide) ?_).mono ?_
  · intro i hi
    match i, hi with
    | 0, _ => exact ⟨a, l.length, c, cell_at (heap_alloc_last w _) 0, h.rd.below hb⟩
    | 1, _ => exact ⟨a', l'.length, c', cell_at (heap_alloc_last w _) 1, h'.rd.below hb⟩
  · rintro e w' ⟨x, rfl, hb2⟩
    exact ⟨x, rfl, hb.trans (hb2.mono (by simp))⟩

set_option maxHeartbeats 1000000 in
/-- DevFuse -/
theorem devFuse_any (w : World) (n fuse : Int) (v : Value) (l : List DoS) (h : Dos (· < w.heap.size) w v l) :
    Calls Try.prog 3 #[.int .i64 n, v, .int .i64 fuse] w fun e w' => e = .returned (.bool true) ∧ Below w.heap.size w w' := by
  obtain ⟨a, c, rfl, hlen, hx⟩ := h.at
  clear hx
  have H : Hid (Dos (· < w.heap.size) w (.slice a l.length c) l) := h
  clear h
  have hfr : Hid (∃ f : Int, wrap64 ((IntKind.u64.wrap fuse).tmod 20) = f ∧ 0 ≤ f ∧ f < 20) := by
    refine ⟨IntKind.u64.wrap fuse % 20, ?_, by omega, by omega⟩
    have hu : 0 ≤ IntKind.u64.wrap fuse := by rw [IntKind.wrap_u64]; omega
    rw [Int.tmod_eq_emod_of_nonneg hu]
    unfold wrap64; omega
  go_enter Try.func3, Try.ntmps3
  go_wp2_with fail
  refine (short_one w a c l _ H.out).mono ?_
  rintro e w1 ⟨x, rfl, hb1⟩
  have HB1 : Hid (Below w.heap.size w w1) := hb1
  clear hb1
  cases x
  · go_wp2_with fail
    refine (awake_any w1).mono ?_
    rintro e w2 ⟨rfl, hb2⟩
    have HB2 : Hid (Below w.heap.size w w2) := HB1.out.trans (hb2.mono HB1.out.size)
    clear hb2
    go_wp2_with fail
    go_ret
    exact ⟨rfl, HB2.out⟩
  · go_wp2_with fail
    refine (size_fn n w1).mono ?_
    rintro e w2 ⟨rfl, rfl⟩
    go_wp2_with fail
    refine (new_yes w1 (sizeOf n) (by have := sizeOf_range n; omega)).mono ?_
    rintro e w2 ⟨b, bk, bd, rfl, hA, hb, hb1, hb2, hb3⟩
    have HA : Hid (At w2 b bk bd (DevS.new (sizeOf n)) ∧ Below w.heap.size w w2 ∧ w.heap.size ≤ b ∧ w.heap.size ≤ bk ∧ w.heap.size ≤ bd) := by
      have := HB1.out.size
      exact ⟨hA, HB1.out.trans (hb.mono this), by omega, by omega, by omega⟩
    clear hA hb hb1 hb2 hb3
    obtain ⟨f, hf, hf0, hf1⟩ := hfr.out
    go_wp2_with fail
    simp only [hf]
    refine (fuse_any w2 b bk bd _ f HA.out.1 (by omega)).mono ?_
    rintro e w3 ⟨rfl, h3, t3⟩
    have e3 : (DevS.new (sizeOf n)).fuseE = 0 := rfl
    rw [e3]
    have HF : Hid (Fused f ((DevS.new (sizeOf n)).fuse f) 0) := fused_new _ _ hf0
    generalize ((DevS.new (sizeOf n)).fuse f) = S0 at h3 HF
    have H3 : Hid (At w3 b bk bd S0 ∧ Below w.heap.size w w3) := ⟨h3, HA.out.2.1.trans (t3.below HA.out.2.1.size (by have := HA.out.2.2; simp; omega))⟩
    have HG : Hid (w.heap.size ≤ b ∧ w.heap.size ≤ bk ∧ w.heap.size ≤ bd) := HA.out.2.2
    clear h3 t3 hf hfr e3 HA HB1
    go_wp2_with fail
    go_loopw [9, 35] (fun d i wr => ∃ (j : Nat) (done : Int) (S : DevS), j ≤ l.length ∧ i = .int .i64 j ∧ d = .int .i64 done ∧ 0 ≤ done ∧ done ≤ f ∧ Hid (At wr b bk bd S ∧ Fused f S done) ∧ Hid (Below w.heap.size w wr)) (fun _ i _ => l.length - (intOf i).toNat)
    case atStart => exact ⟨0, 0, S0, by omega, rfl, rfl, by omega, hf0, ⟨H3.out.1, HF.out⟩, H3.out.2⟩
    case round =>
      obtain ⟨j, done, S, hj, rfl, rfl, hd0, hd1, hA, hT⟩ := hrel
      by_cases hlt : j < l.length
      · have hd : Dos (· < w.heap.size) wr (.slice a l.length c) l := H.out.below hT.out
        obtain ⟨k, bb, oo, kv, HS, ha, q0, q1, q2, q3, hf, hkv⟩ := hd.item j hlt
        obtain ⟨ka, kc, rfl, hkl, hkc⟩ := hkv.form
        have HK : Hid (k.fits ∧ Ints (· < w.heap.size) wr (.slice ka k.keep.length kc) k.keep) := ⟨hf, hkv⟩
        clear hf hkv hd hkl hkc HS
        subst ha
        by_cases hop : k.op % 8 ≤ 3
        · have hop' : bits .and .i64 k.op 7 ≤ 3 := by rw [bits_and7]; exact hop
          obtain ⟨s1, s2, s3, s4, s5⟩ := fused_step hA.out.2 hop
          have HX : Hid ((S.doesE k = 0 → Fused f (S.does k) (done + 1)) ∧ (S.doesE k ≠ 0 → Fused f (S.does k) done)) := ⟨s1, s2⟩
          clear s1 s2 hop
          go_wp2_with fail
          refine (does_step hA.out.1 hT.out (Nat.le_refl _) (Nat.le_refl _) HG.out.1 HG.out.2.1 HG.out.2.2 HK.out.1 HK.out.2 _).mono ?_
          rintro e w4 ⟨rfl, h4, t4⟩
          have H4 : Hid (At w4 b bk bd (S.does k) ∧ Below w.heap.size w w4) := ⟨h4, t4⟩
          clear h4 t4
          by_cases e0 : S.doesE k = 0
          · have hdd := s5 e0
            have HN := HX.out.1 e0
            have HN' : Hid _ := HN
            clear HN s3 s4 s5
            rw [e0]
            go_wp2
            go_roundw
            case rel => exact ⟨j + 1, done + 1, S.does k, by omega, by go_num, rfl, by omega, hdd, ⟨H4.out.1, HN'.out⟩, H4.out.2⟩
            case measure => simp [intOf]; omega
          · have HN' : Hid (Fused f (S.does k) done) := HX.out.2 e0
            by_cases e5 : S.doesE k = 5
            · have hdf := s3 e5
              subst hdf
              clear s3 s4 s5
              rw [e5]
              go_wp2
              go_roundw
              case rel => exact ⟨j + 1, done, S.does k, by omega, by go_num, rfl, by omega, by omega, ⟨H4.out.1, HN'.out⟩, H4.out.2⟩
              case measure => simp [intOf]; omega
            · have e0' : (S.doesE k == 0) = false := by simpa using e0
              have e5' : (S.doesE k == 5) = false := by simpa using e5
              clear s3 s4 s5
              go_wp2
              go_roundw
              case rel => exact ⟨j + 1, done, S.does k, by omega, by go_num, rfl, by omega, by omega, ⟨H4.out.1, HN'.out⟩, H4.out.2⟩
              case measure => simp [intOf]; omega
        · have hop' : 3 < bits .and .i64 k.op 7 := by rw [bits_and7]; omega
          have HT4 : Hid (Below w.heap.size w (wr.alloc (.cells #[.int .i64 k.op, .int .i64 k.i, .string k.s, .slice ka k.keep.length kc] 34))) := hT.out.alloc hT.out.size _
          go_wp2_with fail
          go_roundw
          case rel => exact ⟨j + 1, done, S, by omega, by go_num, rfl, by omega, by omega, ⟨hA.out.1.alloc _, hA.out.2⟩, HT4.out⟩
          case measure => simp [intOf]; omega
      · go_wp2_with fail
        refine (awake_any wr).mono ?_
        rintro e w4 ⟨rfl, hb4⟩
        have HB4 : Hid (Below w.heap.size w w4) := hT.out.trans (hb4.mono hT.out.size)
        clear hb4
        go_wp2_with fail
        go_ret
        exact ⟨rfl, HB4.out⟩

/-- a device that lies above base stands on where nothing but new blocks turned -/
theorem At.on {w w' : World} {b bk bd : Nat} {S : DevS} (h : At w b bk bd S) (hb : Below w.heap.size w w') : At w' b bk bd S := h.of_below hb (heap_lt h.heap) h.kept.lt h.dirty.lt
/-- a slice that came in: as long as it is, whatever it is -/
theorem len_le {l : List Int} {p : Nat → Prop} {w : World} {v : Value} (h : Ints p w v l) : l.length ≤ 9223372036854775807 := by
  obtain ⟨_, _, _, h, _⟩ := h.form
  exact h

set_option maxHeartbeats 4000000 in
/-- DevFlushed -/
theorem devFlushed_any (w : World) (n i : Int) (s : ByteArray) (v v' vk : Value) (l more : List DoS) (keep : List Int) (h : Dos (· < w.heap.size) w v l) (h' : Dos (· < w.heap.size) w v' more) (hk : Ints (· < w.heap.size) w vk keep)
    (hs : s.size ≤ 140737488351232) (hi : -9223372036854775808 ≤ i ∧ i ≤ 9223372036854775807) :
    Calls Try.prog 4 #[.int .i64 n, v, v', .int .i64 i, .string s, vk] w fun e w' => e = .returned (.bool true) ∧ Below w.heap.size w w' := by
  obtain ⟨a, c, rfl, hlen, hx⟩ := h.at
  clear hx
  obtain ⟨a', c', rfl, hlen', hx⟩ := h'.at
  clear hx
  obtain ⟨ak, ck, rfl, hlenk, hx⟩ := hk.form
  clear hx
  have H : Hid (Dos (· < w.heap.size) w (.slice a l.length c) l) := h
  have H' : Hid (Dos (· < w.heap.size) w (.slice a' more.length c') more) := h'
  have HK : Hid (Ints (· < w.heap.size) w (.slice ak keep.length ck) keep) := hk
  clear h h' hk
  go_enter Try.func4, Try.ntmps4
  go_wp2_with fail
  refine (short_two w a a' c c' l more _ H.out H'.out).mono ?_
  rintro e w1 ⟨x, rfl, hb1⟩
  have HB1 : Hid (Below w.heap.size w w1) := hb1
  clear hb1
  have hgo : x = false ∨ (x = true ∧ 8192 < s.size) ∨ (x = true ∧ s.size ≤ 8192 ∧ 200 < keep.length) ∨ (x = true ∧ s.size ≤ 8192 ∧ keep.length ≤ 200) := by
    cases x
    · exact .inl rfl
    · by_cases q1 : 8192 < s.size
      · exact .inr (.inl ⟨rfl, q1⟩)
      · by_cases q2 : 200 < keep.length
        · exact .inr (.inr (.inl ⟨rfl, by omega, q2⟩))
        · exact .inr (.inr (.inr ⟨rfl, by omega, by omega⟩))
  rcases hgo with rfl | ⟨rfl, hgo⟩ | ⟨rfl, hgo2, hgo⟩ | ⟨rfl, hs2, hk2⟩
  rotate_left 3
  · go_wp2_with fail
    refine (made_any w.heap.size w1 n _ l (H.out.below HB1.out) HB1.out.size).mono ?_
    rintro e w2 ⟨b, bk, bd, rfl, hA, hb, hb1, hb2, hb3⟩
    have HA : Hid (At w2 b bk bd ((DevS.new (sizeOf n)).run l) ∧ Below w.heap.size w w2 ∧ w.heap.size ≤ b ∧ w.heap.size ≤ bk ∧ w.heap.size ≤ bd) := by
      have := HB1.out.size
      exact ⟨hA, HB1.out.trans (hb.mono this), by omega, by omega, by omega⟩
    have HG : Hid (w.heap.size ≤ b ∧ w.heap.size ≤ bk ∧ w.heap.size ≤ bd) := HA.out.2.2
    have HN : Hid (((DevS.new (sizeOf n)).run l).n = sizeOf n) := DevS.run_n _ _
    clear hA hb hb1 hb2 hb3 HB1
    generalize (DevS.new (sizeOf n)).run l = S at HA HN
    go_wp2_with fail
    refine (start_any w2 b bk bd S HA.out.1).mono ?_
    rintro e w3 ⟨rfl, h3, t3⟩
    have H3 : Hid (At w3 b bk bd S.start ∧ Below w.heap.size w w3) := ⟨h3, HA.out.2.1.trans (t3.below HA.out.2.1.size (by have := HA.out.2.2; simp; omega))⟩
    clear h3 t3 HA
    go_wp2_with fail
    refine (fuse_any w3 b bk bd _ (-1) H3.out.1 (by omega)).mono ?_
    rintro e w4 ⟨rfl, h4, t4⟩
    have e4 : S.start.fuseE = 0 := by unfold DevS.fuseE; rw [S.start_off]; rfl
    rw [e4]
    have H4 : Hid (At w4 b bk bd (S.start.fuse (-1)) ∧ Below w.heap.size w w4) := ⟨h4, H3.out.2.trans (t4.below H3.out.2.size (by have := HG.out; simp; omega))⟩
    have HW := @wrote S i s
    simp only at HW
    generalize S.start.fuse (-1) = T at H4 HW
    have HW' : Hid _ := HW
    clear h4 t4 e4 H3 HW
    go_wp2_with fail
    refine (write_any w4 b bk bd T i s H4.out.1).mono ?_
    rintro e w5 ⟨rfl, h5, t5⟩
    have H5 : Hid (At w5 b bk bd (T.write i s) ∧ Below w.heap.size w w5) := ⟨h5, H4.out.2.trans (t5.below H4.out.2.size (by have := HG.out; simp; omega))⟩
    clear h5 t5
    rw [HW'.out.1]
    by_cases hin : (T.inside i && decide (s.size ≤ 4096)) = true
    · rw [if_pos hin]
      have HI : Hid ((T.write i s).flushE = 0 ∧ Safe (T.write i s).flush i s) := HW'.out.2.1 hin
      have hn5 : Hid ((T.write i s).flush.n = sizeOf n) := by
        have h1 := DevS.does_n T ⟨0, i, s, []⟩
        have h2 := DevS.does_n (T.write i s) ⟨3, i, s, []⟩
        have h3 : T.does ⟨0, i, s, []⟩ = T.write i s := rfl
        have h4 : (T.write i s).does ⟨3, i, s, []⟩ = (T.write i s).flush := rfl
        rw [h3] at h1
        rw [h4] at h2
        exact h2.trans (h1.trans (HW'.out.2.2.trans HN.out))
      simp only [DevS.inside, Bool.and_eq_true, decide_eq_true_eq] at hin
      obtain ⟨⟨hi0, hi1⟩, hs4⟩ := hin
      have hi2 : Hid (i < sizeOf n) := by rw [← HN.out, ← HW'.out.2.2]; exact hi1
      obtain ⟨m, rfl⟩ := Int.eq_ofNat_of_zero_le hi0
      clear hi0 hi1
      go_wp2_with fail
      refine (flush_any w5 b bk bd _ H5.out.1).mono ?_
      rintro e w6 ⟨rfl, h6, t6⟩
      rw [HI.out.1]
      have H6 : Hid (At w6 b bk bd (T.write m s).flush ∧ Below w.heap.size w w6) := ⟨h6, H5.out.2.trans (t6.below H5.out.2.size (by have := HG.out; simp; omega))⟩
      have H7 : Hid (Safe (T.write m s).flush m s ∧ (T.write m s).flush.n = sizeOf n) := ⟨HI.out.2, hn5.out⟩
      clear h6 t6 H5 HI hn5 HW' H4 HN
      generalize (T.write m s).flush = U at H6 H7
      go_wp2_with fail
      go_loopw [69] (fun q wr => ∃ (j : Nat) (S : DevS), j ≤ more.length ∧ q = .int .i64 j ∧ Hid (At wr b bk bd S ∧ Safe S m s ∧ S.n = sizeOf n) ∧ Hid (Below w.heap.size w wr)) (fun q _ => more.length - (intOf q).toNat)
      case atStart => exact ⟨0, U, by omega, rfl, ⟨H6.out.1, H7.out⟩, H6.out.2⟩
      case round =>
        obtain ⟨j, S, hj, rfl, hA, hT⟩ := hrel
        by_cases hlt : j < more.length
        · have hd : Dos (· < w.heap.size) wr (.slice a' more.length c') more := H'.out.below hT.out
          obtain ⟨k, bb, oo, kv, HS, ha, q0, q1, q2, q3, hf, hkv⟩ := hd.item j hlt
          obtain ⟨ka, kc, rfl, hkl, hkc⟩ := hkv.form
          have HKK : Hid (k.fits ∧ Ints (· < w.heap.size) wr (.slice ka k.keep.length kc) k.keep) := ⟨hf, hkv⟩
          clear hf hkv hd hkl hkc HS
          subst ha
          have HT4 : Hid (Below w.heap.size w (wr.alloc (.cells #[.int .i64 k.op, .int .i64 k.i, .string k.s, .slice ka k.keep.length kc] 34))) := hT.out.alloc hT.out.size _
          by_cases hop : k.op % 8 < 3
          · have hop' : bits .and .i64 k.op 7 < 3 := by rw [bits_and7]; exact hop
            by_cases hki : k.i = m
            · have hki' : (k.i == (m : Int)) = true := by simpa using hki
              clear hki
              go_wp2_with fail
              go_roundw
              case rel => exact ⟨j + 1, S, by omega, by go_num, ⟨hA.out.1.alloc _, hA.out.2⟩, HT4.out⟩
              case measure => simp [intOf]; omega
            · have hki' : (k.i == (m : Int)) = false := by simpa using hki
              have HSF : Hid (Safe (S.does k) m s ∧ (S.does k).n = sizeOf n) := ⟨safe_step hA.out.2.1 (fun h => hki h.2), (DevS.does_n S k).trans hA.out.2.2⟩
              clear hki
              go_wp2_with fail
              refine (does_step hA.out.1 hT.out (Nat.le_refl _) (Nat.le_refl _) HG.out.1 HG.out.2.1 HG.out.2.2 HKK.out.1 HKK.out.2 _).mono ?_
              rintro e w7 ⟨rfl, h7, t7⟩
              have H7 : Hid (At w7 b bk bd (S.does k) ∧ Below w.heap.size w w7) := ⟨h7, t7⟩
              clear h7 t7
              go_wp2_with fail
              go_roundw
              case rel => exact ⟨j + 1, S.does k, by omega, by go_num, ⟨H7.out.1, HSF.out⟩, H7.out.2⟩
              case measure => simp [intOf]; omega
          · have hop' : 3 ≤ bits .and .i64 k.op 7 := by rw [bits_and7]; omega
            have HSF : Hid (Safe (S.does k) m s ∧ (S.does k).n = sizeOf n) := ⟨safe_step hA.out.2.1 (fun h => hop h.1), (DevS.does_n S k).trans hA.out.2.2⟩
            clear hop
            go_wp2_with fail
            refine (does_step hA.out.1 hT.out (Nat.le_refl _) (Nat.le_refl _) HG.out.1 HG.out.2.1 HG.out.2.2 HKK.out.1 HKK.out.2 _).mono ?_
            rintro e w7 ⟨rfl, h7, t7⟩
            have H7 : Hid (At w7 b bk bd (S.does k) ∧ Below w.heap.size w w7) := ⟨h7, t7⟩
            clear h7 t7
            go_wp2_with fail
            go_roundw
            case rel => exact ⟨j + 1, S.does k, by omega, by go_num, ⟨H7.out.1, HSF.out⟩, H7.out.2⟩
            case measure => simp [intOf]; omega
        · go_wp2_with fail
          refine (crash_any wr b bk bd S _ keep hA.out.1 ((HK.out.below hT.out).mono (fun k hk => by have := HG.out; omega))).mono ?_
          rintro e w7 ⟨rfl, h7, t7⟩
          have H7 : Hid (At w7 b bk bd (S.crash keep) ∧ Below w.heap.size w w7) := ⟨h7, hT.out.trans (t7.below hT.out.size (by have := HG.out; simp; omega))⟩
          have HSC := safe_crash (keep := keep) hA.out.2.1 (by have := hi2.out; rw [hA.out.2.2]; omega)
          have HSC' : Hid _ := HSC
          clear h7 t7 HSC
          go_wp2_with fail
          refine (blocks_any w7 b bk bd _ H7.out.1).mono ?_
          rintro e w8 ⟨vb, rfl, hst, t8⟩
          obtain ⟨ab, cb, rfl, hlb, hcb⟩ := hst.form
          have hmb : m < (S.crash keep).blocks.length := by
            rcases Nat.lt_or_ge m (S.crash keep).blocks.length with h | h
            · exact h
            · have h1 := HSC'.out.1
              rw [List.getElem?_eq_none (by simpa using h)] at h1
              cases h1
          obtain ⟨b8, o8, rfl, hcell⟩ := hcb m hmb
          have hval : (S.crash keep).blocks[m] = s := by
            have h1 := HSC'.out.1
            have h2 : ((m : Int).toNat) = m := by omega
            rw [h2, List.getElem?_eq_getElem hmb] at h1
            exact Option.some.inj h1
          rw [hval] at hcell
          have H8 : Hid (Below w.heap.size w w8) := H7.out.2.trans (t8.mono H7.out.2.size)
          clear hst hcb hval t8
          generalize (S.crash keep).blocks.length = nb at hmb hlb
          go_wp2_with fail
          refine (awake_any w8).mono ?_
          rintro e w9 ⟨rfl, hb9⟩
          have H9 : Hid (Below w.heap.size w w9) := H8.out.trans (hb9.mono H8.out.size)
          clear hb9
          go_wp2_with fail
          go_ret
          exact ⟨rfl, H9.out⟩
    · rw [if_neg hin]
      have hcase : i < 0 ∨ (0 ≤ i ∧ sizeOf n ≤ i) ∨ (0 ≤ i ∧ i < sizeOf n ∧ 4096 < s.size) := by
        simp only [DevS.inside, Bool.and_eq_true, decide_eq_true_eq] at hin
        have h1 := HW'.out.2.2
        have h2 := HN.out
        rw [h1, h2] at hin
        omega
      clear hin HW' HN
      rcases hcase with hc | ⟨hc0, hc⟩ | ⟨hc0, hc, hc2⟩
      · go_wp2_with fail
        refine (awake_any w5).mono ?_
        rintro e w9 ⟨rfl, hb9⟩
        have H9 : Hid (Below w.heap.size w w9) := H5.out.2.trans (hb9.mono H5.out.2.size)
        clear hb9
        go_wp2_with fail
        go_ret
        exact ⟨rfl, H9.out⟩
      · go_wp2_with fail
        refine (size_fn n w5).mono ?_
        rintro e w6 ⟨rfl, rfl⟩
        go_wp2_with fail
        refine (awake_any w5).mono ?_
        rintro e w9 ⟨rfl, hb9⟩
        have H9 : Hid (Below w.heap.size w w9) := H5.out.2.trans (hb9.mono H5.out.2.size)
        clear hb9
        go_wp2_with fail
        go_ret
        exact ⟨rfl, H9.out⟩
      · go_wp2_with fail
        refine (size_fn n w5).mono ?_
        rintro e w6 ⟨rfl, rfl⟩
        go_wp2_with fail
        refine (awake_any w5).mono ?_
        rintro e w9 ⟨rfl, hb9⟩
        have H9 : Hid (Below w.heap.size w w9) := H5.out.2.trans (hb9.mono H5.out.2.size)
        clear hb9
        go_wp2_with fail
        go_ret
        refine ⟨?_, H9.out⟩
        rw [show decide ((4096 : Int) < (s.size : Int)) = true from decide_eq_true (by omega), Bool.or_true]
        rfl
  all_goals
    go_wp2_with fail
    refine (awake_any w1).mono ?_
    rintro e w9 ⟨rfl, hb9⟩
    have H9 : Hid (Below w.heap.size w w9) := HB1.out.trans (hb9.mono HB1.out.size)
    clear hb9
    go_wp2_with fail
    go_ret
    exact ⟨rfl, H9.out⟩
end Go.Proofs.Ytecnfhfofnbieaa.Dev
