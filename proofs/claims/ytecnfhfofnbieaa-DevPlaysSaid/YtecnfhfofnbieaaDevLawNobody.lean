/- DevNobody, walked: what the functions do on a device that no call made. -/
import Derived.Test.YtecnfhfofnbieaaDevLawRefused
namespace Go.Proofs.Ytecnfhfofnbieaa.Dev
set_option linter.unusedVariables false
set_option linter.unusedSimpArgs false
set_option maxRecDepth 100000
open Go.RowKit Go.Proofs.Ytecnfhfofnbieaa.Mem Go.Maps Go.Sort Go.Shelf

/-- no device: nil, or one that no call made -/
def Nob (w : World) (v : Value) : Prop := v = .pointer none ∨ ∃ b, v = .pointer (some ⟨b, 0, none⟩) ∧ w.cell? ⟨b, 3, none⟩ = some (.int .i64 0) ∧ w.cell? ⟨b, 5, none⟩ = some (.map none)
theorem Nob.on {w w' : World} {v : Value} (h : Nob w v) (hb : Below w.heap.size w w') : Nob w' v := by
  rcases h with h | ⟨b, h1, h2, h3⟩
  · exact .inl h
  · exact .inr ⟨b, h1, cell_on hb h2, cell_on hb h3⟩

theorem able_nob (w : World) (v : Value) (h : Nob w v) : Calls Try.prog 35 #[v] w fun e w' => e = .returned (.int .i64 200) ∧ w = w' := by
  rcases h with rfl | ⟨b, rfl, h1, h2⟩
  all_goals
    go_enter Try.func35, Try.ntmps35
    go_wp2
    go_ret
    exact ⟨rfl, rfl⟩
theorem write_nob (w : World) (v : Value) (i : Int) (s : ByteArray) (h : Nob w v) : Calls Try.prog 18 #[v, .int .i64 i, .string s] w fun e w' => e = .returned (.int .i64 200) ∧ w = w' := by
  go_enter Try.func18, Try.ntmps18
  go_wp2_with fail
  refine (able_nob w v h).mono ?_
  rintro e w1 ⟨rfl, rfl⟩
  go_wp2_with fail
  go_ret
  exact ⟨rfl, rfl⟩
theorem flush_nob (w : World) (v : Value) (h : Nob w v) : Calls Try.prog 19 #[v] w fun e w' => e = .returned (.int .i64 200) ∧ w = w' := by
  go_enter Try.func19, Try.ntmps19
  go_wp2_with fail
  refine (able_nob w v h).mono ?_
  rintro e w1 ⟨rfl, rfl⟩
  go_wp2_with fail
  go_ret
  exact ⟨rfl, rfl⟩
theorem read_nob (w : World) (v : Value) (i : Int) (h : Nob w v) : Calls Try.prog 30 #[v, .int .i64 i] w fun e w' => e = .returned (.tuple #[.string ⟨#[]⟩, .int .i64 200]) ∧ w = w' := by
  go_enter Try.func30, Try.ntmps30
  go_wp2_with fail
  refine (able_nob w v h).mono ?_
  rintro e w1 ⟨rfl, rfl⟩
  go_wp2_with fail
  go_ret2
  exact ⟨rfl, rfl⟩
theorem fuse_nob (w : World) (v : Value) (i : Int) (h : Nob w v) : Calls Try.prog 14 #[v, .int .i64 i] w fun e w' => e = .returned (.int .i64 200) ∧ w = w' := by
  go_enter Try.func14, Try.ntmps14
  go_wp2_with fail
  refine (able_nob w v h).mono ?_
  rintro e w1 ⟨rfl, rfl⟩
  go_wp2_with fail
  go_ret
  exact ⟨rfl, rfl⟩
theorem crash_nob (w : World) (v u : Value) (h : Nob w v) : Calls Try.prog 20 #[v, u] w fun e w' => e = .returned (.int .i64 200) ∧ w = w' := by
  rcases h with rfl | ⟨b, rfl, h1, h2⟩
  all_goals
    go_enter Try.func20, Try.ntmps20
    go_wp2
    go_ret
    exact ⟨rfl, rfl⟩
theorem start_nob (w : World) (v : Value) (h : Nob w v) : Calls Try.prog 17 #[v] w fun e w' => e = .returned (.int .i64 200) ∧ w = w' := by
  rcases h with rfl | ⟨b, rfl, h1, h2⟩
  all_goals
    go_enter Try.func17, Try.ntmps17
    go_wp2
    go_ret
    exact ⟨rfl, rfl⟩
theorem size_nob (w : World) (v : Value) (h : Nob w v) : Calls Try.prog 22 #[v] w fun e w' => e = .returned (.int .i64 0) ∧ w = w' := by
  rcases h with rfl | ⟨b, rfl, h1, h2⟩
  all_goals
    go_enter Try.func22, Try.ntmps22
    go_wp2
    go_ret
    exact ⟨rfl, rfl⟩
theorem clone_nob (w : World) (v : Value) (h : Nob w v) : Calls Try.prog 24 #[v] w fun e w' => e = .returned (.pointer none) ∧ w = w' := by
  rcases h with rfl | ⟨b, rfl, h1, h2⟩
  all_goals
    go_enter Try.func24, Try.ntmps24
    go_wp2
    go_ret
    exact ⟨rfl, rfl⟩

set_option maxHeartbeats 1000000 in
theorem sorted_nil (w : World) :
    Calls Try.prog 38 #[.func (.func 49) #[] #[.pointer (some ⟨w.heap.size, 0, none⟩)]] (w.alloc (.cells #[.map none] 47)) fun e w' =>
      ∃ a c, e = .returned (.slice a 0 c) ∧ Below w.heap.size w w' := by
  have hseq := AnyZI.keys_gives_nil (ρ := Try.keysA_ren) { Try.keysA with } Fence.wide 2 trivial rfl w.heap.size (w.alloc (.cells #[.map none] 47)) (by simp) (cell_at (heap_alloc_last w _) 0)
  have cS := AnyZI.sorted_in Try.sortedA Fence.wide 5 trivial trivial trivial trivial rfl (by omega) (sorts_ints _) (enters_of Try.func48 (by kernel_rfl) rfl) 49 #[.pointer (some ⟨w.heap.size, 0, none⟩)] trivial (enters_of Try.func49 (by kernel_rfl) rfl) _ _ (by unfold maxLen; omega) (by omega) _ hseq
  change CallsIn _ _ Try.prog 38 _ _ _ at cS
  refine (callsIn_wide.1 cS).mono ?_
  rintro e w' ⟨v, ss, rfl, hperm, hrow, hnil, hb⟩
  have hsize : (w.alloc (.cells #[.map none] 47)).heap.size = w.heap.size + 1 := by simp
  exact ⟨none, 0, by rw [hnil.2 hperm], ((Below.refl _ w).alloc (Nat.le_refl _) _).trans (hb.mono (by omega))⟩
theorem dirty_nob (w : World) (v : Value) (h : Nob w v) : Calls Try.prog 23 #[v] w fun e w' => ∃ a c, e = .returned (.slice a 0 c) ∧ Below w.heap.size w w' := by
  rcases h with rfl | ⟨b, rfl, h1, h2⟩
  · go_enter Try.func23, Try.ntmps23
    go_wp2
    go_ret
    exact ⟨_, _, rfl, Below.refl _ _⟩
  · go_enter Try.func23, Try.ntmps23
    go_wp2_with fail
    refine (keys_any none w).mono ?_
    rintro e w1 ⟨rfl, rfl⟩
    go_wp2_with fail
    refine (sorted_nil w).mono ?_
    rintro e w2 ⟨a, c, rfl, hb⟩
    have HB : Hid (Below w.heap.size w w2) := hb
    clear hb
    go_wp2
    go_ret
    exact ⟨_, _, rfl, HB.out⟩
set_option maxHeartbeats 1000000 in
theorem does_nob (w : World) (v : Value) (op i : Int) (s : ByteArray) (kv : Value) (h : Nob w v) :
    Calls Try.prog 15 #[v, .agg #[.int .i64 op, .int .i64 i, .string s, kv]] w fun e w' => e = .returned (.tuple #[.string ⟨#[]⟩, .int .i64 200]) ∧ Below w.heap.size w w' := by
  have hr : op % 8 = 0 ∨ op % 8 = 1 ∨ op % 8 = 2 ∨ op % 8 = 3 ∨ op % 8 = 4 ∨ op % 8 = 5 ∨ op % 8 = 6 ∨ op % 8 = 7 := by omega
  rw [← bits_and7] at hr
  have hb : Below w.heap.size w (w.alloc (Obj.cells #[Value.int IntKind.i64 op, Value.int IntKind.i64 i, Value.string s, kv] 34)) := (Below.refl _ _).alloc (Nat.le_refl _) _
  have HB : Hid _ := hb
  have H : Hid (Nob (w.alloc (Obj.cells #[Value.int IntKind.i64 op, Value.int IntKind.i64 i, Value.string s, kv] 34)) v) := h.on hb
  clear h hb
  rcases hr with hr | hr | hr | hr | hr | hr | hr | hr
  iterate 3
    · go_enter Try.func15, Try.ntmps15
      go_wp2_with fail
      refine (write_nob _ v i s H.out).mono ?_
      rintro e w1 ⟨rfl, rfl⟩
      go_wp2_with fail
      go_ret2
      exact ⟨rfl, HB.out⟩
  · go_enter Try.func15, Try.ntmps15
    go_wp2_with fail
    refine (flush_nob _ v H.out).mono ?_
    rintro e w1 ⟨rfl, rfl⟩
    go_wp2_with fail
    go_ret2
    exact ⟨rfl, HB.out⟩
  · go_enter Try.func15, Try.ntmps15
    go_wp2_with fail
    refine (read_nob _ v i H.out).mono ?_
    rintro e w1 ⟨rfl, rfl⟩
    go_wp2_with fail
    go_ret2
    exact ⟨rfl, HB.out⟩
  · go_enter Try.func15, Try.ntmps15
    go_wp2_with fail
    refine (fuse_nob _ v i H.out).mono ?_
    rintro e w1 ⟨rfl, rfl⟩
    go_wp2_with fail
    go_ret2
    exact ⟨rfl, HB.out⟩
  · go_enter Try.func15, Try.ntmps15
    go_wp2_with fail
    refine (crash_nob _ v kv H.out).mono ?_
    rintro e w1 ⟨rfl, rfl⟩
    go_wp2_with fail
    go_ret2
    exact ⟨rfl, HB.out⟩
  · go_enter Try.func15, Try.ntmps15
    go_wp2_with fail
    refine (start_nob _ v H.out).mono ?_
    rintro e w1 ⟨rfl, rfl⟩
    go_wp2_with fail
    go_ret2
    exact ⟨rfl, HB.out⟩

set_option maxHeartbeats 4000000 in
/-- DevNobody -/
theorem devNobody_any (w : World) (kv : Value) (k : DoS) (hk : k.fits) (hkv : Ints (· < w.heap.size) w kv k.keep) :
    Calls Try.prog 5 #[.agg #[.int .i64 k.op, .int .i64 k.i, .string k.s, kv]] w fun e w' => e = .returned (.bool true) ∧ Below w.heap.size w w' := by
  obtain ⟨ak, ck, rfl, hlenk, hx⟩ := hkv.form
  clear hx
  have HK : Hid (k.fits ∧ Ints (· < w.heap.size) w (.slice ak k.keep.length ck) k.keep) := ⟨hk, hkv⟩
  clear hk hkv
  go_enter Try.func5, Try.ntmps5
  go_wp2_with fail
  obtain ⟨w0, hw0⟩ : ∃ w0, w0 = (w.alloc (.cells #[.int .i64 k.op, .int .i64 k.i, .string k.s, .slice ak k.keep.length ck] 34)) := ⟨_, rfl⟩
  have hs0 : w0.heap.size = w.heap.size + 1 := by rw [hw0]; simp
  have hb0 : Below w.heap.size w w0 := by rw [hw0]; exact (Below.refl _ _).alloc (Nat.le_refl _) _
  have hc0 : w0.heap[w.heap.size]? = some (.cells #[.int .i64 k.op, .int .i64 k.i, .string k.s, .slice ak k.keep.length ck] 34 (0, 0)) := by rw [hw0]; exact heap_alloc_last _ _
  rw [← hw0, ← hs0]
  clear hw0
  have H0 : Hid (Below w.heap.size w w0 ∧ w0.heap[w.heap.size]? = some (.cells #[.int .i64 k.op, .int .i64 k.i, .string k.s, .slice ak k.keep.length ck] 34 (0, 0)) ∧ w0.heap.size = w.heap.size + 1) := ⟨hb0, hc0, hs0⟩
  clear hb0 hc0 hs0
  have e1 : w0.heap.size + 1 = (w0.alloc (.cells #[.int .i64 k.op, .int .i64 k.i, .string k.s, .slice ak k.keep.length ck] 34)).heap.size := by simp
  rw [e1]
  have hb1 : Below w0.heap.size w0 (w0.alloc (.cells #[.int .i64 k.op, .int .i64 k.i, .string k.s, .slice ak k.keep.length ck] 34)) := (Below.refl _ _).alloc (Nat.le_refl _) _
  refine (short_one (p := fun _ => True) (w0.alloc (.cells #[.int .i64 k.op, .int .i64 k.i, .string k.s, .slice ak k.keep.length ck] 34)) (some ⟨w0.heap.size, 0, none⟩) 1 [k] _
    (one_laid 34 HK.out.1 (Ints.on (Ints.mono (Ints.on HK.out.2 H0.out.1) (fun _ _ => trivial)) hb1) trivial (heap_alloc_last _ _))).mono ?_
  clear e1
  rintro e w1 ⟨x, rfl, hb2⟩
  have HB1 : Hid (Below w0.heap.size w0 w1) := hb1.trans (hb2.mono (by simp))
  clear hb1 hb2
  cases x
  · go_wp2_with fail
    refine (awake_any w1).mono ?_
    rintro e w9 ⟨rfl, hb9⟩
    have H9 : Hid (Below w.heap.size w w9) := H0.out.1.trans ((HB1.out.trans (hb9.mono HB1.out.size)).mono H0.out.1.size)
    clear hb9
    go_wp2_with fail
    go_ret
    exact ⟨rfl, H9.out⟩
  · go_wp2_with fail
    obtain ⟨w2, hw2⟩ : ∃ w2, w2 = ((w1.alloc (.cells #[.int .i64 0, .bool false, .bool false, .int .i64 0, .map none, .map none] 49)).alloc (.cells #[.pointer none, .pointer (some ⟨w1.heap.size, 0, none⟩)] 25)) := ⟨_, rfl⟩
    have hb2 : Below w0.heap.size w0 w2 := by rw [hw2]; exact (HB1.out.alloc HB1.out.size _).alloc (by have := HB1.out.size; simp; omega) _
    have hz : w2.heap[w1.heap.size]? = some (.cells #[.int .i64 0, .bool false, .bool false, .int .i64 0, .map none, .map none] 49 (0, 0)) := by
      rw [hw2, heap_alloc_other _ (by simp)]
      exact heap_alloc_last w1 _
    have hl : w2.heap[w1.heap.size + 1]? = some (.cells #[.pointer none, .pointer (some ⟨w1.heap.size, 0, none⟩)] 25 (0, 0)) := by
      rw [hw2]
      have := heap_alloc_last (w1.alloc (.cells #[.int .i64 0, .bool false, .bool false, .int .i64 0, .map none, .map none] 49)) (.cells #[.pointer none, .pointer (some ⟨w1.heap.size, 0, none⟩)] 25)
      simpa using this
    have hN : ∀ j, j < 2 → ∃ p, w2.cell? ⟨w1.heap.size + 1, j, none⟩ = some (.pointer p) ∧ Nob w2 (.pointer p) := by
      intro j hj
      match j, hj with
      | 0, _ => exact ⟨none, cell_at hl 0, .inl rfl⟩
      | 1, _ => exact ⟨some ⟨w1.heap.size, 0, none⟩, cell_at hl 1, .inr ⟨_, rfl, cell_at hz 3, cell_at hz 5⟩⟩
    rw [← hw2]
    clear hw2 hz hl
    have HN : Hid _ := hN
    have HB2 : Hid (Below w0.heap.size w0 w2) := hb2
    have HC : Hid (w2.heap[w.heap.size]? = some (.cells #[.int .i64 k.op, .int .i64 k.i, .string k.s, .slice ak k.keep.length ck] 34 (0, 0))) := (hb2.block _ (by rw [H0.out.2.2]; omega)).trans H0.out.2.1
    clear hN hb2 HB1
    generalize w1.heap.size + 1 = bl at HN ⊢
    go_loopw [17] (fun q wr => ∃ (j : Nat), j ≤ 2 ∧ q = .int .i64 j ∧ Hid (Below w2.heap.size w2 wr)) (fun q _ => 2 - (intOf q).toNat)
    case atStart => exact ⟨0, by omega, rfl, Below.refl _ _⟩
    case round =>
      obtain ⟨j, hj, rfl, hT⟩ := hrel
      by_cases hlt : j < 2
      · obtain ⟨p, hp, hnob⟩ := HN.out j hlt
        have hp' := cell_on hT.out hp
        have HNB : Hid (Nob wr (.pointer p)) := hnob.on hT.out
        have hcell : wr.heap[w.heap.size]? = some (.cells #[.int .i64 k.op, .int .i64 k.i, .string k.s, .slice ak k.keep.length ck] 34 (0, 0)) := (hT.out.block _ (heap_lt HC.out)).trans HC.out
        have q0 := cell_at hcell 0
        have q1 := cell_at hcell 1
        have q2 := cell_at hcell 2
        have q3 := cell_at hcell 3
        simp only [List.getElem?_toArray, List.getElem?_cons_zero, List.getElem?_cons_succ] at q0 q1 q2 q3
        clear hcell hp hnob
        go_wp2_with fail
        refine (does_nob wr (.pointer p) k.op k.i k.s _ HNB.out).mono ?_
        rintro e w3 ⟨rfl, t3⟩
        have H3 : Hid (Nob w3 (.pointer p) ∧ Below w2.heap.size w2 w3) := ⟨Nob.on HNB.out t3, hT.out.trans (t3.mono hT.out.size)⟩
        clear t3 q0 q1 q2 q3
        go_wp2_with fail
        refine (size_nob w3 (.pointer p) H3.out.1).mono ?_
        rintro e w4 ⟨rfl, rfl⟩
        go_wp2_with fail
        refine (dirty_nob w3 (.pointer p) H3.out.1).mono ?_
        rintro e w4 ⟨a4, c4, rfl, t4⟩
        have H4 : Hid (Nob w4 (.pointer p) ∧ Below w2.heap.size w2 w4) := ⟨Nob.on H3.out.1 t4, H3.out.2.trans (t4.mono H3.out.2.size)⟩
        clear t4
        go_wp2_with fail
        refine (clone_nob w4 (.pointer p) H4.out.1).mono ?_
        rintro e w5 ⟨rfl, rfl⟩
        go_wp2_with fail
        go_roundw
        case rel => exact ⟨j + 1, by omega, by go_num, H4.out.2⟩
        case measure => simp [intOf]; omega
      · go_wp2_with fail
        refine (awake_any wr).mono ?_
        rintro e w9 ⟨rfl, hb9⟩
        have H9 : Hid (Below w.heap.size w w9) := by
          have h1 := HB2.out.trans (hT.out.mono HB2.out.size)
          exact H0.out.1.trans ((h1.trans (hb9.mono h1.size)).mono H0.out.1.size)
        clear hb9
        go_wp2_with fail
        go_ret
        exact ⟨rfl, H9.out⟩
end Go.Proofs.Ytecnfhfofnbieaa.Dev
