/- StoreNobody, walked: what the functions do on a store that no call made. -/
import Derived.Test.YtanpkghdgdkdlaaStoLawBack
namespace Go.Proofs.Ytanpkghdgdkdlaa.Sto
set_option linter.unusedVariables false
set_option linter.unusedSimpArgs false
set_option maxRecDepth 100000
open Go.RowKit Go.Lib Go.Proofs.Ytanpkghdgdkdlaa.Mem Go.Proofs.Ytanpkghdgdkdlaa.Oct Go.Proofs.Ytanpkghdgdkdlaa.Dev

/-- no store: nil, or one that no call made -/
def Nob (w : World) (v : Value) : Prop := v = .pointer none ∨ ∃ b, v = .pointer (some ⟨b, 0, none⟩) ∧ w.cell? ⟨b, 3, none⟩ = some (.pointer none)
theorem Nob.on {w w' : World} {v : Value} (h : Nob w v) (hb : Below w.heap.size w w') : Nob w' v := by
  rcases h with h | ⟨b, h1, h2⟩
  · exact .inl h
  · exact .inr ⟨b, h1, cell_on hb h2⟩
theorem dead_nob (w : World) (v : Value) (h : Nob w v) : Calls Try.prog 36 #[v] w fun e w' => e = .returned (.bool true) ∧ w = w' := by
  rcases h with rfl | ⟨b, rfl, h1⟩
  all_goals
    go_enter Try.func36, Try.ntmps36
    go_wp2
    go_ret
    exact ⟨rfl, rfl⟩
theorem hold_nob (w : World) (v : Value) (i : Int) (h : Nob w v) : Calls Try.prog 33 #[v, .int .i64 i] w fun e w' => e = .returned (.int .i64 200) ∧ w = w' := by
  go_enter Try.func33, Try.ntmps33
  go_wp2_with fail
  refine (dead_nob w v h).mono ?_
  rintro e w1 ⟨rfl, rfl⟩
  go_wp2_with fail
  go_ret
  exact ⟨rfl, rfl⟩
theorem drop_nob (w : World) (v : Value) (i : Int) (h : Nob w v) : Calls Try.prog 35 #[v, .int .i64 i] w fun e w' => e = .returned (.int .i64 200) ∧ w = w' := by
  go_enter Try.func35, Try.ntmps35
  go_wp2_with fail
  refine (dead_nob w v h).mono ?_
  rintro e w1 ⟨rfl, rfl⟩
  go_wp2_with fail
  go_ret
  exact ⟨rfl, rfl⟩
theorem commit_nob (w : World) (v : Value) (i : Int) (s : ByteArray) (h : Nob w v) : Calls Try.prog 34 #[v, .int .i64 i, .string s] w fun e w' => e = .returned (.int .i64 200) ∧ w = w' := by
  go_enter Try.func34, Try.ntmps34
  go_wp2_with fail
  refine (dead_nob w v h).mono ?_
  rintro e w1 ⟨rfl, rfl⟩
  go_wp2_with fail
  go_ret
  exact ⟨rfl, rfl⟩
theorem sweep_nob (w : World) (v : Value) (h : Nob w v) : Calls Try.prog 15 #[v] w fun e w' => e = .returned (.int .i64 0) ∧ w = w' := by
  go_enter Try.func15, Try.ntmps15
  go_wp2_with fail
  refine (dead_nob w v h).mono ?_
  rintro e w1 ⟨rfl, rfl⟩
  go_wp2_with fail
  go_ret
  exact ⟨rfl, rfl⟩
theorem free_nob (w : World) (v : Value) (h : Nob w v) : Calls Try.prog 14 #[v] w fun e w' => e = .returned (.int .i64 0) ∧ w = w' := by
  go_enter Try.func14, Try.ntmps14
  go_wp2_with fail
  refine (dead_nob w v h).mono ?_
  rintro e w1 ⟨rfl, rfl⟩
  go_wp2_with fail
  go_ret
  exact ⟨rfl, rfl⟩
theorem live_nob (w : World) (v : Value) (h : Nob w v) : Calls Try.prog 13 #[v] w fun e w' => e = .returned (.slice none 0 0) ∧ w = w' := by
  go_enter Try.func13, Try.ntmps13
  go_wp2_with fail
  refine (dead_nob w v h).mono ?_
  rintro e w1 ⟨rfl, rfl⟩
  go_wp2_with fail
  go_ret
  exact ⟨rfl, rfl⟩
theorem refs_nob (w : World) (v : Value) (i : Int) (h : Nob w v) : Calls Try.prog 12 #[v, .int .i64 i] w fun e w' => e = .returned (.tuple #[.int .i64 0, .int .i64 0, .bool false]) ∧ w = w' := by
  go_enter Try.func12, Try.ntmps12
  go_wp2_with fail
  refine (dead_nob w v h).mono ?_
  rintro e w1 ⟨rfl, rfl⟩
  go_wp2_with fail
  go_ret3
  exact ⟨rfl, rfl⟩
theorem root_nob (w : World) (v : Value) (h : Nob w v) : Calls Try.prog 11 #[v] w fun e w' => e = .returned (.tuple #[.int .i64 0, .string ⟨#[]⟩, .int .i64 0]) ∧ w = w' := by
  go_enter Try.func11, Try.ntmps11
  go_wp2_with fail
  refine (dead_nob w v h).mono ?_
  rintro e w1 ⟨rfl, rfl⟩
  go_wp2_with fail
  go_ret3
  exact ⟨rfl, rfl⟩
theorem put_nob (w : World) (v u : Value) (s : ByteArray) (h : Nob w v) : Calls Try.prog 21 #[v, u, .string s] w fun e w' => e = .returned (.tuple #[.int .i64 0, .int .i64 200]) ∧ Below w.heap.size w w' := by
  have hb : Below w.heap.size w (w.alloc (.cells #[v] 29)) := (Below.refl _ _).alloc (Nat.le_refl _) _
  have HB : Hid _ := hb
  have H : Hid (Nob (w.alloc (.cells #[v] 29)) v) := h.on hb
  have hv : v.cells = #[v] := by rcases h with rfl | ⟨b, rfl, _⟩ <;> rfl
  clear hb
  rcases h with rfl | ⟨b, rfl, h1⟩
  all_goals
    clear hv
    go_enter Try.func21, Try.ntmps21
    go_wp2_with fail
    refine (dead_nob _ _ H.out).mono ?_
    rintro e w1 ⟨rfl, rfl⟩
    go_wp2_with fail
    go_ret2
    exact ⟨rfl, HB.out⟩
theorem get_nob (w : World) (v : Value) (i : Int) (h : Nob w v) : Calls Try.prog 22 #[v, .int .i64 i] w fun e w' => e = .returned (.tuple #[.agg #[.slice none 0 0, .string ⟨#[]⟩], .int .i64 200]) ∧ Below w.heap.size w w' := by
  have hb : Below w.heap.size w (w.alloc (.cells #[.slice none 0 0, .string ⟨#[]⟩] 39)) := (Below.refl _ _).alloc (Nat.le_refl _) _
  have hx : (w.alloc (.cells #[.slice none 0 0, .string ⟨#[]⟩] 39)).heap[w.heap.size]? = some (.cells #[.slice none 0 0, .string ⟨#[]⟩] 39 (0, 0)) := heap_alloc_last _ _
  have H : Hid (Nob (w.alloc (.cells #[.slice none 0 0, .string ⟨#[]⟩] 39)) v ∧ Below w.heap.size w (w.alloc (.cells #[.slice none 0 0, .string ⟨#[]⟩] 39)) ∧ (w.alloc (.cells #[.slice none 0 0, .string ⟨#[]⟩] 39)).heap[w.heap.size]? = some (.cells #[.slice none 0 0, .string ⟨#[]⟩] 39 (0, 0))) := ⟨h.on hb, hb, hx⟩
  clear h hb hx
  go_enter Try.func22, Try.ntmps22
  go_wp2_with fail
  refine (dead_nob _ v H.out.1).mono ?_
  rintro e w1 ⟨rfl, hw⟩
  rw [← hw]
  clear hw
  generalize (w.alloc (.cells #[.slice none 0 0, .string ⟨#[]⟩] 39)) = w2 at H ⊢
  have c0 : w2.cell? ⟨w.heap.size, 0, none⟩ = some (.slice none 0 0) := cell_at H.out.2.2 0
  have c1 : w2.cell? ⟨w.heap.size, 1, none⟩ = some (.string ⟨#[]⟩) := cell_at H.out.2.2 1
  have cf : ∀ j, w2.frozen? ⟨w.heap.size, j, none⟩ = false := frozen_at H.out.2.2
  go_wp2_with fail
  rw [setCell_id H.out.2.2 rfl, setCell_id H.out.2.2 rfl]
  refine bodyPost_ret (results_cell_tmp Try.results22 _ _ w.heap.size 39 #[.slice none 0 0, .string ⟨#[]⟩] (0, 0) _ rfl H.out.2.2 Try.underlying39 rfl (by kernel_rfl)) rfl ?_
  exact ⟨rfl, H.out.2.1⟩
/-- what lies there ahead of a callee -/
structure Dn (w : World) (k : DoT) (kv : Value) (kb rb : Nat) (v : Value) (w' : World) : Prop where
  below : Below w.heap.size w w'
  nob : Nob w' v
  kd : w'.heap[kb]? = some (.cells #[.int .i64 k.op, .int .i64 k.i, kv, .string k.s] 24 (0, 0))
  rd : w'.heap[rb]? = some (.cells #[.slice none 0 0, .string ⟨#[]⟩] 39 (0, 0))
theorem Dn.on {w w' w'' : World} {k : DoT} {kv v : Value} {kb rb : Nat} (h : Dn w k kv kb rb v w') (hb : Below w'.heap.size w' w'') : Dn w k kv kb rb v w'' :=
  ⟨h.below.trans (hb.mono h.below.size), h.nob.on hb, (hb.block _ (heap_lt h.kd)).trans h.kd, (hb.block _ (heap_lt h.rd)).trans h.rd⟩
set_option maxHeartbeats 4000000 in
theorem does_nob (w : World) (v : Value) (k : DoT) (kv : Value) (h : Nob w v) (h10 : k.opn ≤ 10) (h8 : k.opn ≠ 8) :
    Calls Try.prog 10 #[v, .pointer none, .agg #[.int .i64 k.op, .int .i64 k.i, kv, .string k.s]] w fun e w' => e = .returned (.tuple #[.int .i64 0, .agg #[.slice none 0 0, .string ⟨#[]⟩], .int .i64 200]) ∧ Below w.heap.size w w' := by
  have hw1 : Dn w k kv w.heap.size (w.heap.size + 1) v ((w.alloc (.cells #[.int .i64 k.op, .int .i64 k.i, kv, .string k.s] 24)).alloc (.cells #[.slice none 0 0, .string ⟨#[]⟩] 39)) := by
    have hb1 : Below w.heap.size w (w.alloc (.cells #[.int .i64 k.op, .int .i64 k.i, kv, .string k.s] 24)) := (Below.refl _ _).alloc (Nat.le_refl _) _
    have hb2 : Below w.heap.size w ((w.alloc (.cells #[.int .i64 k.op, .int .i64 k.i, kv, .string k.s] 24)).alloc (.cells #[.slice none 0 0, .string ⟨#[]⟩] 39)) := hb1.alloc hb1.size _
    refine ⟨hb2, h.on hb2, ?_, ?_⟩
    · rw [heap_alloc_other _ (by simp)]; exact heap_alloc_last _ _
    · have := heap_alloc_last (w.alloc (.cells #[.int .i64 k.op, .int .i64 k.i, kv, .string k.s] 24)) (.cells #[.slice none 0 0, .string ⟨#[]⟩] 39)
      simpa using this
  have H1 : Hid (Dn w k kv w.heap.size (w.heap.size + 1) v ((w.alloc (.cells #[.int .i64 k.op, .int .i64 k.i, kv, .string k.s] 24)).alloc (.cells #[.slice none 0 0, .string ⟨#[]⟩] 39))) := hw1
  have hr : k.opn = 5 ∨ k.opn = 6 ∨ k.opn = 7 ∨ k.opn = 9 ∨ k.opn = 10 ∨ k.opn = 0 ∨ k.opn = 1 ∨ k.opn = 2 ∨ k.opn = 3 ∨ k.opn = 4 := by
    have := opn_range k
    omega
  clear h h10 h8 hw1
  go_enter Try.func10, Try.ntmps10
  go_wp2_with fail
  obtain ⟨kb, hkb⟩ : ∃ kb, kb = w.heap.size := ⟨_, rfl⟩
  obtain ⟨rb, hrb⟩ : ∃ rb, rb = w.heap.size + 1 := ⟨_, rfl⟩
  have H1' : Hid (Dn w k kv kb rb v ((w.alloc (.cells #[.int .i64 k.op, .int .i64 k.i, kv, .string k.s] 24)).alloc (.cells #[.slice none 0 0, .string ⟨#[]⟩] 39))) := by rw [hkb, hrb]; exact H1
  rw [← hrb, ← hkb]
  clear H1 hkb hrb
  generalize (w.alloc (.cells #[.int .i64 k.op, .int .i64 k.i, kv, .string k.s] 24)).alloc (.cells #[.slice none 0 0, .string ⟨#[]⟩] 39) = w1 at H1' ⊢
  have c0 : w1.cell? ⟨kb, 0, none⟩ = some (.int .i64 k.op) := cell_at H1'.out.kd 0
  have c1 : w1.cell? ⟨kb, 1, none⟩ = some (.int .i64 k.i) := cell_at H1'.out.kd 1
  have c2 : w1.cell? ⟨kb, 2, none⟩ = some kv := cell_at H1'.out.kd 2
  have c3 : w1.cell? ⟨kb, 3, none⟩ = some (.string k.s) := cell_at H1'.out.kd 3
  go_wp2_with fail
  refine (op_fn' k kv w1).mono ?_
  rintro e w2 ⟨rfl, hb2⟩
  have H2 : Hid (Dn w k kv kb rb v w2) := H1'.out.on hb2
  clear hb2 c0 c1 c2 c3 H1'
  have c0 : w2.cell? ⟨kb, 0, none⟩ = some (.int .i64 k.op) := cell_at H2.out.kd 0
  have c1 : w2.cell? ⟨kb, 1, none⟩ = some (.int .i64 k.i) := cell_at H2.out.kd 1
  have c2 : w2.cell? ⟨kb, 2, none⟩ = some kv := cell_at H2.out.kd 2
  have c3 : w2.cell? ⟨kb, 3, none⟩ = some (.string k.s) := cell_at H2.out.kd 3
  have r0 : w2.cell? ⟨rb, 0, none⟩ = some (.slice none 0 0) := cell_at H2.out.rd 0
  have r1 : w2.cell? ⟨rb, 1, none⟩ = some (.string ⟨#[]⟩) := cell_at H2.out.rd 1
  have rf : ∀ j, w2.frozen? ⟨rb, j, none⟩ = false := frozen_at H2.out.rd
  rcases hr with hr | hr | hr | hr | hr | hr | hr | hr | hr | hr
  · rw [hr]
    go_wp2_with fail
    refine (hold_nob w2 v k.i H2.out.nob).mono ?_
    rintro e w3 ⟨rfl, rfl⟩
    obtain ⟨w3, hw3⟩ : ∃ w3, w3 = w2 := ⟨_, rfl⟩
    have H3 : Hid (Dn w k kv kb rb v w3) := by rw [hw3]; exact H2.out
    rw [← hw3]
    clear hw3 H2
    clear r0 r1 rf c0 c1 c2 c3
    have c0 : w3.cell? ⟨rb, 0, none⟩ = some (.slice none 0 0) := cell_at H3.out.rd 0
    have c1 : w3.cell? ⟨rb, 1, none⟩ = some (.string ⟨#[]⟩) := cell_at H3.out.rd 1
    have cf : ∀ j, w3.frozen? ⟨rb, j, none⟩ = false := frozen_at H3.out.rd
    go_wp2_with fail
    rw [setCell_id H3.out.rd rfl, setCell_id H3.out.rd rfl]
    refine bodyPost_ret (results_tmp_cell_tmp Try.results10 _ _ rb 39 #[.slice none 0 0, .string ⟨#[]⟩] (0, 0) _ rfl H3.out.rd Try.underlying39 rfl (by kernel_rfl)) rfl ?_
    exact ⟨rfl, H3.out.below⟩
  · rw [hr]
    go_wp2_with fail
    refine (hold_nob w2 v k.i H2.out.nob).mono ?_
    rintro e w3 ⟨rfl, rfl⟩
    obtain ⟨w3, hw3⟩ : ∃ w3, w3 = w2 := ⟨_, rfl⟩
    have H3 : Hid (Dn w k kv kb rb v w3) := by rw [hw3]; exact H2.out
    rw [← hw3]
    clear hw3 H2
    clear r0 r1 rf c0 c1 c2 c3
    have c0 : w3.cell? ⟨rb, 0, none⟩ = some (.slice none 0 0) := cell_at H3.out.rd 0
    have c1 : w3.cell? ⟨rb, 1, none⟩ = some (.string ⟨#[]⟩) := cell_at H3.out.rd 1
    have cf : ∀ j, w3.frozen? ⟨rb, j, none⟩ = false := frozen_at H3.out.rd
    go_wp2_with fail
    rw [setCell_id H3.out.rd rfl, setCell_id H3.out.rd rfl]
    refine bodyPost_ret (results_tmp_cell_tmp Try.results10 _ _ rb 39 #[.slice none 0 0, .string ⟨#[]⟩] (0, 0) _ rfl H3.out.rd Try.underlying39 rfl (by kernel_rfl)) rfl ?_
    exact ⟨rfl, H3.out.below⟩
  · rw [hr]
    go_wp2_with fail
    refine (drop_nob w2 v k.i H2.out.nob).mono ?_
    rintro e w3 ⟨rfl, rfl⟩
    obtain ⟨w3, hw3⟩ : ∃ w3, w3 = w2 := ⟨_, rfl⟩
    have H3 : Hid (Dn w k kv kb rb v w3) := by rw [hw3]; exact H2.out
    rw [← hw3]
    clear hw3 H2
    clear r0 r1 rf c0 c1 c2 c3
    have c0 : w3.cell? ⟨rb, 0, none⟩ = some (.slice none 0 0) := cell_at H3.out.rd 0
    have c1 : w3.cell? ⟨rb, 1, none⟩ = some (.string ⟨#[]⟩) := cell_at H3.out.rd 1
    have cf : ∀ j, w3.frozen? ⟨rb, j, none⟩ = false := frozen_at H3.out.rd
    go_wp2_with fail
    rw [setCell_id H3.out.rd rfl, setCell_id H3.out.rd rfl]
    refine bodyPost_ret (results_tmp_cell_tmp Try.results10 _ _ rb 39 #[.slice none 0 0, .string ⟨#[]⟩] (0, 0) _ rfl H3.out.rd Try.underlying39 rfl (by kernel_rfl)) rfl ?_
    exact ⟨rfl, H3.out.below⟩
  · rw [hr]
    go_wp2_with fail
    refine (commit_nob w2 v k.i k.s H2.out.nob).mono ?_
    rintro e w3 ⟨rfl, rfl⟩
    obtain ⟨w3, hw3⟩ : ∃ w3, w3 = w2 := ⟨_, rfl⟩
    have H3 : Hid (Dn w k kv kb rb v w3) := by rw [hw3]; exact H2.out
    rw [← hw3]
    clear hw3 H2
    clear r0 r1 rf c0 c1 c2 c3
    have c0 : w3.cell? ⟨rb, 0, none⟩ = some (.slice none 0 0) := cell_at H3.out.rd 0
    have c1 : w3.cell? ⟨rb, 1, none⟩ = some (.string ⟨#[]⟩) := cell_at H3.out.rd 1
    have cf : ∀ j, w3.frozen? ⟨rb, j, none⟩ = false := frozen_at H3.out.rd
    go_wp2_with fail
    rw [setCell_id H3.out.rd rfl, setCell_id H3.out.rd rfl]
    refine bodyPost_ret (results_tmp_cell_tmp Try.results10 _ _ rb 39 #[.slice none 0 0, .string ⟨#[]⟩] (0, 0) _ rfl H3.out.rd Try.underlying39 rfl (by kernel_rfl)) rfl ?_
    exact ⟨rfl, H3.out.below⟩
  · rw [hr]
    go_wp2_with fail
    refine (get_nob w2 v k.i H2.out.nob).mono ?_
    rintro e w3 ⟨rfl, hb3⟩
    have H3 : Hid (Dn w k kv kb rb v w3) := H2.out.on hb3
    clear hb3 H2 r0 r1 rf c0 c1 c2 c3
    go_wp2_with fail
    have hnb : (w3.alloc (.cells #[.slice none 0 0, .string ⟨#[]⟩] 39)).heap[w3.heap.size]? = some (.cells #[.slice none 0 0, .string ⟨#[]⟩] 39 (0, 0)) := heap_alloc_last _ _
    have H4 : Hid (Dn w k kv kb rb v (w3.alloc (.cells #[.slice none 0 0, .string ⟨#[]⟩] 39))) := H3.out.on ((Below.refl _ _).alloc (Nat.le_refl _) _)
    have hne : rb ≠ w3.heap.size := Nat.ne_of_lt (heap_lt H3.out.rd)
    generalize w3.alloc (.cells #[.slice none 0 0, .string ⟨#[]⟩] 39) = w4 at hnb H4 ⊢
    generalize w3.heap.size = nb at hnb hne ⊢
    clear H3
    have c0 : w4.cell? ⟨rb, 0, none⟩ = some (.slice none 0 0) := cell_at H4.out.rd 0
    have c1 : w4.cell? ⟨rb, 1, none⟩ = some (.string ⟨#[]⟩) := cell_at H4.out.rd 1
    have cf : ∀ j, w4.frozen? ⟨rb, j, none⟩ = false := frozen_at H4.out.rd
    have d0 : w4.cell? ⟨nb, 0, none⟩ = some (.slice none 0 0) := cell_at hnb 0
    have d1 : w4.cell? ⟨nb, 1, none⟩ = some (.string ⟨#[]⟩) := cell_at hnb 1
    clear hnb
    go_region
    rw [setCell_id H4.out.rd rfl, setCell_id H4.out.rd rfl]
    have H5 : Hid (Dn w k kv kb rb v w4.drew) := H4.out.on ((Below.refl _ _).drew)
    go_wp2_with fail
    refine bodyPost_ret (results_tmp_cell_tmp Try.results10 _ _ rb 39 #[.slice none 0 0, .string ⟨#[]⟩] (0, 0) _ rfl H5.out.rd Try.underlying39 rfl (by kernel_rfl)) rfl ?_
    exact ⟨rfl, H5.out.below⟩
  · rw [hr]
    go_wp2_with fail
    refine (put_nob w2 v kv k.s H2.out.nob).mono ?_
    rintro e w3 ⟨rfl, hb3⟩
    have H3 : Hid (Dn w k kv kb rb v w3) := H2.out.on hb3
    clear hb3 H2
    clear r0 r1 rf c0 c1 c2 c3
    have c0 : w3.cell? ⟨rb, 0, none⟩ = some (.slice none 0 0) := cell_at H3.out.rd 0
    have c1 : w3.cell? ⟨rb, 1, none⟩ = some (.string ⟨#[]⟩) := cell_at H3.out.rd 1
    have cf : ∀ j, w3.frozen? ⟨rb, j, none⟩ = false := frozen_at H3.out.rd
    go_wp2_with fail
    rw [setCell_id H3.out.rd rfl, setCell_id H3.out.rd rfl]
    refine bodyPost_ret (results_tmp_cell_tmp Try.results10 _ _ rb 39 #[.slice none 0 0, .string ⟨#[]⟩] (0, 0) _ rfl H3.out.rd Try.underlying39 rfl (by kernel_rfl)) rfl ?_
    exact ⟨rfl, H3.out.below⟩
  · rw [hr]
    go_wp2_with fail
    refine (put_nob w2 v kv k.s H2.out.nob).mono ?_
    rintro e w3 ⟨rfl, hb3⟩
    have H3 : Hid (Dn w k kv kb rb v w3) := H2.out.on hb3
    clear hb3 H2
    clear r0 r1 rf c0 c1 c2 c3
    have c0 : w3.cell? ⟨rb, 0, none⟩ = some (.slice none 0 0) := cell_at H3.out.rd 0
    have c1 : w3.cell? ⟨rb, 1, none⟩ = some (.string ⟨#[]⟩) := cell_at H3.out.rd 1
    have cf : ∀ j, w3.frozen? ⟨rb, j, none⟩ = false := frozen_at H3.out.rd
    go_wp2_with fail
    rw [setCell_id H3.out.rd rfl, setCell_id H3.out.rd rfl]
    refine bodyPost_ret (results_tmp_cell_tmp Try.results10 _ _ rb 39 #[.slice none 0 0, .string ⟨#[]⟩] (0, 0) _ rfl H3.out.rd Try.underlying39 rfl (by kernel_rfl)) rfl ?_
    exact ⟨rfl, H3.out.below⟩
  · rw [hr]
    go_wp2_with fail
    refine (put_nob w2 v kv k.s H2.out.nob).mono ?_
    rintro e w3 ⟨rfl, hb3⟩
    have H3 : Hid (Dn w k kv kb rb v w3) := H2.out.on hb3
    clear hb3 H2
    clear r0 r1 rf c0 c1 c2 c3
    have c0 : w3.cell? ⟨rb, 0, none⟩ = some (.slice none 0 0) := cell_at H3.out.rd 0
    have c1 : w3.cell? ⟨rb, 1, none⟩ = some (.string ⟨#[]⟩) := cell_at H3.out.rd 1
    have cf : ∀ j, w3.frozen? ⟨rb, j, none⟩ = false := frozen_at H3.out.rd
    go_wp2_with fail
    rw [setCell_id H3.out.rd rfl, setCell_id H3.out.rd rfl]
    refine bodyPost_ret (results_tmp_cell_tmp Try.results10 _ _ rb 39 #[.slice none 0 0, .string ⟨#[]⟩] (0, 0) _ rfl H3.out.rd Try.underlying39 rfl (by kernel_rfl)) rfl ?_
    exact ⟨rfl, H3.out.below⟩
  · rw [hr]
    go_wp2_with fail
    refine (put_nob w2 v kv k.s H2.out.nob).mono ?_
    rintro e w3 ⟨rfl, hb3⟩
    have H3 : Hid (Dn w k kv kb rb v w3) := H2.out.on hb3
    clear hb3 H2
    clear r0 r1 rf c0 c1 c2 c3
    have c0 : w3.cell? ⟨rb, 0, none⟩ = some (.slice none 0 0) := cell_at H3.out.rd 0
    have c1 : w3.cell? ⟨rb, 1, none⟩ = some (.string ⟨#[]⟩) := cell_at H3.out.rd 1
    have cf : ∀ j, w3.frozen? ⟨rb, j, none⟩ = false := frozen_at H3.out.rd
    go_wp2_with fail
    rw [setCell_id H3.out.rd rfl, setCell_id H3.out.rd rfl]
    refine bodyPost_ret (results_tmp_cell_tmp Try.results10 _ _ rb 39 #[.slice none 0 0, .string ⟨#[]⟩] (0, 0) _ rfl H3.out.rd Try.underlying39 rfl (by kernel_rfl)) rfl ?_
    exact ⟨rfl, H3.out.below⟩
  · rw [hr]
    go_wp2_with fail
    refine (put_nob w2 v kv k.s H2.out.nob).mono ?_
    rintro e w3 ⟨rfl, hb3⟩
    have H3 : Hid (Dn w k kv kb rb v w3) := H2.out.on hb3
    clear hb3 H2
    clear r0 r1 rf c0 c1 c2 c3
    have c0 : w3.cell? ⟨rb, 0, none⟩ = some (.slice none 0 0) := cell_at H3.out.rd 0
    have c1 : w3.cell? ⟨rb, 1, none⟩ = some (.string ⟨#[]⟩) := cell_at H3.out.rd 1
    have cf : ∀ j, w3.frozen? ⟨rb, j, none⟩ = false := frozen_at H3.out.rd
    go_wp2_with fail
    rw [setCell_id H3.out.rd rfl, setCell_id H3.out.rd rfl]
    refine bodyPost_ret (results_tmp_cell_tmp Try.results10 _ _ rb 39 #[.slice none 0 0, .string ⟨#[]⟩] (0, 0) _ rfl H3.out.rd Try.underlying39 rfl (by kernel_rfl)) rfl ?_
    exact ⟨rfl, H3.out.below⟩
theorem open_nil (w : World) : Calls Try.prog 16 #[.pointer none] w fun e w' => e = .returned (.tuple #[.pointer none, .int .i64 200]) ∧ Below w.heap.size w w' := by
  go_enter Try.func16, Try.ntmps16
  go_wp2
  go_ret2
  exact ⟨rfl, Below.refl _ _⟩
theorem format_nil (w : World) (s : ByteArray) : Calls Try.prog 17 #[.pointer none, .string s] w fun e w' => e = .returned (.tuple #[.pointer none, .int .i64 200]) ∧ Below w.heap.size w w' := by
  go_enter Try.func17, Try.ntmps17
  go_wp2
  go_ret2
  exact ⟨rfl, Below.refl _ _⟩
set_option maxHeartbeats 8000000 in
/-- StoreNobody -/
theorem storeNobody_any (w : World) (kv : Value) (k : DoT) (hk : k.fits) (hkv : Ints (· < w.heap.size) w kv k.kids) :
    Calls Try.prog 3 #[.agg #[.int .i64 k.op, .int .i64 k.i, kv, .string k.s]] w fun e w' => e = .returned (.bool true) ∧ Below w.heap.size w w' := by
  obtain ⟨ak, ck, rfl, hlenk, hx⟩ := hkv.form
  clear hx
  have HK : Hid (k.fits ∧ Ints (· < w.heap.size) w (.slice ak k.kids.length ck) k.kids) := ⟨hk, hkv⟩
  have hrg := opn_range k
  clear hk hkv
  go_enter Try.func3, Try.ntmps3
  go_wp2_with fail
  obtain ⟨w0, hw0⟩ : ∃ w0, w0 = (w.alloc (.cells #[.int .i64 k.op, .int .i64 k.i, .slice ak k.kids.length ck, .string k.s] 24)) := ⟨_, rfl⟩
  have hs0 : w0.heap.size = w.heap.size + 1 := by rw [hw0]; simp
  have hb0 : Below w.heap.size w w0 := by rw [hw0]; exact (Below.refl _ _).alloc (Nat.le_refl _) _
  have hc0 : w0.heap[w.heap.size]? = some (.cells #[.int .i64 k.op, .int .i64 k.i, .slice ak k.kids.length ck, .string k.s] 24 (0, 0)) := by rw [hw0]; exact heap_alloc_last _ _
  rw [← hw0, ← hs0]
  clear hw0
  have H0 : Hid (Below w.heap.size w w0 ∧ w0.heap[w.heap.size]? = some (.cells #[.int .i64 k.op, .int .i64 k.i, .slice ak k.kids.length ck, .string k.s] 24 (0, 0)) ∧ w0.heap.size = w.heap.size + 1) := ⟨hb0, hc0, hs0⟩
  clear hb0 hc0 hs0
  have e1 : w0.heap.size + 1 = (w0.alloc (.cells #[.int .i64 k.op, .int .i64 k.i, .slice ak k.kids.length ck, .string k.s] 24)).heap.size := by simp
  rw [e1]
  have hb1 : Below w0.heap.size w0 (w0.alloc (.cells #[.int .i64 k.op, .int .i64 k.i, .slice ak k.kids.length ck, .string k.s] 24)) := (Below.refl _ _).alloc (Nat.le_refl _) _
  have hlaid : Dos (fun _ => True) (w0.alloc (.cells #[.int .i64 k.op, .int .i64 k.i, .slice ak k.kids.length ck, .string k.s] 24)) (.slice (some ⟨w0.heap.size, 0, none⟩) [k].length 1) [k] := by
    refine .inr ⟨w0.heap.size, 0, 1, rfl, trivial, by simp, fun j hj => ?_⟩
    match j, hj with
    | 0, _ =>
      refine ⟨[.int .i64 k.op, .int .i64 k.i, .slice ak k.kids.length ck, .string k.s], rfl, fun q hq => ?_, _, rfl, HK.out.1, Ints.on (Ints.on (HK.out.2.mono (fun _ _ => trivial)) H0.out.1) hb1⟩
      have := cell_at (heap_alloc_last w0 (.cells #[.int .i64 k.op, .int .i64 k.i, .slice ak k.kids.length ck, .string k.s] 24)) (0 + (0 * 4 + q))
      rw [this]
      simp
  refine (short_one _ _ (some ⟨w0.heap.size, 0, none⟩) 1 [k] hlaid).mono ?_
  clear e1 hlaid
  rintro e w1 ⟨x, rfl, _, hb2⟩
  have HB1 : Hid (Below w0.heap.size w0 w1) := hb1.trans (hb2.mono (by simp))
  clear hb1 hb2
  have hgo : x = false ∨ (x = true ∧ 10 < k.opn) ∨ (x = true ∧ k.opn = 8) ∨ (x = true ∧ k.opn ≤ 10 ∧ k.opn ≠ 8) := by
    cases x
    · exact .inl rfl
    · by_cases g1 : 10 < k.opn
      · exact .inr (.inl ⟨rfl, g1⟩)
      · by_cases g2 : k.opn = 8
        · exact .inr (.inr (.inl ⟨rfl, g2⟩))
        · exact .inr (.inr (.inr ⟨rfl, by omega, g2⟩))
  have hcc : w1.heap[w.heap.size]? = some (.cells #[.int .i64 k.op, .int .i64 k.i, .slice ak k.kids.length ck, .string k.s] 24 (0, 0)) := (HB1.out.block _ (by have := H0.out.2.2; omega)).trans H0.out.2.1
  have HC : Hid _ := hcc
  clear hcc
  have aw : ∀ w1, Below w.heap.size w w1 → Calls Try.prog 9 #[] w1 fun e w' => e = .returned (.bool true) ∧ Below w.heap.size w w' := fun w1 h => (awake_any w1).mono (by
    rintro e w9 ⟨rfl, hb9⟩
    exact ⟨rfl, h.trans (hb9.mono h.size)⟩)
  have HW1 : Hid (Below w.heap.size w w1) := H0.out.1.trans (HB1.out.mono H0.out.1.size)
  have HAW : Hid _ := aw
  clear aw
  have q0 : w1.cell? ⟨w.heap.size, 0, none⟩ = some (.int .i64 k.op) := cell_at HC.out 0
  have q1 : w1.cell? ⟨w.heap.size, 1, none⟩ = some (.int .i64 k.i) := cell_at HC.out 1
  have q2 : w1.cell? ⟨w.heap.size, 2, none⟩ = some (.slice ak k.kids.length ck) := cell_at HC.out 2
  have q3 : w1.cell? ⟨w.heap.size, 3, none⟩ = some (.string k.s) := cell_at HC.out 3
  rcases hgo with rfl | ⟨rfl, hgo⟩ | ⟨rfl, hgo⟩ | ⟨rfl, h10, h8⟩
  · go_wp2_with fail
    refine (HAW.out w1 HW1.out).mono ?_
    rintro e w9 ⟨rfl, hb9⟩
    have H9 : Hid _ := hb9
    clear hb9
    go_wp2_with fail
    go_ret
    exact ⟨rfl, H9.out⟩
  · go_wp2_with fail
    refine (op_fn' k _ w1).mono ?_
    rintro e w2 ⟨rfl, hb2⟩
    have H2 : Hid (Below w.heap.size w w2) := HW1.out.trans (hb2.mono HW1.out.size)
    clear hb2
    go_wp2_with fail
    refine (HAW.out w2 H2.out).mono ?_
    rintro e w9 ⟨rfl, hb9⟩
    have H9 : Hid _ := hb9
    clear hb9
    go_wp2_with fail
    go_ret
    exact ⟨rfl, H9.out⟩
  · go_wp2_with fail
    refine (op_fn' k _ w1).mono ?_
    rintro e w2 ⟨rfl, hb2⟩
    have H2 : Hid (Below w.heap.size w w2 ∧ w2.heap[w.heap.size]? = some (.cells #[.int .i64 k.op, .int .i64 k.i, .slice ak k.kids.length ck, .string k.s] 24 (0, 0))) := ⟨HW1.out.trans (hb2.mono HW1.out.size), (hb2.block _ (heap_lt HC.out)).trans HC.out⟩
    clear hb2 q0 q1 q2 q3
    have q0 : w2.cell? ⟨w.heap.size, 0, none⟩ = some (.int .i64 k.op) := cell_at H2.out.2 0
    have q1 : w2.cell? ⟨w.heap.size, 1, none⟩ = some (.int .i64 k.i) := cell_at H2.out.2 1
    have q2 : w2.cell? ⟨w.heap.size, 2, none⟩ = some (.slice ak k.kids.length ck) := cell_at H2.out.2 2
    have q3 : w2.cell? ⟨w.heap.size, 3, none⟩ = some (.string k.s) := cell_at H2.out.2 3
    go_wp2_with fail
    refine (op_fn' k _ w2).mono ?_
    rintro e w3 ⟨rfl, hb3⟩
    have H3 : Hid (Below w.heap.size w w3) := H2.out.1.trans (hb3.mono H2.out.1.size)
    clear hb3
    go_wp2_with fail
    refine (HAW.out w3 H3.out).mono ?_
    rintro e w9 ⟨rfl, hb9⟩
    have H9 : Hid _ := hb9
    clear hb9
    go_wp2_with fail
    go_ret
    exact ⟨rfl, H9.out⟩
  · go_wp2_with fail
    refine (op_fn' k _ w1).mono ?_
    rintro e w2 ⟨rfl, hb2⟩
    have H2 : Hid (Below w.heap.size w w2 ∧ w2.heap[w.heap.size]? = some (.cells #[.int .i64 k.op, .int .i64 k.i, .slice ak k.kids.length ck, .string k.s] 24 (0, 0))) := ⟨HW1.out.trans (hb2.mono HW1.out.size), (hb2.block _ (heap_lt HC.out)).trans HC.out⟩
    clear hb2 q0 q1 q2 q3
    have q0 : w2.cell? ⟨w.heap.size, 0, none⟩ = some (.int .i64 k.op) := cell_at H2.out.2 0
    have q1 : w2.cell? ⟨w.heap.size, 1, none⟩ = some (.int .i64 k.i) := cell_at H2.out.2 1
    have q2 : w2.cell? ⟨w.heap.size, 2, none⟩ = some (.slice ak k.kids.length ck) := cell_at H2.out.2 2
    have q3 : w2.cell? ⟨w.heap.size, 3, none⟩ = some (.string k.s) := cell_at H2.out.2 3
    go_wp2_with fail
    refine (op_fn' k _ w2).mono ?_
    rintro e w3 ⟨rfl, hb3⟩
    have H3 : Hid (Below w.heap.size w w3 ∧ w3.heap[w.heap.size]? = some (.cells #[.int .i64 k.op, .int .i64 k.i, .slice ak k.kids.length ck, .string k.s] 24 (0, 0))) := ⟨H2.out.1.trans (hb3.mono H2.out.1.size), (hb3.block _ (heap_lt H2.out.2)).trans H2.out.2⟩
    clear hb3 q0 q1 q2 q3
    have h8' : (k.opn == 8) = false := by simpa using h8
    go_wp2_with fail
    obtain ⟨w4, hw4⟩ : ∃ w4, w4 = ((w3.alloc (.cells #[.int .i64 0, .int .i64 0, .string ⟨#[]⟩, .pointer none, .map none, .map none] 36)).alloc (.cells #[.pointer none, .pointer (some ⟨w3.heap.size, 0, none⟩)] 29)) := ⟨_, rfl⟩
    have hb4 : Below w3.heap.size w3 w4 := by rw [hw4]; exact ((Below.refl _ _).alloc (Nat.le_refl _) _).alloc (by simp) _
    have hz : w4.heap[w3.heap.size]? = some (.cells #[.int .i64 0, .int .i64 0, .string ⟨#[]⟩, .pointer none, .map none, .map none] 36 (0, 0)) := by
      rw [hw4, heap_alloc_other _ (by simp)]
      exact heap_alloc_last w3 _
    have hl : w4.heap[w3.heap.size + 1]? = some (.cells #[.pointer none, .pointer (some ⟨w3.heap.size, 0, none⟩)] 29 (0, 0)) := by
      rw [hw4]
      have := heap_alloc_last (w3.alloc (.cells #[.int .i64 0, .int .i64 0, .string ⟨#[]⟩, .pointer none, .map none, .map none] 36)) (.cells #[.pointer none, .pointer (some ⟨w3.heap.size, 0, none⟩)] 29)
      simpa using this
    have hN : ∀ j, j < 2 → ∃ p, w4.cell? ⟨w3.heap.size + 1, j, none⟩ = some (.pointer p) ∧ Nob w4 (.pointer p) := by
      intro j hj
      match j, hj with
      | 0, _ => exact ⟨none, cell_at hl 0, .inl rfl⟩
      | 1, _ => exact ⟨some ⟨w3.heap.size, 0, none⟩, cell_at hl 1, .inr ⟨_, rfl, cell_at hz 3⟩⟩
    rw [← hw4]
    clear hw4 hz hl
    have HN : Hid _ := hN
    have H4 : Hid (Below w.heap.size w w4 ∧ w4.heap[w.heap.size]? = some (.cells #[.int .i64 k.op, .int .i64 k.i, .slice ak k.kids.length ck, .string k.s] 24 (0, 0))) := ⟨H3.out.1.trans (hb4.mono H3.out.1.size), (hb4.block _ (heap_lt H3.out.2)).trans H3.out.2⟩
    have HO : Hid (k.opn ≤ 10 ∧ k.opn ≠ 8) := ⟨h10, h8⟩
    clear hN hb4 h10 h8 h8' hrg
    generalize w3.heap.size + 1 = bl at HN ⊢
    go_loopw [38] (fun q wr => ∃ (j : Nat), j ≤ 2 ∧ q = .int .i64 j ∧ Hid (Below w4.heap.size w4 wr)) (fun q _ => 2 - (intOf q).toNat)
    case atStart => exact ⟨0, by omega, rfl, Below.refl _ _⟩
    case round =>
      obtain ⟨j, hj, rfl, hT⟩ := hrel
      have hcr : wr.heap[w.heap.size]? = some (.cells #[.int .i64 k.op, .int .i64 k.i, .slice ak k.kids.length ck, .string k.s] 24 (0, 0)) := (hT.out.block _ (heap_lt H4.out.2)).trans H4.out.2
      have HR : Hid _ := hcr
      clear hcr
      by_cases hlt : j < 2
      · obtain ⟨p, hp, hnob⟩ := HN.out j hlt
        have hp' := cell_on hT.out hp
        have HNB : Hid (Nob wr (.pointer p)) := hnob.on hT.out
        have q0 : wr.cell? ⟨w.heap.size, 0, none⟩ = some (.int .i64 k.op) := cell_at HR.out 0
        have q1 : wr.cell? ⟨w.heap.size, 1, none⟩ = some (.int .i64 k.i) := cell_at HR.out 1
        have q2 : wr.cell? ⟨w.heap.size, 2, none⟩ = some (.slice ak k.kids.length ck) := cell_at HR.out 2
        have q3 : wr.cell? ⟨w.heap.size, 3, none⟩ = some (.string k.s) := cell_at HR.out 3
        clear hp hnob
        go_wp2_with fail
        refine (does_nob wr (.pointer p) k _ HNB.out HO.out.1 HO.out.2).mono ?_
        rintro e w5 ⟨rfl, hb5⟩
        have hb6 : Below wr.heap.size wr (w5.alloc (.cells #[.slice none 0 0, .string ⟨#[]⟩] 39)) := hb5.alloc hb5.size _
        have H6 : Hid (Nob (w5.alloc (.cells #[.slice none 0 0, .string ⟨#[]⟩] 39)) (.pointer p) ∧ Below w4.heap.size w4 (w5.alloc (.cells #[.slice none 0 0, .string ⟨#[]⟩] 39)) ∧ (w5.alloc (.cells #[.slice none 0 0, .string ⟨#[]⟩] 39)).heap[w.heap.size]? = some (.cells #[.int .i64 k.op, .int .i64 k.i, .slice ak k.kids.length ck, .string k.s] 24 (0, 0)) ∧ (w5.alloc (.cells #[.slice none 0 0, .string ⟨#[]⟩] 39)).heap[w5.heap.size]? = some (.cells #[.slice none 0 0, .string ⟨#[]⟩] 39 (0, 0))) := ⟨HNB.out.on hb6, hT.out.trans (hb6.mono hT.out.size), (hb6.block _ (heap_lt HR.out)).trans HR.out, heap_alloc_last _ _⟩
        clear hb5 hb6 q0 q1 q2 q3 hp'
        go_wp2_with fail
        generalize w5.alloc (.cells #[.slice none 0 0, .string ⟨#[]⟩] 39) = w6 at H6 ⊢
        generalize w5.heap.size = xb at H6 ⊢
        refine (root_nob w6 (.pointer p) H6.out.1).mono ?_
        rintro e w7 ⟨rfl, rfl⟩
        have q1 : w6.cell? ⟨w.heap.size, 1, none⟩ = some (.int .i64 k.i) := cell_at H6.out.2.2.1 1
        go_wp2_with fail
        refine (refs_nob w6 (.pointer p) k.i H6.out.1).mono ?_
        rintro e w7 ⟨rfl, rfl⟩
        have x0 : w6.cell? ⟨xb, 0, none⟩ = some (.slice none 0 0) := cell_at H6.out.2.2.2 0
        have x1 : w6.cell? ⟨xb, 1, none⟩ = some (.string ⟨#[]⟩) := cell_at H6.out.2.2.2 1
        go_wp2_with fail
        refine (live_nob w6 (.pointer p) H6.out.1).mono ?_
        rintro e w7 ⟨rfl, rfl⟩
        go_wp2_with fail
        refine (free_nob w6 (.pointer p) H6.out.1).mono ?_
        rintro e w7 ⟨rfl, rfl⟩
        go_wp2_with fail
        refine (sweep_nob w6 (.pointer p) H6.out.1).mono ?_
        rintro e w7 ⟨rfl, rfl⟩
        go_wp2_with fail
        go_roundw
        case rel => exact ⟨j + 1, by omega, by go_num, H6.out.2.1⟩
        case measure => simp [intOf]; omega
      · have HW : Hid (Below w.heap.size w wr) := H4.out.1.trans (hT.out.mono H4.out.1.size)
        go_wp2_with fail
        refine (open_nil wr).mono ?_
        rintro e w5 ⟨rfl, hb5⟩
        have H5 : Hid (Below w.heap.size w w5) := HW.out.trans (hb5.mono HW.out.size)
        clear hb5
        go_wp2_with fail
        refine (format_nil w5 _).mono ?_
        rintro e w6 ⟨rfl, hb6⟩
        have H6 : Hid (Below w.heap.size w w6) := H5.out.trans (hb6.mono H5.out.size)
        clear hb6
        go_wp2_with fail
        refine (HAW.out w6 H6.out).mono ?_
        rintro e w9 ⟨rfl, hb9⟩
        have H9 : Hid _ := hb9
        clear hb9
        go_wp2_with fail
        go_ret
        exact ⟨rfl, H9.out⟩
end Go.Proofs.Ytanpkghdgdkdlaa.Sto
