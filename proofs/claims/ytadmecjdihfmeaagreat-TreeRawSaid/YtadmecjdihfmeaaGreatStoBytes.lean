/- Layer 6: a beginning, a block as bytes. -/
import Derived.Test.YtadmecjdihfmeaaGreatSto
import Derived.Lib.SlBytesConst
namespace Go.Proofs.YtadmecjdihfmeaaGreat.Sto
set_option linter.unusedVariables false
set_option linter.unusedSimpArgs false
set_option maxRecDepth 100000
open Go.RowKit Go.Lib Go.Proofs.YtadmecjdihfmeaaGreat.Mem Go.Proofs.YtadmecjdihfmeaaGreat.Oct Go.Proofs.YtadmecjdihfmeaaGreat.Dev

def textL (s : ByteArray) : List UInt8 := be 2 s.size ++ s.data.toList
def superL (gen root n : Nat) (note : ByteArray) : List UInt8 := 83 :: (be 6 gen ++ (be 4 root ++ (be 4 n ++ (be 2 note.size ++ note.data.toList))))
def superB (gen root n : Nat) (note : ByteArray) : ByteArray := ⟨(Crc.seal_ (superL gen root n note)).toArray⟩
theorem superL_len (gen root n : Nat) (note : ByteArray) (hn : note.size ≤ 65535) : (superL gen root n note).length ≤ 140737488351232 := by
  simp [superL, be_length]; omega
theorem size_of (b : ByteArray) (l : List UInt8) (hb : b = ⟨l.toArray⟩) (hl : l.length ≤ 140737488351232) : b.size ≤ 140737488351232 := by
  subst hb
  show l.toArray.size ≤ _
  simpa using hl
set_option maxHeartbeats 4000000 in
theorem bytes_any (gen root n : Nat) (note : ByteArray) (w : World) (h1 : gen < 9223372036854775808) (h2 : root < 9223372036854775808) (h3 : n < 9223372036854775808) (hn : note.size ≤ 65535) :
    Calls Tryz.prog 66 #[.agg #[.int .i64 gen, .int .i64 root, .string note], .int .i64 n] w fun e w' => e = .returned (.string (superB gen root n note)) ∧ Below w.heap.size w w' := by
  go_enter Tryz.func66, Tryz.ntmps66
  go_wp2_with fail
  have hbox : (w.alloc (.cells #[.int .i64 gen, .int .i64 root, .string note] 93)).heap[w.heap.size]? = some (.cells #[.int .i64 gen, .int .i64 root, .string note] 93 (0, 0)) := heap_alloc_last _ _
  have hb : Below w.heap.size w (w.alloc (.cells #[.int .i64 gen, .int .i64 root, .string note] 93)) := (Below.refl _ _).alloc (Nat.le_refl _) _
  generalize w.alloc (.cells #[.int .i64 gen, .int .i64 root, .string note] 93) = w1 at hbox hb ⊢
  have A0 : Hid (w1.drew.heap[w.heap.size]? = some (.cells #[.int .i64 gen, .int .i64 root, .string note] 93 (0, 0)) ∧ Below w.heap.size w w1.drew) := ⟨hbox, hb.drew⟩
  clear hbox hb
  have hc : ∀ w' : World, w'.heap[w.heap.size]? = some (.cells #[.int .i64 gen, .int .i64 root, .string note] 93 (0, 0)) → w'.cell? ⟨w.heap.size, 0, none⟩ = some (.int .i64 gen) ∧ w'.cell? ⟨w.heap.size, 1, none⟩ = some (.int .i64 root) := fun w' h => ⟨cell_at h 0, cell_at h 1⟩
  have HC : Hid (∀ w' : World, w'.heap[w.heap.size]? = some (.cells #[.int .i64 gen, .int .i64 root, .string note] 93 (0, 0)) → w'.cell? ⟨w.heap.size, 0, none⟩ = some (.int .i64 gen) ∧ w'.cell? ⟨w.heap.size, 1, none⟩ = some (.int .i64 root)) := hc
  clear hc
  have A1 : Hid ((w1.drew.alloc (.cells #[.int .u8 83] 5)).heap[w.heap.size]? = some (.cells #[.int .i64 gen, .int .i64 root, .string note] 93 (0, 0)) ∧ Below w.heap.size w (w1.drew.alloc (.cells #[.int .u8 83] 5))) := ⟨(heap_alloc_other _ (heap_lt A0.out.1)).trans A0.out.1, A0.out.2.alloc A0.out.2.size _⟩
  have hcv := run_convert_bytes_const (P := Tryz.prog) w1.drew 71 5 #[.int .u8 83] 1 1 Tryz.underlying71 Tryz.underlying5
  rw [World.size_drew] at hcv
  replace hcv : (convert 71 71 (.slice (some ⟨w1.heap.size, 0, none⟩) 1 1)).run Tryz.prog (w1.alloc (.cells #[.int .u8 83] 5)).drew = .ok (.slice (some ⟨w1.heap.size, 0, none⟩) 1 1) (w1.alloc (.cells #[.int .u8 83] 5 (1, 2))).drew := hcv
  have A1m : Hid ((w1.alloc (.cells #[.int .u8 83] 5 (1, 2))).drew.heap[w.heap.size]? = some (.cells #[.int .i64 gen, .int .i64 root, .string note] 93 (0, 0)) ∧ Below w.heap.size w (w1.alloc (.cells #[.int .u8 83] 5 (1, 2))).drew) := ⟨(heap_alloc_other _ (heap_lt A0.out.1)).trans A0.out.1, A0.out.2.alloc A0.out.2.size _⟩
  have HU : Hid (U8s (w1.alloc (.cells #[.int .u8 83] 5 (1, 2))).drew.heap.size (w1.alloc (.cells #[.int .u8 83] 5 (1, 2))).drew (.slice (some ⟨w1.heap.size, 0, none⟩) 1 1) [83]) := by
    refine .inr ⟨_, 0, 1, rfl, by simp, fun j u hj => ?_⟩
    match j, hj with
    | 0, hj =>
      simp at hj
      subst hj
      have := cell_at (heap_alloc_last w1.drew (.cells #[.int .u8 83] 5 (1, 2))) 0
      rw [World.size_drew] at this
      exact this
  -- REGION
  have hS0 : (fun w' : World => w'.cell? ⟨w.heap.size, 0, none⟩ = some (.int .i64 gen) ∧ w'.cell? ⟨w.heap.size, 1, none⟩ = some (.int .i64 root)) w1.drew := HC.out _ A0.out.1
  have hS1 : (fun w' : World => w'.cell? ⟨w.heap.size, 0, none⟩ = some (.int .i64 gen) ∧ w'.cell? ⟨w.heap.size, 1, none⟩ = some (.int .i64 root)) (w1.drew.alloc (.cells #[.int .u8 83] 5)) := HC.out _ A1.out.1
  refine wp_region_held_drew (S := (fun w' : World => w'.cell? ⟨w.heap.size, 0, none⟩ = some (.int .i64 gen) ∧ w'.cell? ⟨w.heap.size, 1, none⟩ = some (.int .i64 root))) (by kernel_rfl) hS0 (fun hHeld => ?_)
  clear hHeld
  refine Pair.take (i := 2) (fuel := 10) (d := 8) (v := ?_) (by kernel_rfl) rfl rfl (by kernel_rfl) (by kernel_rfl) (by kernel_rfl) (fun _ _ _ h => h) (Or.inl ⟨by rfl, ?_⟩) hS0 ?_
  rotate_left 1
  · (intro w' hSw; obtain ⟨f0, f1⟩ := hSw; go_simp; try with_reducible rfl)
  try simp only [Act.put, List.setIfInBounds_toArray, List.set_cons_zero, List.set_cons_succ]
  refine Pair.take (i := 3) (fuel := 9) (d := 9) (v := ?_) (by kernel_rfl) rfl rfl (by kernel_rfl) (by kernel_rfl) (by kernel_rfl) (fun _ _ _ h => h) (Or.inl ⟨by rfl, ?_⟩) hS0 ?_
  rotate_left 1
  · (intro w' hSw; obtain ⟨f0, f1⟩ := hSw; go_simp; try with_reducible rfl)
  try simp only [Act.put, List.setIfInBounds_toArray, List.set_cons_zero, List.set_cons_succ]
  refine Pair.take (i := 5) (fuel := 8) (d := 11) (v := ?_) (by kernel_rfl) rfl rfl (by kernel_rfl) (by kernel_rfl) (by kernel_rfl) (fun _ _ _ h => h) (Or.inl ⟨by rfl, ?_⟩) hS0 ?_
  rotate_left 1
  · (intro w' hSw; obtain ⟨f0, f1⟩ := hSw; go_simp; try with_reducible rfl)
  try simp only [Act.put, List.setIfInBounds_toArray, List.set_cons_zero, List.set_cons_succ]
  refine Pair.take (i := 6) (fuel := 7) (d := 12) (v := ?_) (by kernel_rfl) rfl rfl (by kernel_rfl) (by kernel_rfl) (by kernel_rfl) (fun _ _ _ h => h) (Or.inl ⟨by rfl, ?_⟩) hS0 ?_
  rotate_left 1
  · (intro w' hSw; obtain ⟨f0, f1⟩ := hSw; go_simp; try with_reducible rfl)
  try simp only [Act.put, List.setIfInBounds_toArray, List.set_cons_zero, List.set_cons_succ]
  refine Pair.take (i := 8) (fuel := 6) (d := 14) (v := ?_) (by kernel_rfl) rfl rfl (by kernel_rfl) (by kernel_rfl) (by kernel_rfl) (fun _ _ _ h => h) (Or.inl ⟨by rfl, ?_⟩) hS0 ?_
  rotate_left 1
  · (intro w' hSw; obtain ⟨f0, f1⟩ := hSw; go_simp; try with_reducible rfl)
  try simp only [Act.put, List.setIfInBounds_toArray, List.set_cons_zero, List.set_cons_succ]
  refine Pair.call1 (i := 0) (fuel := 5) (by kernel_rfl) rfl (by kernel_rfl) (fun K hK => ?_)
  go_simp
  refine hK.out _ _ hS1 (fun hHeld => ?_)
  clear hHeld hK K
  try simp only [Act.put, List.setIfInBounds_toArray, List.set_cons_zero, List.set_cons_succ]
  refine Pair.call1 (i := 1) (fuel := 4) (by kernel_rfl) rfl (by kernel_rfl) (fun K hK => ?_)
  go_simp
  refine hK.out _ _ (HC.out _ A1m.out.1) (fun hHeld => ?_)
  clear hHeld hK K
  try simp only [Act.put, List.setIfInBounds_toArray, List.set_cons_zero, List.set_cons_succ]
  refine Pair.call1 (i := 4) (fuel := 3) (by kernel_rfl) rfl (by kernel_rfl) (fun K hK => ?_)
  go_simp
  go_at_call 85
  refine (put_k 6 _ 6 gen rfl rfl _ ([83]) _ HU.out (by omega) (by omega) h1 (by simp [be_length])).mono ?_
  rintro e w2 ⟨v2, rfl, ho, hb⟩
  have A2 : Hid (w2.heap[w.heap.size]? = some (.cells #[.int .i64 gen, .int .i64 root, .string note] 93 (0, 0)) ∧ Below w.heap.size w w2 ∧ U8s w2.heap.size w2 v2 ([83] ++ be 6 gen)) := ⟨(hb.block _ (heap_lt A1m.out.1)).trans A1m.out.1, A1m.out.2.trans (hb.mono A1m.out.2.size), ho.u8s⟩
  clear ho hb
  refine hK.out _ _ (HC.out _ A2.out.1) (fun hHeld => ?_)
  clear hHeld hK K
  try simp only [Act.put, List.setIfInBounds_toArray, List.set_cons_zero, List.set_cons_succ]
  refine Pair.call1 (i := 7) (fuel := 2) (by kernel_rfl) rfl (by kernel_rfl) (fun K hK => ?_)
  go_simp
  go_at_call 85
  refine (put_k 4 _ 4 root rfl rfl v2 ([83] ++ be 6 gen) _ A2.out.2.2 (by omega) (by omega) h2 (by simp [be_length])).mono ?_
  rintro e w3 ⟨v3, rfl, ho, hb⟩
  have A3 : Hid (w3.heap[w.heap.size]? = some (.cells #[.int .i64 gen, .int .i64 root, .string note] 93 (0, 0)) ∧ Below w.heap.size w w3 ∧ U8s w3.heap.size w3 v3 ([83] ++ be 6 gen ++ be 4 root)) := ⟨(hb.block _ (heap_lt A2.out.1)).trans A2.out.1, A2.out.2.1.trans (hb.mono A2.out.2.1.size), ho.u8s⟩
  clear ho hb
  refine hK.out _ _ (HC.out _ A3.out.1) (fun hHeld => ?_)
  clear hHeld hK K
  try simp only [Act.put, List.setIfInBounds_toArray, List.set_cons_zero, List.set_cons_succ]
  refine Pair.call1 (i := 9) (fuel := 1) (by kernel_rfl) rfl (by kernel_rfl) (fun K hK => ?_)
  go_simp
  go_at_call 85
  refine (put_k 4 _ 4 n rfl rfl v3 ([83] ++ be 6 gen ++ be 4 root) _ A3.out.2.2 (by omega) (by omega) h3 (by simp [be_length])).mono ?_
  rintro e w4 ⟨v4, rfl, ho, hb⟩
  have A4 : Hid (w4.heap[w.heap.size]? = some (.cells #[.int .i64 gen, .int .i64 root, .string note] 93 (0, 0)) ∧ Below w.heap.size w w4 ∧ U8s w4.heap.size w4 v4 ([83] ++ be 6 gen ++ be 4 root ++ be 4 n)) := ⟨(hb.block _ (heap_lt A3.out.1)).trans A3.out.1, A3.out.2.1.trans (hb.mono A3.out.2.1.size), ho.u8s⟩
  clear ho hb
  refine hK.out _ _ (HC.out _ A4.out.1) (fun hHeld => ?_)
  clear hHeld hK K
  try simp only [Act.put, List.setIfInBounds_toArray, List.set_cons_zero, List.set_cons_succ]
  refine Pair.take (i := 10) (fuel := 0) (d := 5) (v := ?_) (by kernel_rfl) rfl rfl (by kernel_rfl) (by kernel_rfl) (by kernel_rfl) (fun _ _ _ h => h) (Or.inl ⟨by rfl, ?_⟩) (HC.out _ A4.out.1) ?_
  rotate_left 1
  · (intro w' hSw; obtain ⟨f0, f1⟩ := hSw; go_simp; try with_reducible rfl)
  try simp only [Act.put, List.setIfInBounds_toArray, List.set_cons_zero, List.set_cons_succ]
  refine wpAnyH_done (by kernel_rfl) ?_ _
  -- REST
  have e2 : w4.cell? ⟨w.heap.size, 2, none⟩ = some (.string note) := cell_at A4.out.1 2
  have hl4 : ([83] ++ be 6 gen ++ be 4 root ++ be 4 n).length ≤ 70368744177664 := by simp [be_length]
  have A5 : Hid (Below w.heap.size w w4 ∧ U8s w4.heap.size w4 v4 ([83] ++ be 6 gen ++ be 4 root ++ be 4 n)) := A4.out.2
  clear A4 A3 A2 A1 A1m A0 HU hS0 hS1 HC hcv
  go_wp2_with (first
    | (go_at_call 87; refine (puttext_any v4 ([83] ++ be 6 gen ++ be 4 root ++ be 4 n) note _ A5.out.2 hn hl4).mono ?_; rintro e w5 ⟨v5, rfl, ho, hb⟩; have hcv := ho.u8s.conv; have A6 : Hid (Below w.heap.size w w5) := A5.out.1.trans (hb.mono A5.out.1.size); clear ho hb)
    | (go_at_call 86; refine (Crc.seal_any _ _ (size_of _ (superL gen root n note) rfl (superL_len gen root n note hn))).mono ?_; rintro e w6 ⟨rfl, hb⟩; have A7 : Hid (Below w.heap.size w w6) := A6.out.trans (hb.mono A6.out.size); clear hb)
    | fail)
  go_ret
  exact ⟨rfl, A7.out⟩
def kidsL (l : List Int) : List UInt8 := l.flatMap fun k => be 4 k.toNat
theorem kidsL_len (l : List Int) : (kidsL l).length = 4 * l.length := by
  induction l with
  | nil => rfl
  | cons k l ih => simp only [kidsL, List.flatMap_cons, List.length_append, be_length, List.length_cons] at ih ⊢; omega
theorem kidsL_snoc (l : List Int) (k : Int) : kidsL (l ++ [k]) = kidsL l ++ be 4 k.toNat := by simp [kidsL]
def blockL (kids : List Int) (data : ByteArray) : List UInt8 := be 1 kids.length ++ (kidsL kids ++ (be 2 data.size ++ data.data.toList))
def blockB (kids : List Int) (data : ByteArray) : ByteArray := ⟨(Crc.seal_ (blockL kids data)).toArray⟩
theorem blockL_len (kids : List Int) (data : ByteArray) (hk : kids.length ≤ 1048576) (hn : data.size ≤ 65535) : (blockL kids data).length ≤ 140737488351232 := by
  simp [blockL, be_length, kidsL_len]; omega
set_option maxHeartbeats 4000000 in
theorem put_any (v : Value) (l : List Int) (data : ByteArray) (w : World) (h : Ints (· < w.heap.size) w v l) (hl : l.length ≤ 16) (hk : ∀ k ∈ l, 0 ≤ k ∧ k < 9223372036854775808) (hn : data.size ≤ 65535) :
    Calls Tryz.prog 62 #[v, .string data] w fun e w' => e = .returned (.string (blockB l data)) ∧ Below w.heap.size w w' := by
  obtain ⟨a, c, rfl, _, hcell⟩ := h.form
  have H : Hid (Ints (· < w.heap.size) w (.slice a l.length c) l) := h
  clear h hcell
  go_enter Tryz.func62, Tryz.ntmps62
  go_wp2_with (first
    | (go_at_call 85; refine (put_k 1 _ 1 l.length rfl rfl _ [] _ (U8s.nil _ _) (by omega) (by omega) (by omega) (by simp)).mono ?_; rintro e w1 ⟨v1, rfl, ho, hb⟩; have A1 : Hid (Below w.heap.size w w1 ∧ U8s w1.heap.size w1 v1 (be 1 l.length)) := ⟨hb, by have := ho.u8s; rw [List.nil_append] at this; exact this⟩; clear ho hb)
    | fail)
  go_loopw [5, 13] (fun u i wr => ∃ j : Nat, j ≤ l.length ∧ i = .int .i64 j ∧ Hid (Below w.heap.size w wr ∧ U8s wr.heap.size wr u (be 1 l.length ++ kidsL (l.take j)))) (fun _ i _ => l.length - (intOf i).toNat)
  case atStart => exact ⟨0, by omega, rfl, A1.out.1, by have := A1.out.2; simpa [kidsL] using this⟩
  case round =>
    obtain ⟨j, hj, rfl, HT⟩ := hrel
    by_cases hlt : j < l.length
    · obtain ⟨x, hx⟩ : ∃ x : Nat, l[j] = (x : Int) := ⟨l[j].toNat, by have := hk l[j] (List.getElem_mem hlt); omega⟩
      have hx2 : x < 9223372036854775808 := by have := hk l[j] (List.getElem_mem hlt); omega
      have HI := (Ints.below H.out HT.out.1).form
      obtain ⟨a', c', e', _, hcell⟩ := HI
      obtain ⟨b, o, ha, hc⟩ := hcell j hlt
      have haa : a = a' := by injection e'
      subst haa
      subst ha
      rw [hx] at hc
      have hsn : Hid (be 1 l.length ++ kidsL (l.take (j + 1)) = be 1 l.length ++ kidsL (l.take j) ++ be 4 x) := by
        rw [List.take_succ_eq_append_getElem hlt, kidsL_snoc, hx, List.append_assoc]
        exact rfl
      have hlen : (be 1 l.length ++ kidsL (l.take j)).length ≤ 70368744177664 := by
        simp [be_length, kidsL_len]; omega
      have HL : Hid _ := hlen
      clear e' hx hlen
      go_wp2_with (first
        | (go_at_call 85; refine (put_k 4 _ 4 x rfl rfl _ _ _ HT.out.2 (by omega) (by omega) hx2 HL.out).mono ?_; rintro e w2 ⟨v2, rfl, ho, hb⟩; have A2 : Hid (Below w.heap.size w w2 ∧ U8s w2.heap.size w2 v2 (be 1 l.length ++ kidsL (l.take j) ++ be 4 x)) := ⟨HT.out.1.trans (hb.mono HT.out.1.size), ho.u8s⟩; clear ho hb)
        | fail)
      go_roundw
      case rel => exact ⟨j + 1, by omega, by go_num, A2.out.1, by rw [hsn.out]; exact A2.out.2⟩
      case measure => simp [intOf]; omega
    · have hjl : j = l.length := by omega
      subst hjl
      have A3 : Hid (Below w.heap.size w wr ∧ U8s wr.heap.size wr u5 (be 1 l.length ++ kidsL l)) := ⟨HT.out.1, by have := HT.out.2; rw [List.take_length] at this; exact this⟩
      have hlen : (be 1 l.length ++ kidsL l).length ≤ 70368744177664 := by simp [be_length, kidsL_len]; omega
      have HL : Hid _ := hlen
      clear HT hlen
      go_wp2_with (first
        | (go_at_call 87; refine (puttext_any _ (be 1 l.length ++ kidsL l) data _ A3.out.2 hn HL.out).mono ?_; rintro e w5 ⟨v5, rfl, ho, hb⟩; have hcv := ho.u8s.conv; have A6 : Hid (Below w.heap.size w w5) := A3.out.1.trans (hb.mono A3.out.1.size); clear ho hb)
        | (go_at_call 86; refine (Crc.seal_any _ _ (size_of _ (blockL l data) (by simp [blockL]) (blockL_len l data (by omega) hn))).mono ?_; rintro e w6 ⟨rfl, hb⟩; have A7 : Hid (Below w.heap.size w w6) := A6.out.trans (hb.mono A6.out.size); clear hb)
        | fail)
      go_ret
      refine ⟨?_, A7.out⟩
      first | rfl | (simp [blockB, blockL])
end Go.Proofs.YtadmecjdihfmeaaGreat.Sto
