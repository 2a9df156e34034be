/- TreAwakeP TreAwake TreEqual: several texts of one proof, laid as one file (a claim has at most 60 files). No condition. -/
import Derived.Test.YtadmecjdihfmeaaGreatTG11
import Derived.Test.YtadmecjdihfmeaaGreatTG7
import Derived.Test.YtadmecjdihfmeaaGreatStoFree
import Derived.Laws.StructEq
import Derived.ChangeKeysEq
import Derived.Deep.RegionHeld3
/- Layer 7: the example, in plain Lean. -/
namespace Go.Proofs.YtadmecjdihfmeaaGreat.Tre
set_option linter.unusedVariables false
set_option linter.unusedSimpArgs false
open Go.RowKit Go.Proofs.YtadmecjdihfmeaaGreat.Mem Go.Proofs.YtadmecjdihfmeaaGreat.Oct Go.Proofs.YtadmecjdihfmeaaGreat.Dev Go.Proofs.YtadmecjdihfmeaaGreat.Sto

def kk (i : Nat) : ByteArray := ⟨#[UInt8.ofNat (97 + i)]⟩
def vv (i : Nat) : ByteArray := if i = 0 then ⟨#[49]⟩ else ⟨#[]⟩
def seg (a : Nat) : Nat → List En
  | 0 => []
  | n + 1 => (kk a, vv a) :: seg (a + 1) n
theorem seg_len (n : Nat) : ∀ a, (seg a n).length = n := by
  induction n with
  | zero => intro a; rfl
  | succ n ih => intro a; rw [seg, List.length_cons, ih]
theorem seg_mem (n : Nat) : ∀ a, ∀ x ∈ seg a n, ∃ i, a ≤ i ∧ i < a + n ∧ x.1 = kk i := by
  induction n with
  | zero => intro a x hx; cases hx
  | succ n ih =>
    intro a x hx
    rcases List.mem_cons.1 hx with rfl | hx
    · exact ⟨a, Nat.le_refl _, by omega, rfl⟩
    · obtain ⟨i, h1, h2, h3⟩ := ih (a + 1) x hx
      exact ⟨i, by omega, by omega, h3⟩
theorem kk_bytes : ∀ i < 10, ∀ j < 10, Op.bytesLess [UInt8.ofNat (97 + i)] [UInt8.ofNat (97 + j)] = decide (i < j) := by decide
theorem kk_lt {i j : Nat} (hi : i < 10) (hj : j < 10) : lt (kk i) (kk j) = decide (i < j) := by
  unfold lt
  rw [toList_data, toList_data]
  exact kk_bytes i hi j hj
theorem right_kk (i : Nat) : rightK (kk i) = true := rfl
theorem vv_size (i : Nat) : ¬ 300 < (vv i).size := by
  unfold vv
  split
  · exact (by decide : ¬ 300 < (1 : Nat))
  · exact (by decide : ¬ 300 < (0 : Nat))
theorem put_zero (k v : ByteArray) : DoE.put ⟨0, k, v⟩ = true := by show decide (bits BinOp.and IntKind.i64 0 7 < 5) = true; decide
theorem put_five (k v : ByteArray) : DoE.put ⟨5, k, v⟩ = false := by show decide (bits BinOp.and IntKind.i64 5 7 < 5) = false; decide
theorem seg_snoc (n : Nat) : ∀ a, seg a (n + 1) = seg a n ++ [(kk (a + n), vv (a + n))] := by
  induction n with
  | zero => intro a; rfl
  | succ n ih =>
    intro a
    rw [seg, ih (a + 1)]
    have : a + 1 + n = a + (n + 1) := by omega
    rw [this]
    rfl
theorem put_seg {j : Nat} (hj : j < 10) : alsoE (seg 0 j) true (kk j) (vv j) = (seg 0 (j + 1), 0) := by
  unfold alsoE
  rw [if_neg (by rintro (h | h); rw [right_kk] at h; cases h; exact vv_size j h.2), if_pos rfl]
  unfold putE
  rw [filter_all (fun x hx => by
    obtain ⟨i, h1, h2, h3⟩ := seg_mem j 0 x hx
    rw [h3, kk_lt (by omega) hj]
    simp; omega), filter_none (fun x hx => by
    obtain ⟨i, h1, h2, h3⟩ := seg_mem j 0 x hx
    rw [h3, kk_lt hj (by omega)]
    simp; omega), seg_snoc, Nat.zero_add]
theorem del_seg {a n : Nat} (h : a + n < 10) (v : ByteArray) : alsoE (seg a (n + 1)) false (kk a) v = (seg (a + 1) n, 0) := by
  unfold alsoE
  rw [if_neg (by rintro (h | h); rw [right_kk] at h; cases h; cases h.1), if_neg (by decide)]
  unfold delE
  rw [seg, List.filter_cons, List.filter_cons, kk_lt (i := a) (j := a) (by omega) (by omega)]
  rw [if_neg (by simp), if_neg (by simp), filter_none (fun x hx => by
    obtain ⟨i, h1, h2, h3⟩ := seg_mem n (a + 1) x hx
    rw [h3, kk_lt (by omega) (by omega)]
    simp; omega), filter_all (fun x hx => by
    obtain ⟨i, h1, h2, h3⟩ := seg_mem n (a + 1) x hx
    rw [h3, kk_lt (by omega) (by omega)]
    simp; omega)]
  rfl
theorem get_one : getE (seg 0 1) (kk 0) = some (vv 0) := by
  unfold getE seg
  have : ((kk 0).toList == (kk 0).toList) = true := by simp
  simp [List.find?]
theorem height_one {S : StS} {D : DevS} {root : Int} {es : List En} (h : Tree S D root es) (he : es.length = 1) : heightN S D root = 1 := by
  have h0 : root ≠ 0 := fun h0 => by rw [h.nil h0] at he; cases he
  obtain ⟨nd, hr⟩ := h.node h0
  unfold heightN
  rw [if_neg h0, hr.load]
  dsimp only
  rcases Nat.eq_zero_or_pos nd.level with hl | hl
  · omega
  · have := hr.low hl
    have h4 : 4 ^ 1 ≤ 4 ^ nd.level := Nat.pow_le_pow_right (by decide) hl
    omega
theorem height_two {S : StS} {D : DevS} {root : Int} {es : List En} (h : Tree S D root es) (he : es.length = 9) : heightN S D root = 2 := by
  have h0 : root ≠ 0 := fun h0 => by rw [h.nil h0] at he; cases he
  obtain ⟨nd, hr⟩ := h.node h0
  unfold heightN
  rw [if_neg h0, hr.load]
  dsimp only
  rcases Nat.eq_zero_or_pos nd.level with hl | hl
  · have h1 := hr.ents
    rw [hl] at h1
    have h2 : (entsF S D 0 nd.items).length = nd.items.length := by
      unfold entsF
      induction nd.items with
      | nil => rfl
      | cons x l ih => rw [List.flatMap_cons, List.length_append, ih, itE, List.length_cons, List.length_cons]; simp; omega
    have := hr.nd.len
    rw [h1] at h2
    omega
  · have := hr.low hl
    by_cases hl2 : 2 ≤ nd.level
    · have h4 : 4 ^ 2 ≤ 4 ^ nd.level := Nat.pow_le_pow_right (by decide) hl2
      omega
    · omega
end Go.Proofs.YtadmecjdihfmeaaGreat.Tre

/- Layer 7: the example, walked. -/
namespace Go.Proofs.YtadmecjdihfmeaaGreat.Tre
set_option linter.unusedVariables false
set_option linter.unusedSimpArgs false
set_option maxRecDepth 100000
open Go.RowKit Go.Lib Go.Proofs.YtadmecjdihfmeaaGreat.Mem Go.Proofs.YtadmecjdihfmeaaGreat.Oct Go.Proofs.YtadmecjdihfmeaaGreat.Dev Go.Proofs.YtadmecjdihfmeaaGreat.Sto

/-- a tree in a store that the walk has made, beside other trees -/
def Up (w0 : World) (B : Blk) (n m : Nat) (L : List (Int × List En)) (root : Int) (es : List En) (w : World) : Prop := ∃ S D, Sc w0 B S D w ∧ St n m S D ((root, es) :: L)
theorem Up.on {w0 w w' : World} {B : Blk} {n m : Nat} {L : List (Int × List En)} {root : Int} {es : List En} (h : Up w0 B n m L root es w) (hb : Below w.heap.size w w') : Up w0 B n m L root es w' := by
  obtain ⟨S, D, h1, h2⟩ := h
  exact ⟨S, D, h1.on hb, h2⟩
def UpR (w0 : World) (B : Blk) (n m : Nat) (L : List (Int × List En)) (r : List En × Int) (e : Ending) (w' : World) : Prop :=
  ∃ root', e = .returned (.tuple #[.int .i64 root', .int .i64 r.2]) ∧ Up w0 B n m L root' r.1 w'
theorem Up.step {w0 w : World} {B : Blk} {n m : Nat} {L : List (Int × List En)} {root : Int} {es : List En} (k : DoE) (hn : 8 ≤ n ∧ n ≤ 4096) (hm : m < 1099511627775) (h : Up w0 B n m L root es w) (hes : es.length ≤ 1000) (hfr : sizes ((root, es) :: L) + 52 ≤ n) :
    Calls Tryz.prog 19 #[.pointer (some ⟨B.s, 0, none⟩), .int .i64 root, k.v] w fun e w' => UpR w0 B n (m + 1) L (alsoE es k.put k.key k.val) e w' := by
  obtain ⟨S, D, h1, h2⟩ := h
  refine (step_any w0 w B n m S D root es L k hn hm h1 h2 hes hfr).mono ?_
  rintro e w' ⟨rfl, hs, hc⟩
  exact ⟨_, rfl, ⟨_, _, hs, step_ok' hn hm h2 hes hfr k⟩⟩
theorem Up.height {w0 w : World} {B : Blk} {n m : Nat} {L : List (Int × List En)} {root : Int} {es : List En} (h : Up w0 B n m L root es w) :
    Calls Tryz.prog 14 #[.pointer (some ⟨B.s, 0, none⟩), .int .i64 root] w fun e w' => ∃ S D, Tree S D root es ∧ e = .returned (.tuple #[.int .i64 (heightN S D root), .int .i64 0]) ∧ Below w.heap.size w w' := by
  obtain ⟨S, D, h1, h2⟩ := h
  have ht := h2.trees (root, es) (by simp)
  refine (height_any w B S D root h1.st).mono ?_
  rintro e w' ⟨rfl, hb⟩
  rw [HeightF_ok ht]
  exact ⟨S, D, ht, rfl, hb⟩
theorem Up.get {w0 w : World} {B : Blk} {n m : Nat} {L : List (Int × List En)} {root : Int} {es : List En} (h : Up w0 B n m L root es w) (key : ByteArray) :
    Calls Tryz.prog 21 #[.pointer (some ⟨B.s, 0, none⟩), .int .i64 root, .string key] w fun e w' => e = .returned (.tuple #[.string (valOf (.ok (getE es key))).1, .bool (valOf (.ok (getE es key))).2, .int .i64 0]) ∧ Below w.heap.size w w' := by
  obtain ⟨S, D, h1, h2⟩ := h
  have ht := h2.trees (root, es) (by simp)
  refine (treeGet_any w B S D root key h1.st).mono ?_
  rintro e w' ⟨rfl, hb⟩
  rw [GetF_ok ht]
  exact ⟨rfl, hb⟩
theorem wrap_len {n : Nat} (h : n ≤ 1048576) : IntKind.i64.wrap (n : Int) = n := by rw [IntKind.wrap_i64]; omega
theorem Up.check {w0 w : World} {B : Blk} {n m : Nat} {L : List (Int × List En)} {root : Int} {es : List En} (h : Up w0 B n m L root es w) (hes : es.length ≤ 1048576) :
    Calls Tryz.prog 23 #[.pointer (some ⟨B.s, 0, none⟩), .int .i64 root] w fun e w' => e = .returned (.tuple #[.int .i64 (es.length : Nat), .int .i64 0]) ∧ Below w.heap.size w w' := by
  obtain ⟨S, D, h1, h2⟩ := h
  have ht := h2.trees (root, es) (by simp)
  refine (treeCheck_any w B S D root h1.st).mono ?_
  rintro e w' ⟨rfl, hb⟩
  rw [CheckF_ok ht, wrap_len hes]
  exact ⟨rfl, hb⟩
theorem Up.nil_root {w0 w : World} {B : Blk} {n m : Nat} {L : List (Int × List En)} {root : Int} (h : Up w0 B n m L root [] w) : root = 0 := by
  obtain ⟨S, D, h1, h2⟩ := h
  have ht := h2.trees (root, []) (by simp)
  by_cases h0 : root = 0
  · exact h0
  · obtain ⟨nd, hr⟩ := ht.node h0
    exact absurd rfl hr.ne
theorem St.frees {n m : Nat} (hn : 8 ≤ n ∧ n ≤ 4096) {S : StS} {D : DevS} (h : Run n m S D) : D.n.toNat = n ∧ ∀ i, S.kept i = true → 0 ≤ i ∧ i < D.n := by
  have hd := h.good.dn
  exact ⟨by omega, fun i hi => by have := h.inv.kept i hi; omega⟩
theorem Up.free_nil {w0 w : World} {B : Blk} {n m : Nat} (hn : 8 ≤ n ∧ n ≤ 4096) (h : Up w0 B n m [] 0 [] w) :
    Calls Tryz.prog 29 #[.pointer (some ⟨B.s, 0, none⟩)] w fun e w' => e = .returned (.int .i64 ((n : Int) - 2)) ∧ Below w.heap.size w w' := by
  obtain ⟨S, D, h1, h2⟩ := h
  have hf := St.frees hn h2.run
  refine (storeFree_any w B S D h1.st (by rw [hf.1]; exact h2.run.inv.wf) hf.2).mono ?_
  rintro e w' ⟨rfl, hb⟩
  rw [hf.1, h2.free.2 (by simp)]
  exact ⟨rfl, hb⟩
theorem Up.put {w0 w : World} {B : Blk} {m : Nat} {root : Int} {j : Nat} (h : Up w0 B 64 m [] root (seg 0 j) w) (hm : m < 1000) (hj : j < 10) :
    Calls Tryz.prog 19 #[.pointer (some ⟨B.s, 0, none⟩), .int .i64 root, .agg #[.int .i64 0, .string (kk j), .string (vv j)]] w fun e w' => ∃ root', e = .returned (.tuple #[.int .i64 root', .int .i64 0]) ∧ Up w0 B 64 (m + 1) [] root' (seg 0 (j + 1)) w' := by
  refine (h.step ⟨0, kk j, vv j⟩ (by omega) (by omega) (by rw [seg_len]; omega) (by simp [sizes, seg_len]; omega)).mono ?_
  intro e w' hr
  have e1 : (⟨0, kk j, vv j⟩ : DoE).put = true := put_zero _ _
  rw [e1] at hr
  dsimp only at hr
  rw [put_seg hj] at hr
  exact hr
theorem Up.del {w0 w : World} {B : Blk} {m : Nat} {root : Int} {a n : Nat} (h : Up w0 B 64 m [] root (seg a (n + 1)) w) (hm : m < 1000) (hj : a + n < 10) :
    Calls Tryz.prog 19 #[.pointer (some ⟨B.s, 0, none⟩), .int .i64 root, .agg #[.int .i64 5, .string (kk a), .string ⟨#[]⟩]] w fun e w' => ∃ root', e = .returned (.tuple #[.int .i64 root', .int .i64 0]) ∧ Up w0 B 64 (m + 1) [] root' (seg (a + 1) n) w' := by
  refine (h.step ⟨5, kk a, ⟨#[]⟩⟩ (by omega) (by omega) (by rw [seg_len]; omega) (by simp [sizes, seg_len]; omega)).mono ?_
  intro e w' hr
  have e1 : (⟨5, kk a, ⟨#[]⟩⟩ : DoE).put = false := put_five _ _
  rw [e1] at hr
  dsimp only at hr
  rw [del_seg hj] at hr
  exact hr
theorem Up.put1 {w0 w : World} {B : Blk} {m : Nat} {root : Int} {j : Nat} (h : Up w0 B 64 m [] root (seg 0 (j + 1)) w) (hm : m < 1000) (hj : j < 9) :
    Calls Tryz.prog 19 #[.pointer (some ⟨B.s, 0, none⟩), .int .i64 root, .agg #[.int .i64 0, .string (kk (j + 1)), .string ⟨#[]⟩]] w fun e w' => ∃ root', e = .returned (.tuple #[.int .i64 root', .int .i64 0]) ∧ Up w0 B 64 (m + 1) [] root' (seg 0 (j + 1 + 1)) w' := by
  have e : vv (j + 1) = ⟨#[]⟩ := if_neg (by omega)
  have := Up.put (j := j + 1) h hm (by omega)
  rw [e] at this
  exact this
/-- a byte as a text -/
theorem conv_one (i : Nat) (x : Int) (hi : i < 100) (hx : x = 97 + i) (w : World) :
    (convert 71 9 (.slice (some ⟨w.heap.size, 0, none⟩) 1 1)).run Tryz.prog (w.alloc (.cells #[.int .u8 x] 5)) = .ok (.string (kk i)) (w.alloc (.cells #[.int .u8 x] 5)) := by
  subst hx
  have h := run_convert_bytes_back (P := Tryz.prog) (w.alloc (.cells #[.int .u8 (97 + i)] 5)) 71 9 5 ⟨w.heap.size, 0, none⟩ 1 [UInt8.ofNat (97 + i)] Tryz.underlying71 Tryz.underlying5 Tryz.underlying9 ?_
  · exact h
  · intro j hj
    have hj0 : j = 0 := by simp at hj; omega
    subst hj0
    have e : (⟨w.heap.size, 0, none⟩ : Addr).add 0 = ⟨w.heap.size, 0, none⟩ := by unfold Addr.add; split <;> simp_all
    rw [e, cell_at (heap_alloc_last w _) 0]
    simp
    omega
set_option maxHeartbeats 8000000 in
theorem awake_any (w : World) : Calls Tryz.prog 11 #[] w fun e w' => e = .returned (.bool true) ∧ Below w.heap.size w w' := by
  have h64 : 8 ≤ 64 ∧ 64 ≤ 4096 := by omega
  have HN : Hid (8 ≤ 64 ∧ 64 ≤ 4096) := h64
  clear h64
  go_enter Tryz.func11, Tryz.ntmps11
  go_wp2_with fail
  refine (fresh_any w 64 HN.out).mono ?_
  rintro e w1 ⟨B, D, rfl, hsc, hst⟩
  have H1 : Hid (Up w B 64 0 [] 0 [] w1) := ⟨_, _, hsc, hst⟩
  clear hsc hst
  go_wp2_with fail
  refine (Up.put (j := 0) H1.out (by omega) (by omega)).mono ?_
  rintro e w2 ⟨root, rfl, hu⟩
  have H2 : Hid (Up w B 64 1 [] root (seg 0 1) w2) := hu
  clear hu H1
  go_wp2_with fail
  refine H2.out.height.mono ?_
  rintro e w3 ⟨S, D3, ht, rfl, hb⟩
  rw [height_one ht (seg_len 1 0)]
  have H3 : Hid (Up w B 64 1 [] root (seg 0 1) w3) := H2.out.on hb
  clear hb H2 ht
  go_wp2_with fail
  refine (H3.out.get (kk 0)).mono ?_
  rw [get_one]
  rintro e w4 ⟨rfl, hb⟩
  have H4 : Hid (Up w B 64 1 [] root (seg 0 1) w4) := H3.out.on hb
  clear hb H3
  have hv1 : (valOf (.ok (some (vv 0)))).1 = ⟨#[49]⟩ := rfl
  have hv2 : (valOf (.ok (some (vv 0)))).2 = true := rfl
  rw [hv1, hv2]
  clear hv1 hv2
  go_wp2_with fail
  go_loopw [2, 9, 50] (fun v2 v9 v50 wr => ∃ (j : Nat) (root : Int), j ≤ 8 ∧ v2 = .int .i64 root ∧ v50 = .int .i64 j ∧ Hid (Up w B 64 (j + 1) [] root (seg 0 (j + 1)) wr)) (fun _ _ v50 _ => 8 - (intOf v50).toNat)
  case atStart => exact ⟨0, root, by omega, rfl, rfl, H4⟩
  case round =>
    obtain ⟨j, root, hj, rfl, rfl, HT⟩ := hrel
    by_cases hlt : j < 8
    · have hlt' : (j : Int) < 8 := by omega
      have hconv : ∀ w : World, _ := conv_one (j + 1) (98 + j) (by omega) (by omega)
      go_wp2_with fail
      refine (HT.out.on ((Below.refl _ _).alloc (Nat.le_refl _) _)).put1 (by omega) (by omega) |>.mono ?_
      rintro e w5 ⟨root', rfl, hu⟩
      have H5 : Hid (Up w B 64 (j + 1 + 1) [] root' (seg 0 (j + 1 + 1)) w5) := hu
      clear hu hconv
      go_wp2_with fail
      go_roundw
      case rel => exact ⟨j + 1, root', by omega, rfl, by go_num, H5⟩
      case measure => simp [intOf]; omega
    · have hj8 : j = 8 := by omega
      subst hj8
      go_wp2_with fail
      refine HT.out.height.mono ?_
      rintro e w5 ⟨S, D5, ht, rfl, hb⟩
      rw [height_two ht (seg_len 9 0)]
      have H5 : Hid (Up w B 64 9 [] root (seg 0 9) w5) := HT.out.on hb
      clear hb ht
      go_wp2_with fail
      refine (H5.out.check (by rw [seg_len]; omega)).mono ?_
      rw [seg_len]
      rintro e w6 ⟨rfl, hb⟩
      have H6 : Hid (Up w B 64 9 [] root (seg 0 9) w6) := H5.out.on hb
      clear hb H5
      go_wp2_with fail
      go_loopw [2, 3, 11, 88] (fun v2 v3 v11 v88 wr => ∃ (j : Nat) (root : Int), j ≤ 9 ∧ v2 = .int .i64 root ∧ v88 = .int .i64 j ∧ Hid (Up w B 64 (9 + j) [] root (seg j (9 - j)) wr)) (fun _ _ _ v88 _ => 9 - (intOf v88).toNat)
      case atStart => exact ⟨0, root, by omega, rfl, rfl, H6⟩
      case round =>
        obtain ⟨j, root, hj, rfl, rfl, HT⟩ := hrel
        by_cases hlt : j < 9
        · have hlt' : (j : Int) < 9 := by omega
          have hconv : ∀ w : World, _ := conv_one j (97 + j) (by omega) (by omega)
          have HU : Hid (Up w B 64 (9 + j) [] root (seg j (8 - j + 1)) wr) := by
            have e : 8 - j + 1 = 9 - j := by omega
            rw [e]
            exact HT.out
          go_wp2_with fail
          refine (HU.out.on ((Below.refl _ _).alloc (Nat.le_refl _) _)).del (by omega) (by omega) |>.mono ?_
          rintro e w7 ⟨root', rfl, hu⟩
          have H7 : Hid (Up w B 64 (9 + (j + 1)) [] root' (seg (j + 1) (9 - (j + 1))) w7) := by
            have e : 9 - (j + 1) = 8 - j := by omega
            rw [e]
            exact hu
          clear hu hconv HU HT
          go_wp2_with fail
          go_roundw
          case rel => exact ⟨j + 1, root', by omega, rfl, by go_num, H7⟩
          case measure => simp [intOf]; omega
        · have hj9 : j = 9 := by omega
          subst hj9
          have hr0 : root = 0 := Up.nil_root HT.out
          subst hr0
          go_wp2_with fail
          refine (Up.free_nil HN.out HT.out).mono ?_
          rintro e w7 ⟨rfl, hb⟩
          have H7 : Hid (Below w.heap.size w w7) := by
            obtain ⟨S, D, h1, h2⟩ := HT.out.on hb
            exact h1.below
          clear hb HT
          go_wp2_with fail
          go_ret
          exact ⟨rfl, H7.out⟩
end Go.Proofs.YtadmecjdihfmeaaGreat.Tre

/- Layer 7: slices.Equal at entries: of the same entries it tells true. -/
namespace Go.Proofs.YtadmecjdihfmeaaGreat.Tre
set_option linter.unusedVariables false
set_option linter.unusedSimpArgs false
set_option maxRecDepth 100000
open Go.RowKit Go.Lib Go.Proofs.YtadmecjdihfmeaaGreat.Mem Go.Proofs.YtadmecjdihfmeaaGreat.Oct Go.Proofs.YtadmecjdihfmeaaGreat.Dev Go.Proofs.YtadmecjdihfmeaaGreat.Sto

theorem run_neq_ent (w : World) (a b : ByteArray) : (binOp .neq 41 (.agg #[.string a, .string b]) (.agg #[.string a, .string b])).run Tryz.prog w = .ok (.bool false) w := by
  go_simp
/-- two rows of the same entries -/
def SameRow (w : World) (a b : Option Addr) (n : Nat) : Prop := n ≤ 9223372036854775807 ∧ ∀ j, j < n → ∃ (ba oa bb ob : Nat) (s t : ByteArray), a = some ⟨ba, oa, none⟩ ∧ b = some ⟨bb, ob, none⟩ ∧
  w.cell? ⟨ba, oa + j * 2, none⟩ = some (.string s) ∧ w.cell? ⟨ba, oa + j * 2 + 1, none⟩ = some (.string t) ∧ w.cell? ⟨bb, ob + j * 2, none⟩ = some (.string s) ∧ w.cell? ⟨bb, ob + j * 2 + 1, none⟩ = some (.string t)
set_option maxHeartbeats 4000000 in
theorem equal_row (w : World) (a b : Option Addr) (n ca cb : Nat) (h : SameRow w a b n) : Calls Tryz.prog 18 #[.slice a n ca, .slice b n cb] w fun e w' => e = .returned (.bool true) ∧ Below w.heap.size w w' := by
  have H : Hid (SameRow w a b n) := h
  have hm := h.1
  clear h
  go_enter Tryz.func18, Tryz.ntmps18
  go_wp2
  go_loopw [13, 5, 14, 15, 16, 17, 18, 19, 20, 21, 22, 23, 24, 25] (fun i _ _ _ _ _ _ _ _ _ _ _ _ _ wr => ∃ j : Nat, j ≤ n ∧ i = .int .i64 j ∧ Hid (Below w.heap.size w wr)) (fun i _ _ _ _ _ _ _ _ _ _ _ _ _ _ => n - (intOf i).toNat)
  case atStart => exact ⟨0, by omega, rfl, Below.refl _ _⟩
  case round =>
    obtain ⟨j, hj, rfl, hT⟩ := hrel
    by_cases hlt : j < n
    · obtain ⟨ba, oa, bb, ob, s, t, rfl, rfl, h1, h2, h3, h4⟩ := H.out.2 j hlt
      have hb : Below w.heap.size w wr := hT.out
      have h1' : wr.cell? ⟨ba, oa + j * 2, none⟩ = some (.string s) := (hb.cell (World.block_lt_of_cell? w _ h1)).trans h1
      have h2' : wr.cell? ⟨ba, oa + j * 2 + 1, none⟩ = some (.string t) := (hb.cell (World.block_lt_of_cell? w _ h2)).trans h2
      have h3' : wr.cell? ⟨bb, ob + j * 2, none⟩ = some (.string s) := (hb.cell (World.block_lt_of_cell? w _ h3)).trans h3
      have h4' : wr.cell? ⟨bb, ob + j * 2 + 1, none⟩ = some (.string t) := (hb.cell (World.block_lt_of_cell? w _ h4)).trans h4
      clear h1 h2 h3 h4 hb
      go_wp2_with fail
      go_quiet (fail)
      go_wp2
      go_roundw
      case rel => exact ⟨j + 1, by omega, by go_num, hT.out.trans (Joins.below_draws _ _ _)⟩
      case measure => simp [intOf]; omega
    · go_wp2
      go_ret
      exact ⟨rfl, hT.out⟩
end Go.Proofs.YtadmecjdihfmeaaGreat.Tre

