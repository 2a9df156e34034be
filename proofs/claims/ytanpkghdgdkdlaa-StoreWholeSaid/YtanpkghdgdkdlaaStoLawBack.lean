/- StoreBack, walked. -/
import Derived.Test.YtanpkghdgdkdlaaStoSame
namespace Go.Proofs.Ytanpkghdgdkdlaa.Sto
set_option linter.unusedVariables false
set_option linter.unusedSimpArgs false
set_option maxRecDepth 100000
open Go.RowKit Go.Lib Go.Proofs.Ytanpkghdgdkdlaa.Mem Go.Proofs.Ytanpkghdgdkdlaa.Oct Go.Proofs.Ytanpkghdgdkdlaa.Dev

/-- a store, some acts on -/
def Lp (w0 : World) (n s d j : Nat) (w : World) : Prop := ∃ B S D, B.s = s ∧ B.d = d ∧ Sc w0 B S D w ∧ Run n j S D
theorem Lp.on {w0 w w' : World} {n s d j : Nat} (h : Lp w0 n s d j w) (hb : Below w.heap.size w w') : Lp w0 n s d j w' := by
  obtain ⟨B, S, D, h1, h2, h3, h4⟩ := h
  exact ⟨B, S, D, h1, h2, h3.on hb, h4⟩
theorem Lp.below {w0 w : World} {n s d j : Nat} (h : Lp w0 n s d j w) : Below w0.heap.size w0 w := by
  obtain ⟨B, S, D, h1, h2, h3, h4⟩ := h
  exact h3.below
theorem Lp.more {w0 w : World} {n s d j : Nat} (h : Lp w0 n s d j w) : Lp w0 n s d (j + 1) w := by
  obtain ⟨B, S, D, h1, h2, h3, h4⟩ := h
  exact ⟨B, S, D, h1, h2, h3, h4.good, h4.inv.more (by omega), h4.pow⟩
/-- one round of a script -/
theorem Lp.does {w0 w : World} {n s d j : Nat} (h : Lp w0 n s d j w) (hn : 8 ≤ n ∧ n ≤ 4096) (hj : j < 1099511627776) {k : DoT} {kv : Value} (hk : k.fits) (hv : Ints (· < w0.heap.size) w kv k.kids) (h11 : k.opn < 11) :
    Calls Try.prog 10 #[.pointer (some ⟨s, 0, none⟩), .pointer (some ⟨d, 0, none⟩), .agg #[.int .i64 k.op, .int .i64 k.i, kv, .string k.s]] w fun e w' => ∃ v, e = .returned v ∧ Lp w0 n s d (j + 1) w' := by
  obtain ⟨B, S, D, rfl, rfl, h3, h4⟩ := h
  refine (does_any w B S D n j k kv h3.st h4.inv h4.good.dn hj hn.2 hk (hv.mono (fun q hq hm => by have := h3.base q hm; omega)) (by omega)).mono ?_
  rintro e w' ⟨B', a, m, c, dd, hnx, rfl, _, hs, hc⟩
  exact ⟨_, rfl, B', _, _, hnx.s, hnx.d, h3.turn hnx hs hc, h4.does hn hj h11⟩
theorem size_nat (n : Int) : ∃ N : Nat, sizeOf n = N ∧ 8 ≤ N ∧ N ≤ 40 := ⟨(sizeOf n).toNat, by have := sizeOf_range n; omega, by have := sizeOf_range n; omega, by have := sizeOf_range n; omega⟩
theorem op_fn' (k : DoT) (kv : Value) (w : World) : Calls Try.prog 8 #[.agg #[.int .i64 k.op, .int .i64 k.i, kv, .string k.s]] w fun e w' => e = .returned (.int .i64 k.opn) ∧ Below w.heap.size w w' := op_fn k kv w
theorem short_one (p : Nat → Prop) (w : World) (a : Option Addr) (c : Nat) (l : List DoT) (h : Dos p w (.slice a l.length c) l) :
    Calls Try.prog 7 #[.slice (some ⟨w.heap.size, 0, none⟩) 1 1] (w.alloc (.cells #[.slice a l.length c] 26)) fun e w' => ∃ x, e = .returned (.bool x) ∧ (x = true → l.length ≤ 60) ∧ Below w.heap.size w w' := by
  have hb : Below w.heap.size w (w.alloc (.cells #[.slice a l.length c] 26)) := (Below.refl _ _).alloc (Nat.le_refl _) _
  refine (short_any _ w.heap.size 1 1 (fun _ => l.length) (by decide) (fun i hi => ?_)).mono ?_
  · have : i = 0 := by omega
    subst this
    exact ⟨a, c, cell_at (heap_alloc_last w _) 0, (h.on hb).rd⟩
  · rintro e w' ⟨x, rfl, hx, hb2⟩
    exact ⟨x, rfl, fun ht => hx ht 0 (by omega), hb.trans (hb2.mono hb.size)⟩
/-- the pure law -/
theorem put_back {n m : Nat} {S : StS} {D : DevS} (h : Run n m S D) (hn : 8 ≤ n ∧ n ≤ 4096) (kids : List Int) (data : ByteArray) :
    ((putOut S D kids data).2.1 ≠ 0 ∧ (putOut S D kids data).1 = 0 ∧ (putOut S D kids data).2.2.1 = S ∧ ((putOut S D kids data).2.1 = 28 → S.freeN n = 0)) ∨
    ((putOut S D kids data).2.1 = 0 ∧ (putOut S D kids data).2.2.1.getR (putOut S D kids data).2.2.2 (putOut S D kids data).1 = (0, some (kids, data)) ∧ (putOut S D kids data).2.2.1.has (putOut S D kids data).1 = true ∧ ((putOut S D kids data).2.2.1.cel (putOut S D kids data).1).named = 0 ∧ ((putOut S D kids data).2.2.1.cel (putOut S D kids data).1).held = 0 ∧ (putOut S D kids data).2.2.1.freeN n = S.freeN n - 1) := by
  rcases putOut_cases S D kids data with ⟨e, he, ⟨e1, e2, e3⟩, e4, _⟩ | ⟨hp, e2, e3⟩
  · left
    refine ⟨by rw [e2]; exact he, e1, e3, fun h28 => ?_⟩
    rw [e2] at h28
    have hf := e4 h28
    rw [h.good.dn] at hf
    exact free_none (fun i hi => by
      rcases hi with hi | hi
      · exact (has_dom h.inv hi).1
      · exact (h.inv.kept i hi).1) hn.1 hf
  · right
    have hg := h.good.put h.inv hn.2 kids data
    have hi := hp.inv h.inv h.good.dn hn.2
    have hpw := (h.pow.put S kids data).1
    have hc : (putOut S D kids data).2.2.1.cells (putOut S D kids data).1 = some ⟨0, 0, S.highOf kids + 1, kids⟩ := by
      have := hp.st
      rw [this]
      exact upd_same _ _ _
    obtain ⟨d, hd, hgt⟩ := hg.get hi hpw.off hc
    have hdd : d = data := by
      have h1 := vw_write hp.wrote (putOut S D kids data).1
      rw [if_pos rfl] at h1
      rw [e3, h1] at hd
      have h2 := getP_put (n := (n : Int)) (l := kids) (d := data) (by omega) hp.len (fun x hx => has_dom h.inv (hp.good x hx).1) hp.size
      rw [h2] at hd
      cases hd; rfl
    subst hdd
    exact ⟨e2, hgt, has_iff.2 ⟨_, hc⟩, by rw [cel_some hc], by rw [cel_some hc], hp.freeN h.inv h.good.dn⟩
theorem keptOnly_le (S : StS) (n : Nat) : S.keptOnly n ≤ n := by
  unfold StS.keptOnly
  refine Nat.le_trans (List.length_filter_le _ _) ?_
  simp
theorem freeN_range (S : StS) {n : Nat} (hn : n ≤ 4096) : -10000 ≤ S.freeN n ∧ S.freeN n ≤ 10000 := by
  have h1 := keptOnly_le S n
  have h2 := num_le S.cells n
  unfold StS.freeN
  omega
/-- whom a store keeps, and how many blocks are free -/
theorem Sc.free {w0 w : World} {B : Blk} {S : StS} {D : DevS} {n m : Nat} (h : Sc w0 B S D w) (hi : Inv n m S) (hD : D.n = n) :
    Calls Try.prog 14 #[.pointer (some ⟨B.s, 0, none⟩)] w fun e w' => e = .returned (.int .i64 (S.freeN n)) ∧ Below w.heap.size w w' := by
  have e : D.n.toNat = n := by omega
  have := storeFree_any w B S D h.st (by rw [e]; exact hi.wf) (fun i hk => by have := hi.kept i hk; omega)
  rw [e] at this
  exact this
set_option maxHeartbeats 8000000 in
/-- StoreBack -/
theorem storeBack_any (w : World) (n : Int) (v vk : Value) (l : List DoT) (kids : List Int) (data : ByteArray) (h : Dos (· < w.heap.size) w v l) (hk : Ints (· < w.heap.size) w vk kids) :
    Calls Try.prog 4 #[.int .i64 n, v, vk, .string data] w fun e w' => e = .returned (.bool true) ∧ Below w.heap.size w w' := by
  obtain ⟨a, c, rfl, hlen⟩ := h.len
  obtain ⟨ak, ck, rfl, hlenk, hx⟩ := hk.form
  clear hx
  have H : Hid (Dos (· < w.heap.size) w (.slice a l.length c) l) := h
  have HK : Hid (Ints (· < w.heap.size) w (.slice ak kids.length ck) kids) := hk
  clear h hk
  go_enter Try.func4, Try.ntmps4
  go_wp2_with fail
  refine (short_one _ w a c l H.out).mono ?_
  rintro e w1 ⟨x, rfl, hx, hb1⟩
  have HB1 : Hid (Below w.heap.size w w1) := hb1
  clear hb1
  have hgo : x = false ∨ (x = true ∧ 100 < kids.length) ∨ (x = true ∧ kids.length ≤ 100 ∧ 8192 < data.size) ∨ (x = true ∧ kids.length ≤ 100 ∧ data.size ≤ 8192 ∧ l.length ≤ 60) := by
    cases x
    · exact .inl rfl
    · have := hx rfl
      by_cases q2 : 100 < kids.length
      · exact .inr (.inl ⟨rfl, q2⟩)
      · by_cases q3 : 8192 < data.size
        · exact .inr (.inr (.inl ⟨rfl, by omega, q3⟩))
        · exact .inr (.inr (.inr ⟨rfl, by omega, by omega, this⟩))
  clear hx
  rcases hgo with rfl | ⟨rfl, hgo⟩ | ⟨rfl, hg1, hgo⟩ | ⟨rfl, hk2, hd2, hl2⟩
  rotate_left 3
  · go_wp2_with fail
    refine (size_fn n w1).mono ?_
    rintro e w2 ⟨rfl, rfl⟩
    obtain ⟨N, hN, hN8, hN40⟩ := size_nat n
    rw [hN]
    have HN : Hid (8 ≤ N ∧ N ≤ 4096) := ⟨hN8, by omega⟩
    clear hN hN8 hN40
    go_wp2_with fail
    refine (new_yes w1 N (by have := HN.out; omega)).mono ?_
    rintro e w3 ⟨b, bk, bd, rfl, hA, hb, hb1, hb2, hb3⟩
    have HA : Hid (At w3 b bk bd (DevS.new N) ∧ Below w.heap.size w w3 ∧ w.heap.size ≤ b ∧ w.heap.size ≤ bk ∧ w.heap.size ≤ bd) := by
      have := HB1.out.size
      exact ⟨hA, HB1.out.trans (hb.mono this), by omega, by omega, by omega⟩
    clear hA hb hb1 hb2 hb3
    go_wp2_with fail
    refine (format_sc (n := N) (note := nob) HN.out (by decide) HA.out.1 HA.out.2.1 HA.out.2.2.1 HA.out.2.2.2.1 HA.out.2.2.2.2).mono ?_
    rintro e w4 ⟨B, D1, rfl, rfl, hsc, hrun⟩
    have H4 : Hid (Lp w N B.s B.d 0 w4) := ⟨B, _, D1, rfl, rfl, hsc, hrun⟩
    obtain ⟨s, hs⟩ : ∃ s, s = B.s := ⟨_, rfl⟩
    obtain ⟨d, hd⟩ : ∃ d, d = B.d := ⟨_, rfl⟩
    clear hsc hrun HA
    rw [← hs, ← hd] at H4 ⊢
    clear hs hd
    go_wp2_with fail
    go_loopw [52] (fun i wr => ∃ j : Nat, j ≤ l.length ∧ i = .int .i64 j ∧ Hid (Lp w N s d j wr)) (fun i _ => l.length - (intOf i).toNat)
    case atStart => exact ⟨0, by omega, rfl, H4.out⟩
    case round =>
      obtain ⟨j, hj, rfl, HL⟩ := hrel
      by_cases hlt : j < l.length
      · obtain ⟨k, b, o, kv, _, _, rfl, q0, q1, q2, q3, hf, hkv⟩ := (H.out.below HL.out.below).item j hlt
        obtain ⟨ka, kc, rfl, hkl, hkc⟩ := hkv.form
        have HF : Hid (k.fits ∧ Ints (· < w.heap.size) wr (.slice ka k.kids.length kc) k.kids) := ⟨hf, hkv⟩
        clear hf hkv hkl hkc
        have hb1 : Below wr.heap.size wr (wr.alloc (.cells #[.int .i64 k.op, .int .i64 k.i, .slice ka k.kids.length kc, .string k.s] 24)) := (Below.refl _ _).alloc (Nat.le_refl _) _
        have HB2 : Hid _ := hb1
        clear hb1
        go_wp2_with fail
        refine (op_fn' k _ _).mono ?_
        rintro e w5 ⟨rfl, hb5⟩
        have H5 : Hid (Below wr.heap.size wr w5 ∧ w5.heap[wr.heap.size]? = some (.cells #[.int .i64 k.op, .int .i64 k.i, .slice ka k.kids.length kc, .string k.s] 24 (0, 0))) := ⟨HB2.out.trans (hb5.mono HB2.out.size), (hb5.block _ (by simp)).trans (heap_alloc_last _ _)⟩
        clear hb5 q0 q1 q2 q3
        have q0 : w5.cell? ⟨wr.heap.size, 0, none⟩ = some (.int .i64 k.op) := cell_at H5.out.2 0
        have q1 : w5.cell? ⟨wr.heap.size, 1, none⟩ = some (.int .i64 k.i) := cell_at H5.out.2 1
        have q2 : w5.cell? ⟨wr.heap.size, 2, none⟩ = some (.slice ka k.kids.length kc) := cell_at H5.out.2 2
        have q3 : w5.cell? ⟨wr.heap.size, 3, none⟩ = some (.string k.s) := cell_at H5.out.2 3
        by_cases h11 : k.opn < 11
        · go_wp2_with fail
          refine ((HL.out.on H5.out.1).does HN.out (by omega) HF.out.1 (Ints.on HF.out.2 H5.out.1) h11).mono ?_
          rintro e w6 ⟨v6, rfl, hl6⟩
          have H6 : Hid (Lp w N s d (j + 1) w6) := hl6
          clear hl6 q0 q1 q2 q3
          go_wp2_with fail
          go_roundw
          case rel => exact ⟨j + 1, by omega, by go_num, H6.out⟩
          case measure => simp [intOf]; omega
        · have H6 : Hid (Lp w N s d (j + 1) w5) := (HL.out.on H5.out.1).more
          go_wp2_with fail
          go_roundw
          case rel => exact ⟨j + 1, by omega, by go_num, H6.out⟩
          case measure => simp [intOf]; omega
      · obtain ⟨B, S, D, rfl, rfl, hsc, hrun⟩ := HL.out
        have HR : Hid (Run N j S D) := hrun
        have HS : Hid (Sc w B S D wr) := hsc
        have HF1 := freeN_range S HN.out.2
        clear hsc hrun
        go_wp2_with fail
        refine (HS.out.free HR.out.inv HR.out.good.dn).mono ?_
        rintro e w5 ⟨rfl, hb5⟩
        have H5 : Hid (Sc w B S D w5) := HS.out.on hb5
        clear hb5
        generalize hF : S.freeN N = F at HF1 ⊢
        have HF : Hid (S.freeN N = F) := hF
        clear hF
        go_wp2_with fail
        refine (clone_ints _ w5 _ kids ((HK.out.below H5.out.below)) (by omega)).mono ?_
        rintro e w6 ⟨vg, rfl, hown, hb6⟩
        have H6 : Hid (Sc w B S D w6 ∧ OwnI w5.heap.size w6 vg kids) := ⟨H5.out.on hb6, hown⟩
        obtain ⟨ag, cg, rfl⟩ := hown.form
        have HG : Hid (Ints (fun q => w5.heap.size ≤ q ∧ q < w6.heap.size) w6 (.slice ag kids.length cg) kids) := hown.ints (by omega)
        clear hown hb6
        go_wp2_with fail
        have hng : ∀ q, (w5.heap.size ≤ q ∧ q < w6.heap.size) → q ∉ B.all := fun q hq hm => by have := H5.out.st.lt q hm; omega
        refine (storePut_any w6 B S D _ kids data H6.out.1.st (by rw [HR.out.good.dn]; exact HR.out.inv.wf) (HG.out.mono hng)).mono ?_
        rintro e w7 ⟨rfl, hs7, hc7⟩
        have H7 : Hid (Sc w B (putOut S D kids data).2.2.1 (putOut S D kids data).2.2.2 w7 ∧ Ints (fun q => w5.heap.size ≤ q ∧ q < w6.heap.size) w7 (.slice ag kids.length cg) kids) := ⟨H6.out.1.turn (Blk.Next.refl _ _) hs7 hc7, HG.out.chg hc7 hng⟩
        have HP := put_back HR.out HN.out kids data
        have HQ : Hid (Good N (putOut S D kids data).2.2.1 (putOut S D kids data).2.2.2 ∧ Inv N j (putOut S D kids data).2.2.1 ∧ (putOut S D kids data).2.2.2.n = N) := by
          refine ⟨HR.out.good.put HR.out.inv HN.out.2 kids data, ?_, (putOut_n _ _ _ _).trans HR.out.good.dn⟩
          rcases putOut_cases S D kids data with ⟨e, he, ⟨_, e2, e3⟩, _⟩ | ⟨hp, _⟩
          · rw [e3]; exact HR.out.inv
          · exact hp.inv HR.out.inv HR.out.good.dn HN.out.2
        clear hs7 hc7 H6 HG hng H5 HS
        generalize putOut S D kids data = R at H7 HP HQ ⊢
        obtain ⟨id, e, S', D'⟩ := R
        dsimp only at H7 HP HQ ⊢
        rcases HP with ⟨p1, rfl, rfl, p4⟩ | ⟨rfl, p2, p3, p4, p5, p6⟩
        · have hcase : e ≠ 28 ∨ (e = 28 ∧ F = 0) := by
            by_cases h28 : e = 28
            · exact .inr ⟨h28, by rw [← HF.out]; exact p4 h28⟩
            · exact .inl h28
          clear p4
          rcases hcase with h28 | ⟨rfl, rfl⟩
          all_goals
            go_wp2_with fail
            refine (H7.out.1.free HQ.out.2.1 HQ.out.2.2).mono ?_
            rintro e w8 ⟨rfl, hb8⟩
            rw [HF.out]
            have H8 : Hid (Below w.heap.size w w8) := (H7.out.1.on hb8).below
            clear hb8
            go_wp2_with fail
            refine (awake_any w8).mono ?_
            rintro e w9 ⟨rfl, hb9⟩
            have H9 : Hid (Below w.heap.size w w9) := H8.out.trans (hb9.mono H8.out.size)
            clear hb9
            go_wp2_with fail
            go_ret
            exact ⟨rfl, H9.out⟩
        · have HX : Hid (S'.getR D' id = (0, some (kids, data)) ∧ S'.freeN N = S.freeN N - 1) := ⟨p2, p6⟩
          clear p2 p6
          go_wp2_with fail
          refine (storeGet_any w7 B S' D' id H7.out.1.st).mono ?_
          rintro e w8 ⟨a8, m8, c8, d8, rfl, his, hb8⟩
          rw [HX.out.1] at his ⊢
          obtain ⟨hd8, hown⟩ := his
          replace hd8 := hd8.symm
          subst hd8
          obtain ⟨a', c', hv⟩ := hown.form
          injection hv with hv1 hv2 hv3
          subst hv1 hv2 hv3
          have H8 : Hid (Sc w B S' D' w8 ∧ Ints (fun q => w5.heap.size ≤ q ∧ q < w6.heap.size) w8 (.slice ag kids.length cg) kids ∧ Ints (fun k => w7.heap.size ≤ k ∧ k < w8.heap.size) w8 (.slice a8 kids.length c8) kids) := ⟨H7.out.1.on hb8, Ints.on H7.out.2 hb8, hown.ints (by omega)⟩
          clear hown hb8 H7
          have hb9 : Below w8.heap.size w8 (w8.alloc (.cells #[.slice a8 kids.length c8, .string data] 39)) := (Below.refl _ _).alloc (Nat.le_refl _) _
          have hx9 : (w8.alloc (.cells #[.slice a8 kids.length c8, .string data] 39)).heap[w8.heap.size]? = some (.cells #[.slice a8 kids.length c8, .string data] 39 (0, 0)) := heap_alloc_last _ _
          have H9 : Hid (Sc w B S' D' (w8.alloc (.cells #[.slice a8 kids.length c8, .string data] 39)) ∧ Ints (fun q => w5.heap.size ≤ q ∧ q < w6.heap.size) (w8.alloc (.cells #[.slice a8 kids.length c8, .string data] 39)) (.slice ag kids.length cg) kids ∧ Ints (fun k => w7.heap.size ≤ k ∧ k < w8.heap.size) (w8.alloc (.cells #[.slice a8 kids.length c8, .string data] 39)) (.slice a8 kids.length c8) kids) := ⟨H8.out.1.on hb9, Ints.on H8.out.2.1 hb9, Ints.on H8.out.2.2 hb9⟩
          go_wp2_with fail
          clear hb9
          generalize w8.alloc (.cells #[.slice a8 kids.length c8, .string data] 39) = w9 at hx9 H9 ⊢
          refine (storeRefs_any w9 B S' D' id H9.out.1.st).mono ?_
          rintro e w10 ⟨rfl, hb10⟩
          rw [p3, p4, p5]
          have H10 : Hid (Sc w B S' D' w10 ∧ Ints (fun q => w5.heap.size ≤ q ∧ q < w6.heap.size) w10 (.slice ag kids.length cg) kids ∧ Ints (fun k => w7.heap.size ≤ k ∧ k < w8.heap.size) w10 (.slice a8 kids.length c8) kids) := ⟨H9.out.1.on hb10, Ints.on H9.out.2.1 hb10, Ints.on H9.out.2.2 hb10⟩
          have hx10 : w10.heap[w8.heap.size]? = some (.cells #[.slice a8 kids.length c8, .string data] 39 (0, 0)) := (hb10.block _ (heap_lt hx9)).trans hx9
          have q0 : w10.cell? ⟨w8.heap.size, 0, none⟩ = some (.slice a8 kids.length c8) := cell_at hx10 0
          have q1 : w10.cell? ⟨w8.heap.size, 1, none⟩ = some (.string data) := cell_at hx10 1
          clear hb10 hx9 hx10 p3 p4 p5 H9 H8
          go_wp2_with fail
          refine (equal_ints _ _ w10 _ _ kids kids H10.out.2.2 (HK.out.below H10.out.1.below)).mono ?_
          rintro e w11 ⟨rfl, hb11⟩
          rw [decide_eq_true rfl]
          have H11 : Hid (Sc w B S' D' w11 ∧ Ints (fun q => w5.heap.size ≤ q ∧ q < w6.heap.size) w11 (.slice ag kids.length cg) kids) := ⟨H10.out.1.on hb11, Ints.on H10.out.2.1 hb11⟩
          clear hb11 q0 q1 H10
          go_wp2_with fail
          refine (equal_ints _ _ w11 _ _ kids kids H11.out.2 (HK.out.below H11.out.1.below)).mono ?_
          rintro e w12 ⟨rfl, hb12⟩
          rw [decide_eq_true rfl]
          have H12 : Hid (Sc w B S' D' w12) := H11.out.1.on hb12
          clear hb12 H11
          go_wp2_with fail
          refine (H12.out.free HQ.out.2.1 HQ.out.2.2).mono ?_
          rintro e w13 ⟨rfl, hb13⟩
          rw [HX.out.2, HF.out]
          have H13 : Hid (Below w.heap.size w w13) := (H12.out.on hb13).below
          have hwr : wrap64 (F - 1) = F - 1 := by unfold wrap64; omega
          clear hb13 H12
          go_wp2_with fail
          refine (awake_any w13).mono ?_
          rintro e w14 ⟨rfl, hb14⟩
          have H14 : Hid (Below w.heap.size w w14) := H13.out.trans (hb14.mono H13.out.size)
          clear hb14
          go_wp2_with fail
          go_ret
          exact ⟨rfl, H14.out⟩
  all_goals
    go_wp2_with fail
    refine (awake_any w1).mono ?_
    rintro e w9 ⟨rfl, hb9⟩
    have H9 : Hid (Below w.heap.size w w9) := HB1.out.trans (hb9.mono HB1.out.size)
    clear hb9
    go_wp2_with fail
    go_ret
    exact ⟨rfl, H9.out⟩
end Go.Proofs.Ytanpkghdgdkdlaa.Sto
