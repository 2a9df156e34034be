/- StoreOver, walked. -/
import Derived.Test.YtanpkghdgdkdlaaGreatStoLoop
import Derived.Test.YtanpkghdgdkdlaaGreatDevDirty
import Derived.Deep.RegionHeld3
namespace Go.Proofs.YtanpkghdgdkdlaaGreat.Sto
set_option linter.unusedVariables false
set_option linter.unusedSimpArgs false
set_option maxRecDepth 100000
open Go.RowKit Go.Lib Go.Proofs.YtanpkghdgdkdlaaGreat.Mem Go.Proofs.YtanpkghdgdkdlaaGreat.Oct Go.Proofs.YtanpkghdgdkdlaaGreat.Dev

/-! ### the pure law -/
theorem vw_stays {n m : Nat} {S : StS} {D : DevS} (h : Good n S D) (hi : Inv n m S) (k : DoT) (hk : k.opn ≠ 9) {i : Int} (hs : S.has i = true) : vw (doesOut S D k).dv i = vw D i := by
  unfold doesOut
  split
  · rfl
  · split
    · rfl
    · split
      · rfl
      · skip
        split
        · rfl
        · split
          · show vw (D.fuse k.i) i = _
            unfold DevS.fuse
            split <;> rfl
          · show vw (putOut S D k.kids k.s).2.2.2 i = _
            rcases putOut_cases S D k.kids k.s with ⟨e, he, ⟨_, e2, e3⟩, _⟩ | ⟨hp, e2, e3⟩
            · have := putOut_dev S D k.kids k.s (by rw [e2]; exact he)
              unfold vw
              rw [this.2.1, this.2.2]
            · rw [e3, vw_write hp.wrote, if_neg]
              rintro rfl
              rw [hp.non] at hs
              cases hs
theorem get_stays {n m : Nat} {S : StS} {D : DevS} (h : Run n m S D) (hn : 8 ≤ n ∧ n ≤ 4096) (hm : m < 1099511627776) (k : DoT) (hk : k.opn ≠ 9) (hk2 : k.opn < 11) {i : Int} (hs : S.has i = true) (hs1 : (doesOut S D k).st.has i = true) :
    (doesOut S D k).st.getR (doesOut S D k).dv i = S.getR D i ∧ (S.getR D i).1 = 0 := by
  have h1 := h.does hn hm hk2
  obtain ⟨c, hc⟩ := has_iff.1 hs
  obtain ⟨c1, hc1⟩ := has_iff.1 hs1
  obtain ⟨d, hd, hg⟩ := h.good.get h.inv h.pow.off hc
  obtain ⟨d1, hd1, hg1⟩ := h1.good.get h1.inv h1.pow.off hc1
  rw [vw_stays h.good h.inv k hk hs, hd] at hd1
  have e := Option.some.inj hd1
  rw [hg, hg1, e]
  exact ⟨rfl, rfl⟩
def wasOf (S : StS) (D : DevS) (L : List Int) : List BlkT := L.map fun i => ((S.getR D i).2).getD ([], nob)
theorem wasOf_snoc (S : StS) (D : DevS) (L : List Int) (i : Int) {x : BlkT} (h : (S.getR D i).2 = some x) : wasOf S D (L ++ [i]) = wasOf S D L ++ [x] := by simp [wasOf, h]
theorem live_has {n m : Nat} {S : StS} (hi : Inv n m S) {j : Nat} (hj : j < (S.live n).length) : S.has (S.live n)[j] = true := by
  have := (live_mem (S := S) (n := n) (wf_dom hi.wf) (S.live n)[j]).1 (List.getElem_mem _)
  unfold StS.has
  cases hc : S.cells (S.live n)[j] with
  | none => exact absurd hc this
  | some c => rfl
theorem live_length' {n : Nat} (S : StS) (hn : n ≤ 4096) : (S.live n).length ≤ 4096 := by
  rw [live_len]
  have := num_le S.cells n
  omega
theorem Ints.item' {p : Nat → Prop} {w : World} {a : Option Addr} {c n : Nat} {l : List Int} (h : Ints p w (.slice a n c) l) (j : Nat) (hj : j < l.length) : ∃ b o, a = some ⟨b, o, none⟩ ∧ p b ∧ w.cell? ⟨b, o + j, none⟩ = some (.int .i64 l[j]) := by
  rcases h with ⟨rfl, _⟩ | ⟨b, o, c', e, hp, hl, hc⟩
  · simp at hj
  · injection e with e _ _
    subst e
    exact ⟨b, o, rfl, hp, hc j hj⟩
/-- what was gathered has room for itself -/
theorem OwnB.room {base g : Nat} {w : World} {v : Value} {xs : List BlkT} (h : OwnB base g w v xs) : ∃ a c, v = .slice a xs.length c ∧ xs.length ≤ c := by
  obtain ⟨cells, h1, _⟩ := h.own
  rcases h1.2 with ⟨rfl, h0⟩ | ⟨r, cap, cur, rfl, hr, hb, hn, _⟩
  · exact ⟨none, 0, by rw [h0], by omega⟩
  · exact ⟨_, _, rfl, hn⟩
/-! ### the walk -/
structure Ov (w0 : World) (N m : Nat) (B : Blk) (S : StS) (D : DevS) (lv : Value) (L : List Int) (w : World) : Prop where
  sc : Sc w0 B S D w
  run : Run N m S D
  live : Ints (fun k => w0.heap.size ≤ k ∧ k ∉ B.all) w lv L
theorem Ov.on {w0 w w' : World} {N m : Nat} {B : Blk} {S : StS} {D : DevS} {lv : Value} {L : List Int} (h : Ov w0 N m B S D lv L w) (hb : Below w.heap.size w w') : Ov w0 N m B S D lv L w' :=
  ⟨h.sc.on hb, h.run, Ints.on h.live hb⟩
/-- a slice of one block that has just been laid -/
theorem blk_one {p : Nat → Prop} {w : World} {a : Option Addr} {c : Nat} {x : BlkT} (h : Ints p w (.slice a x.1.length c) x.1) : Blks (fun _ => True) (w.alloc (.cells #[.slice a x.1.length c, .string x.2] 58)) (.slice (some ⟨w.heap.size, 0, none⟩) 1 1) [x] := by
  have hb : Below w.heap.size w (w.alloc (.cells #[.slice a x.1.length c, .string x.2] 58)) := (Below.refl _ _).alloc (Nat.le_refl _) _
  refine .inr ⟨w.heap.size, 0, 1, rfl, trivial, by simp, fun j hj => ?_⟩
  match j, hj with
  | 0, _ =>
    refine ⟨[.slice a x.1.length c, .string x.2], rfl, fun q hq => ?_, a, c, rfl, (Ints.on h hb).mono (fun _ _ => trivial)⟩
    have := cell_at (heap_alloc_last w (.cells #[.slice a x.1.length c, .string x.2] 58)) (0 + (0 * 2 + q))
    rw [this]
    simp
theorem Dos.mono {p q : Nat → Prop} {w : World} {v : Value} {l : List DoT} (h : Dos p w v l) (hq : ∀ k, p k → q k) : Dos q w v l := by
  rcases h with h | ⟨b, o, c, e, hp, hm, hj⟩
  · exact .inl h
  · refine .inr ⟨b, o, c, e, hq b hp, hm, fun j hjl => ?_⟩
    obtain ⟨cs, h1, h2, kv, h3, h4, h5⟩ := hj j hjl
    exact ⟨cs, h1, h2, kv, h3, h4, h5.mono hq⟩
/-- one of them, as a slice -/
theorem Blks.sub {p : Nat → Prop} {w : World} {b o n c : Nat} {xs : List BlkT} (h : Blks p w (.slice (some ⟨b, o, none⟩) n c) xs) {j : Nat} (hj : j < xs.length) (c' : Nat) : Blks p w (.slice (some ⟨b, o + j * 2, none⟩) 1 c') [xs[j]] := by
  rcases h with ⟨rfl, _⟩ | ⟨b', o', c2, e, hp, hm, hx⟩
  · simp at hj
  · injection e with e _ _
    injection e with e
    injection e with e1 e2
    subst e1 e2
    obtain ⟨cs, h1, h2, h3⟩ := hx j hj
    refine .inr ⟨b, o + j * 2, c', rfl, hp, by simp, fun i hi => ?_⟩
    match i, hi with
    | 0, _ =>
      refine ⟨cs, h1, fun q hq => ?_, h3⟩
      have := h2 q hq
      rw [show o + j * 2 + (0 * 2 + q) = o + (j * 2 + q) by omega]
      exact this
/-- what is compared in a round -/
structure Rx (w0 : World) (xb gw oo cc : Nat) (a : Option Addr) (c : Nat) (x : BlkT) (w : World) : Prop where
  below : Below w0.heap.size w0 w
  kids : Ints (fun _ => True) w (.slice a x.1.length c) x.1
  sub : Blks (fun _ => True) w (.slice (some ⟨gw, oo, none⟩) 1 cc) [x]
  box : w.heap[xb]? = some (.cells #[.slice a x.1.length c, .string x.2] 58 (0, 0))
theorem Rx.on {w0 : World} {xb gw oo cc : Nat} {a : Option Addr} {c : Nat} {x : BlkT} {w w' : World} (h : Rx w0 xb gw oo cc a c x w) (hb : Below w.heap.size w w') : Rx w0 xb gw oo cc a c x w' :=
  ⟨h.below.trans (hb.mono h.below.size), Ints.on h.kids hb, h.sub.on hb, (hb.block _ (heap_lt h.box)).trans h.box⟩
theorem Rx.held {w0 : World} {xb gw oo cc : Nat} {a : Option Addr} {c : Nat} {x : BlkT} {w : World} (h : Rx w0 xb gw oo cc a c x w) :
    w.cell? ⟨xb, 0, none⟩ = some (.slice a x.1.length c) ∧ w.cell? ⟨xb, 1, none⟩ = some (.string x.2) ∧ Hid (Rx w0 xb gw oo cc a c x w) := ⟨cell_at h.box 0, cell_at h.box 1, h⟩
/-- two scripts, behind one another -/
theorem short_two (p q : Nat → Prop) (w : World) (a a' : Option Addr) (c c' : Nat) (l l' : List DoT) (g : Nat) (h : Dos p w (.slice a l.length c) l) (h' : Dos q w (.slice a' l'.length c') l') (hg : w.heap[g]? = some (.cells #[.slice a l.length c, .slice a' l'.length c'] 46 (0, 0))) :
    Calls Tryz.prog 16 #[.slice (some ⟨g, 0, none⟩) 2 2] w fun e w' => ∃ x, e = .returned (.bool x) ∧ (x = true → l.length ≤ 60) ∧ Below w.heap.size w w' := by
  refine (short_any w g 2 2 (fun i => if i = 0 then l.length else l'.length) (by decide) (fun i hi => ?_)).mono ?_
  · match i, hi with
    | 0, _ => exact ⟨a, c, cell_at hg 0, h.rd⟩
    | 1, _ => exact ⟨a', c', cell_at hg 1, h'.rd⟩
  · rintro e w' ⟨x, rfl, hx, hb2⟩
    exact ⟨x, rfl, fun ht => hx ht 0 (by omega), hb2⟩
set_option maxHeartbeats 16000000 in
/-- StoreOver -/
theorem storeOver_any (w : World) (n : Int) (v kv0 : Value) (l : List DoT) (k0 : DoT) (h : Dos (· < w.heap.size) w v l) (hk0 : k0.fits) (hv0 : Ints (· < w.heap.size) w kv0 k0.kids) :
    Calls Tryz.prog 5 #[.int .i64 n, v, .agg #[.int .i64 k0.op, .int .i64 k0.i, kv0, .string k0.s]] w fun e w' => e = .returned (.bool true) ∧ Below w.heap.size w w' := by
  obtain ⟨a, c, rfl, hlen⟩ := h.len
  obtain ⟨ak, ck, rfl, hlenk, _⟩ := hv0.form
  have hrg := opn_range k0
  have hb0 : Below w.heap.size w (w.alloc (.cells #[.int .i64 k0.op, .int .i64 k0.i, .slice ak k0.kids.length ck, .string k0.s] 51)) := (Below.refl _ _).alloc (Nat.le_refl _) _
  have hc0 := heap_alloc_last w (.cells #[.int .i64 k0.op, .int .i64 k0.i, .slice ak k0.kids.length ck, .string k0.s] 51)
  have H0 : Hid (Below w.heap.size w (w.alloc (.cells #[.int .i64 k0.op, .int .i64 k0.i, .slice ak k0.kids.length ck, .string k0.s] 51)) ∧ (w.alloc (.cells #[.int .i64 k0.op, .int .i64 k0.i, .slice ak k0.kids.length ck, .string k0.s] 51)).heap[w.heap.size]? = some (.cells #[.int .i64 k0.op, .int .i64 k0.i, .slice ak k0.kids.length ck, .string k0.s] 51 (0, 0)) ∧ (w.alloc (.cells #[.int .i64 k0.op, .int .i64 k0.i, .slice ak k0.kids.length ck, .string k0.s] 51)).heap.size = w.heap.size + 1) := ⟨hb0, hc0, by simp⟩
  have H : Hid (Dos (· < w.heap.size) w (.slice a l.length c) l) := h
  have HK0 : Hid (k0.fits ∧ Ints (· < w.heap.size) w (.slice ak k0.kids.length ck) k0.kids) := ⟨hk0, hv0⟩
  clear h hk0 hv0 hb0 hc0
  go_enter Tryz.func5, Tryz.ntmps5
  go_wp2_with fail
  obtain ⟨w0, hw0⟩ : ∃ w0, w0 = (w.alloc (.cells #[.int .i64 k0.op, .int .i64 k0.i, .slice ak k0.kids.length ck, .string k0.s] 51)) := ⟨_, rfl⟩
  rw [← hw0] at H0 ⊢
  clear hw0
  have hbig : w0.heap.size = w.heap.size + 1 := H0.out.2.2
  have hd1 : Dos (fun _ => True) (w0.alloc (.cells #[.int .i64 k0.op, .int .i64 k0.i, .slice ak k0.kids.length ck, .string k0.s] 51)) (.slice (some ⟨w0.heap.size, 0, none⟩) [k0].length 1) [k0] := by
    have hb1 : Below w0.heap.size w0 (w0.alloc (.cells #[.int .i64 k0.op, .int .i64 k0.i, .slice ak k0.kids.length ck, .string k0.s] 51)) := (Below.refl _ _).alloc (Nat.le_refl _) _
    refine .inr ⟨w0.heap.size, 0, 1, rfl, trivial, by simp, fun j hj => ?_⟩
    match j, hj with
    | 0, _ =>
      refine ⟨[.int .i64 k0.op, .int .i64 k0.i, .slice ak k0.kids.length ck, .string k0.s], rfl, fun q hq => ?_, _, rfl, HK0.out.1, Ints.on (Ints.on (HK0.out.2.mono (fun _ _ => trivial)) H0.out.1) hb1⟩
      have := cell_at (heap_alloc_last w0 (.cells #[.int .i64 k0.op, .int .i64 k0.i, .slice ak k0.kids.length ck, .string k0.s] 51)) (0 + (0 * 4 + q))
      rw [this]
      simp
  have hs1 : (w0.alloc (.cells #[.int .i64 k0.op, .int .i64 k0.i, .slice ak k0.kids.length ck, .string k0.s] 51)).heap.size = w0.heap.size + 1 := by simp
  have hbb : Below w0.heap.size w0 ((w0.alloc (.cells #[.int .i64 k0.op, .int .i64 k0.i, .slice ak k0.kids.length ck, .string k0.s] 51)).alloc (.cells #[.slice a l.length c, .slice (some ⟨w0.heap.size, 0, none⟩) [k0].length 1] 46)) := ((Below.refl _ _).alloc (Nat.le_refl _) _).alloc (by simp) _
  have hb12 : Below (w0.alloc (.cells #[.int .i64 k0.op, .int .i64 k0.i, .slice ak k0.kids.length ck, .string k0.s] 51)).heap.size (w0.alloc (.cells #[.int .i64 k0.op, .int .i64 k0.i, .slice ak k0.kids.length ck, .string k0.s] 51)) ((w0.alloc (.cells #[.int .i64 k0.op, .int .i64 k0.i, .slice ak k0.kids.length ck, .string k0.s] 51)).alloc (.cells #[.slice a l.length c, .slice (some ⟨w0.heap.size, 0, none⟩) [k0].length 1] 46)) := (Below.refl _ _).alloc (Nat.le_refl _) _
  have hgl := heap_alloc_last (w0.alloc (.cells #[.int .i64 k0.op, .int .i64 k0.i, .slice ak k0.kids.length ck, .string k0.s] 51)) (.cells #[.slice a l.length c, .slice (some ⟨w0.heap.size, 0, none⟩) [k0].length 1] 46)
  rw [hs1] at hgl
  rw [← hbig]
  refine (short_two _ _ _ a (some ⟨w0.heap.size, 0, none⟩) c 1 l [k0] (w0.heap.size + 1) (((H.out.on H0.out.1).on hbb)) (hd1.on hb12) hgl).mono ?_
  rintro e w1 ⟨x, rfl, hx, hb1⟩
  have HB1 : Hid (Below w.heap.size w w1 ∧ w1.heap[w.heap.size]? = some (.cells #[.int .i64 k0.op, .int .i64 k0.i, .slice ak k0.kids.length ck, .string k0.s] 51 (0, 0))) := by
    have hb := hbb.trans (hb1.mono hbb.size)
    exact ⟨H0.out.1.trans (hb.mono H0.out.1.size), (hb.block _ (by omega)).trans H0.out.2.1⟩
  clear hb1 hd1 hs1 hbb hb12 hgl hbig
  cases x with
  | false =>
    go_wp2_with fail
    refine (awake_any w1).mono ?_
    rintro e w9 ⟨rfl, hb9⟩
    have H9 : Hid (Below w.heap.size w w9) := HB1.out.1.trans (hb9.mono HB1.out.1.size)
    clear hb9
    go_wp2_with fail
    go_ret
    exact ⟨rfl, H9.out⟩
  | true =>
    have hl2 := hx rfl
    clear hx
    have H1 : Hid (Dos (· < w1.heap.size) w1 (.slice a l.length c) l ∧ Ints (· < w1.heap.size) w1 (.slice ak k0.kids.length ck) k0.kids) := ⟨Dos.mono (H.out.on HB1.out.1) (fun k hk => by have := HB1.out.1.size; omega), Ints.mono (Ints.on HK0.out.2 HB1.out.1) (fun k hk => by have := HB1.out.1.size; omega)⟩
    go_wp2_with fail
    refine (size_fn n w1).mono ?_
    rintro e w2 ⟨rfl, rfl⟩
    obtain ⟨N, hN, hN8, hN40⟩ := size_nat n
    rw [hN]
    have HN : Hid (8 ≤ N ∧ N ≤ 4096) := ⟨hN8, by omega⟩
    clear hN
    go_wp2_with fail
    refine (new_yes w1 N (by have := HN.out; omega)).mono ?_
    rintro e w3 ⟨b, bk, bd, rfl, hA, hb, hb1, hb2, hb3⟩
    have HA : Hid (At w3 b bk bd (DevS.new N) ∧ Below w1.heap.size w1 w3 ∧ w1.heap.size ≤ b ∧ w1.heap.size ≤ bk ∧ w1.heap.size ≤ bd) := by
      exact ⟨hA, hb, hb1, hb2, hb3⟩
    clear hA hb hb1 hb2 hb3
    go_wp2_with fail
    refine (format_sc (n := N) (note := nob) HN.out (by decide) HA.out.1 HA.out.2.1 HA.out.2.2.1 HA.out.2.2.2.1 HA.out.2.2.2.2).mono ?_
    rintro e w4 ⟨B, D1, rfl, rfl, hsc, hrun⟩
    have H4 : Hid (Lp w1 N B.s B.d 0 w4) := ⟨B, _, D1, rfl, rfl, hsc, hrun⟩
    obtain ⟨s, hs⟩ : ∃ s, s = B.s := ⟨_, rfl⟩
    obtain ⟨d, hd⟩ : ∃ d, d = B.d := ⟨_, rfl⟩
    clear hsc hrun HA
    rw [← hs, ← hd] at H4 ⊢
    clear hs hd
    go_wp2_with fail
    go_loopw [54] (fun i wr => ∃ j : Nat, j ≤ l.length ∧ i = .int .i64 j ∧ Hid (Lp w1 N s d j wr)) (fun i _ => l.length - (intOf i).toNat)
    case atStart => exact ⟨0, by omega, rfl, H4.out⟩
    case round =>
      obtain ⟨j, hj, rfl, HL⟩ := hrel
      by_cases hlt : j < l.length
      · obtain ⟨k, b, o, kv, _, _, rfl, q0, q1, q2, q3, hf, hkv⟩ := (H1.out.1.below HL.out.below).item j hlt
        obtain ⟨ka, kc, rfl, hkl, hkc⟩ := hkv.form
        have HF : Hid (k.fits ∧ Ints (· < w1.heap.size) wr (.slice ka k.kids.length kc) k.kids) := ⟨hf, hkv⟩
        clear hf hkv hkl hkc
        have hb1 : Below wr.heap.size wr (wr.alloc (.cells #[.int .i64 k.op, .int .i64 k.i, .slice ka k.kids.length kc, .string k.s] 51)) := (Below.refl _ _).alloc (Nat.le_refl _) _
        have HB2 : Hid _ := hb1
        clear hb1
        go_wp2_with fail
        refine (op_fn' k _ _).mono ?_
        rintro e w5 ⟨rfl, hb5⟩
        have H5 : Hid (Below wr.heap.size wr w5 ∧ w5.heap[wr.heap.size]? = some (.cells #[.int .i64 k.op, .int .i64 k.i, .slice ka k.kids.length kc, .string k.s] 51 (0, 0))) := ⟨HB2.out.trans (hb5.mono HB2.out.size), (hb5.block _ (by simp)).trans (heap_alloc_last _ _)⟩
        clear hb5 q0 q1 q2 q3
        have q0 : w5.cell? ⟨wr.heap.size, 0, none⟩ = some (.int .i64 k.op) := cell_at H5.out.2 0
        have q1 : w5.cell? ⟨wr.heap.size, 1, none⟩ = some (.int .i64 k.i) := cell_at H5.out.2 1
        have q2 : w5.cell? ⟨wr.heap.size, 2, none⟩ = some (.slice ka k.kids.length kc) := cell_at H5.out.2 2
        have q3 : w5.cell? ⟨wr.heap.size, 3, none⟩ = some (.string k.s) := cell_at H5.out.2 3
        by_cases h11 : k.opn < 11
        · go_wp2_with fail
          refine ((HL.out.on H5.out.1).does HN.out (by omega) HF.out.1 (Ints.on HF.out.2 H5.out.1) h11).mono ?_
          rintro e w6 ⟨v6, rfl, hl6⟩
          have H6 : Hid (Lp w1 N s d (j + 1) w6) := hl6
          clear hl6 q0 q1 q2 q3
          go_wp2_with fail
          go_roundw
          case rel => exact ⟨j + 1, by omega, by go_num, H6.out⟩
          case measure => simp [intOf]; omega
        · have H6 : Hid (Lp w1 N s d (j + 1) w5) := (HL.out.on H5.out.1).more
          go_wp2_with fail
          go_roundw
          case rel => exact ⟨j + 1, by omega, by go_num, H6.out⟩
          case measure => simp [intOf]; omega
      · obtain ⟨B, S, D, rfl, rfl, hsc, hrun⟩ := HL.out
        have HS : Hid (Sc w1 B S D wr ∧ Run N j S D) := ⟨hsc, hrun⟩
        clear hsc hrun
        go_wp2_with fail
        refine (storeRoot_any wr B S D HS.out.1.st).mono ?_
        rintro e w5 ⟨rfl, hb5⟩
        have H5 : Hid (Sc w1 B S D w5) := HS.out.1.on hb5
        have HR : Hid (Run N j S D) := HS.out.2
        clear hb5 HS
        go_wp2_with fail
        refine (storeLive_any w5 B S D N H5.out.st (wf_dom HR.out.inv.wf) HN.out.2).mono ?_
        rintro e w8 ⟨lv, rfl, hli, hb6⟩
        obtain ⟨al, cl, rfl, hlenL, _⟩ := hli.form
        have H8 : Hid (Ov w1 N j B S D (.slice al (S.live N).length cl) (S.live N) w8) := ⟨H5.out.on hb6, HR.out, hli.mono (fun k hk => ⟨by have := H5.out.below.size; omega, fun hm => by have := H5.out.st.lt k hm; omega⟩)⟩
        have hLL := live_length' S HN.out.2
        have hLH : Hid (∀ q (hq : q < (S.live N).length), S.has (S.live N)[q] = true) := fun q hq => live_has HR.out.inv hq
        clear hli hb6 H5
        generalize S.live N = L at hlenL hLL hLH H8 ⊢
        have hstart : OwnB w8.heap.size B.s w8 (.slice none 0 0) (wasOf S D (L.take 0)) := ⟨⟨[], World.ownsRow_nil _ _ _ _, Cells.nil _ _⟩, by simp [Value.ownBlock]⟩
        have HW0 : Hid _ := hstart
        have hBs : Hid (B.s < w8.heap.size ∧ ∀ q ∈ B.all, q < w8.heap.size) := ⟨heap_lt H8.out.sc.st.box, H8.out.sc.st.lt⟩
        clear hstart
        go_wp2_with fail
        go_loopw [17, 76] (fun vo i wr => ∃ (q : Nat) (ao : Option Addr) (co : Nat), q ≤ L.length ∧ i = .int .i64 q ∧ vo = .slice ao q co ∧ q ≤ co ∧ Hid (Below w8.heap.size w8 wr ∧ OwnB w8.heap.size B.s wr vo (wasOf S D (L.take q)))) (fun _ i _ => L.length - (intOf i).toNat)
        case atStart => exact ⟨0, none, 0, by omega, rfl, rfl, by omega, Below.refl _ _, HW0.out⟩
        case round =>
          obtain ⟨q, ao, co, hq, rfl, rfl, hqc, HQ⟩ := hrel
          by_cases hlt : q < L.length
          · obtain ⟨b, o, rfl, _, hcell0⟩ := Ints.item' H8.out.live q hlt
            have hcell := cell_on HQ.out.1 hcell0
            have hhas := hLH.out q hlt
            have htk : L.take (q + 1) = L.take q ++ [L[q]] := take_snoc L q hlt
            obtain ⟨id, hid⟩ : ∃ id, id = L[q] := ⟨_, rfl⟩
            rw [← hid] at hcell hhas htk
            obtain ⟨cc, hcc⟩ := has_iff.1 hhas
            obtain ⟨dd, _, hget⟩ := HR.out.good.get HR.out.inv HR.out.pow.off hcc
            have hklen := HR.out.inv.wf.len _ cc hcc
            have HG : Hid (S.getR D id = (0, some (cc.kids, dd)) ∧ L.take (q + 1) = L.take q ++ [id]) := ⟨hget, htk⟩
            clear hcell0 hid hcc hget htk hhas
            go_wp2_with fail
            refine (storeGet_any wr B S D id (H8.out.sc.st.on HQ.out.1)).mono ?_
            rintro e w2 ⟨a8, m8, c8, d8, rfl, his, hb7⟩
            rw [HG.out.1] at his ⊢
            obtain ⟨hd8, hown⟩ := his
            replace hd8 := hd8.symm
            subst hd8
            obtain ⟨a', c', hv⟩ := hown.form
            injection hv with hv1 hv2 hv3
            subst hv1 hv2 hv3
            have HX : Hid (OwnI wr.heap.size w2 (.slice a8 cc.kids.length c8) cc.kids ∧ Below wr.heap.size wr w2) := ⟨hown, hb7⟩
            clear hown hb7 hcell
            go_wp2_with (first
              | (at_builtin; refine Elem.halt ?_)
              | fail)
            refine ⟨?_⟩
            have hB4 : Below wr.heap.size wr ((w2.alloc (.cells #[.slice a8 cc.kids.length c8, .string dd] 58)).alloc (.cells #[.slice a8 cc.kids.length c8, .string dd] 58)) := (HX.out.2.alloc HX.out.2.size _).alloc (by have := HX.out.2.size; simp; omega) _
            have hn2 : ((w2.alloc (.cells #[.slice a8 cc.kids.length c8, .string dd] 58)).alloc (.cells #[.slice a8 cc.kids.length c8, .string dd] 58)).heap[w2.heap.size + 1]? = some (.cells #[.slice a8 cc.kids.length c8, .string dd] 58 (0, 0)) := by
              have := heap_alloc_last (w2.alloc (.cells #[.slice a8 cc.kids.length c8, .string dd] 58)) (.cells #[.slice a8 cc.kids.length c8, .string dd] 58)
              simpa using this
            have hown4 : OwnI wr.heap.size ((w2.alloc (.cells #[.slice a8 cc.kids.length c8, .string dd] 58)).alloc (.cells #[.slice a8 cc.kids.length c8, .string dd] 58)) (.slice a8 cc.kids.length c8) cc.kids := (HX.out.1.alloc _).alloc _
            generalize (w2.alloc (.cells #[.slice a8 cc.kids.length c8, .string dd] 58)).alloc (.cells #[.slice a8 cc.kids.length c8, .string dd] 58) = w4 at hB4 hn2 hown4 ⊢
            have hbase0 := HQ.out.1.size
            have hob4 : OwnB w8.heap.size B.s w4 (.slice ao q co) (wasOf S D (L.take q)) := HQ.out.2.chg (g' := B.s) (Chg.of_below hB4) (.inl rfl)
            have hvlt : ∀ k, (Value.slice ao q co).ownBlock = some k → k < wr.heap.size := fun k hk => by
              obtain ⟨cells, h1, _⟩ := HQ.out.2.own
              exact (World.ownsRow.lt h1 k hk).2
            have hks2 : Ints (fun k => w8.heap.size ≤ k ∧ k ≠ B.s ∧ some k ≠ (Value.slice ao q co).ownBlock) w4 (.slice a8 cc.kids.length c8) cc.kids := ints_apart hown4 hklen hbase0 (by have := hBs.out.1; omega) hvlt
            have hwl : (wasOf S D (L.take q)).length = q := by simp [wasOf]; omega
            refine wpList_append_blk (v := .slice ao q co) (xs := wasOf S D (L.take q)) (y := (cc.kids, dd)) rfl _ _ rfl (by have := hB4.size; omega) rfl hob4 (by have := hBs.out.1; have := hB4.size; omega) rfl hn2 hks2 (by omega) ?_
            intro vo' w5 ho5 hb5 hg5
            have h5 : OwnB w8.heap.size B.s w5 vo' (wasOf S D (L.take (q + 1))) := by
              rw [HG.out.2, wasOf_snoc S D _ id (x := (cc.kids, dd)) (by rw [HG.out.1])]
              exact ho5
            obtain ⟨ao', co', hvo, hroom⟩ := h5.room
            have hwl1 : (wasOf S D (L.take (q + 1))).length = q + 1 := by simp [wasOf]; omega
            rw [hwl1] at hvo hroom
            subst hvo
            have H5 : Hid (Below w8.heap.size w8 w5 ∧ OwnB w8.heap.size B.s w5 (.slice ao' (q + 1) co') (wasOf S D (L.take (q + 1)))) := ⟨(HQ.out.1.trans (hB4.mono HQ.out.1.size)).trans hb5, h5⟩
            clear hB4 hn2 hown4 hob4 hks2 ho5 hb5 hg5 hvlt h5 hwl hwl1
            go_wp2_with fail
            go_roundw
            case rel => exact ⟨q + 1, ao', co', by omega, by go_num, rfl, hroom, H5.out⟩
            case measure => simp [intOf]; omega
          · have hqe : L.take q = L := List.take_of_length_le (by omega)
            have hq2 : q = L.length := by omega
            have hwl : (wasOf S D L).length = L.length := by simp [wasOf]
            have hbk := HQ.out.2.blks (by rw [hqe, hwl]; omega)
            rw [hqe] at hbk
            have HB : Hid (Below w8.heap.size w8 wr ∧ Blks (w8.heap.size ≤ ·) wr (.slice ao q co) (wasOf S D L) ∧ q = L.length) := ⟨HQ.out.1, hbk, hq2⟩
            have HO : Hid (Ov w1 N j B S D (.slice al L.length cl) L wr) := H8.out.on HQ.out.1
            have hqco : Hid (q ≤ co) := hqc
            clear hqe hbk HQ hwl hq2 hqc hq
            go_wp2_with fail
            clear hlt
            refine (clone_any wr B.d B.k B.y D HO.out.sc.st.dev).mono ?_
            rintro e w9 ⟨b', bk', bd', rfl, hA8, hb8, g1, g2', g3⟩
            have H9 : Hid (At w9 b' bk' bd' D ∧ Below wr.heap.size wr w9 ∧ wr.heap.size ≤ b' ∧ wr.heap.size ≤ bk' ∧ wr.heap.size ≤ bd') := ⟨hA8, hb8, g1, g2', g3⟩
            clear hA8 hb8 g1 g2' g3
            go_wp2_with fail
            refine (dirty_any w9 b' bk' bd' D H9.out.1).mono ?_
            rintro e w10 ⟨vd, ld, rfl, _, _, hid, _, hb9, _⟩
            obtain ⟨ad, cd, rfl, _, _⟩ := hid.form
            have H10 : Hid (At w10 b' bk' bd' D ∧ Below wr.heap.size wr w10 ∧ Ints (fun k => k ≠ b' ∧ k ≠ bk' ∧ k ≠ bd') w10 (.slice ad ld.length cd) ld) := ⟨H9.out.1.on6 hb9, H9.out.2.1.trans (hb9.mono H9.out.2.1.size), hid.mono (fun k hk => by
              have h1 := heap_lt H9.out.1.heap
              have h2 := H9.out.1.kept.lt
              have h3 := H9.out.1.dirty.lt
              omega)⟩
            clear hid hb9
            go_wp2_with fail
            refine (crash_any w10 b' bk' bd' D _ ld H10.out.1 H10.out.2.2).mono ?_
            rintro e w11 ⟨rfl, hA10, hc10⟩
            have H11 : Hid (At w11 b' bk' bd' (D.crash ld) ∧ Below wr.heap.size wr w11) := ⟨hA10, H10.out.2.1.trans (hc10.below H10.out.2.1.size (by have := H9.out.2.2; simp; omega))⟩
            clear hA10 hc10 H10
            go_wp2_with fail
            refine (start_any w11 b' bk' bd' _ H11.out.1).mono ?_
            rintro e w12 ⟨rfl, hA11, hc11⟩
            have H12 : Hid (At w12 b' bk' bd' (D.crash ld).start ∧ Below wr.heap.size wr w12) := ⟨hA11, H11.out.2.trans (hc11.below H11.out.2.size (by have := H9.out.2.2; simp; omega))⟩
            clear hA11 hc11 H11
            obtain ⟨S2, hop, hopd, hbel⟩ := HR.out.good.crash HR.out.inv HN.out ld
            have HP : Hid (openOut (D.crash ld).start = .ok S2 ∧ belowF S2 (D.crash ld).start S.root = allOf N S (kp D)) := ⟨hop, hbel⟩
            clear hop hopd hbel
            go_wp2_with fail
            refine (open_sc (w0 := wr) H12.out.1 (crash_small HO.out.sc.st.small ld) HP.out.1 H12.out.2 H9.out.2.2.1 H9.out.2.2.2.1 H9.out.2.2.2.2).mono ?_
            rintro e w13 ⟨B2, rfl, _, hsc2, _, _⟩
            have H13 : Hid (Sc wr B2 S2 (D.crash ld).start w13) := hsc2
            clear hsc2 H12 H9
            go_wp2_with fail
            refine (below_any w13 B2 S2 _ S.root H13.out.st).mono ?_
            rintro e w14 ⟨vk, rfl, hk14, hb14⟩
            rw [HP.out.2] at hk14
            obtain ⟨akk, ckk, rfl, hlk, _⟩ := hk14.at
            have hbw : Below wr.heap.size wr w14 := H13.out.below.trans (hb14.mono H13.out.below.size)
            have H14 : Hid (Ov w1 N j B S D (.slice al L.length cl) L w14 ∧ Blks (w8.heap.size ≤ ·) w14 (.slice ao q co) (wasOf S D L) ∧ Blks (w8.heap.size ≤ ·) w14 (.slice akk (allOf N S (kp D)).length ckk) (allOf N S (kp D))) := ⟨HO.out.on hbw, HB.out.2.1.on hbw, hk14.mono (fun k hk => by have h1 := HB.out.1.size; have h2 := H13.out.below.size; omega)⟩
            have hkb : w14.heap[w.heap.size]? = some (.cells #[.int .i64 k0.op, .int .i64 k0.i, .slice ak k0.kids.length ck, .string k0.s] 51 (0, 0)) := (H14.out.1.sc.below.block _ (heap_lt HB1.out.2)).trans HB1.out.2
            have HKB : Hid _ := hkb
            clear hk14 hb14 hbw hkb H13 HO HP
            have HWB : Hid (∀ wz, Below w14.heap.size w14 wz → Below w.heap.size w wz) := fun wz hz => HB1.out.1.trans ((H14.out.1.sc.below.trans (hz.mono H14.out.1.sc.below.size)).mono HB1.out.1.size)
            have q0 : w14.cell? ⟨w.heap.size, 0, none⟩ = some (.int .i64 k0.op) := cell_at HKB.out 0
            have q1 : w14.cell? ⟨w.heap.size, 1, none⟩ = some (.int .i64 k0.i) := cell_at HKB.out 1
            have q2 : w14.cell? ⟨w.heap.size, 2, none⟩ = some (.slice ak k0.kids.length ck) := cell_at HKB.out 2
            have q3 : w14.cell? ⟨w.heap.size, 3, none⟩ = some (.string k0.s) := cell_at HKB.out 3
            go_wp2_with fail
            refine (op_fn' k0 _ w14).mono ?_
            rintro e w15 ⟨rfl, hb15⟩
            have H15 : Hid (Ov w1 N j B S D (.slice al L.length cl) L w15 ∧ Blks (w8.heap.size ≤ ·) w15 (.slice ao q co) (wasOf S D L) ∧ Blks (w8.heap.size ≤ ·) w15 (.slice akk (allOf N S (kp D)).length ckk) (allOf N S (kp D)) ∧ w15.heap[w.heap.size]? = some (.cells #[.int .i64 k0.op, .int .i64 k0.i, .slice ak k0.kids.length ck, .string k0.s] 51 (0, 0)) ∧ Below w.heap.size w w15) := ⟨H14.out.1.on hb15, H14.out.2.1.on hb15, H14.out.2.2.on hb15, (hb15.block _ (heap_lt HKB.out)).trans HKB.out, HWB.out _ hb15⟩
            clear hb15 q0 q1 q2 q3 H14 HKB HWB
            by_cases h11 : 11 ≤ k0.opn
            · go_wp2_with fail
              refine (awake_any w15).mono ?_
              rintro e wy ⟨rfl, hby⟩
              have HWY : Hid (Below w.heap.size w wy) := H15.out.2.2.2.2.trans (hby.mono (H15.out.2.2.2.2).size)
              clear hby
              go_wp2_with fail
              go_ret
              exact ⟨rfl, HWY.out⟩
            · have q0 : w15.cell? ⟨w.heap.size, 0, none⟩ = some (.int .i64 k0.op) := cell_at H15.out.2.2.2.1 0
              have q1 : w15.cell? ⟨w.heap.size, 1, none⟩ = some (.int .i64 k0.i) := cell_at H15.out.2.2.2.1 1
              have q2 : w15.cell? ⟨w.heap.size, 2, none⟩ = some (.slice ak k0.kids.length ck) := cell_at H15.out.2.2.2.1 2
              have q3 : w15.cell? ⟨w.heap.size, 3, none⟩ = some (.string k0.s) := cell_at H15.out.2.2.2.1 3
              go_wp2_with fail
              refine (op_fn' k0 _ w15).mono ?_
              rintro e w16 ⟨rfl, hb16⟩
              have H16 : Hid (Ov w1 N j B S D (.slice al L.length cl) L w16 ∧ Blks (w8.heap.size ≤ ·) w16 (.slice ao q co) (wasOf S D L) ∧ Blks (w8.heap.size ≤ ·) w16 (.slice akk (allOf N S (kp D)).length ckk) (allOf N S (kp D)) ∧ w16.heap[w.heap.size]? = some (.cells #[.int .i64 k0.op, .int .i64 k0.i, .slice ak k0.kids.length ck, .string k0.s] 51 (0, 0)) ∧ Below w.heap.size w w16) := ⟨H15.out.1.on hb16, H15.out.2.1.on hb16, H15.out.2.2.1.on hb16, (hb16.block _ (heap_lt H15.out.2.2.2.1)).trans H15.out.2.2.2.1, H15.out.2.2.2.2.trans (hb16.mono H15.out.2.2.2.2.size)⟩
              clear hb16 q0 q1 q2 q3 H15
              by_cases h9 : k0.opn = 9
              · go_wp2_with fail
                refine (awake_any w16).mono ?_
                rintro e wy ⟨rfl, hby⟩
                have HWY : Hid (Below w.heap.size w wy) := H16.out.2.2.2.2.trans (hby.mono (H16.out.2.2.2.2).size)
                clear hby
                go_wp2_with fail
                go_ret
                exact ⟨rfl, HWY.out⟩
              · have h9' : (k0.opn == 9) = false := by simpa using h9
                have q0 : w16.cell? ⟨w.heap.size, 0, none⟩ = some (.int .i64 k0.op) := cell_at H16.out.2.2.2.1 0
                have q1 : w16.cell? ⟨w.heap.size, 1, none⟩ = some (.int .i64 k0.i) := cell_at H16.out.2.2.2.1 1
                have q2 : w16.cell? ⟨w.heap.size, 2, none⟩ = some (.slice ak k0.kids.length ck) := cell_at H16.out.2.2.2.1 2
                have q3 : w16.cell? ⟨w.heap.size, 3, none⟩ = some (.string k0.s) := cell_at H16.out.2.2.2.1 3
                go_wp2_with fail
                clear q0 q1 q2 q3 h9'
                refine (does_any w16 B S D N j k0 _ H16.out.1.sc.st HR.out.inv HR.out.good.dn (by omega) HN.out.2 HK0.out.1 ((Ints.below H1.out.2 H16.out.1.sc.below).mono (fun k hk hm => by have := H16.out.1.sc.base k hm; omega)) (by omega)).mono ?_
                rintro e w17 ⟨B', a8, m8, c8, d8, hnx, rfl, _, hs8, hc8⟩
                have hrun1 := HR.out.does HN.out (by omega) (k := k0) (by omega)
                have hlast := doesOut_last HR.out.good HR.out.inv HN.out k0 h9
                have hget := fun (i : Int) => get_stays HR.out HN.out (by omega : j < 1099511627776) k0 h9 (by omega) (i := i)
                have hall : allOf N (doesOut S D k0).st (kp (doesOut S D k0).dv) = allOf N S (kp D) := allOf_turn HR.out.good.last (fun i _ => by rw [hlast.2.2.2]) hlast.2.2.1 hlast.1
                have hroot := hlast.1
                generalize doesOut S D k0 = R at hrun1 hs8 hget hall hroot ⊢
                obtain ⟨num8, blk8, err8, S1, E1⟩ := R
                dsimp only at hrun1 hs8 hget hall hroot ⊢
                have HG1 : Hid ((∀ i, S.has i = true → S1.has i = true → S1.getR E1 i = S.getR D i ∧ (S.getR D i).1 = 0) ∧ allOf N S1 (kp E1) = allOf N S (kp D) ∧ S1.root = S.root) := ⟨hget, hall, hroot⟩
                have hbnew : ∀ k, w8.heap.size ≤ k → k ∉ B.all := fun k hk hm => by have := hBs.out.2 k hm; omega
                have H17 : Hid (Sc w1 B' S1 E1 w17 ∧ Run N (j + 1) S1 E1 ∧ Ints (fun _ => True) w17 (.slice al L.length cl) L ∧ Blks (w8.heap.size ≤ ·) w17 (.slice ao q co) (wasOf S D L) ∧ Blks (w8.heap.size ≤ ·) w17 (.slice akk (allOf N S (kp D)).length ckk) (allOf N S (kp D)) ∧ B'.s = B.s ∧ (B'.d = B.d ∧ B'.k = B.k ∧ B'.y = B.y)) :=
                  ⟨H16.out.1.sc.turn hnx hs8 hc8, hrun1, (Ints.chg H16.out.1.live hc8 (fun k hk => hk.2)).mono (fun _ _ => trivial), H16.out.2.1.chg hc8 hbnew, H16.out.2.2.1.chg hc8 hbnew, hnx.s, hnx.d, hnx.k, hnx.y⟩
                clear hrun1 hlast hget hall hroot hbnew hnx hs8 hc8 H16
                go_wp2_with fail
                go_loopw [124] (fun i wk => ∃ r : Nat, r ≤ L.length ∧ i = .int .i64 r ∧ Hid (Below w17.heap.size w17 wk)) (fun i _ => L.length - (intOf i).toNat)
                case atStart => exact ⟨0, by omega, rfl, Below.refl _ _⟩
                case round =>
                  obtain ⟨r, hr, rfl, HT⟩ := hrel
                  have HS1 : Hid (Sc w1 B' S1 E1 wr) := H17.out.1.on HT.out
                  have HSE : Hid (B'.s = B.s) := H17.out.2.2.2.2.2.1
                  by_cases hrl : r < L.length
                  · as_aux_lemma =>
                    have hr3 : r + 1 ≤ L.length := hrl
                    have hmr : Hid (L.length - (r + 1) < L.length - r) := by show _ < _; omega
                    obtain ⟨b, o, rfl, _, hcell0⟩ := Ints.item' H17.out.2.2.1 r hrl
                    have hcell := cell_on HT.out hcell0
                    have hhas := hLH.out r hrl
                    have hwi : (wasOf S D L)[r]'(by simp [wasOf]; omega) = ((S.getR D L[r]).2).getD ([], nob) := by simp [wasOf]
                    obtain ⟨id, hid⟩ : ∃ id, id = L[r] := ⟨_, rfl⟩
                    rw [← hid] at hcell hhas hwi
                    clear hcell0 hid
                    go_wp2_with fail
                    have hcr := storeRefs_any wr B' S1 E1 id HS1.out.st
                    rw [HSE.out] at hcr
                    refine hcr.mono ?_
                    clear hcr
                    rintro e w18 ⟨rfl, hb18⟩
                    have H18 : Hid (Below w17.heap.size w17 w18) := HT.out.trans (hb18.mono HT.out.size)
                    clear hb18 hcell
                    cases hh1 : S1.has id with
                    | false =>
                      go_wp2_with fail
                      go_roundw
                      case rel => exact ⟨r + 1, hr3, by go_num, H18.out⟩
                      case measure => simp [intOf]; exact hmr.out
                    | true =>
                      obtain ⟨e1, e2⟩ := HG1.out.1 id hhas hh1
                      obtain ⟨c1, hc1⟩ := has_iff.1 hhas
                      obtain ⟨dd, _, hget⟩ := HR.out.good.get HR.out.inv HR.out.pow.off hc1
                      have hklen := HR.out.inv.wf.len _ c1 hc1
                      rw [hget] at hwi e1
                      have HX : Hid (S1.getR E1 id = (0, some (c1.kids, dd)) ∧ (wasOf S D L)[r]'(by simp [wasOf]; omega) = (c1.kids, dd)) := ⟨e1, hwi⟩
                      clear e1 e2 hc1 hget hwi
                      go_wp2_with fail
                      have hcg := storeGet_any w18 B' S1 E1 id (H17.out.1.on H18.out).st
                      rw [HSE.out, HX.out.1] at hcg
                      refine hcg.mono ?_
                      clear hcg
                      rintro e w19 ⟨a9, m9, c9, d9, rfl, his, hb19⟩
                      obtain ⟨hd9, hown⟩ := his
                      replace hd9 := hd9.symm
                      subst hd9
                      obtain ⟨a', c', hv⟩ := hown.form
                      injection hv with hv1 hv2 hv3
                      subst hv1 hv2 hv3
                      have hb20 : Below w18.heap.size w18 (w19.alloc (.cells #[.slice a9 c1.kids.length c9, .string dd] 58)) := hb19.alloc hb19.size _
                      have hxb : (w19.alloc (.cells #[.slice a9 c1.kids.length c9, .string dd] 58)).heap[w19.heap.size]? = some (.cells #[.slice a9 c1.kids.length c9, .string dd] 58 (0, 0)) := heap_alloc_last _ _
                      have hki : Ints (fun _ => True) (w19.alloc (.cells #[.slice a9 c1.kids.length c9, .string dd] 58)) (.slice a9 c1.kids.length c9) c1.kids := ((OwnI.alloc hown _).ints (by omega)).mono (fun _ _ => trivial)
                      have hsw : ∃ g og, ao = some ⟨g, og, none⟩ := by
                        have hl0 : (wasOf S D L).length = L.length := by simp [wasOf]
                        obtain ⟨bq, oq, h1, _⟩ := (show Blks (w8.heap.size ≤ ·) w17 (.slice ao (wasOf S D L).length co) (wasOf S D L) from by rw [hl0, ← HB.out.2.2]; exact H17.out.2.2.2.1).item r (by rw [hl0]; exact hrl)
                        exact ⟨bq, oq, h1⟩
                      obtain ⟨gw, ow, rfl⟩ := hsw
                      have H20 : Hid (Below w17.heap.size w17 (w19.alloc (.cells #[.slice a9 c1.kids.length c9, .string dd] 58)) ∧ Ints (fun _ => True) (w19.alloc (.cells #[.slice a9 c1.kids.length c9, .string dd] 58)) (.slice a9 c1.kids.length c9) c1.kids ∧ Blks (fun _ => True) (w19.alloc (.cells #[.slice a9 c1.kids.length c9, .string dd] 58)) (.slice (some ⟨gw, ow + r * 2, none⟩) 1 (co - r)) [(c1.kids, dd)]) := by
                        have hb17 := H18.out.trans (hb20.mono H18.out.size)
                        refine ⟨hb17, hki, ?_⟩
                        have h1 := ((H17.out.2.2.2.1.on hb17).mono (q := fun _ => True) (fun _ _ => trivial)).sub (j := r) (by simp [wasOf]; exact hrl) (co - r)
                        rw [HX.out.2] at h1
                        exact h1
                      obtain ⟨xb, hxbe⟩ : ∃ xb, xb = w19.heap.size := ⟨_, rfl⟩
                      rw [← hxbe] at hxb
                      have HXB : Hid _ := hxb
                      have hrq := HB.out.2.2
                      have hs2 : r + 1 ≤ co := by have h2 := hqco.out; omega
                      clear hrq
                      have hr2 : IntKind.i64.wrap ((r : Int) + 1) = (r : Int) + 1 := by rw [IntKind.wrap_i64]; omega
                      have hs1 : (r : Int) + 1 ≤ (co : Int) := by omega
                      have hs3 : r < co := by omega
                      have hs4 : ((r : Int) + 1).toNat = r + 1 := by omega
                      have hs5 : ¬ co = r := by omega
                      have hs6 : (0 : Int) ≤ (r : Int) := by omega
                      have hs7 : (r : Int) ≤ (r : Int) + 1 := by omega
                      have hs8 : (0 : Int) ≤ (r : Int) + 1 := by omega
                      have hr1 : wrap64 ((r : Int) + 1) = (r : Int) + 1 := by unfold wrap64; omega
                      clear hown hb19 hb20 hxb hki
                      go_wp2_with fail
                      rw [← hxbe]
                      clear hxbe
                      generalize w19.alloc (.cells #[.slice a9 c1.kids.length c9, .string dd] 58) = w20 at H20 HXB ⊢
                      have A0 : Hid (Rx w17 xb gw (ow + r * 2) (co - r) a9 c9 (c1.kids, dd) w20.drew) := (show Rx w17 xb gw (ow + r * 2) (co - r) a9 c9 (c1.kids, dd) w20 from ⟨H20.out.1, H20.out.2.1, H20.out.2.2, HXB.out⟩).on ((Below.refl _ _).drew)
                      have A1 : Hid (∀ o, Rx w17 xb gw (ow + r * 2) (co - r) a9 c9 (c1.kids, dd) (w20.drew.alloc o)) := fun o => A0.out.on ((Below.refl _ _).alloc (Nat.le_refl _) o)
                      clear H20 HXB
                      go_region_held3 (fun w' => w'.cell? ⟨xb, 0, none⟩ = some (.slice a9 c1.kids.length c9) ∧ w'.cell? ⟨xb, 1, none⟩ = some (.string dd) ∧ Hid (Rx w17 xb gw (ow + r * 2) (co - r) a9 c9 (c1.kids, dd) w'))
                        (first | exact A0.out.held | exact (A1.out _).held | exact A3.out.held)
                        (first
                          | (go_at_call 35; refine (same_any (fun _ => True) (fun _ => True) _ _ _ [(c1.kids, dd)] [(c1.kids, dd)] (blk_one (x := (c1.kids, dd)) A0.out.kids) (A1.out _).sub).mono ?_; rintro e wl ⟨rfl, hbl⟩; rw [decide_eq_true rfl]; have A3 : Hid (Rx w17 xb gw (ow + r * 2) (co - r) a9 c9 (c1.kids, dd) wl) := (A1.out _).on hbl; clear hbl))
                      have H21 : Hid (Below w17.heap.size w17 _) := A3.out.below
                      go_wp2_with fail
                      go_roundw
                      case rel => exact ⟨r + 1, hr3, by go_num, H21.out⟩
                      case measure => simp [intOf]; exact hmr.out
                  · as_aux_lemma =>
                    have HA : Hid (At wr B.d B.k B.y E1 ∧ Below w1.heap.size w1 wr ∧ w1.heap.size ≤ B.d ∧ w1.heap.size ≤ B.k ∧ w1.heap.size ≤ B.y) := by
                      obtain ⟨g1, g2, g3⟩ := H17.out.2.2.2.2.2.2
                      have h1 := HS1.out.st.dev
                      have hbs := HS1.out.base
                      rw [g1, g2, g3] at h1
                      refine ⟨h1, HS1.out.below, ?_, ?_, ?_⟩
                      · rw [← g1]; exact hbs _ (by simp [Blk.all])
                      · rw [← g2]; exact hbs _ (by simp [Blk.all])
                      · rw [← g3]; exact hbs _ (by simp [Blk.all])
                    have HNI : Hid (∀ k, w8.heap.size ≤ k → k ∉ [B.d, B.k, B.y]) := fun k hk hm => by
                      have h1 := hBs.out.2 B.d (by simp [Blk.all])
                      have h2 := hBs.out.2 B.k (by simp [Blk.all])
                      have h3 := hBs.out.2 B.y (by simp [Blk.all])
                      simp at hm
                      omega
                    have HK : Hid (Blks (w8.heap.size ≤ ·) wr (.slice akk (allOf N S (kp D)).length ckk) (allOf N S (kp D))) := H17.out.2.2.2.2.1.on HT.out
                    have HR1 : Hid (Run N (j + 1) S1 E1 ∧ E1.small ∧ allOf N S1 (kp E1) = allOf N S (kp D) ∧ S1.root = S.root) := ⟨H17.out.2.1, HS1.out.st.small, HG1.out.2.1, HG1.out.2.2⟩
                    clear HT HS1 HSE H17 HG1
                    go_wp2_with fail
                    refine (dirty_any wr B.d B.k B.y E1 HA.out.1).mono ?_
                    rintro e w21 ⟨vd, l1, rfl, _, _, hid1, _, hb21, _⟩
                    obtain ⟨ad1, cd1, rfl, _, _⟩ := hid1.form
                    have H21 : Hid (At w21 B.d B.k B.y E1 ∧ Below w1.heap.size w1 w21 ∧ Ints (fun k => k ≠ B.d ∧ k ≠ B.k ∧ k ≠ B.y) w21 (.slice ad1 l1.length cd1) l1 ∧ Blks (w8.heap.size ≤ ·) w21 (.slice akk (allOf N S (kp D)).length ckk) (allOf N S (kp D))) := ⟨HA.out.1.on6 hb21, HA.out.2.1.trans (hb21.mono HA.out.2.1.size), hid1.mono (fun k hk => by
                      have h1 := heap_lt HA.out.1.heap
                      have h2 := HA.out.1.kept.lt
                      have h3 := HA.out.1.dirty.lt
                      omega), HK.out.on hb21⟩
                    clear hid1 hb21 HK
                    go_wp2_with fail
                    refine (crash_any w21 B.d B.k B.y E1 _ l1 H21.out.1 H21.out.2.2.1).mono ?_
                    rintro e w22 ⟨rfl, hA22, hc22⟩
                    have H22 : Hid (At w22 B.d B.k B.y (E1.crash l1) ∧ Below w1.heap.size w1 w22 ∧ Blks (w8.heap.size ≤ ·) w22 (.slice akk (allOf N S (kp D)).length ckk) (allOf N S (kp D))) := ⟨hA22, H21.out.2.1.trans (hc22.below H21.out.2.1.size (by have := HA.out.2.2; simp; omega)), H21.out.2.2.2.chg hc22 HNI.out⟩
                    clear hA22 hc22 H21
                    go_wp2_with fail
                    refine (start_any w22 B.d B.k B.y _ H22.out.1).mono ?_
                    rintro e w23 ⟨rfl, hA23, hc23⟩
                    have H23 : Hid (At w23 B.d B.k B.y (E1.crash l1).start ∧ Below w1.heap.size w1 w23 ∧ Blks (w8.heap.size ≤ ·) w23 (.slice akk (allOf N S (kp D)).length ckk) (allOf N S (kp D))) := ⟨hA23, H22.out.2.1.trans (hc23.below H22.out.2.1.size (by have := HA.out.2.2; simp; omega)), H22.out.2.2.chg hc23 HNI.out⟩
                    clear hA23 hc23 H22
                    obtain ⟨S3, hop, _, hbel⟩ := HR1.out.1.good.crash HR1.out.1.inv HN.out l1
                    rw [HR1.out.2.2.1, HR1.out.2.2.2] at hbel
                    have HP : Hid (openOut (E1.crash l1).start = .ok S3 ∧ belowF S3 (E1.crash l1).start S.root = allOf N S (kp D)) := ⟨hop, hbel⟩
                    clear hop hbel
                    go_wp2_with fail
                    refine (open_sc (w0 := w1) H23.out.1 (crash_small HR1.out.2.1 l1) HP.out.1 H23.out.2.1 HA.out.2.2.1 HA.out.2.2.2.1 HA.out.2.2.2.2).mono ?_
                    rintro e w24 ⟨B3, rfl, _, hsc24, _, hc24⟩
                    have H24 : Hid (Sc w1 B3 S3 (E1.crash l1).start w24 ∧ Blks (w8.heap.size ≤ ·) w24 (.slice akk (allOf N S (kp D)).length ckk) (allOf N S (kp D))) := ⟨hsc24, H23.out.2.2.chg hc24 HNI.out⟩
                    clear hsc24 hc24 H23
                    go_wp2_with fail
                    refine (below_any w24 B3 S3 _ S.root H24.out.1.st).mono ?_
                    rintro e w25 ⟨vk2, rfl, hk25, hb25⟩
                    rw [HP.out.2] at hk25
                    have H25 : Hid (Below w1.heap.size w1 w25 ∧ Blks (w8.heap.size ≤ ·) w25 (.slice akk (allOf N S (kp D)).length ckk) (allOf N S (kp D)) ∧ Blks (w24.heap.size ≤ ·) w25 vk2 (allOf N S (kp D))) := ⟨H24.out.1.below.trans (hb25.mono H24.out.1.below.size), H24.out.2.on hb25, hk25⟩
                    clear hk25 hb25 H24
                    go_wp2_with fail
                    refine (same_any _ _ w25 _ _ _ _ H25.out.2.2 H25.out.2.1).mono ?_
                    rintro e w26 ⟨rfl, hb26⟩
                    rw [decide_eq_true rfl]
                    have H26 : Hid (Below w1.heap.size w1 w26) := H25.out.1.trans (hb26.mono H25.out.1.size)
                    clear hb26 H25
                    go_wp2_with fail
                    refine (awake_any w26).mono ?_
                    rintro e w27 ⟨rfl, hb27⟩
                    have H27 : Hid (Below w.heap.size w w27) := HB1.out.1.trans ((H26.out.trans (hb27.mono H26.out.size)).mono HB1.out.1.size)
                    clear hb27
                    go_wp2_with fail
                    go_ret
                    exact ⟨rfl, H27.out⟩
end Go.Proofs.YtanpkghdgdkdlaaGreat.Sto
