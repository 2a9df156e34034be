/- StoreWhole, walked. (Printed by wip/tools/genwhole.py.) -/
import Derived.Test.YtanpkghdgdkdlaaStoWholeA
namespace Go.Proofs.Ytanpkghdgdkdlaa.Sto
set_option linter.unusedVariables false
set_option linter.unusedSimpArgs false
set_option maxRecDepth 100000
open Go.RowKit Go.Lib Go.Proofs.Ytanpkghdgdkdlaa.Mem Go.Proofs.Ytanpkghdgdkdlaa.Oct Go.Proofs.Ytanpkghdgdkdlaa.Dev

/-- behind the loop: a device, what was committed -/
structure Wf (w0 : World) (b bk bd : Nat) (D : DevS) (sv nv : Nat) (nr : Int) (nn : ByteArray) (va : Value) (all : List BlkT) (w : World) : Prop where
  dev : At w b bk bd D
  small : D.small
  below : Below w0.heap.size w0 w
  b0 : w0.heap.size ≤ b
  b1 : w0.heap.size ≤ bk
  b2 : w0.heap.size ≤ bd
  sb : ∃ p, w.heap[sv]? = some (.cells #[.pointer p] 29 (0, 0))
  nb : w.heap[nv]? = some (.cells #[.int .i64 nr, .string nn, va] 66 (0, 0))
  all : Blks (fun k => k ∉ [b, bk, bd] ∧ k ≠ sv) w va all
  sn : sv ∉ [b, bk, bd]
  nn' : nv ∉ [b, bk, bd]
  ne : sv ≠ nv
  bs : w0.heap.size ≤ sv
/-- what is known of a commit that was begun -/
structure Wx (b bk bd sv np : Nat) (r : Int) (n : ByteArray) (vb : Value) (all : List BlkT) (w : World) : Prop where
  xb : w.heap[np]? = some (.cells #[.int .i64 r, .string n, vb] 66 (0, 0))
  all : Blks (fun k => k ∉ [b, bk, bd] ∧ k ≠ sv) w vb all
  nn : np ∉ [b, bk, bd]
  ne : sv ≠ np
theorem Wf.turn {w0 w w' : World} {b bk bd : Nat} {D D' : DevS} {sv nv : Nat} {nr : Int} {nn : ByteArray} {va : Value} {all : List BlkT} (h : Wf w0 b bk bd D sv nv nr nn va all w) (hd : At w' b bk bd D') (hs : D'.small) (hc : Chg [b, bk, bd] w w') : Wf w0 b bk bd D' sv nv nr nn va all w' := by
  obtain ⟨p, hp⟩ := h.sb
  exact ⟨hd, hs, h.below.trans (hc.below h.below.size (by have := h.b0; have := h.b1; have := h.b2; simp; omega)), h.b0, h.b1, h.b2, ⟨p, (hc.block _ (heap_lt hp) h.sn).trans hp⟩, (hc.block _ (heap_lt h.nb) h.nn').trans h.nb, h.all.chg hc (fun k hk => hk.1), h.sn, h.nn', h.ne, h.bs⟩
theorem Wx.turn {w w' : World} {b bk bd sv np : Nat} {r : Int} {n : ByteArray} {vb : Value} {all : List BlkT} (h : Wx b bk bd sv np r n vb all w) (hc : Chg [b, bk, bd] w w') : Wx b bk bd sv np r n vb all w' :=
  ⟨(hc.block _ (heap_lt h.xb) h.nn).trans h.xb, h.all.chg hc (fun k hk => hk.1), h.nn, h.ne⟩
theorem Wx.on {w w' : World} {b bk bd sv np : Nat} {r : Int} {n : ByteArray} {vb : Value} {all : List BlkT} (h : Wx b bk bd sv np r n vb all w) (hb : Below w.heap.size w w') : Wx b bk bd sv np r n vb all w' :=
  ⟨(hb.block _ (heap_lt h.xb)).trans h.xb, h.all.on hb, h.nn, h.ne⟩
theorem Wx.set {w : World} {b bk bd sv np : Nat} {r : Int} {n : ByteArray} {vb : Value} {all : List BlkT} (h : Wx b bk bd sv np r n vb all w) (v : Value) : Wx b bk bd sv np r n vb all (w.setCell ⟨sv, 0, none⟩ v) := by
  have hc : Chg [sv] w (w.setCell ⟨sv, 0, none⟩ v) := (Chg.refl [sv] w).setCell ⟨sv, 0, none⟩ v (.inl (by simp))
  exact ⟨(hc.block _ (heap_lt h.xb) (by simpa using Ne.symm h.ne)).trans h.xb, h.all.chg hc (fun k hk => by simpa using hk.2), h.nn, h.ne⟩
def txtF : ByteArray := ⟨#[102, 105, 114, 115, 116]⟩
theorem dev_not {B : Blk} {q : Nat} (h : q ∉ B.all) : q ∉ [B.d, B.k, B.y] := fun hm => h (B.dev_mem q hm)
theorem Wi.fin {w0 w : World} {N j : Nat} {B : Blk} {S : StS} {D : DevS} {sv nv : Nat} {va : Value} (h : Wi w0 N j B S D sv nv va w) : Wf w0 B.d B.k B.y D sv nv S.root S.note va (allOf N S (kp D)) w :=
  ⟨h.sc.st.dev, h.sc.st.small, h.sc.below, h.sc.base _ (by simp [Blk.all]), h.sc.base _ (by simp [Blk.all]), h.sc.base _ (by simp [Blk.all]), ⟨_, h.sb⟩, h.nb, h.all.mono (fun k hk => ⟨dev_not hk.2.1, hk.2.2.1⟩), dev_not h.sn, dev_not h.nn, h.ne, h.bs⟩
/-- the power has gone in an act -/
theorem Wi.gone {w0 w w' : World} {N j : Nat} {B B' : Blk} {S S' : StS} {D D' : DevS} {sv nv : Nat} {va : Value} (h : Wi w0 N j B S D sv nv va w) (hn : Blk.Next w B B') (hs : StAt w' B' S' D') (hc : Chg B.all w w') : Wf w0 B.d B.k B.y D' sv nv S.root S.note va (allOf N S (kp D)) w' := by
  have hd := hs.dev
  rw [hn.d, hn.k, hn.y] at hd
  have hb := (h.sc.turn hn hs hc).below
  exact ⟨hd, hs.small, hb, h.sc.base _ (by simp [Blk.all]), h.sc.base _ (by simp [Blk.all]), h.sc.base _ (by simp [Blk.all]), ⟨_, (hc.block _ (heap_lt h.sb) h.sn).trans h.sb⟩, (hc.block _ (heap_lt h.nb) h.nn).trans h.nb, (h.all.chg hc (fun k hk => hk.2.1)).mono (fun k hk => ⟨dev_not hk.2.1, hk.2.2.1⟩), dev_not h.sn, dev_not h.nn, h.ne, h.bs⟩
/-- the new store is put in the place of the old one -/
structure Wg (w0 : World) (B : Blk) (S : StS) (D : DevS) (sv nv : Nat) (nr : Int) (nn : ByteArray) (va : Value) (p : Nat → Prop) (all : List BlkT) (w : World) : Prop where
  st : StAt w B S D
  below : Below w0.heap.size w0 w
  s0 : w.cell? ⟨sv, 0, none⟩ = some (.pointer (some ⟨B.s, 0, none⟩))
  nb : w.heap[nv]? = some (.cells #[.int .i64 nr, .string nn, va] 66 (0, 0))
  all : Blks p w va all
theorem Wg.on {w0 w w' : World} {B : Blk} {S : StS} {D : DevS} {sv nv : Nat} {nr : Int} {nn : ByteArray} {va : Value} {p : Nat → Prop} {all : List BlkT} (h : Wg w0 B S D sv nv nr nn va p all w) (hb : Below w.heap.size w w') : Wg w0 B S D sv nv nr nn va p all w' :=
  ⟨h.st.on hb, h.below.trans (hb.mono h.below.size), cell_on hb h.s0, (hb.block _ (heap_lt h.nb)).trans h.nb, h.all.on hb⟩
theorem Wf.open {w0 w w' : World} {b bk bd : Nat} {D : DevS} {sv nv : Nat} {nr : Int} {nn : ByteArray} {va : Value} {all : List BlkT} {B2 : Blk} {S' : StS} (h : Wf w0 b bk bd D sv nv nr nn va all w) (hsc : Sc w0 B2 S' D w') (hov : Blk.Over w b bk bd B2) (hc : Chg [b, bk, bd] w w') :
    (∃ p, w'.heap[sv]? = some (.cells #[.pointer p] 29 (0, 0))) ∧ Wg w0 B2 S' D sv nv nr nn va (fun k => k ∉ [b, bk, bd] ∧ k ≠ sv) all (w'.setCell ⟨sv, 0, none⟩ (.pointer (some ⟨B2.s, 0, none⟩))) := by
  obtain ⟨p, hp⟩ := h.sb
  have hp' : w'.heap[sv]? = some (.cells #[.pointer p] 29 (0, 0)) := (hc.block _ (heap_lt hp) h.sn).trans hp
  have hcg : Chg [sv] w' (w'.setCell ⟨sv, 0, none⟩ (.pointer (some ⟨B2.s, 0, none⟩))) := (Chg.refl [sv] w').setCell ⟨sv, 0, none⟩ _ (.inl (by simp))
  have hno : ∀ o z, w'.cell? ⟨sv, o, none⟩ ≠ some (.int .i64 z) := by
    intro o z he
    rw [cell_at hp'] at he
    match o with
    | 0 => simp at he
    | o + 1 => simp at he
  have hn2 : sv ∉ B2.all := fun hm => by
    rcases hov.dev_mem sv hm with h1 | h1
    · exact h.sn h1
    · have := heap_lt hp; omega
  refine ⟨⟨p, hp'⟩, hsc.st.off3 hno hn2 hcg, hsc.below.trans (hcg.below hsc.below.size (by simpa using h.bs)), cell_at (heap_set_at hp' 0 _) 0, ?_, ?_⟩
  · exact (hcg.block _ (by have := heap_lt h.nb; have := hc.size; omega) (by simpa using Ne.symm h.ne)).trans ((hc.block _ (heap_lt h.nb) h.nn').trans h.nb)
  · exact (h.all.chg hc (fun k hk => hk.1)).chg hcg (fun k hk => by simpa using hk.2)
/-- what lies there ahead of an act -/
structure Wr (w0 : World) (N j : Nat) (B : Blk) (S : StS) (D : DevS) (sv nv : Nat) (va : Value) (kb : Nat) (k : DoT) (ka : Option Addr) (kc : Nat) (w : World) : Prop where
  wi : Wi w0 N j B S D sv nv va w
  kids : Ints (· < w0.heap.size) w (.slice ka k.kids.length kc) k.kids
  kd : w.heap[kb]? = some (.cells #[.int .i64 k.op, .int .i64 k.i, .slice ka k.kids.length kc, .string k.s] 24 (0, 0))
theorem Wr.on {w0 w w' : World} {N j : Nat} {B : Blk} {S : StS} {D : DevS} {sv nv : Nat} {va : Value} {kb : Nat} {k : DoT} {ka : Option Addr} {kc : Nat} (h : Wr w0 N j B S D sv nv va kb k ka kc w) (hb : Below w.heap.size w w') : Wr w0 N j B S D sv nv va kb k ka kc w' :=
  ⟨h.wi.on hb, Ints.on h.kids hb, (hb.block _ (heap_lt h.kd)).trans h.kd⟩
theorem Wr.held {w0 w : World} {N j : Nat} {B : Blk} {S : StS} {D : DevS} {sv nv : Nat} {va : Value} {kb : Nat} {k : DoT} {ka : Option Addr} {kc : Nat} (h : Wr w0 N j B S D sv nv va kb k ka kc w) :
    w.cell? ⟨kb, 1, none⟩ = some (.int .i64 k.i) ∧ w.cell? ⟨kb, 3, none⟩ = some (.string k.s) ∧ w.cell? ⟨sv, 0, none⟩ = some (.pointer (some ⟨B.s, 0, none⟩)) ∧ Hid (Wr w0 N j B S D sv nv va kb k ka kc w) :=
  ⟨cell_at h.kd 1, cell_at h.kd 3, cell_at h.wi.sb 0, h⟩
theorem Wr.cells {w0 w : World} {N j : Nat} {B : Blk} {S : StS} {D : DevS} {sv nv : Nat} {va : Value} {kb : Nat} {k : DoT} {ka : Option Addr} {kc : Nat} (h : Wr w0 N j B S D sv nv va kb k ka kc w) :
    w.cell? ⟨kb, 0, none⟩ = some (.int .i64 k.op) ∧ w.cell? ⟨kb, 1, none⟩ = some (.int .i64 k.i) ∧ w.cell? ⟨kb, 2, none⟩ = some (.slice ka k.kids.length kc) ∧ w.cell? ⟨kb, 3, none⟩ = some (.string k.s) ∧ w.cell? ⟨sv, 0, none⟩ = some (.pointer (some ⟨B.s, 0, none⟩)) :=
  ⟨cell_at h.kd 0, cell_at h.kd 1, cell_at h.kd 2, cell_at h.kd 3, cell_at h.wi.sb 0⟩
set_option maxHeartbeats 32000000 in
/-- StoreWhole -/
theorem storeWhole_any (w : World) (n fz : Int) (v vk : Value) (l : List DoT) (keep : List Int) (h : Dos (· < w.heap.size) w v l) (hk : Ints (· < w.heap.size) w vk keep) :
    Calls Try.prog 5 #[.int .i64 n, v, .int .i64 fz, vk] w fun e w' => e = .returned (.bool true) ∧ Below w.heap.size w w' := by
  obtain ⟨a, c, rfl, hlen⟩ := h.len
  obtain ⟨ak, ck, rfl, hlenk, hx⟩ := hk.form
  clear hx
  have H : Hid (Dos (· < w.heap.size) w (.slice a l.length c) l) := h
  have HK : Hid (Ints (· < w.heap.size) w (.slice ak keep.length ck) keep) := hk
  have hmf : ∀ (fn : Fn) (first cap : Array Value) (w : World), (Instr.makeFunc fn first cap).run Try.prog w = .ok (.func fn first cap) w := fun _ _ _ _ => rfl
  clear h hk
  go_enter Try.func5, Try.ntmps5
  go_wp2_with fail
  refine (short_one _ w a c l H.out).mono ?_
  rintro e w1 ⟨x, rfl, hx, hb1⟩
  have HB1 : Hid (Below w.heap.size w w1) := hb1
  clear hb1
  have hgo : x = false ∨ (x = true ∧ 200 < keep.length) ∨ (x = true ∧ keep.length ≤ 200 ∧ l.length ≤ 60) := by
    cases x
    · exact .inl rfl
    · have := hx rfl
      by_cases q2 : 200 < keep.length
      · exact .inr (.inl ⟨rfl, q2⟩)
      · exact .inr (.inr ⟨rfl, by omega, this⟩)
  clear hx
  rcases hgo with rfl | ⟨rfl, hgo⟩ | ⟨rfl, hk2, hl2⟩
  rotate_left 2
  · go_wp2_with fail
    refine (size_fn n w1).mono ?_
    rintro e w2 ⟨rfl, rfl⟩
    obtain ⟨N, hN, hN8, hN40⟩ := size_nat n
    rw [hN]
    have HN : Hid (8 ≤ N ∧ N ≤ 4096) := ⟨hN8, by omega⟩
    clear hN hN8 hN40
    go_wp2_with fail
    refine (new_yes w1 N (by have := HN.out; omega)).mono ?_
    rintro e w3 ⟨b, bk, bd, rfl, hA, hb, hb1, hb2, hb3⟩
    have HA : Hid (At w3 b bk bd (DevS.new N) ∧ Below w.heap.size w w3 ∧ w.heap.size ≤ b ∧ w.heap.size ≤ bk ∧ w.heap.size ≤ bd) := by
      have := HB1.out.size
      exact ⟨hA, HB1.out.trans (hb.mono this), by omega, by omega, by omega⟩
    clear hA hb hb1 hb2 hb3
    go_wp2_with fail
    refine (format_sc (n := N) (note := txtF) HN.out (by decide) HA.out.1 HA.out.2.1 HA.out.2.2.1 HA.out.2.2.2.1 HA.out.2.2.2.2).mono ?_
    rintro e w4 ⟨B0, D1, rfl, rfl, hsc, hrun⟩
    have H4 : Hid (Sc w B0 (StS.fresh txtF) D1 w4 ∧ Run N 0 (StS.fresh txtF) D1) := ⟨hsc, hrun⟩
    clear hsc hrun HA
    obtain ⟨fx, hfx⟩ : ∃ fx, fx = IntKind.u64.wrap fz % 100 := ⟨_, rfl⟩
    have hf0 : 0 ≤ fx ∧ fx < 100 := by rw [hfx]; omega
    have hfe : wrap64 ((IntKind.u64.wrap fz).tmod 100) = fx := by
      have hu : 0 ≤ IntKind.u64.wrap fz := by rw [IntKind.wrap_u64]; omega
      rw [Int.tmod_eq_emod_of_nonneg hu, ← hfx]
      unfold wrap64; omega
    clear hfx
    go_wp2_with fail
    have hp5 := H4.out.1.st.protect (.cells #[.pointer (some ⟨B0.s, 0, none⟩)] 29)
    have hb5 : Below w4.heap.size w4 (w4.alloc (.cells #[.pointer (some ⟨B0.s, 0, none⟩)] 29)) := (Below.refl _ _).alloc (Nat.le_refl _) _
    obtain ⟨sv, hsv⟩ : ∃ sv, sv = w4.heap.size := ⟨_, rfl⟩
    rw [← hsv] at hp5 ⊢
    have H5 : Hid (StAt (w4.alloc (.cells #[.pointer (some ⟨B0.s, 0, none⟩)] 29)) (B0.keep sv) (StS.fresh txtF) D1 ∧ Below w.heap.size w (w4.alloc (.cells #[.pointer (some ⟨B0.s, 0, none⟩)] 29)) ∧ (w4.alloc (.cells #[.pointer (some ⟨B0.s, 0, none⟩)] 29)).heap[sv]? = some (.cells #[.pointer (some ⟨B0.s, 0, none⟩)] 29 (0, 0)) ∧ (sv ∉ B0.all ∧ w.heap.size ≤ sv)) := by
      refine ⟨hp5, H4.out.1.below.trans (hb5.mono H4.out.1.below.size), by rw [hsv]; exact heap_alloc_last _ _, fun hm => ?_, ?_⟩
      · have := H4.out.1.st.lt _ hm; omega
      · have := H4.out.1.below.size; omega
    clear hp5 hb5 hsv
    generalize w4.alloc (.cells #[.pointer (some ⟨B0.s, 0, none⟩)] 29) = w5 at H5 ⊢
    refine (fuse_any w5 B0.d B0.k B0.y D1 fx H5.out.1.dev (by omega)).mono ?_
    rintro e w6 ⟨rfl, hA6, hc6⟩
    have hfu : D1.fuseE = 0 := by unfold DevS.fuseE; rw [H4.out.2.pow.off]; rfl
    rw [hfu]
    have H6 : Hid (StAt w6 (B0.keep sv) (StS.fresh txtF) (D1.fuse fx) ∧ Below w.heap.size w w6 ∧ w6.heap[sv]? = some (.cells #[.pointer (some ⟨B0.s, 0, none⟩)] 29 (0, 0))) := by
      have hm := B0.dev_mem
      refine ⟨H5.out.1.setDev (B := B0.keep sv) hc6 hA6 (fuse_small H5.out.1.small _), H5.out.2.1.trans (hc6.below H5.out.2.1.size (fun q hq => H4.out.1.base q (hm q hq))), (hc6.block _ (heap_lt H5.out.2.2.1) (fun hq => H5.out.2.2.2.1 (hm sv hq))).trans H5.out.2.2.1⟩
    clear hA6 hc6 hfu
    go_wp2_with fail
    have hp7 := H6.out.1.protect (.cells #[.int .i64 0, .string ⟨#[102, 105, 114, 115, 116]⟩, .slice none 0 0] 66)
    have hb7 : Below w6.heap.size w6 (w6.alloc (.cells #[.int .i64 0, .string ⟨#[102, 105, 114, 115, 116]⟩, .slice none 0 0] 66)) := (Below.refl _ _).alloc (Nat.le_refl _) _
    have hx7 := heap_alloc_last w6 (.cells #[.int .i64 0, .string ⟨#[102, 105, 114, 115, 116]⟩, .slice none 0 0] 66)
    have hlt6 := heap_lt H6.out.2.2
    have hge6 := H6.out.2.1.size
    have hst6 : ∀ q ∈ B0.all, q < w6.heap.size := fun q hq => H6.out.1.lt q hq
    obtain ⟨nv, hnv⟩ : ∃ nv, nv = w6.heap.size := ⟨_, rfl⟩
    rw [← hnv] at hp7 hx7 hlt6 hge6 ⊢
    have H7 : Hid (Wi w N 0 ((B0.keep sv).keep nv) (StS.fresh txtF) (D1.fuse fx) sv nv (.slice none 0 0) (w6.alloc (.cells #[.int .i64 0, .string ⟨#[102, 105, 114, 115, 116]⟩, .slice none 0 0] 66))) := by
      have hg := H4.out.2.good
      have hof := H4.out.2.pow.off
      have hfd : (D1.fuse fx).kept = D1.kept ∧ (D1.fuse fx).dirty = D1.dirty ∧ (D1.fuse fx).off = false := by
        unfold DevS.fuse; rw [hof]; exact ⟨rfl, rfl, rfl⟩
      refine ⟨⟨H6.out.2.1.trans (hb7.mono H6.out.2.1.size), hp7, fun q hq => H4.out.1.base q hq⟩, hg.dev hfd.1 hfd.2.1 (fuse_n _ _), H4.out.2.inv, hfd.2.2, (hb7.block _ (by omega)).trans H6.out.2.2, hx7, ?_, H5.out.2.2.2.1, ?_, by simp [Blk.keep], by omega, H5.out.2.2.2.2, hge6⟩
      · rw [allOf_fresh]
        exact .inl ⟨rfl, _, _, rfl⟩
      · exact fun hm => by have := hst6 _ hm; omega
    clear hp7 hb7 hx7 hlt6 hge6 hst6 H5 H6 hnv
    generalize w6.alloc (.cells #[.int .i64 0, .string ⟨#[102, 105, 114, 115, 116]⟩, .slice none 0 0] 66) = w7 at H7 ⊢
    have H8 : Hid (∃ B S D va, B.s = B0.s ∧ B.d = B0.d ∧ Wi w N 0 B S D sv nv va w7) := ⟨(B0.keep sv).keep nv, _, _, _, rfl, rfl, H7.out⟩
    clear H7 H4
    obtain ⟨s, hs⟩ : ∃ s, s = B0.s := ⟨_, rfl⟩
    obtain ⟨d, hd⟩ : ∃ d, d = B0.d := ⟨_, rfl⟩
    rw [← hs, ← hd] at H8
    rw [← hd]
    clear hs hd
    go_wp2_with fail
    go_loopw [14, 59] (fun nx i wr => ∃ j : Nat, j ≤ l.length ∧ i = .int .i64 j ∧ nx = .pointer none ∧ Hid (∃ B S D va, B.s = s ∧ B.d = d ∧ Wi w N j B S D sv nv va wr)) (fun _ i _ => l.length - (intOf i).toNat)
    case atStart => exact ⟨0, by omega, rfl, rfl, H8.out⟩
    case round =>
      obtain ⟨j, hj, rfl, rfl, HW⟩ := hrel
      by_cases hlt : j < l.length
      · obtain ⟨B, S, D, va, rfl, rfl, hwi⟩ := HW.out
        obtain ⟨k, b, o, kv, _, _, rfl, q0, q1, q2, q3, hf, hkv⟩ := (H.out.below hwi.sc.below).item j hlt
        obtain ⟨ka, kc, rfl, hkl, hkc⟩ := hkv.form
        have HF : Hid (k.fits ∧ Ints (· < w.heap.size) wr (.slice ka k.kids.length kc) k.kids) := ⟨hf, hkv⟩
        have HI : Hid (Wi w N j B S D sv nv va wr) := hwi
        clear hf hkv hkl hkc hwi HW
        have hb1 : Below wr.heap.size wr (wr.alloc (.cells #[.int .i64 k.op, .int .i64 k.i, .slice ka k.kids.length kc, .string k.s] 24)) := (Below.refl _ _).alloc (Nat.le_refl _) _
        have HB2 : Hid _ := hb1
        clear hb1
        go_wp2_with fail
        refine (op_fn' k _ _).mono ?_
        rintro e w5 ⟨rfl, hb5⟩
        have H5 : Hid (Below wr.heap.size wr w5 ∧ w5.heap[wr.heap.size]? = some (.cells #[.int .i64 k.op, .int .i64 k.i, .slice ka k.kids.length kc, .string k.s] 24 (0, 0))) := ⟨HB2.out.trans (hb5.mono HB2.out.size), (hb5.block _ (by simp)).trans (heap_alloc_last _ _)⟩
        clear hb5 q0 q1 q2 q3
        by_cases h10 : 10 < k.opn
        · have H6 : Hid (∃ B' S D va, B'.s = B.s ∧ B'.d = B.d ∧ Wi w N (j + 1) B' S D sv nv va w5) := ⟨B, S, D, va, rfl, rfl, (HI.out.on H5.out.1).more⟩
          go_wp2_with fail
          go_roundw
          case rel => exact ⟨j + 1, by omega, by go_num, rfl, H6.out⟩
          case measure => simp [intOf]; omega
        · obtain ⟨kb, hkb⟩ : ∃ kb, kb = wr.heap.size := ⟨_, rfl⟩
          have HD : Hid (kb ∉ B.all ∧ kb ≠ sv ∧ kb ≠ nv ∧ w.heap.size ≤ kb) := by
            refine ⟨fun hm => ?_, ?_, ?_, ?_⟩
            · have := HI.out.sc.st.lt _ hm; omega
            · have := heap_lt HI.out.sb; omega
            · have := heap_lt HI.out.nb; omega
            · have := HI.out.sc.below.size; omega
          have HBL : Hid (Below wr.heap.size wr w5) := H5.out.1
          replace H5 : Hid (w5.heap[wr.heap.size]? = some (.cells #[.int .i64 k.op, .int .i64 k.i, .slice ka k.kids.length kc, .string k.s] 24 (0, 0))) := H5.out.2
          rw [← hkb] at H5 ⊢
          clear hkb
          have q0 : w5.cell? ⟨kb, 0, none⟩ = some (.int .i64 k.op) := cell_at H5.out 0
          have q1 : w5.cell? ⟨kb, 1, none⟩ = some (.int .i64 k.i) := cell_at H5.out 1
          have q2 : w5.cell? ⟨kb, 2, none⟩ = some (.slice ka k.kids.length kc) := cell_at H5.out 2
          have q3 : w5.cell? ⟨kb, 3, none⟩ = some (.string k.s) := cell_at H5.out 3
          go_wp2_with fail
          refine (op_fn' k _ _).mono ?_
          rintro e w6 ⟨rfl, hb6⟩
          have H6 : Hid (Wi w N j B S D sv nv va w6 ∧ Ints (· < w.heap.size) w6 (.slice ka k.kids.length kc) k.kids ∧ w6.heap[kb]? = some (.cells #[.int .i64 k.op, .int .i64 k.i, .slice ka k.kids.length kc, .string k.s] 24 (0, 0))) := ⟨(HI.out.on HBL.out).on hb6, Ints.on (Ints.on HF.out.2 HBL.out) hb6, (hb6.block _ (heap_lt H5.out)).trans H5.out⟩
          have HKF : Hid k.fits := HF.out.1
          clear hb6 q0 q1 q2 q3 HI H5 HB2 HF HBL
          by_cases h9 : k.opn = 9
          · skip
            have H6r : Hid (Wr w N j B S D sv nv va kb k ka kc w6) := ⟨H6.out.1, H6.out.2.1, H6.out.2.2⟩
            have hsz6 : Hid (kb < w6.heap.size ∧ sv < w6.heap.size ∧ nv < w6.heap.size ∧ (∀ q ∈ B.all, q < w6.heap.size)) := ⟨heap_lt H6.out.2.2, heap_lt H6.out.1.sb, heap_lt H6.out.1.nb, H6.out.1.sc.st.lt⟩
            have A0 : Hid (Wr w N j B S D sv nv va kb k ka kc w6.drew) := H6r.out.on ((Below.refl _ _).drew)
            clear H6
            go_wp2_with fail
            go_region_held3 (fun w' => w'.cell? ⟨kb, 1, none⟩ = some (.int .i64 k.i) ∧ w'.cell? ⟨kb, 3, none⟩ = some (.string k.s) ∧ w'.cell? ⟨sv, 0, none⟩ = some (.pointer (some ⟨B.s, 0, none⟩)) ∧ Hid (Wr w N j B S D sv nv va kb k ka kc w'))
              (first | exact A0.out.held | exact A2.out.held | exact (A2.out.on ((Below.refl _ _).alloc (Nat.le_refl _) _)).held)
              (first
                | (go_at_call 25; refine (below_any _ B S D k.i A0.out.wi.sc.st).mono ?_; rintro e wk ⟨vk, rfl, hk2, hbk⟩; obtain ⟨av, cv, rfl, _, _⟩ := hk2.at; have A2 : Hid (Wr w N j B S D sv nv va kb k ka kc wk) := A0.out.on hbk; have HKB : Hid (Blks _ wk _ (belowF S D k.i) ∧ Below _ _ wk) := ⟨hk2, hbk⟩; clear hk2 hbk))
            clear A0
            have H7 : Hid (Wr w N j B S D sv nv va kb k ka kc (wk.alloc (.cells #[.int .i64 k.i, .string k.s, .slice av (belowF S D k.i).length cv] 66))) := A2.out.on ((Below.refl _ _).alloc (Nat.le_refl _) _)
            have hnp7 := heap_alloc_last wk (.cells #[.int .i64 k.i, .string k.s, .slice av (belowF S D k.i).length cv] 66)
            obtain ⟨vb, hvb⟩ : ∃ vb, vb = Value.slice av (belowF S D k.i).length cv := ⟨_, rfl⟩
            have HVB : Hid (∃ av n cv, vb = .slice av n cv) := ⟨_, _, _, hvb⟩
            have hbl7 : Blks (fun q => w6.heap.size ≤ q) (wk.alloc (.cells #[.int .i64 k.i, .string k.s, .slice av (belowF S D k.i).length cv] 66)) (.slice av (belowF S D k.i).length cv) (belowF S D k.i) := HKB.out.1.on ((Below.refl _ _).alloc (Nat.le_refl _) _)
            obtain ⟨np, hnp⟩ : ∃ np, np = wk.heap.size := ⟨_, rfl⟩
            have HNP : Hid (w6.heap.size ≤ np) := by rw [hnp]; exact HKB.out.2.size
            rw [← hnp] at hnp7 ⊢
            have H7x : Hid ((wk.alloc (.cells #[.int .i64 k.i, .string k.s, .slice av (belowF S D k.i).length cv] 66)).heap[np]? = some (.cells #[.int .i64 k.i, .string k.s, .slice av (belowF S D k.i).length cv] 66 (0, 0)) ∧ Blks (fun q => w6.heap.size ≤ q) (wk.alloc (.cells #[.int .i64 k.i, .string k.s, .slice av (belowF S D k.i).length cv] 66)) (.slice av (belowF S D k.i).length cv) (belowF S D k.i)) := ⟨hnp7, hbl7⟩
            have HNQ : Hid (np ∉ B.all ∧ np ≠ sv ∧ np ≠ nv ∧ np ≠ kb) := by
              have h1 := hsz6.out
              have h2 := HNP.out
              exact ⟨fun hm => by have := h1.2.2.2 _ hm; omega, by omega, by omega, by omega⟩
            clear hnp7 hbl7 hnp A2 HKB H6r
            generalize wk.alloc (.cells #[.int .i64 k.i, .string k.s, .slice av (belowF S D k.i).length cv] 66) = w7 at H7 H7x ⊢
            rw [← hvb] at H7x
            obtain ⟨q0, q1, q2, q3, q4⟩ := H7.out.cells
            go_wp2_with fail
            clear q0 q1 q2 q3 q4
            refine (does_any w7 B S D N j k _ H7.out.wi.sc.st H7.out.wi.inv H7.out.wi.good.dn (by omega) HN.out.2 HKF.out (H7.out.kids.mono (fun q hq hm => by have := H7.out.wi.sc.base q hm; omega)) (by omega)).mono ?_
            rintro e w8 ⟨B', a8, m8, c8, d8, hnx, rfl, his8, hs8, hc8⟩
            have hsp := step_pure H7.out.wi.good H7.out.wi.inv HN.out (by omega) H7.out.wi.off k (by omega)
            generalize doesOut S D k = R at hsp hs8 his8 ⊢
            obtain ⟨num8, blk8, err, st, dv⟩ := R
            dsimp only at hsp hs8 his8 ⊢
            have hb9 : Below w8.heap.size w8 (w8.alloc (.cells #[.slice a8 m8 c8, .string d8] 39)) := (Below.refl _ _).alloc (Nat.le_refl _) _
            have hs9 : StAt (w8.alloc (.cells #[.slice a8 m8 c8, .string d8] 39)) B' st dv := hs8.on hb9
            have hc9 : Chg B.all w7 (w8.alloc (.cells #[.slice a8 m8 c8, .string d8] 39)) := hc8.trans (Chg.of_below hb9)
            have hkd9 : (w8.alloc (.cells #[.slice a8 m8 c8, .string d8] 39)).heap[kb]? = some (.cells #[.int .i64 k.op, .int .i64 k.i, .slice ka k.kids.length kc, .string k.s] 24 (0, 0)) := (hc9.block _ (heap_lt H7.out.kd) HD.out.1).trans H7.out.kd
            have H9 : Hid (StAt (w8.alloc (.cells #[.slice a8 m8 c8, .string d8] 39)) B' st dv ∧ Chg B.all w7 (w8.alloc (.cells #[.slice a8 m8 c8, .string d8] 39)) ∧ Blk.Next w7 B B' ∧ (w8.alloc (.cells #[.slice a8 m8 c8, .string d8] 39)).heap[kb]? = some (.cells #[.int .i64 k.op, .int .i64 k.i, .slice ka k.kids.length kc, .string k.s] 24 (0, 0))) := ⟨hs9, hc9, hnx, hkd9⟩
            clear his8 hs8 hc8 hs9 hc9 hnx hkd9 hb9
            have H9x : Hid ((w8.alloc (.cells #[.slice a8 m8 c8, .string d8] 39)).heap[np]? = some (.cells #[.int .i64 k.i, .string k.s, vb] 66 (0, 0)) ∧ Blks (fun q => w6.heap.size ≤ q) (w8.alloc (.cells #[.slice a8 m8 c8, .string d8] 39)) vb (belowF S D k.i)) := ⟨(H9.out.2.1.block _ (heap_lt H7x.out.1) HNQ.out.1).trans H7x.out.1, H7x.out.2.chg H9.out.2.1 (fun q hq hm => by have := hsz6.out.2.2.2 _ hm; omega)⟩
            rcases hsp with ⟨h5, hg, hi, ho, hcase⟩ | ⟨rfl, htell⟩
            · have h5' : (err == 5) = false := by simpa using h5
              rcases hcase with ⟨_, rfl, e1, e2, e3⟩ | ⟨hne, e1, e2, e3⟩
              · have HK9 : Hid _ := H9.out.2.2.2
                have HPU : Hid (Good N st dv ∧ Inv N (j + 1) st ∧ dv.off = false ∧ st.root = k.i ∧ st.note = k.s ∧ allOf N st (kp dv) = belowF S D k.i) := ⟨hg, hi, ho, e1, e2, e3⟩
                have HBL : Hid (Blks (fun q => w.heap.size ≤ q ∧ q ∉ B.all ∧ q ≠ sv ∧ q ≠ nv) w7 vb (belowF S D k.i)) := H7x.out.2.mono (fun q hq => ⟨by have := HD.out.2.2.2; have := hsz6.out.1; omega, fun hm => by have := hsz6.out.2.2.2 _ hm; omega, by have := hsz6.out.2.1; omega, by have := hsz6.out.2.2.1; omega⟩)
                clear hg hi ho e1 e2 e3 h5
                have q0 : (w8.alloc (.cells #[.slice a8 m8 c8, .string d8] 39)).cell? ⟨kb, 0, none⟩ = some (.int .i64 k.op) := cell_at HK9.out 0
                have q1 : (w8.alloc (.cells #[.slice a8 m8 c8, .string d8] 39)).cell? ⟨kb, 1, none⟩ = some (.int .i64 k.i) := cell_at HK9.out 1
                have q2 : (w8.alloc (.cells #[.slice a8 m8 c8, .string d8] 39)).cell? ⟨kb, 2, none⟩ = some (.slice ka k.kids.length kc) := cell_at HK9.out 2
                have q3 : (w8.alloc (.cells #[.slice a8 m8 c8, .string d8] 39)).cell? ⟨kb, 3, none⟩ = some (.string k.s) := cell_at HK9.out 3
                go_wp2_with fail
                refine (op_fn' k _ _).mono ?_
                rintro e w10 ⟨rfl, hb10⟩
                have H10 : Hid (StAt w10 B' st dv ∧ Chg B.all w7 w10 ∧ Blk.Next w7 B B' ∧ w10.heap[np]? = some (.cells #[.int .i64 k.i, .string k.s, vb] 66 (0, 0))) := ⟨H9.out.1.on hb10, H9.out.2.1.trans (Chg.of_below hb10), H9.out.2.2.1, (hb10.block _ (heap_lt H9x.out.1)).trans H9x.out.1⟩
                have hnv10 : w10.heap[nv]? = some (.cells #[.int .i64 S.root, .string S.note, va] 66 (0, 0)) := (H10.out.2.1.block _ (heap_lt H7.out.wi.nb) H7.out.wi.nn).trans H7.out.wi.nb
                have H11 : Hid (∃ B2 S D va, B2.s = B.s ∧ B2.d = B.d ∧ Wi w N (j + 1) B2 S D sv nv va (((w10.setCell ⟨nv, 0, none⟩ (.int .i64 k.i)).setCell ⟨nv, 1, none⟩ (.string k.s)).setCell ⟨nv, 2, none⟩ vb)) := ⟨B', st, dv, vb, H10.out.2.2.1.s, H10.out.2.2.1.d, H7.out.wi.commit H10.out.2.2.1 H10.out.1 H10.out.2.1 HPU.out.1 HPU.out.2.1 HPU.out.2.2.1 HPU.out.2.2.2.1 HPU.out.2.2.2.2.1 HPU.out.2.2.2.2.2 HBL.out⟩
                have p0 : w10.cell? ⟨np, 0, none⟩ = some (.int .i64 k.i) := cell_at H10.out.2.2.2 0
                have p1 : w10.cell? ⟨np, 1, none⟩ = some (.string k.s) := cell_at H10.out.2.2.2 1
                have p2 : w10.cell? ⟨np, 2, none⟩ = some vb := cell_at H10.out.2.2.2 2
                have r0 : w10.cell? ⟨nv, 0, none⟩ = some (.int .i64 S.root) := cell_at hnv10 0
                have r1 : w10.cell? ⟨nv, 1, none⟩ = some (.string S.note) := cell_at hnv10 1
                have r2 : w10.cell? ⟨nv, 2, none⟩ = some va := cell_at hnv10 2
                have rf : ∀ j, w10.frozen? ⟨nv, j, none⟩ = false := frozen_at hnv10
                obtain ⟨av', lv', cv', hvb'⟩ := HVB.out
                subst hvb'
                clear hb10 q0 q1 q2 q3 hnv10 H9 H9x H7 H7x H10 HK9 HPU HBL hvb
                go_wp2_with fail
                go_roundw
                case rel => exact ⟨j + 1, by omega, by go_num, rfl, H11.out⟩
                case measure => simp [intOf]; omega
              · have he0 : (err == 0) = false := by simpa using fun h => hne ⟨h9, h⟩
                have H10 : Hid (Wi w N (j + 1) B' st dv sv nv va (w8.alloc (.cells #[.slice a8 m8 c8, .string d8] 39)) ∧ B'.s = B.s ∧ B'.d = B.d) := ⟨H7.out.wi.act H9.out.2.2.1 H9.out.1 H9.out.2.1 hg hi ho e1 e2 e3, H9.out.2.2.1.s, H9.out.2.2.1.d⟩
                have HK9 : Hid _ := H9.out.2.2.2
                clear hg hi ho e1 e2 e3 h5 hne H9 H9x H7 H7x
                have q0 : (w8.alloc (.cells #[.slice a8 m8 c8, .string d8] 39)).cell? ⟨kb, 0, none⟩ = some (.int .i64 k.op) := cell_at HK9.out 0
                have q1 : (w8.alloc (.cells #[.slice a8 m8 c8, .string d8] 39)).cell? ⟨kb, 1, none⟩ = some (.int .i64 k.i) := cell_at HK9.out 1
                have q2 : (w8.alloc (.cells #[.slice a8 m8 c8, .string d8] 39)).cell? ⟨kb, 2, none⟩ = some (.slice ka k.kids.length kc) := cell_at HK9.out 2
                have q3 : (w8.alloc (.cells #[.slice a8 m8 c8, .string d8] 39)).cell? ⟨kb, 3, none⟩ = some (.string k.s) := cell_at HK9.out 3
                go_wp2_with fail
                refine (op_fn' k _ _).mono ?_
                rintro e w10 ⟨rfl, hb10⟩
                have H11 : Hid (∃ B2 S D va, B2.s = B.s ∧ B2.d = B.d ∧ Wi w N (j + 1) B2 S D sv nv va w10) := ⟨B', st, dv, va, H10.out.2.1, H10.out.2.2, H10.out.1.on hb10⟩
                clear hb10 q0 q1 q2 q3 H10 HK9
                go_wp2_with fail
                go_roundw
                case rel => exact ⟨j + 1, by omega, by go_num, rfl, H11.out⟩
                case measure => simp [intOf]; omega
            · have htk := htell keep
              have HFN : Hid (Wf w B.d B.k B.y dv sv nv S.root S.note va (allOf N S (kp D)) (w8.alloc (.cells #[.slice a8 m8 c8, .string d8] 39))) := H7.out.wi.gone H9.out.2.2.1 H9.out.1 H9.out.2.1
              have HX : Hid (Wx B.d B.k B.y sv np k.i k.s vb (belowF S D k.i) (w8.alloc (.cells #[.slice a8 m8 c8, .string d8] 39))) := by
                have hdm := B.dev_mem
                refine ⟨H9x.out.1, H9x.out.2.mono (fun q hq => ⟨fun hm => by have := hsz6.out.2.2.2 _ (hdm _ hm); omega, by have := hsz6.out.2.1; omega⟩), dev_not HNQ.out.1, Ne.symm HNQ.out.2.1⟩
              clear htell H9 H9x H7 H7x
              obtain ⟨av', lv', cv', hvb'⟩ := HVB.out
              subst hvb'
              clear hvb
              rcases htk with htk | htk
              · have HT : Hid (Tells N (dv.crash keep).start S.root S.note (allOf N S (kp D))) := htk
                clear htk
                go_wp2_with fail
                refine (crash_any _ B.d B.k B.y dv _ keep HFN.out.dev ((HK.out.below HFN.out.below).mono (fun q hq => by have := HFN.out.b0; have := HFN.out.b1; have := HFN.out.b2; omega))).mono ?_
                rintro e wa ⟨rfl, hAa, hca⟩
                have Ha : Hid (Wf w B.d B.k B.y ((dv).crash keep) sv nv S.root S.note va (allOf N S (kp D)) wa) := HFN.out.turn hAa (crash_small HFN.out.small keep) hca
                clear hAa hca
                go_wp2_with fail
                refine (start_any wa B.d B.k B.y _ Ha.out.dev).mono ?_
                rintro e wb ⟨rfl, hAb, hcb⟩
                have Hb : Hid (Wf w B.d B.k B.y ((dv).crash keep).start sv nv S.root S.note va (allOf N S (kp D)) wb) := Ha.out.turn hAb (crash_small HFN.out.small keep) hcb
                clear hAb hcb Ha
                obtain ⟨S', hop, hinv, his⟩ := HT.out.is
                have HO : Hid (openOut ((dv).crash keep).start = .ok S') := hop
                have HIS : Hid _ := his
                clear hop hinv his
                go_wp2_with fail
                refine (open_sc (w0 := w) Hb.out.dev Hb.out.small HO.out Hb.out.below Hb.out.b0 Hb.out.b1 Hb.out.b2).mono ?_
                rintro e wc ⟨B2, rfl, hB2d, hsc2, hov, hcc⟩
                obtain ⟨⟨px, hpx⟩, hg⟩ := Hb.out.open hsc2 hov hcc
                have HG : Hid _ := hg
                clear hg hsc2 hov hcc hB2d
                have x0 : wc.cell? ⟨sv, 0, none⟩ = some (.pointer px) := cell_at hpx 0
                have xf : wc.frozen? ⟨sv, 0, none⟩ = false := frozen_at hpx 0
                go_wp2_with fail
                clear x0 xf hpx
                generalize wc.setCell ⟨sv, 0, none⟩ (.pointer (some ⟨B2.s, 0, none⟩)) = wd at HG ⊢
                refine (storeRoot_any wd B2 S' _ HG.out.st).mono ?_
                rintro e we ⟨rfl, hbe⟩
                have HE : Hid _ := HG.out.on hbe
                clear hbe
                have n0 : ∀ o1 o2, ((we.alloc o1).alloc o2).cell? ⟨nv, 0, none⟩ = some (.int .i64 (S.root)) := fun o1 o2 => cell_on (((Below.refl we.heap.size we).alloc (Nat.le_refl _) o1).alloc (by simp) o2) (cell_at HE.out.nb 0)
                have n1 : ∀ o1 o2, ((we.alloc o1).alloc o2).cell? ⟨nv, 1, none⟩ = some (.string (S.note)) := fun o1 o2 => cell_on (((Below.refl we.heap.size we).alloc (Nat.le_refl _) o1).alloc (by simp) o2) (cell_at HE.out.nb 1)
                have n2 : ∀ o1 o2, ((we.alloc o1).alloc o2).cell? ⟨nv, 2, none⟩ = some va := fun o1 o2 => cell_on (((Below.refl we.heap.size we).alloc (Nat.le_refl _) o1).alloc (by simp) o2) (cell_at HE.out.nb 2)
                go_wp2_with fail
                clear n0 n1 n2
                have hbw : Below we.heap.size we ((we.alloc (.cells #[.int .i64 S'.root] 3)).alloc (.cells #[.string S'.note] 9)) := ((Below.refl _ _).alloc (Nat.le_refl _) _).alloc (by simp) _
                have HV : Hid _ := HE.out.on hbw
                have hr0 : ((we.alloc (.cells #[.int .i64 S'.root] 3)).alloc (.cells #[.string S'.note] 9)).heap[we.heap.size]? = some (.cells #[.int .i64 S'.root] 3 (0, 0)) := by rw [heap_alloc_other _ (by simp)]; exact heap_alloc_last _ _
                have hr1 : ((we.alloc (.cells #[.int .i64 S'.root] 3)).alloc (.cells #[.string S'.note] 9)).heap[we.heap.size + 1]? = some (.cells #[.string S'.note] 9 (0, 0)) := by
                  have := heap_alloc_last (we.alloc (.cells #[.int .i64 S'.root] 3)) (.cells #[.string S'.note] 9)
                  simpa using this
                have HR : Hid _ := And.intro hr0 hr1
                clear hbw hr0 hr1
                generalize (we.alloc (.cells #[.int .i64 S'.root] 3)).alloc (.cells #[.string S'.note] 9) = wv at HV HR ⊢
                generalize we.heap.size + 1 = rb1 at HR ⊢
                generalize we.heap.size = rb0 at HR ⊢
                refine (is_any wv B2 S' ((dv).crash keep).start rb0 rb1 sv S'.root (S.root) S'.note (S.note) va _ ((allOf N S (kp D))) HV.out.st (cell_at HR.out.1 0) (cell_at HR.out.2 0) HV.out.s0 HV.out.all).mono ?_
                rintro e wz ⟨rfl, hbz0⟩
                have hbz : Below w.heap.size w wz := HV.out.below.trans (hbz0.mono HV.out.below.size)
                rw [HIS.out]
                have HWF : Hid (Below w.heap.size w wz) := hbz
                clear hbz
                go_wp2_with fail
                refine (awake_any wz).mono ?_
                rintro e wy ⟨rfl, hby⟩
                have HWG : Hid (Below w.heap.size w wy) := HWF.out.trans (hby.mono HWF.out.size)
                clear hby
                go_wp2_with fail
                go_ret
                exact ⟨rfl, HWG.out⟩
              · have HT : Hid (Tells N (dv.crash keep).start k.i k.s (belowF S D k.i)) := htk.2
                clear htk
                go_wp2_with fail
                refine (crash_any _ B.d B.k B.y dv _ keep HFN.out.dev ((HK.out.below HFN.out.below).mono (fun q hq => by have := HFN.out.b0; have := HFN.out.b1; have := HFN.out.b2; omega))).mono ?_
                rintro e wa ⟨rfl, hAa, hca⟩
                have Ha : Hid (Wf w B.d B.k B.y ((dv).crash keep) sv nv S.root S.note va (allOf N S (kp D)) wa) := HFN.out.turn hAa (crash_small HFN.out.small keep) hca
                have HXa : Hid (Wx B.d B.k B.y sv np k.i k.s (.slice av' lv' cv') (belowF S D k.i) wa) := HX.out.turn hca
                clear hAa hca
                go_wp2_with fail
                refine (start_any wa B.d B.k B.y _ Ha.out.dev).mono ?_
                rintro e wb ⟨rfl, hAb, hcb⟩
                have Hb : Hid (Wf w B.d B.k B.y ((dv).crash keep).start sv nv S.root S.note va (allOf N S (kp D)) wb) := Ha.out.turn hAb (crash_small HFN.out.small keep) hcb
                have HXb : Hid (Wx B.d B.k B.y sv np k.i k.s (.slice av' lv' cv') (belowF S D k.i) wb) := HXa.out.turn hcb
                clear hAb hcb Ha
                obtain ⟨S', hop, hinv, his⟩ := HT.out.is
                have HO : Hid (openOut ((dv).crash keep).start = .ok S') := hop
                have HIS : Hid _ := his
                clear hop hinv his
                go_wp2_with fail
                refine (open_sc (w0 := w) Hb.out.dev Hb.out.small HO.out Hb.out.below Hb.out.b0 Hb.out.b1 Hb.out.b2).mono ?_
                rintro e wc ⟨B2, rfl, hB2d, hsc2, hov, hcc⟩
                obtain ⟨⟨px, hpx⟩, hg⟩ := Hb.out.open hsc2 hov hcc
                have HG : Hid _ := hg
                have HXc : Hid (Wx B.d B.k B.y sv np k.i k.s (.slice av' lv' cv') (belowF S D k.i) (wc.setCell ⟨sv, 0, none⟩ (.pointer (some ⟨B2.s, 0, none⟩)))) := (HXb.out.turn hcc).set _
                clear hg hsc2 hov hcc hB2d
                have x0 : wc.cell? ⟨sv, 0, none⟩ = some (.pointer px) := cell_at hpx 0
                have xf : wc.frozen? ⟨sv, 0, none⟩ = false := frozen_at hpx 0
                go_wp2_with fail
                clear x0 xf hpx
                generalize wc.setCell ⟨sv, 0, none⟩ (.pointer (some ⟨B2.s, 0, none⟩)) = wd at HG HXc ⊢
                refine (storeRoot_any wd B2 S' _ HG.out.st).mono ?_
                rintro e we ⟨rfl, hbe⟩
                have HE : Hid _ := HG.out.on hbe
                have HXe : Hid _ := HXc.out.on hbe
                clear hbe
                have n0 : ∀ o1 o2, ((we.alloc o1).alloc o2).cell? ⟨nv, 0, none⟩ = some (.int .i64 (S.root)) := fun o1 o2 => cell_on (((Below.refl we.heap.size we).alloc (Nat.le_refl _) o1).alloc (by simp) o2) (cell_at HE.out.nb 0)
                have n1 : ∀ o1 o2, ((we.alloc o1).alloc o2).cell? ⟨nv, 1, none⟩ = some (.string (S.note)) := fun o1 o2 => cell_on (((Below.refl we.heap.size we).alloc (Nat.le_refl _) o1).alloc (by simp) o2) (cell_at HE.out.nb 1)
                have n2 : ∀ o1 o2, ((we.alloc o1).alloc o2).cell? ⟨nv, 2, none⟩ = some va := fun o1 o2 => cell_on (((Below.refl we.heap.size we).alloc (Nat.le_refl _) o1).alloc (by simp) o2) (cell_at HE.out.nb 2)
                go_wp2_with fail
                clear n0 n1 n2
                have hbw : Below we.heap.size we ((we.alloc (.cells #[.int .i64 S'.root] 3)).alloc (.cells #[.string S'.note] 9)) := ((Below.refl _ _).alloc (Nat.le_refl _) _).alloc (by simp) _
                have HV : Hid _ := HE.out.on hbw
                have hr0 : ((we.alloc (.cells #[.int .i64 S'.root] 3)).alloc (.cells #[.string S'.note] 9)).heap[we.heap.size]? = some (.cells #[.int .i64 S'.root] 3 (0, 0)) := by rw [heap_alloc_other _ (by simp)]; exact heap_alloc_last _ _
                have hr1 : ((we.alloc (.cells #[.int .i64 S'.root] 3)).alloc (.cells #[.string S'.note] 9)).heap[we.heap.size + 1]? = some (.cells #[.string S'.note] 9 (0, 0)) := by
                  have := heap_alloc_last (we.alloc (.cells #[.int .i64 S'.root] 3)) (.cells #[.string S'.note] 9)
                  simpa using this
                have HR : Hid _ := And.intro hr0 hr1
                have HXv : Hid _ := HXe.out.on hbw
                clear hbw hr0 hr1
                generalize (we.alloc (.cells #[.int .i64 S'.root] 3)).alloc (.cells #[.string S'.note] 9) = wv at HV HR HXv ⊢
                generalize we.heap.size + 1 = rb1 at HR ⊢
                generalize we.heap.size = rb0 at HR ⊢
                refine (is_any wv B2 S' ((dv).crash keep).start rb0 rb1 sv S'.root (S.root) S'.note (S.note) va _ ((allOf N S (kp D))) HV.out.st (cell_at HR.out.1 0) (cell_at HR.out.2 0) HV.out.s0 HV.out.all).mono ?_
                rintro e wz ⟨rfl, hbz0⟩
                have hbz : Below w.heap.size w wz := HV.out.below.trans (hbz0.mono HV.out.below.size)
                cases hnow : isC S' ((dv).crash keep).start S'.root (S.root) S'.note (S.note) ((allOf N S (kp D))) with
                | true =>
                  clear hbz0 hnow
                  have HWF : Hid (Below w.heap.size w wz) := hbz
                  clear hbz
                  go_wp2_with fail
                  refine (awake_any wz).mono ?_
                  rintro e wy ⟨rfl, hby⟩
                  have HWG : Hid (Below w.heap.size w wy) := HWF.out.trans (hby.mono HWF.out.size)
                  clear hby
                  go_wp2_with fail
                  go_ret
                  exact ⟨rfl, HWG.out⟩
                | false =>
                  have HVz : Hid (StAt wz B2 S' ((dv).crash keep).start ∧ wz.heap[rb0]? = some (.cells #[.int .i64 S'.root] 3 (0, 0)) ∧ wz.heap[rb1]? = some (.cells #[.string S'.note] 9 (0, 0)) ∧ wz.cell? ⟨sv, 0, none⟩ = some (.pointer (some ⟨B2.s, 0, none⟩)) ∧ Below w.heap.size w wz) := ⟨HV.out.st.on hbz0, (hbz0.block _ (heap_lt HR.out.1)).trans HR.out.1, (hbz0.block _ (heap_lt HR.out.2)).trans HR.out.2, cell_on hbz0 HV.out.s0, hbz⟩
                  have HXz : Hid _ := HXv.out.on hbz0
                  have m0 : wz.cell? ⟨np, 0, none⟩ = some (.int .i64 k.i) := cell_at HXz.out.xb 0
                  have m1 : wz.cell? ⟨np, 1, none⟩ = some (.string k.s) := cell_at HXz.out.xb 1
                  have m2 : wz.cell? ⟨np, 2, none⟩ = some (.slice av' lv' cv') := cell_at HXz.out.xb 2
                  clear hbz hbz0 hnow
                  go_wp2_with fail
                  clear m0 m1 m2
                  refine (is_any wz B2 S' ((dv).crash keep).start rb0 rb1 sv S'.root k.i S'.note k.s (.slice av' lv' cv') _ (belowF S D k.i) HVz.out.1 (cell_at HVz.out.2.1 0) (cell_at HVz.out.2.2.1 0) HVz.out.2.2.2.1 HXz.out.all).mono ?_
                  rintro e wz2 ⟨rfl, hbz1⟩
                  rw [HIS.out]
                  have hbz : Below w.heap.size w wz2 := HVz.out.2.2.2.2.trans (hbz1.mono HVz.out.2.2.2.2.size)
                  clear hbz1
                  have HWF : Hid (Below w.heap.size w wz2) := hbz
                  clear hbz
                  go_wp2_with fail
                  refine (awake_any wz2).mono ?_
                  rintro e wy ⟨rfl, hby⟩
                  have HWG : Hid (Below w.heap.size w wy) := HWF.out.trans (hby.mono HWF.out.size)
                  clear hby
                  go_wp2_with fail
                  go_ret
                  exact ⟨rfl, HWG.out⟩
          · skip
            have H6r : Hid (Wr w N j B S D sv nv va kb k ka kc w6) := ⟨H6.out.1, H6.out.2.1, H6.out.2.2⟩
            obtain ⟨q0, q1, q2, q3, q4⟩ := H6r.out.cells
            have h9' : (k.opn == 9) = false := by simpa using h9
            clear H6
            go_wp2_with fail
            clear q0 q1 q2 q3 q4
            refine (does_any w6 B S D N j k _ H6r.out.wi.sc.st H6r.out.wi.inv H6r.out.wi.good.dn (by omega) HN.out.2 HKF.out (H6r.out.kids.mono (fun q hq hm => by have := H6r.out.wi.sc.base q hm; omega)) (by omega)).mono ?_
            rintro e w8 ⟨B', a8, m8, c8, d8, hnx, rfl, his8, hs8, hc8⟩
            have hsp := step_pure H6r.out.wi.good H6r.out.wi.inv HN.out (by omega) H6r.out.wi.off k (by omega)
            generalize doesOut S D k = R at hsp hs8 his8 ⊢
            obtain ⟨num8, blk8, err, st, dv⟩ := R
            dsimp only at hsp hs8 his8 ⊢
            have hb9 : Below w8.heap.size w8 (w8.alloc (.cells #[.slice a8 m8 c8, .string d8] 39)) := (Below.refl _ _).alloc (Nat.le_refl _) _
            have hs9 : StAt (w8.alloc (.cells #[.slice a8 m8 c8, .string d8] 39)) B' st dv := hs8.on hb9
            have hc9 : Chg B.all w6 (w8.alloc (.cells #[.slice a8 m8 c8, .string d8] 39)) := hc8.trans (Chg.of_below hb9)
            have hkd9 : (w8.alloc (.cells #[.slice a8 m8 c8, .string d8] 39)).heap[kb]? = some (.cells #[.int .i64 k.op, .int .i64 k.i, .slice ka k.kids.length kc, .string k.s] 24 (0, 0)) := (hc9.block _ (heap_lt H6r.out.kd) HD.out.1).trans H6r.out.kd
            have H9 : Hid (StAt (w8.alloc (.cells #[.slice a8 m8 c8, .string d8] 39)) B' st dv ∧ Chg B.all w6 (w8.alloc (.cells #[.slice a8 m8 c8, .string d8] 39)) ∧ Blk.Next w6 B B' ∧ (w8.alloc (.cells #[.slice a8 m8 c8, .string d8] 39)).heap[kb]? = some (.cells #[.int .i64 k.op, .int .i64 k.i, .slice ka k.kids.length kc, .string k.s] 24 (0, 0))) := ⟨hs9, hc9, hnx, hkd9⟩
            clear his8 hs8 hc8 hs9 hc9 hnx hkd9 hb9
            rcases hsp with ⟨h5, hg, hi, ho, hcase⟩ | ⟨rfl, htell⟩
            · have h5' : (err == 5) = false := by simpa using h5
              have hact : ¬ (k.opn = 9 ∧ err = 0) ∧ st.root = S.root ∧ st.note = S.note ∧ allOf N st (kp dv) = allOf N S (kp D) := by
                rcases hcase with h | h
                · exact absurd h.1 h9
                · exact h
              have H10 : Hid (Wi w N (j + 1) B' st dv sv nv va (w8.alloc (.cells #[.slice a8 m8 c8, .string d8] 39)) ∧ B'.s = B.s ∧ B'.d = B.d) := ⟨H6r.out.wi.act H9.out.2.2.1 H9.out.1 H9.out.2.1 hg hi ho hact.2.1 hact.2.2.1 hact.2.2.2, H9.out.2.2.1.s, H9.out.2.2.1.d⟩
              have HK9 : Hid _ := H9.out.2.2.2
              clear hact hcase hg hi ho h5 H9 H6r
              have q0 : (w8.alloc (.cells #[.slice a8 m8 c8, .string d8] 39)).cell? ⟨kb, 0, none⟩ = some (.int .i64 k.op) := cell_at HK9.out 0
              have q1 : (w8.alloc (.cells #[.slice a8 m8 c8, .string d8] 39)).cell? ⟨kb, 1, none⟩ = some (.int .i64 k.i) := cell_at HK9.out 1
              have q2 : (w8.alloc (.cells #[.slice a8 m8 c8, .string d8] 39)).cell? ⟨kb, 2, none⟩ = some (.slice ka k.kids.length kc) := cell_at HK9.out 2
              have q3 : (w8.alloc (.cells #[.slice a8 m8 c8, .string d8] 39)).cell? ⟨kb, 3, none⟩ = some (.string k.s) := cell_at HK9.out 3
              go_wp2_with fail
              refine (op_fn' k _ _).mono ?_
              rintro e w10 ⟨rfl, hb10⟩
              have H11 : Hid (∃ B2 S D va, B2.s = B.s ∧ B2.d = B.d ∧ Wi w N (j + 1) B2 S D sv nv va w10) := ⟨B', st, dv, va, H10.out.2.1, H10.out.2.2, H10.out.1.on hb10⟩
              clear hb10 q0 q1 q2 q3 H10 HK9
              go_wp2_with fail
              go_roundw
              case rel => exact ⟨j + 1, by omega, by go_num, rfl, H11.out⟩
              case measure => simp [intOf]; omega
            · have HT : Hid (Tells N (dv.crash keep).start S.root S.note (allOf N S (kp D))) := by
                rcases htell keep with h | h
                · exact h
                · exact absurd h.1 h9
              have HFN : Hid (Wf w B.d B.k B.y dv sv nv S.root S.note va (allOf N S (kp D)) (w8.alloc (.cells #[.slice a8 m8 c8, .string d8] 39))) := H6r.out.wi.gone H9.out.2.2.1 H9.out.1 H9.out.2.1
              clear htell H9 H6r
              go_wp2_with fail
              refine (crash_any _ B.d B.k B.y dv _ keep HFN.out.dev ((HK.out.below HFN.out.below).mono (fun q hq => by have := HFN.out.b0; have := HFN.out.b1; have := HFN.out.b2; omega))).mono ?_
              rintro e wa ⟨rfl, hAa, hca⟩
              have Ha : Hid (Wf w B.d B.k B.y ((dv).crash keep) sv nv S.root S.note va (allOf N S (kp D)) wa) := HFN.out.turn hAa (crash_small HFN.out.small keep) hca
              clear hAa hca
              go_wp2_with fail
              refine (start_any wa B.d B.k B.y _ Ha.out.dev).mono ?_
              rintro e wb ⟨rfl, hAb, hcb⟩
              have Hb : Hid (Wf w B.d B.k B.y ((dv).crash keep).start sv nv S.root S.note va (allOf N S (kp D)) wb) := Ha.out.turn hAb (crash_small HFN.out.small keep) hcb
              clear hAb hcb Ha
              obtain ⟨S', hop, hinv, his⟩ := HT.out.is
              have HO : Hid (openOut ((dv).crash keep).start = .ok S') := hop
              have HIS : Hid _ := his
              clear hop hinv his
              go_wp2_with fail
              refine (open_sc (w0 := w) Hb.out.dev Hb.out.small HO.out Hb.out.below Hb.out.b0 Hb.out.b1 Hb.out.b2).mono ?_
              rintro e wc ⟨B2, rfl, hB2d, hsc2, hov, hcc⟩
              obtain ⟨⟨px, hpx⟩, hg⟩ := Hb.out.open hsc2 hov hcc
              have HG : Hid _ := hg
              clear hg hsc2 hov hcc hB2d
              have x0 : wc.cell? ⟨sv, 0, none⟩ = some (.pointer px) := cell_at hpx 0
              have xf : wc.frozen? ⟨sv, 0, none⟩ = false := frozen_at hpx 0
              go_wp2_with fail
              clear x0 xf hpx
              generalize wc.setCell ⟨sv, 0, none⟩ (.pointer (some ⟨B2.s, 0, none⟩)) = wd at HG ⊢
              refine (storeRoot_any wd B2 S' _ HG.out.st).mono ?_
              rintro e we ⟨rfl, hbe⟩
              have HE : Hid _ := HG.out.on hbe
              clear hbe
              have n0 : ∀ o1 o2, ((we.alloc o1).alloc o2).cell? ⟨nv, 0, none⟩ = some (.int .i64 (S.root)) := fun o1 o2 => cell_on (((Below.refl we.heap.size we).alloc (Nat.le_refl _) o1).alloc (by simp) o2) (cell_at HE.out.nb 0)
              have n1 : ∀ o1 o2, ((we.alloc o1).alloc o2).cell? ⟨nv, 1, none⟩ = some (.string (S.note)) := fun o1 o2 => cell_on (((Below.refl we.heap.size we).alloc (Nat.le_refl _) o1).alloc (by simp) o2) (cell_at HE.out.nb 1)
              have n2 : ∀ o1 o2, ((we.alloc o1).alloc o2).cell? ⟨nv, 2, none⟩ = some va := fun o1 o2 => cell_on (((Below.refl we.heap.size we).alloc (Nat.le_refl _) o1).alloc (by simp) o2) (cell_at HE.out.nb 2)
              go_wp2_with fail
              clear n0 n1 n2
              have hbw : Below we.heap.size we ((we.alloc (.cells #[.int .i64 S'.root] 3)).alloc (.cells #[.string S'.note] 9)) := ((Below.refl _ _).alloc (Nat.le_refl _) _).alloc (by simp) _
              have HV : Hid _ := HE.out.on hbw
              have hr0 : ((we.alloc (.cells #[.int .i64 S'.root] 3)).alloc (.cells #[.string S'.note] 9)).heap[we.heap.size]? = some (.cells #[.int .i64 S'.root] 3 (0, 0)) := by rw [heap_alloc_other _ (by simp)]; exact heap_alloc_last _ _
              have hr1 : ((we.alloc (.cells #[.int .i64 S'.root] 3)).alloc (.cells #[.string S'.note] 9)).heap[we.heap.size + 1]? = some (.cells #[.string S'.note] 9 (0, 0)) := by
                have := heap_alloc_last (we.alloc (.cells #[.int .i64 S'.root] 3)) (.cells #[.string S'.note] 9)
                simpa using this
              have HR : Hid _ := And.intro hr0 hr1
              clear hbw hr0 hr1
              generalize (we.alloc (.cells #[.int .i64 S'.root] 3)).alloc (.cells #[.string S'.note] 9) = wv at HV HR ⊢
              generalize we.heap.size + 1 = rb1 at HR ⊢
              generalize we.heap.size = rb0 at HR ⊢
              refine (is_any wv B2 S' ((dv).crash keep).start rb0 rb1 sv S'.root (S.root) S'.note (S.note) va _ ((allOf N S (kp D))) HV.out.st (cell_at HR.out.1 0) (cell_at HR.out.2 0) HV.out.s0 HV.out.all).mono ?_
              rintro e wz ⟨rfl, hbz0⟩
              have hbz : Below w.heap.size w wz := HV.out.below.trans (hbz0.mono HV.out.below.size)
              rw [HIS.out]
              have HWF : Hid (Below w.heap.size w wz) := hbz
              clear hbz
              go_wp2_with fail
              refine (awake_any wz).mono ?_
              rintro e wy ⟨rfl, hby⟩
              have HWG : Hid (Below w.heap.size w wy) := HWF.out.trans (hby.mono HWF.out.size)
              clear hby
              go_wp2_with fail
              go_ret
              exact ⟨rfl, HWG.out⟩
      · skip
        obtain ⟨B, S, D, va, rfl, rfl, hwi⟩ := HW.out
        have HFN : Hid (Wf w B.d B.k B.y D sv nv S.root S.note va (allOf N S (kp D)) wr) := hwi.fin
        have HT : Hid (Tells N (D.crash keep).start S.root S.note (allOf N S (kp D))) := hwi.good.tells hwi.inv HN.out keep
        clear hwi HW
        go_wp2_with fail
        refine (crash_any _ B.d B.k B.y D _ keep HFN.out.dev ((HK.out.below HFN.out.below).mono (fun q hq => by have := HFN.out.b0; have := HFN.out.b1; have := HFN.out.b2; omega))).mono ?_
        rintro e wa ⟨rfl, hAa, hca⟩
        have Ha : Hid (Wf w B.d B.k B.y ((D).crash keep) sv nv S.root S.note va (allOf N S (kp D)) wa) := HFN.out.turn hAa (crash_small HFN.out.small keep) hca
        clear hAa hca
        go_wp2_with fail
        refine (start_any wa B.d B.k B.y _ Ha.out.dev).mono ?_
        rintro e wb ⟨rfl, hAb, hcb⟩
        have Hb : Hid (Wf w B.d B.k B.y ((D).crash keep).start sv nv S.root S.note va (allOf N S (kp D)) wb) := Ha.out.turn hAb (crash_small HFN.out.small keep) hcb
        clear hAb hcb Ha
        obtain ⟨S', hop, hinv, his⟩ := HT.out.is
        have HO : Hid (openOut ((D).crash keep).start = .ok S') := hop
        have HIS : Hid _ := his
        clear hop hinv his
        go_wp2_with fail
        refine (open_sc (w0 := w) Hb.out.dev Hb.out.small HO.out Hb.out.below Hb.out.b0 Hb.out.b1 Hb.out.b2).mono ?_
        rintro e wc ⟨B2, rfl, hB2d, hsc2, hov, hcc⟩
        obtain ⟨⟨px, hpx⟩, hg⟩ := Hb.out.open hsc2 hov hcc
        have HG : Hid _ := hg
        clear hg hsc2 hov hcc hB2d
        have x0 : wc.cell? ⟨sv, 0, none⟩ = some (.pointer px) := cell_at hpx 0
        have xf : wc.frozen? ⟨sv, 0, none⟩ = false := frozen_at hpx 0
        go_wp2_with fail
        clear x0 xf hpx
        generalize wc.setCell ⟨sv, 0, none⟩ (.pointer (some ⟨B2.s, 0, none⟩)) = wd at HG ⊢
        refine (storeRoot_any wd B2 S' _ HG.out.st).mono ?_
        rintro e we ⟨rfl, hbe⟩
        have HE : Hid _ := HG.out.on hbe
        clear hbe
        have n0 : ∀ o1 o2, ((we.alloc o1).alloc o2).cell? ⟨nv, 0, none⟩ = some (.int .i64 (S.root)) := fun o1 o2 => cell_on (((Below.refl we.heap.size we).alloc (Nat.le_refl _) o1).alloc (by simp) o2) (cell_at HE.out.nb 0)
        have n1 : ∀ o1 o2, ((we.alloc o1).alloc o2).cell? ⟨nv, 1, none⟩ = some (.string (S.note)) := fun o1 o2 => cell_on (((Below.refl we.heap.size we).alloc (Nat.le_refl _) o1).alloc (by simp) o2) (cell_at HE.out.nb 1)
        have n2 : ∀ o1 o2, ((we.alloc o1).alloc o2).cell? ⟨nv, 2, none⟩ = some va := fun o1 o2 => cell_on (((Below.refl we.heap.size we).alloc (Nat.le_refl _) o1).alloc (by simp) o2) (cell_at HE.out.nb 2)
        go_wp2_with fail
        clear n0 n1 n2
        have hbw : Below we.heap.size we ((we.alloc (.cells #[.int .i64 S'.root] 3)).alloc (.cells #[.string S'.note] 9)) := ((Below.refl _ _).alloc (Nat.le_refl _) _).alloc (by simp) _
        have HV : Hid _ := HE.out.on hbw
        have hr0 : ((we.alloc (.cells #[.int .i64 S'.root] 3)).alloc (.cells #[.string S'.note] 9)).heap[we.heap.size]? = some (.cells #[.int .i64 S'.root] 3 (0, 0)) := by rw [heap_alloc_other _ (by simp)]; exact heap_alloc_last _ _
        have hr1 : ((we.alloc (.cells #[.int .i64 S'.root] 3)).alloc (.cells #[.string S'.note] 9)).heap[we.heap.size + 1]? = some (.cells #[.string S'.note] 9 (0, 0)) := by
          have := heap_alloc_last (we.alloc (.cells #[.int .i64 S'.root] 3)) (.cells #[.string S'.note] 9)
          simpa using this
        have HR : Hid _ := And.intro hr0 hr1
        clear hbw hr0 hr1
        generalize (we.alloc (.cells #[.int .i64 S'.root] 3)).alloc (.cells #[.string S'.note] 9) = wv at HV HR ⊢
        generalize we.heap.size + 1 = rb1 at HR ⊢
        generalize we.heap.size = rb0 at HR ⊢
        refine (is_any wv B2 S' ((D).crash keep).start rb0 rb1 sv S'.root (S.root) S'.note (S.note) va _ ((allOf N S (kp D))) HV.out.st (cell_at HR.out.1 0) (cell_at HR.out.2 0) HV.out.s0 HV.out.all).mono ?_
        rintro e wz ⟨rfl, hbz0⟩
        have hbz : Below w.heap.size w wz := HV.out.below.trans (hbz0.mono HV.out.below.size)
        rw [HIS.out]
        have HWF : Hid (Below w.heap.size w wz) := hbz
        clear hbz
        go_wp2_with fail
        refine (awake_any wz).mono ?_
        rintro e wy ⟨rfl, hby⟩
        have HWG : Hid (Below w.heap.size w wy) := HWF.out.trans (hby.mono HWF.out.size)
        clear hby
        go_wp2_with fail
        go_ret
        exact ⟨rfl, HWG.out⟩
  all_goals
    go_wp2_with fail
    refine (awake_any w1).mono ?_
    rintro e w9 ⟨rfl, hb9⟩
    have H9 : Hid (Below w.heap.size w w9) := HB1.out.trans (hb9.mono HB1.out.size)
    clear hb9
    go_wp2_with fail
    go_ret
    exact ⟨rfl, H9.out⟩
end Go.Proofs.Ytanpkghdgdkdlaa.Sto
