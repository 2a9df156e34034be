/- StoreWhole, walked. -/
import Derived.Test.YtanpkghdgdkdlaaStoLawBack
import Derived.Deep.RegionHeld3
import Derived.Deep.RegionWith
namespace Go.Proofs.Ytanpkghdgdkdlaa.Sto
set_option linter.unusedVariables false
set_option linter.unusedSimpArgs false
set_option maxRecDepth 100000
open Go.RowKit Go.Lib Go.Proofs.Ytanpkghdgdkdlaa.Mem Go.Proofs.Ytanpkghdgdkdlaa.Oct Go.Proofs.Ytanpkghdgdkdlaa.Dev

/-- what a closure reads: a root, a note, a store, each in a variable; and a commit, boxed -/
structure Wc (B : Blk) (S : StS) (D : DevS) (rb nb sb cb : Nat) (r cr : Int) (nt cn : ByteArray) (va : Value) (p : Nat → Prop) (all : List BlkT) (w : World) : Prop where
  st : StAt w B S D
  r0 : w.cell? ⟨rb, 0, none⟩ = some (.int .i64 r)
  n0 : w.cell? ⟨nb, 0, none⟩ = some (.string nt)
  s0 : w.cell? ⟨sb, 0, none⟩ = some (.pointer (some ⟨B.s, 0, none⟩))
  c0 : w.cell? ⟨cb, 0, none⟩ = some (.int .i64 cr)
  c1 : w.cell? ⟨cb, 1, none⟩ = some (.string cn)
  c2 : w.cell? ⟨cb, 2, none⟩ = some va
  all : Blks p w va all
theorem Wc.on {B : Blk} {S : StS} {D : DevS} {rb nb sb cb : Nat} {r cr : Int} {nt cn : ByteArray} {va : Value} {p : Nat → Prop} {all : List BlkT} {w w' : World} (h : Wc B S D rb nb sb cb r cr nt cn va p all w) (hb : Below w.heap.size w w') : Wc B S D rb nb sb cb r cr nt cn va p all w' :=
  ⟨h.st.on hb, cell_on hb h.r0, cell_on hb h.n0, cell_on hb h.s0, cell_on hb h.c0, cell_on hb h.c1, cell_on hb h.c2, h.all.on hb⟩
theorem Wc.held {B : Blk} {S : StS} {D : DevS} {rb nb sb cb : Nat} {r cr : Int} {nt cn : ByteArray} {va : Value} {p : Nat → Prop} {all : List BlkT} {w : World} (h : Wc B S D rb nb sb cb r cr nt cn va p all w) :
    w.cell? ⟨rb, 0, none⟩ = some (.int .i64 r) ∧ w.cell? ⟨nb, 0, none⟩ = some (.string nt) ∧ w.cell? ⟨sb, 0, none⟩ = some (.pointer (some ⟨B.s, 0, none⟩)) ∧ w.cell? ⟨cb, 0, none⟩ = some (.int .i64 cr) ∧ w.cell? ⟨cb, 1, none⟩ = some (.string cn) ∧ w.cell? ⟨cb, 2, none⟩ = some va ∧ Hid (Wc B S D rb nb sb cb r cr nt cn va p all w) :=
  ⟨h.r0, h.n0, h.s0, h.c0, h.c1, h.c2, h⟩
def isC (S : StS) (D : DevS) (r cr : Int) (nt cn : ByteArray) (all : List BlkT) : Bool := decide (r = cr) && (decide (nt = cn) && decide (belowF S D r = all))
set_option maxHeartbeats 8000000 in
theorem is_any (w : World) (B : Blk) (S : StS) (D : DevS) (rb nb sb : Nat) (r cr : Int) (nt cn : ByteArray) (va : Value) (p : Nat → Prop) (all : List BlkT) (h : StAt w B S D) (h0 : w.cell? ⟨rb, 0, none⟩ = some (.int .i64 r)) (h1 : w.cell? ⟨nb, 0, none⟩ = some (.string nt)) (h2 : w.cell? ⟨sb, 0, none⟩ = some (.pointer (some ⟨B.s, 0, none⟩))) (ha : Blks p w va all) :
    Calls Try.prog 28 #[.agg #[.int .i64 cr, .string cn, va], .pointer (some ⟨rb, 0, none⟩), .pointer (some ⟨nb, 0, none⟩), .pointer (some ⟨sb, 0, none⟩)] w fun e w' => e = .returned (.bool (isC S D r cr nt cn all)) ∧ Below w.heap.size w w' := by
  obtain ⟨aa, ca, rfl, hla, _⟩ := ha.at
  have hb1 : Below w.heap.size w (w.alloc (.cells #[.int .i64 cr, .string cn, .slice aa all.length ca] 66)) := (Below.refl _ _).alloc (Nat.le_refl _) _
  have hbx := heap_alloc_last w (.cells #[.int .i64 cr, .string cn, .slice aa all.length ca] 66)
  have H : Hid (Wc B S D rb nb sb w.heap.size r cr nt cn (.slice aa all.length ca) p all (w.alloc (.cells #[.int .i64 cr, .string cn, .slice aa all.length ca] 66)) ∧ Below w.heap.size w (w.alloc (.cells #[.int .i64 cr, .string cn, .slice aa all.length ca] 66))) := ⟨⟨h.on hb1, cell_on hb1 h0, cell_on hb1 h1, cell_on hb1 h2, cell_at hbx 0, cell_at hbx 1, cell_at hbx 2, ha.on hb1⟩, hb1⟩
  clear h h0 h1 h2 ha hb1 hbx
  go_enter Try.func28, Try.ntmps28
  by_cases hr : r = cr
  · by_cases hn : nt = cn
    · subst hr hn
      have hout : Hid (isC S D r r nt nt all = decide (belowF S D r = all)) := by simp [Hid, isC]
      have hse : (nt.toList == nt.toList) = true := beq_self_eq_true _
      have HBW : Hid (Below w.heap.size w (w.alloc (.cells #[.int .i64 r, .string nt, .slice aa all.length ca] 66))) := H.out.2
      replace H : Hid (Wc B S D rb nb sb w.heap.size r r nt nt (.slice aa all.length ca) p all (w.alloc (.cells #[.int .i64 r, .string nt, .slice aa all.length ca] 66))) := H.out.1
      go_wp2_with fail
      generalize w.alloc (.cells #[.int .i64 r, .string nt, .slice aa all.length ca] 66) = w1 at H HBW ⊢
      obtain ⟨cb, hcb⟩ : ∃ cb, cb = w.heap.size := ⟨_, rfl⟩
      rw [← hcb] at H ⊢
      clear hcb
      have A0 : Hid (Wc B S D rb nb sb cb r r nt nt (.slice aa all.length ca) p all w1.drew) := H.out.on ((Below.refl _ _).drew)
      go_region_held3 (fun w' => w'.cell? ⟨rb, 0, none⟩ = some (.int .i64 r) ∧ w'.cell? ⟨nb, 0, none⟩ = some (.string nt) ∧ w'.cell? ⟨sb, 0, none⟩ = some (.pointer (some ⟨B.s, 0, none⟩)) ∧ w'.cell? ⟨cb, 0, none⟩ = some (.int .i64 r) ∧ w'.cell? ⟨cb, 1, none⟩ = some (.string nt) ∧ w'.cell? ⟨cb, 2, none⟩ = some (.slice aa all.length ca) ∧ Hid (Wc B S D rb nb sb cb r r nt nt (.slice aa all.length ca) p all w'))
        (first | exact A0.out.held | exact A2.out.held | exact A3.out.1.held)
        (first
          | (go_at_call 25; refine (below_any _ B S D r (by first | exact A2.out.st | exact A0.out.st)).mono ?_; rintro e wk ⟨vk, rfl, hk2, hbk⟩; have A2 : Hid (Wc B S D rb nb sb cb r r nt nt (.slice aa all.length ca) p all wk) := A0.out.on hbk; have HK : Hid (Blks _ wk vk (belowF S D r) ∧ Below _ _ wk) := ⟨hk2, hbk⟩; clear hk2 hbk)
          | (go_at_call 29; refine (same_any _ _ _ _ _ _ _ HK.out.1 A2.out.all).mono ?_; rintro e wl ⟨rfl, hbl⟩; have A3 : Hid (Wc B S D rb nb sb cb r r nt nt (.slice aa all.length ca) p all wl ∧ Below _ _ wl) := ⟨A2.out.on hbl, hbl⟩; clear hbl))
      have HZ : Hid (Below w.heap.size w wl) := HBW.out.trans (((Below.refl _ _).drew.trans (HK.out.2.trans (A3.out.2.mono HK.out.2.size))).mono HBW.out.size)
      go_wp2
      go_ret
      exact ⟨by rw [hout.out]; rfl, HZ.out⟩
    · have hout : Hid (isC S D r cr nt cn all = false) := by simp [Hid, isC, hn]
      have hse := str_ne hn
      subst hr
      obtain ⟨q1, q2, q3, q4, q5, q6, _⟩ := H.out.1.held
      go_wp2_with fail
      go_quiet (fail)
      go_wp2
      go_ret
      exact ⟨by rw [hout.out]; rfl, H.out.2.trans (Joins.below_draws _ _ _)⟩
  · have hout : Hid (isC S D r cr nt cn all = false) := by simp [Hid, isC, hr]
    obtain ⟨q1, q2, q3, q4, q5, q6, _⟩ := H.out.1.held
    have hre : (r == cr) = false := by simpa using hr
    go_wp2_with fail
    go_quiet (fail)
    go_wp2
    go_ret
    exact ⟨by rw [hout.out]; rfl, H.out.2.trans (Joins.below_draws _ _ _)⟩
/-! ### the pure law -/
theorem step_pure {n m : Nat} {S : StS} {D : DevS} (h : Good n S D) (hi : Inv n m S) (hn : 8 ≤ n ∧ n ≤ 4096) (hm : m < 1099511627776) (ho : D.off = false) (k : DoT) (hk : k.opn ≤ 10) :
    ((doesOut S D k).err ≠ 5 ∧ Good n (doesOut S D k).st (doesOut S D k).dv ∧ Inv n (m + 1) (doesOut S D k).st ∧ (doesOut S D k).dv.off = false ∧
      ((k.opn = 9 ∧ (doesOut S D k).err = 0 ∧ (doesOut S D k).st.root = k.i ∧ (doesOut S D k).st.note = k.s ∧ allOf n (doesOut S D k).st (kp (doesOut S D k).dv) = belowF S D k.i) ∨
       (¬ (k.opn = 9 ∧ (doesOut S D k).err = 0) ∧ (doesOut S D k).st.root = S.root ∧ (doesOut S D k).st.note = S.note ∧ allOf n (doesOut S D k).st (kp (doesOut S D k).dv) = allOf n S (kp D)))) ∨
    ((doesOut S D k).err = 5 ∧ ∀ l, Tells n ((doesOut S D k).dv.crash l).start S.root S.note (allOf n S (kp D)) ∨ (k.opn = 9 ∧ Tells n ((doesOut S D k).dv.crash l).start k.i k.s (belowF S D k.i))) := by
  have hinv := (hi.does h.dn hn.2 hm k).1
  by_cases h9 : k.opn = 9
  · have hout : doesOut S D k = ⟨0, none, (commitOut S D k.i k.s).1, (commitOut S D k.i k.s).2.1, (commitOut S D k.i k.s).2.2⟩ := by rw [doesOut, if_neg (by omega), if_neg (by omega), if_neg (by omega), if_pos h9]
    have hc := commit_dev h hi hn k.i k.s
    have hoff := doesOut_off (S := S) ho k
    rw [hout] at hoff hinv ⊢
    dsimp only at hoff hinv ⊢
    by_cases h5 : (commitOut S D k.i k.s).1 = 5
    · right
      refine ⟨h5, fun l => ?_⟩
      rcases hc.torn_tells h hi hn ho h5 l with h1 | h1
      · exact .inl h1
      · exact .inr ⟨h9, h1⟩
    · left
      refine ⟨h5, hc.good h hi hn h5, hinv, hoff h5, ?_⟩
      rcases hc.done_all h hi hn ho h5 with ⟨h1, h2, h3⟩ | ⟨h1, h2, h3, h4⟩
      · right
        refine ⟨fun h => h1 h.2, ?_, ?_, h3⟩ <;> rw [h2]
      · left
        exact ⟨h9, h1, h2, h3, h4⟩
  · have hg := h.does hi hn k (.inl h9)
    obtain ⟨l1, l2, l3, l4⟩ := doesOut_last h hi hn k h9
    have ha : allOf n (doesOut S D k).st (kp (doesOut S D k).dv) = allOf n S (kp D) := allOf_turn h.last (fun i _ => by rw [l4]) l3 l1
    by_cases h5 : (doesOut S D k).err = 5
    · right
      refine ⟨h5, fun l => .inl ?_⟩
      have := hg.tells hinv hn l
      rw [l1, l2, ha] at this
      exact this
    · left
      exact ⟨h5, hg, hinv, doesOut_off ho k h5, .inr ⟨fun h => h9 h.1, l1, l2, ha⟩⟩
theorem Tells.is {n : Nat} {D : DevS} {r : Int} {nt : ByteArray} {all : List BlkT} (h : Tells n D r nt all) : ∃ S', openOut D = .ok S' ∧ Inv n 1 S' ∧ isC S' D S'.root r S'.note nt all = true := by
  obtain ⟨S', h1, h2, h3, h4, h5⟩ := h
  refine ⟨S', h1, h5, ?_⟩
  subst h2 h3
  simp [isC, h4]
theorem allOf_fresh (n : Nat) (nt : ByteArray) (K : Int → ByteArray) : allOf n (StS.fresh nt) K = [] := by
  unfold allOf fuelB
  show bfs _ 3500 200 [0] = []
  rw [bfs]
  show bfs _ 3499 200 [] = []
  exact bfs_nil _ _ _
/-! ### the walk -/
theorem Blks.real {p : Nat → Prop} {w : World} {v : Value} {xs : List BlkT} (h : Blks p w v xs) : Blks (fun k => p k ∧ k < w.heap.size) w v xs := by
  rcases h with h | ⟨b, o, c, e, hp, hm, hj⟩
  · exact .inl h
  · by_cases h0 : xs.length = 0
    · exact .inl ⟨List.length_eq_zero_iff.1 h0, _, _, by rw [e, h0]⟩
    · obtain ⟨cs, h1, h2, a, c', h3, h4⟩ := hj 0 (by omega)
      have hc0 := h2 0 (by omega)
      rw [List.getElem?_eq_getElem (by omega)] at hc0
      have hlt : b < w.heap.size := World.block_lt_of_cell? w _ hc0
      refine .inr ⟨b, o, c, e, ⟨hp, hlt⟩, hm, fun j hjl => ?_⟩
      obtain ⟨cs, h1, h2, a, c', h3, h4⟩ := hj j hjl
      exact ⟨cs, h1, h2, a, c', h3, Ints.real h4⟩
/-- what is known between two acts -/
structure Wi (w0 : World) (N j : Nat) (B : Blk) (S : StS) (D : DevS) (sv nv : Nat) (va : Value) (w : World) : Prop where
  sc : Sc w0 B S D w
  good : Good N S D
  inv : Inv N j S
  off : D.off = false
  sb : w.heap[sv]? = some (.cells #[.pointer (some ⟨B.s, 0, none⟩)] 29 (0, 0))
  nb : w.heap[nv]? = some (.cells #[.int .i64 S.root, .string S.note, va] 66 (0, 0))
  all : Blks (fun k => w0.heap.size ≤ k ∧ k ∉ B.all ∧ k ≠ sv ∧ k ≠ nv) w va (allOf N S (kp D))
  sn : sv ∉ B.all
  nn : nv ∉ B.all
  nx : nv ∈ B.x
  ne : sv ≠ nv
  bs : w0.heap.size ≤ sv
  bn : w0.heap.size ≤ nv
theorem Wi.on {w0 w w' : World} {N j : Nat} {B : Blk} {S : StS} {D : DevS} {sv nv : Nat} {va : Value} (h : Wi w0 N j B S D sv nv va w) (hb : Below w.heap.size w w') : Wi w0 N j B S D sv nv va w' :=
  ⟨h.sc.on hb, h.good, h.inv, h.off, (hb.block _ (heap_lt h.sb)).trans h.sb, (hb.block _ (heap_lt h.nb)).trans h.nb, h.all.on hb, h.sn, h.nn, h.nx, h.ne, h.bs, h.bn⟩
theorem Wi.more {w0 w : World} {N j : Nat} {B : Blk} {S : StS} {D : DevS} {sv nv : Nat} {va : Value} (h : Wi w0 N j B S D sv nv va w) : Wi w0 N (j + 1) B S D sv nv va w :=
  ⟨h.sc, h.good, h.inv.more (by omega), h.off, h.sb, h.nb, h.all, h.sn, h.nn, h.nx, h.ne, h.bs, h.bn⟩
theorem out_next {w : World} {B B' : Blk} (hn : Blk.Next w B B') {q : Nat} (h : q ∉ B.all) (hq : q < w.heap.size) : q ∉ B'.all := fun hm => by
  rcases hn.mem q hm with h1 | h1
  · exact h h1
  · omega
/-- behind an act: the same commit -/
theorem Wi.act {w0 w w' : World} {N j j' : Nat} {B B' : Blk} {S S' : StS} {D D' : DevS} {sv nv : Nat} {va : Value} (h : Wi w0 N j B S D sv nv va w) (hn : Blk.Next w B B') (hs : StAt w' B' S' D') (hc : Chg B.all w w')
    (hg : Good N S' D') (hi : Inv N j' S') (ho : D'.off = false) (hr : S'.root = S.root) (ht : S'.note = S.note) (ha : allOf N S' (kp D') = allOf N S (kp D)) : Wi w0 N j' B' S' D' sv nv va w' := by
  refine ⟨h.sc.turn hn hs hc, hg, hi, ho, ?_, ?_, ?_, out_next hn h.sn (heap_lt h.sb), out_next hn h.nn (heap_lt h.nb), by rw [hn.x]; exact h.nx, h.ne, h.bs, h.bn⟩
  · rw [hn.s]; exact (hc.block _ (heap_lt h.sb) h.sn).trans h.sb
  · rw [hr, ht]; exact (hc.block _ (heap_lt h.nb) h.nn).trans h.nb
  · rw [ha]
    exact (h.all.real.chg hc (fun k hk => hk.1.2.1)).mono (fun k hk => ⟨hk.1.1, out_next hn hk.1.2.1 hk.2, hk.1.2.2⟩)
/-- a commit: what is to be kept is put in its place -/
theorem Wi.commit {w0 w w' : World} {N j j' : Nat} {B B' : Blk} {S S' : StS} {D D' : DevS} {sv nv : Nat} {va vb : Value} {root : Int} {note : ByteArray} {all : List BlkT} (h : Wi w0 N j B S D sv nv va w) (hn : Blk.Next w B B') (hs : StAt w' B' S' D') (hc : Chg B.all w w')
    (hg : Good N S' D') (hi : Inv N j' S') (ho : D'.off = false) (hr : S'.root = root) (ht : S'.note = note) (ha : allOf N S' (kp D') = all) (hb : Blks (fun k => w0.heap.size ≤ k ∧ k ∉ B.all ∧ k ≠ sv ∧ k ≠ nv) w vb all) :
    Wi w0 N j' B' S' D' sv nv vb (((w'.setCell ⟨nv, 0, none⟩ (.int .i64 root)).setCell ⟨nv, 1, none⟩ (.string note)).setCell ⟨nv, 2, none⟩ vb) := by
  have hnb' : w'.heap[nv]? = some (.cells #[.int .i64 S.root, .string S.note, va] 66 (0, 0)) := (hc.block _ (heap_lt h.nb) h.nn).trans h.nb
  have hcg : Chg [nv] w' (((w'.setCell ⟨nv, 0, none⟩ (.int .i64 root)).setCell ⟨nv, 1, none⟩ (.string note)).setCell ⟨nv, 2, none⟩ vb) :=
    (((Chg.refl [nv] w').setCell ⟨nv, 0, none⟩ (.int .i64 root) (.inl (by simp))).setCell ⟨nv, 1, none⟩ (.string note) (.inl (by simp))).setCell ⟨nv, 2, none⟩ vb (.inl (by simp))
  have hnn' := out_next hn h.nn (heap_lt h.nb)
  have hx' : nv ∈ B'.x := by rw [hn.x]; exact h.nx
  have hsc := h.sc.turn hn hs hc
  refine ⟨⟨hsc.below.trans (hcg.below hsc.below.size (by simpa using h.bn)), hs.off4 hx' hnn' hcg, hsc.base⟩, hg, hi, ho, ?_, ?_, ?_, out_next hn h.sn (heap_lt h.sb), hnn', hx', h.ne, h.bs, h.bn⟩
  · have h1 : w'.heap[sv]? = some (.cells #[.pointer (some ⟨B.s, 0, none⟩)] 29 (0, 0)) := (hc.block _ (heap_lt h.sb) h.sn).trans h.sb
    rw [hn.s]
    exact (hcg.block _ (heap_lt h1) (by simpa using h.ne)).trans h1
  · rw [hr, ht]
    exact heap_set_at (heap_set_at (heap_set_at hnb' 0 (.int .i64 root)) 1 (.string note)) 2 vb
  · rw [ha]
    exact ((hb.real.chg hc (fun k hk => hk.1.2.1)).chg hcg (fun k hk => by simpa using hk.1.2.2.2)).mono (fun k hk => ⟨hk.1.1, out_next hn hk.1.2.1 hk.2, hk.1.2.2⟩)
end Go.Proofs.Ytanpkghdgdkdlaa.Sto
