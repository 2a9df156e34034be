/- The law's own 'does' of layer 6. -/
import Derived.Test.YtanpkghdgdkdlaaGreatStoShort
import Derived.Test.YtanpkghdgdkdlaaGreatStoBfs
import Derived.Test.YtanpkghdgdkdlaaGreatStoLive
namespace Go.Proofs.YtanpkghdgdkdlaaGreat.Sto
set_option linter.unusedVariables false
set_option linter.unusedSimpArgs false
set_option maxRecDepth 100000
open Go.RowKit Go.Lib Go.Proofs.YtanpkghdgdkdlaaGreat.Mem Go.Proofs.YtanpkghdgdkdlaaGreat.Oct Go.Proofs.YtanpkghdgdkdlaaGreat.Dev

theorem results_tmp_cell_tmp {P : Program} {fn : Func} {p q r : Tmp} {ty : TypeId} (h : fn.results = #[.tmp r, .cell p ty, .tmp q]) (tmps : Array Value) (w : World) (g : Nat) (t : TypeId) (cs : Array Value) (fr : Nat × Nat) (d : TypeDesc)
    (hp : tmps.getD p undef = .pointer (some ⟨g, 0, none⟩)) (hg : w.heap[g]? = some (.cells cs t fr))
    (hu : P.underlying ty = some d) (hd : (match d with | .struct _ | .array _ _ => true | _ => false) = true) (hi : (P.info? ty).map (·.size) = some cs.size) :
    (results fn tmps).run P w = .ok (.tuple #[tmps.getD r undef, .agg cs, tmps.getD q undef]) w := by
  have hp' : tmps[p]?.getD undef = .pointer (some ⟨g, 0, none⟩) := by simpa using hp
  simp [results, h, hp', asAddr, run_loadVar_row w g t ty cs fr d hg hu hd hi]
/-- a block that holds no number is none of what a store reads -/
theorem StAt.off3 {w w' : World} {B : Blk} {S : StS} {D : DevS} {g : Nat} (h : StAt w B S D) (hg : ∀ o z, w.cell? ⟨g, o, none⟩ ≠ some (.int .i64 z)) (hng : g ∉ B.all) (hc : Chg [g] w w') : StAt w' B S D := by
  simp only [Blk.all, List.mem_cons, List.mem_nil_iff, or_false, not_or] at hng
  obtain ⟨n1, n2, n3, n4, n5, n6⟩ := hng
  obtain ⟨mm, hm⟩ := h.cells
  refine ⟨(hc.block _ (heap_lt h.box) (by simpa using Ne.symm n1)).trans h.box, h.dev.of_touch hc (by simpa using Ne.symm n2) (by simpa using Ne.symm n3) (by simpa using Ne.symm n4), ⟨mm, hm.is.touch hc (by simpa using Ne.symm n5), hm.eq, fun i c a k hi => ?_⟩, h.kept.touch hc (by simpa using Ne.symm n6), h.nd, h.small, fun q hq => Nat.lt_of_lt_of_le (h.low q hq) hc.size⟩
  rcases hm.kids i c a k hi with hk | ⟨b, o, q, e, hp, hl, hcell⟩
  · exact .inl hk
  · by_cases hz : c.kids.length = 0
    · exact .inl ⟨List.length_eq_zero_iff.1 hz, a, k, by rw [hz]⟩
    · have hbg : b ≠ g := by
        rintro rfl
        exact hg _ _ (hcell 0 (by omega))
      exact .inr ⟨b, o, q, e, hp, hl, fun j hj => by rw [hc.cell (by simpa using hbg) (hcell j hj)]⟩
/-- a block that is new: kids will never lie there -/
def Blk.keep (B : Blk) (g : Nat) : Blk := { B with x := g :: B.x }
theorem StAt.protect {w : World} {B : Blk} {S : StS} {D : DevS} (h : StAt w B S D) (o : Obj) : StAt (w.alloc o) (B.keep w.heap.size) S D := by
  have h1 := h.on ((Below.refl _ _).alloc (Nat.le_refl _) o : Below w.heap.size w (w.alloc o))
  obtain ⟨mm, hm⟩ := h.cells
  have hb : Below w.heap.size w (w.alloc o) := (Below.refl _ _).alloc (Nat.le_refl _) o
  refine ⟨h1.box, h1.dev, ⟨mm, ⟨hm.is.alloc o, hm.eq, fun i c a k hi => ?_⟩⟩, h1.kept, h1.nd, h1.small, fun q hq => ?_⟩
  · refine Ints.mono (Ints.chg (T := []) (Ints.real (hm.kids i c a k hi)) (Chg.of_below hb) (by simp)) (fun q hq => ⟨hq.1.1, fun hm2 => ?_⟩)
    rcases List.mem_cons.1 hm2 with h2 | h2
    · have := hq.2; omega
    · exact hq.1.2 h2
  · rcases List.mem_cons.1 hq with h2 | h2
    · subst h2; simp
    · have := h.low q h2; simp; omega
theorem StAt.off4 {w w' : World} {B : Blk} {S : StS} {D : DevS} {g : Nat} (h : StAt w B S D) (hg : g ∈ B.x) (hng : g ∉ B.all) (hc : Chg [g] w w') : StAt w' B S D := by
  simp only [Blk.all, List.mem_cons, List.mem_nil_iff, or_false, not_or] at hng
  obtain ⟨n1, n2, n3, n4, n5, n6⟩ := hng
  obtain ⟨mm, hm⟩ := h.cells
  refine ⟨(hc.block _ (heap_lt h.box) (by simpa using Ne.symm n1)).trans h.box, h.dev.of_touch hc (by simpa using Ne.symm n2) (by simpa using Ne.symm n3) (by simpa using Ne.symm n4), ⟨mm, hm.is.touch hc (by simpa using Ne.symm n5), hm.eq, fun i c a k hi => ?_⟩, h.kept.touch hc (by simpa using Ne.symm n6), h.nd, h.small, fun q hq => Nat.lt_of_lt_of_le (h.low q hq) hc.size⟩
  exact (hm.kids i c a k hi).chg hc (fun q hq hm2 => hq.2 (by simp at hm2; subst hm2; exact hg))
theorem row_no_int {w : World} {g : Nat} {v : Value} {d : ByteArray} {t : TypeId} {f : Nat × Nat} (h : w.heap[g]? = some (.cells #[v, .string d] t f)) (hv : ∀ z, v ≠ .int .i64 z) : ∀ o z, w.cell? ⟨g, o, none⟩ ≠ some (.int .i64 z) := by
  intro o z he
  rw [cell_at h] at he
  match o with
  | 0 => exact hv z (by simpa using he)
  | 1 => simp at he
  | o + 2 => simp at he
def DoesPost (w : World) (B : Blk) (r : DoesR) (e : Ending) (w' : World) : Prop := ∃ (B' : Blk) (a : Option Addr) (m c : Nat) (d : ByteArray), Blk.Next w B B' ∧ e = .returned (.tuple #[.int .i64 r.num, .agg #[.slice a m c, .string d], .int .i64 r.err]) ∧ BlockIs w.heap.size w' (.slice a m c) d r.blk ∧ StAt w' B' r.st r.dv ∧ Chg B.all w w'
/-- what lies there ahead of a callee -/
structure Dw (w : World) (B : Blk) (S : StS) (D : DevS) (k : DoT) (kv : Value) (kb rb : Nat) (w' : World) : Prop where
  st : StAt w' B S D
  below : Below w.heap.size w w'
  kd : w'.heap[kb]? = some (.cells #[.int .i64 k.op, .int .i64 k.i, kv, .string k.s] 51 (0, 0))
  rd : w'.heap[rb]? = some (.cells #[.slice none 0 0, .string ⟨#[]⟩] 58 (0, 0))
  kids : Ints (· ∉ B.all) w' kv k.kids
  ek : kb = w.heap.size
  er : rb = w.heap.size + 1
theorem Dw.on {w w' w'' : World} {B : Blk} {S : StS} {D : DevS} {k : DoT} {kv : Value} {kb rb : Nat} (h : Dw w B S D k kv kb rb w') (hb : Below w'.heap.size w' w'') : Dw w B S D k kv kb rb w'' :=
  ⟨h.st.on hb, h.below.trans (hb.mono h.below.size), (hb.block _ (heap_lt h.kd)).trans h.kd, (hb.block _ (heap_lt h.rd)).trans h.rd, Ints.on h.kids hb, h.ek, h.er⟩
theorem Dw.cells {w w' : World} {B : Blk} {S : StS} {D : DevS} {k : DoT} {kv : Value} {kb rb : Nat} (h : Dw w B S D k kv kb rb w') : w'.cell? ⟨kb, 0, none⟩ = some (.int .i64 k.op) ∧ w'.cell? ⟨kb, 1, none⟩ = some (.int .i64 k.i) ∧ w'.cell? ⟨kb, 2, none⟩ = some kv ∧ w'.cell? ⟨kb, 3, none⟩ = some (.string k.s) :=
  ⟨cell_at h.kd 0, cell_at h.kd 1, cell_at h.kd 2, cell_at h.kd 3⟩
/-- behind a callee that may have turned the store -/
structure De (w : World) (B B' : Blk) (S : StS) (D : DevS) (rb : Nat) (w' : World) : Prop where
  next : Blk.Next w B B'
  st : StAt w' B' S D
  chg : Chg B.all w w'
  rd : w'.heap[rb]? = some (.cells #[.slice none 0 0, .string ⟨#[]⟩] 58 (0, 0))
  er : rb = w.heap.size + 1
  rn : rb ∉ B'.all
theorem Blk.Next.later {w w' : World} {B B' : Blk} (h : Blk.Next w' B B') (hb : w.heap.size ≤ w'.heap.size) : Blk.Next w B B' :=
  ⟨h.s, h.d, h.k, h.y, h.c, h.p.imp id (fun q => Nat.le_trans hb q), h.x⟩
theorem Blk.Next.mem {w : World} {B B' : Blk} (h : Blk.Next w B B') : ∀ x ∈ B'.all, x ∈ B.all ∨ w.heap.size ≤ x := by
  intro x hx
  simp only [Blk.all, List.mem_cons, List.mem_nil_iff, or_false] at hx ⊢
  rw [h.s, h.d, h.k, h.y, h.c] at hx
  have := h.p
  omega
theorem Dw.rn {w w' : World} {B : Blk} {S : StS} {D : DevS} {k : DoT} {kv : Value} {kb rb : Nat} (h : Dw w B S D k kv kb rb w') : rb ∉ B.all := fun hm => by
  have hst := h.st
  simp only [Blk.all, List.mem_cons, List.mem_nil_iff, or_false] at hm
  rcases hm with e | e | e | e | e | e
  · have := hst.box; rw [← e, h.rd] at this; cases this
  · have := hst.dev.heap; rw [← e, h.rd] at this; cases this
  · obtain ⟨es, cl, hb, _⟩ := hst.dev.kept; rw [← e, h.rd] at hb; cases hb
  · obtain ⟨es, cl, hb, _⟩ := hst.dev.dirty; rw [← e, h.rd] at hb; cases hb
  · obtain ⟨mm, hm⟩ := hst.cells
    obtain ⟨es, cl, hb, _⟩ := hm.is; rw [← e, h.rd] at hb; cases hb
  · obtain ⟨es, cl, hb, _⟩ := hst.kept; rw [← e, h.rd] at hb; cases hb
theorem Dw.turn {w w' w'' : World} {B B' : Blk} {S S' : StS} {D D' : DevS} {k : DoT} {kv : Value} {kb rb : Nat} (h : Dw w B S D k kv kb rb w') (hn : Blk.Next w' B B') (hs : StAt w'' B' S' D') (hc : Chg B.all w' w'') : De w B B' S' D' rb w'' := by
  have hrl := heap_lt h.rd
  have hrn := h.rn
  refine ⟨hn.later h.below.size, hs, (Chg.of_below h.below).trans hc, (hc.block _ hrl hrn).trans h.rd, h.er, fun hm => ?_⟩
  rcases hn.mem rb hm with h1 | h1
  · exact hrn h1
  · omega
theorem setCell_id {w : World} {b j : Nat} {c : Array Value} {t : TypeId} {f : Nat × Nat} {v : Value} (h : w.heap[b]? = some (.cells c t f)) (hc : c[j]? = some v) : w.setCell ⟨b, j, none⟩ v = w := by
  have e2 : c.setIfInBounds j v = c := by
    apply Array.ext_getElem?
    intro i
    rw [Array.getElem?_setIfInBounds]
    split
    · rename_i hij
      subst hij
      have hl := (Array.getElem?_eq_some_iff.1 hc).1
      rw [if_pos hl, hc]
    · rfl
  have e1 : (w.setCell ⟨b, j, none⟩ v).heap = w.heap := by
    apply Array.ext_getElem?
    intro i
    by_cases hib : i = b
    · subst hib
      rw [heap_set_at h j v, h, e2]
    · exact heap_set_other _ _ hib
  have e3 : w.setCell ⟨b, j, none⟩ v = { w with heap := (w.setCell ⟨b, j, none⟩ v).heap } := rfl
  rw [e3, e1]
theorem De.same {w w' : World} {B B' : Blk} {S : StS} {D : DevS} {rb : Nat} (h : De w B B' S D rb w') : (w'.setCell ⟨rb, 0, none⟩ (.slice none 0 0)).setCell ⟨rb, 1, none⟩ (.string ⟨#[]⟩) = w' := by
  rw [setCell_id h.rd rfl, setCell_id h.rd rfl]
theorem De.ends {w w' : World} {B B' : Blk} {S : StS} {D : DevS} {rb : Nat} (h : De w B B' S D rb w') (num err : Int) : DoesPost w B ⟨num, none, err, S, D⟩ (.returned (.tuple #[.int .i64 num, .agg #[.slice none 0 0, .string ⟨#[]⟩], .int .i64 err])) w' :=
  ⟨B', none, 0, 0, ⟨#[]⟩, h.next, rfl, ⟨rfl, rfl⟩, h.st, h.chg⟩
theorem held_small {n m : Nat} {S : StS} (h : Inv n m S) (hm : m < 1099511627776) : ∀ i c, S.cells i = some c → -9223372036854775808 ≤ c.held ∧ c.held < 9223372036854775807 := fun i c hc => by
  have := h.held i c hc
  have := h.wf.held i c hc
  omega
set_option maxHeartbeats 4000000 in
theorem does_any (w : World) (B : Blk) (S : StS) (D : DevS) (n m : Nat) (k : DoT) (kv : Value) (h : StAt w B S D) (hi : Inv n m S) (hD : D.n = n) (hm : m < 1099511627776) (hn : n ≤ 4096) (hk : k.fits) (hv : Ints (· ∉ B.all) w kv k.kids) (h12 : k.opn < 12) :
    Calls Tryz.prog 25 #[.pointer (some ⟨B.s, 0, none⟩), .pointer (some ⟨B.d, 0, none⟩), k.val kv] w (DoesPost w B (doesOut S D k)) := by
  have hDn : D.n.toNat = n := by omega
  have hf9 : k.i ≤ 9223372036854775807 := by
    have := hk.2.1
    simp only [Lit.wf, IntKind.min, IntKind.max, IntKind.signed, IntKind.bits, Bool.and_eq_true] at this
    simp at this
    omega
  have HI : Hid (Inv n m S ∧ D.n = n ∧ D.n.toNat = n ∧ m < 1099511627776 ∧ n ≤ 4096 ∧ k.i ≤ 9223372036854775807) := ⟨hi, hD, hDn, hm, hn, hf9⟩
  have hw1 : Dw w B S D k kv w.heap.size (w.heap.size + 1) ((w.alloc (.cells #[.int .i64 k.op, .int .i64 k.i, kv, .string k.s] 51)).alloc (.cells #[.slice none 0 0, .string ⟨#[]⟩] 58)) := by
    have hb1 : Below w.heap.size w (w.alloc (.cells #[.int .i64 k.op, .int .i64 k.i, kv, .string k.s] 51)) := (Below.refl _ _).alloc (Nat.le_refl _) _
    have hb2 : Below w.heap.size w ((w.alloc (.cells #[.int .i64 k.op, .int .i64 k.i, kv, .string k.s] 51)).alloc (.cells #[.slice none 0 0, .string ⟨#[]⟩] 58)) := hb1.alloc hb1.size _
    refine ⟨h.on hb2, hb2, ?_, ?_, Ints.on hv hb2, rfl, rfl⟩
    · rw [heap_alloc_other _ (by simp)]; exact heap_alloc_last _ _
    · have := heap_alloc_last (w.alloc (.cells #[.int .i64 k.op, .int .i64 k.i, kv, .string k.s] 51)) (.cells #[.slice none 0 0, .string ⟨#[]⟩] 58)
      simpa using this
  have H1 : Hid (Dw w B S D k kv w.heap.size (w.heap.size + 1) ((w.alloc (.cells #[.int .i64 k.op, .int .i64 k.i, kv, .string k.s] 51)).alloc (.cells #[.slice none 0 0, .string ⟨#[]⟩] 58))) := hw1
  have hr : k.opn = 5 ∨ k.opn = 6 ∨ k.opn = 7 ∨ k.opn = 8 ∨ k.opn = 9 ∨ k.opn = 10 ∨ k.opn = 11 ∨ k.opn = 0 ∨ k.opn = 1 ∨ k.opn = 2 ∨ k.opn = 3 ∨ k.opn = 4 := by
    have := opn_range k
    omega
  have hval : k.val kv = .agg #[.int .i64 k.op, .int .i64 k.i, kv, .string k.s] := rfl
  rw [hval]
  clear h hi hD hDn hm hn hk hv h12 hw1 hf9
  go_enter Tryz.func25, Tryz.ntmps25
  go_wp2_with fail
  obtain ⟨kb, hkb⟩ : ∃ kb, kb = w.heap.size := ⟨_, rfl⟩
  obtain ⟨rb, hrb⟩ : ∃ rb, rb = w.heap.size + 1 := ⟨_, rfl⟩
  have H1' : Hid (Dw w B S D k kv kb rb ((w.alloc (.cells #[.int .i64 k.op, .int .i64 k.i, kv, .string k.s] 51)).alloc (.cells #[.slice none 0 0, .string ⟨#[]⟩] 58))) := by rw [hkb, hrb]; exact H1
  rw [← hrb, ← hkb]
  clear H1 hkb hrb
  generalize (w.alloc (.cells #[.int .i64 k.op, .int .i64 k.i, kv, .string k.s] 51)).alloc (.cells #[.slice none 0 0, .string ⟨#[]⟩] 58) = w1 at H1' ⊢
  obtain ⟨c0, c1, c2, c3⟩ := H1'.out.cells
  refine (op_fn k kv w1).mono ?_
  rintro e w2 ⟨rfl, hb2⟩
  have H2 : Hid (Dw w B S D k kv kb rb w2) := H1'.out.on hb2
  clear hb2 c0 c1 c2 c3 H1'
  obtain ⟨c0, c1, c2, c3⟩ := H2.out.cells
  have r0 : w2.cell? ⟨rb, 0, none⟩ = some (.slice none 0 0) := cell_at H2.out.rd 0
  have r1 : w2.cell? ⟨rb, 1, none⟩ = some (.string ⟨#[]⟩) := cell_at H2.out.rd 1
  have rf : ∀ j, w2.frozen? ⟨rb, j, none⟩ = false := frozen_at H2.out.rd
  rcases hr with hr | hr | hr | hr | hr | hr | hr | hr | hr | hr | hr | hr
  · have hout : Hid (doesOut S D k = ⟨0, none, S.holdE k.i, S.holds k.i, D⟩) := by unfold Hid; rw [doesOut, if_pos (by omega)]
    rw [hr]
    go_wp2_with fail
    refine (storeHold_any w2 B S D k.i H2.out.st (held_small HI.out.1 HI.out.2.2.2.1 k.i)).mono ?_
    rintro e w3 ⟨rfl, h3, t3⟩
    have H3 : Hid (De w B B (S.holds k.i) D rb w3) := H2.out.turn (Blk.Next.refl _ _) h3 t3
    clear h3 t3
    clear H2 c0 c1 c2 c3 r0 r1 rf
    have c0 : w3.cell? ⟨rb, 0, none⟩ = some (.slice none 0 0) := cell_at H3.out.rd 0
    have c1 : w3.cell? ⟨rb, 1, none⟩ = some (.string ⟨#[]⟩) := cell_at H3.out.rd 1
    have cf : ∀ j, w3.frozen? ⟨rb, j, none⟩ = false := frozen_at H3.out.rd
    go_wp2_with fail
    rw [H3.out.same]
    refine bodyPost_ret (results_tmp_cell_tmp Tryz.results25 _ _ rb 58 #[.slice none 0 0, .string ⟨#[]⟩] (0, 0) _ rfl H3.out.rd Tryz.underlying58 rfl (by kernel_rfl)) rfl ?_
    rw [hout.out]
    exact H3.out.ends _ _
  · have hout : Hid (doesOut S D k = ⟨0, none, S.holdE k.i, S.holds k.i, D⟩) := by unfold Hid; rw [doesOut, if_pos (by omega)]
    rw [hr]
    go_wp2_with fail
    refine (storeHold_any w2 B S D k.i H2.out.st (held_small HI.out.1 HI.out.2.2.2.1 k.i)).mono ?_
    rintro e w3 ⟨rfl, h3, t3⟩
    have H3 : Hid (De w B B (S.holds k.i) D rb w3) := H2.out.turn (Blk.Next.refl _ _) h3 t3
    clear h3 t3
    clear H2 c0 c1 c2 c3 r0 r1 rf
    have c0 : w3.cell? ⟨rb, 0, none⟩ = some (.slice none 0 0) := cell_at H3.out.rd 0
    have c1 : w3.cell? ⟨rb, 1, none⟩ = some (.string ⟨#[]⟩) := cell_at H3.out.rd 1
    have cf : ∀ j, w3.frozen? ⟨rb, j, none⟩ = false := frozen_at H3.out.rd
    go_wp2_with fail
    rw [H3.out.same]
    refine bodyPost_ret (results_tmp_cell_tmp Tryz.results25 _ _ rb 58 #[.slice none 0 0, .string ⟨#[]⟩] (0, 0) _ rfl H3.out.rd Tryz.underlying58 rfl (by kernel_rfl)) rfl ?_
    rw [hout.out]
    exact H3.out.ends _ _
  · have hout : Hid (doesOut S D k = ⟨0, none, S.dropE k.i, S.drop n k.i, D⟩) := by unfold Hid; rw [doesOut, if_neg (by omega), if_pos hr, HI.out.2.2.1]
    rw [hr]
    go_wp2_with fail
    refine (storeDrop_any w2 B S D n k.i H2.out.st HI.out.1.wf).mono ?_
    rintro e w3 ⟨rfl, h3, t3⟩
    have H3 : Hid (De w B B (S.drop n k.i) D rb w3) := H2.out.turn (Blk.Next.refl _ _) h3 t3
    clear h3 t3
    clear H2 c0 c1 c2 c3 r0 r1 rf
    have c0 : w3.cell? ⟨rb, 0, none⟩ = some (.slice none 0 0) := cell_at H3.out.rd 0
    have c1 : w3.cell? ⟨rb, 1, none⟩ = some (.string ⟨#[]⟩) := cell_at H3.out.rd 1
    have cf : ∀ j, w3.frozen? ⟨rb, j, none⟩ = false := frozen_at H3.out.rd
    go_wp2_with fail
    rw [H3.out.same]
    refine bodyPost_ret (results_tmp_cell_tmp Tryz.results25 _ _ rb 58 #[.slice none 0 0, .string ⟨#[]⟩] (0, 0) _ rfl H3.out.rd Tryz.underlying58 rfl (by kernel_rfl)) rfl ?_
    rw [hout.out]
    exact H3.out.ends _ _
  · have hout : Hid (doesOut S D k = ⟨(Sto.num S.cells n : Int) - Sto.num (S.sweep n).cells n, none, 0, S.sweep n, D⟩) := by unfold Hid; rw [doesOut, if_neg (by omega), if_neg (by omega), if_pos hr, HI.out.2.2.1]
    rw [hr]
    go_wp2_with fail
    refine (storeSweep_any w2 B S D n H2.out.st HI.out.1.wf HI.out.2.2.2.2.1).mono ?_
    rintro e w3 ⟨rfl, h3, t3⟩
    have H3 : Hid (De w B B (S.sweep n) D rb w3) := H2.out.turn (Blk.Next.refl _ _) h3 t3
    clear h3 t3
    clear H2 c0 c1 c2 c3 r0 r1 rf
    have c0 : w3.cell? ⟨rb, 0, none⟩ = some (.slice none 0 0) := cell_at H3.out.rd 0
    have c1 : w3.cell? ⟨rb, 1, none⟩ = some (.string ⟨#[]⟩) := cell_at H3.out.rd 1
    have cf : ∀ j, w3.frozen? ⟨rb, j, none⟩ = false := frozen_at H3.out.rd
    go_wp2_with fail
    rw [H3.out.same]
    refine bodyPost_ret (results_tmp_cell_tmp Tryz.results25 _ _ rb 58 #[.slice none 0 0, .string ⟨#[]⟩] (0, 0) _ rfl H3.out.rd Tryz.underlying58 rfl (by kernel_rfl)) rfl ?_
    rw [hout.out]
    exact H3.out.ends _ _
  · have hout : Hid (doesOut S D k = ⟨0, none, (commitOut S D k.i k.s).1, (commitOut S D k.i k.s).2.1, (commitOut S D k.i k.s).2.2⟩) := by unfold Hid; rw [doesOut, if_neg (by omega), if_neg (by omega), if_neg (by omega), if_pos hr]
    rw [hr]
    go_wp2_with fail
    refine (storeCommit_any w2 B S D k.i k.s H2.out.st (by rw [HI.out.2.2.1]; exact HI.out.1.wf) (by have := HI.out.1.gen; omega)).mono ?_
    rintro e w3 ⟨B', hn, rfl, h3, t3⟩
    have H3 : Hid (De w B B' (commitOut S D k.i k.s).2.1 (commitOut S D k.i k.s).2.2 rb w3) := H2.out.turn hn h3 t3
    clear h3 t3 hn
    clear H2 c0 c1 c2 c3 r0 r1 rf
    have c0 : w3.cell? ⟨rb, 0, none⟩ = some (.slice none 0 0) := cell_at H3.out.rd 0
    have c1 : w3.cell? ⟨rb, 1, none⟩ = some (.string ⟨#[]⟩) := cell_at H3.out.rd 1
    have cf : ∀ j, w3.frozen? ⟨rb, j, none⟩ = false := frozen_at H3.out.rd
    go_wp2_with fail
    rw [H3.out.same]
    refine bodyPost_ret (results_tmp_cell_tmp Tryz.results25 _ _ rb 58 #[.slice none 0 0, .string ⟨#[]⟩] (0, 0) _ rfl H3.out.rd Tryz.underlying58 rfl (by kernel_rfl)) rfl ?_
    rw [hout.out]
    exact H3.out.ends _ _
  · have hout : Hid (doesOut S D k = ⟨0, (S.getR D k.i).2, (S.getR D k.i).1, S, D⟩) := by unfold Hid; rw [doesOut, if_neg (by omega), if_neg (by omega), if_neg (by omega), if_neg (by omega), if_pos hr]
    rw [hr]
    go_wp2_with fail
    refine (storeGet_any w2 B S D k.i H2.out.st).mono ?_
    rintro e w3 ⟨a, m', c, d, rfl, his, hb3⟩
    have H3 : Hid (Dw w B S D k kv kb rb w3 ∧ BlockIs w2.heap.size w3 (.slice a m' c) d (S.getR D k.i).2) := ⟨H2.out.on hb3, his⟩
    have HZ : Hid (w.heap.size ≤ w2.heap.size ∧ rb < w2.heap.size) := ⟨H2.out.below.size, heap_lt H2.out.rd⟩
    clear H2 c0 c1 c2 c3 r0 r1 rf his hb3
    have c0 : w3.cell? ⟨rb, 0, none⟩ = some (.slice none 0 0) := cell_at H3.out.1.rd 0
    have c1 : w3.cell? ⟨rb, 1, none⟩ = some (.string ⟨#[]⟩) := cell_at H3.out.1.rd 1
    have cf : ∀ j, w3.frozen? ⟨rb, j, none⟩ = false := frozen_at H3.out.1.rd
    go_wp2_with fail
    have hnb : (w3.alloc (.cells #[.slice a m' c, .string d] 58)).heap[w3.heap.size]? = some (.cells #[.slice a m' c, .string d] 58 (0, 0)) := heap_alloc_last _ _
    have H4 : Hid (Dw w B S D k kv kb rb (w3.alloc (.cells #[.slice a m' c, .string d] 58)) ∧ BlockIs w2.heap.size (w3.alloc (.cells #[.slice a m' c, .string d] 58)) (.slice a m' c) d (S.getR D k.i).2) := ⟨H3.out.1.on ((Below.refl _ _).alloc (Nat.le_refl _) _), H3.out.2.chg (T := []) (Chg.of_below ((Below.refl _ _).alloc (Nat.le_refl _) _)) (by simp)⟩
    have hne : rb ≠ w3.heap.size := Nat.ne_of_lt (heap_lt H3.out.1.rd)
    generalize w3.alloc (.cells #[.slice a m' c, .string d] 58) = w4 at hnb H4 ⊢
    generalize w3.heap.size = nb at hnb hne ⊢
    clear H3 c0 c1 cf
    have c0 : w4.cell? ⟨rb, 0, none⟩ = some (.slice none 0 0) := cell_at H4.out.1.rd 0
    have c1 : w4.cell? ⟨rb, 1, none⟩ = some (.string ⟨#[]⟩) := cell_at H4.out.1.rd 1
    have cf : ∀ j, w4.frozen? ⟨rb, j, none⟩ = false := frozen_at H4.out.1.rd
    have d0 : w4.cell? ⟨nb, 0, none⟩ = some (.slice a m' c) := cell_at hnb 0
    have d1 : w4.cell? ⟨nb, 1, none⟩ = some (.string d) := cell_at hnb 1
    clear hnb
    go_region
    go_wp2_with fail
    have hs := heap_set_at (heap_set_at H4.out.1.rd 0 (.slice a m' c)) 1 (.string d)
    have hcg : Chg [rb] w4 ((w4.setCell ⟨rb, 0, none⟩ (.slice a m' c)).setCell ⟨rb, 1, none⟩ (.string d)) := ((Chg.refl [rb] w4).setCell ⟨rb, 0, none⟩ (.slice a m' c) (.inl (by simp))).setCell ⟨rb, 1, none⟩ (.string d) (.inl (by simp))
    refine bodyPost_ret (results_tmp_cell_tmp Tryz.results25 _ _ rb 58 #[.slice a m' c, .string d] (0, 0) _ rfl hs Tryz.underlying58 rfl (by kernel_rfl)) rfl ?_
    rw [hout.out]
    refine ⟨B, a, m', c, d, Blk.Next.refl _ _, rfl, ?_, ?_, ?_⟩
    · exact (H4.out.2.chg hcg.drew (fun t ht => by have := HZ.out.2; simp at ht; omega)).mono HZ.out.1
    · exact (H4.out.1.st.off3 (row_no_int H4.out.1.rd (fun z h => by cases h)) H4.out.1.rn hcg).drew
    · exact ((Chg.of_below H4.out.1.below).trans' hcg (fun x hx => by have := H4.out.1.er; simp at hx; omega)).drew
  · have hout : Hid (doesOut S D k = ⟨0, none, D.fuseE, S, D.fuse k.i⟩) := by unfold Hid; rw [doesOut, if_neg (by omega), if_neg (by omega), if_neg (by omega), if_neg (by omega), if_neg (by omega), if_pos hr]
    rw [hr]
    go_wp2_with fail
    refine (fuse_any w2 B.d B.k B.y D k.i H2.out.st.dev HI.out.2.2.2.2.2).mono ?_
    rintro e w3 ⟨rfl, h3, t3⟩
    have H3 : Hid (De w B B S (D.fuse k.i) rb w3) := H2.out.turn (Blk.Next.refl _ _) (H2.out.st.setDev t3 h3 (fuse_small H2.out.st.small _)) (t3.mono (Blk.dev_mem B))
    clear h3 t3
    clear H2 c0 c1 c2 c3 r0 r1 rf
    have c0 : w3.cell? ⟨rb, 0, none⟩ = some (.slice none 0 0) := cell_at H3.out.rd 0
    have c1 : w3.cell? ⟨rb, 1, none⟩ = some (.string ⟨#[]⟩) := cell_at H3.out.rd 1
    have cf : ∀ j, w3.frozen? ⟨rb, j, none⟩ = false := frozen_at H3.out.rd
    go_wp2_with fail
    rw [H3.out.same]
    refine bodyPost_ret (results_tmp_cell_tmp Tryz.results25 _ _ rb 58 #[.slice none 0 0, .string ⟨#[]⟩] (0, 0) _ rfl H3.out.rd Tryz.underlying58 rfl (by kernel_rfl)) rfl ?_
    rw [hout.out]
    exact H3.out.ends _ _
  · have hout : Hid (doesOut S D k = ⟨(putOut S D k.kids k.s).1, none, (putOut S D k.kids k.s).2.1, (putOut S D k.kids k.s).2.2.1, (putOut S D k.kids k.s).2.2.2⟩) := by unfold Hid; rw [doesOut, if_neg (by omega), if_neg (by omega), if_neg (by omega), if_neg (by omega), if_neg (by omega), if_neg (by omega)]
    rw [hr]
    go_wp2_with fail
    refine (storePut_any w2 B S D kv k.kids k.s H2.out.st (by rw [HI.out.2.2.1]; exact HI.out.1.wf) H2.out.kids).mono ?_
    rintro e w3 ⟨rfl, h3, t3⟩
    have H3 : Hid (De w B B (putOut S D k.kids k.s).2.2.1 (putOut S D k.kids k.s).2.2.2 rb w3) := H2.out.turn (Blk.Next.refl _ _) h3 t3
    clear h3 t3
    clear H2 c0 c1 c2 c3 r0 r1 rf
    have c0 : w3.cell? ⟨rb, 0, none⟩ = some (.slice none 0 0) := cell_at H3.out.rd 0
    have c1 : w3.cell? ⟨rb, 1, none⟩ = some (.string ⟨#[]⟩) := cell_at H3.out.rd 1
    have cf : ∀ j, w3.frozen? ⟨rb, j, none⟩ = false := frozen_at H3.out.rd
    go_wp2_with fail
    rw [H3.out.same]
    refine bodyPost_ret (results_tmp_cell_tmp Tryz.results25 _ _ rb 58 #[.slice none 0 0, .string ⟨#[]⟩] (0, 0) _ rfl H3.out.rd Tryz.underlying58 rfl (by kernel_rfl)) rfl ?_
    rw [hout.out]
    exact H3.out.ends _ _
  · have hout : Hid (doesOut S D k = ⟨(putOut S D k.kids k.s).1, none, (putOut S D k.kids k.s).2.1, (putOut S D k.kids k.s).2.2.1, (putOut S D k.kids k.s).2.2.2⟩) := by unfold Hid; rw [doesOut, if_neg (by omega), if_neg (by omega), if_neg (by omega), if_neg (by omega), if_neg (by omega), if_neg (by omega)]
    rw [hr]
    go_wp2_with fail
    refine (storePut_any w2 B S D kv k.kids k.s H2.out.st (by rw [HI.out.2.2.1]; exact HI.out.1.wf) H2.out.kids).mono ?_
    rintro e w3 ⟨rfl, h3, t3⟩
    have H3 : Hid (De w B B (putOut S D k.kids k.s).2.2.1 (putOut S D k.kids k.s).2.2.2 rb w3) := H2.out.turn (Blk.Next.refl _ _) h3 t3
    clear h3 t3
    clear H2 c0 c1 c2 c3 r0 r1 rf
    have c0 : w3.cell? ⟨rb, 0, none⟩ = some (.slice none 0 0) := cell_at H3.out.rd 0
    have c1 : w3.cell? ⟨rb, 1, none⟩ = some (.string ⟨#[]⟩) := cell_at H3.out.rd 1
    have cf : ∀ j, w3.frozen? ⟨rb, j, none⟩ = false := frozen_at H3.out.rd
    go_wp2_with fail
    rw [H3.out.same]
    refine bodyPost_ret (results_tmp_cell_tmp Tryz.results25 _ _ rb 58 #[.slice none 0 0, .string ⟨#[]⟩] (0, 0) _ rfl H3.out.rd Tryz.underlying58 rfl (by kernel_rfl)) rfl ?_
    rw [hout.out]
    exact H3.out.ends _ _
  · have hout : Hid (doesOut S D k = ⟨(putOut S D k.kids k.s).1, none, (putOut S D k.kids k.s).2.1, (putOut S D k.kids k.s).2.2.1, (putOut S D k.kids k.s).2.2.2⟩) := by unfold Hid; rw [doesOut, if_neg (by omega), if_neg (by omega), if_neg (by omega), if_neg (by omega), if_neg (by omega), if_neg (by omega)]
    rw [hr]
    go_wp2_with fail
    refine (storePut_any w2 B S D kv k.kids k.s H2.out.st (by rw [HI.out.2.2.1]; exact HI.out.1.wf) H2.out.kids).mono ?_
    rintro e w3 ⟨rfl, h3, t3⟩
    have H3 : Hid (De w B B (putOut S D k.kids k.s).2.2.1 (putOut S D k.kids k.s).2.2.2 rb w3) := H2.out.turn (Blk.Next.refl _ _) h3 t3
    clear h3 t3
    clear H2 c0 c1 c2 c3 r0 r1 rf
    have c0 : w3.cell? ⟨rb, 0, none⟩ = some (.slice none 0 0) := cell_at H3.out.rd 0
    have c1 : w3.cell? ⟨rb, 1, none⟩ = some (.string ⟨#[]⟩) := cell_at H3.out.rd 1
    have cf : ∀ j, w3.frozen? ⟨rb, j, none⟩ = false := frozen_at H3.out.rd
    go_wp2_with fail
    rw [H3.out.same]
    refine bodyPost_ret (results_tmp_cell_tmp Tryz.results25 _ _ rb 58 #[.slice none 0 0, .string ⟨#[]⟩] (0, 0) _ rfl H3.out.rd Tryz.underlying58 rfl (by kernel_rfl)) rfl ?_
    rw [hout.out]
    exact H3.out.ends _ _
  · have hout : Hid (doesOut S D k = ⟨(putOut S D k.kids k.s).1, none, (putOut S D k.kids k.s).2.1, (putOut S D k.kids k.s).2.2.1, (putOut S D k.kids k.s).2.2.2⟩) := by unfold Hid; rw [doesOut, if_neg (by omega), if_neg (by omega), if_neg (by omega), if_neg (by omega), if_neg (by omega), if_neg (by omega)]
    rw [hr]
    go_wp2_with fail
    refine (storePut_any w2 B S D kv k.kids k.s H2.out.st (by rw [HI.out.2.2.1]; exact HI.out.1.wf) H2.out.kids).mono ?_
    rintro e w3 ⟨rfl, h3, t3⟩
    have H3 : Hid (De w B B (putOut S D k.kids k.s).2.2.1 (putOut S D k.kids k.s).2.2.2 rb w3) := H2.out.turn (Blk.Next.refl _ _) h3 t3
    clear h3 t3
    clear H2 c0 c1 c2 c3 r0 r1 rf
    have c0 : w3.cell? ⟨rb, 0, none⟩ = some (.slice none 0 0) := cell_at H3.out.rd 0
    have c1 : w3.cell? ⟨rb, 1, none⟩ = some (.string ⟨#[]⟩) := cell_at H3.out.rd 1
    have cf : ∀ j, w3.frozen? ⟨rb, j, none⟩ = false := frozen_at H3.out.rd
    go_wp2_with fail
    rw [H3.out.same]
    refine bodyPost_ret (results_tmp_cell_tmp Tryz.results25 _ _ rb 58 #[.slice none 0 0, .string ⟨#[]⟩] (0, 0) _ rfl H3.out.rd Tryz.underlying58 rfl (by kernel_rfl)) rfl ?_
    rw [hout.out]
    exact H3.out.ends _ _
  · have hout : Hid (doesOut S D k = ⟨(putOut S D k.kids k.s).1, none, (putOut S D k.kids k.s).2.1, (putOut S D k.kids k.s).2.2.1, (putOut S D k.kids k.s).2.2.2⟩) := by unfold Hid; rw [doesOut, if_neg (by omega), if_neg (by omega), if_neg (by omega), if_neg (by omega), if_neg (by omega), if_neg (by omega)]
    rw [hr]
    go_wp2_with fail
    refine (storePut_any w2 B S D kv k.kids k.s H2.out.st (by rw [HI.out.2.2.1]; exact HI.out.1.wf) H2.out.kids).mono ?_
    rintro e w3 ⟨rfl, h3, t3⟩
    have H3 : Hid (De w B B (putOut S D k.kids k.s).2.2.1 (putOut S D k.kids k.s).2.2.2 rb w3) := H2.out.turn (Blk.Next.refl _ _) h3 t3
    clear h3 t3
    clear H2 c0 c1 c2 c3 r0 r1 rf
    have c0 : w3.cell? ⟨rb, 0, none⟩ = some (.slice none 0 0) := cell_at H3.out.rd 0
    have c1 : w3.cell? ⟨rb, 1, none⟩ = some (.string ⟨#[]⟩) := cell_at H3.out.rd 1
    have cf : ∀ j, w3.frozen? ⟨rb, j, none⟩ = false := frozen_at H3.out.rd
    go_wp2_with fail
    rw [H3.out.same]
    refine bodyPost_ret (results_tmp_cell_tmp Tryz.results25 _ _ rb 58 #[.slice none 0 0, .string ⟨#[]⟩] (0, 0) _ rfl H3.out.rd Tryz.underlying58 rfl (by kernel_rfl)) rfl ?_
    rw [hout.out]
    exact H3.out.ends _ _
end Go.Proofs.YtanpkghdgdkdlaaGreat.Sto
