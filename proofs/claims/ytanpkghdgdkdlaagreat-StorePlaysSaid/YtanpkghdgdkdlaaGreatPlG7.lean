/- RefAlso RefFormat RefDuo: several texts of one proof, laid as one file (a claim has at most 60 files). No condition. -/
import Derived.Test.YtanpkghdgdkdlaaGreatPlG6
import Derived.Test.YtanpkghdgdkdlaaGreatPlG5
import Derived.Test.YtanpkghdgdkdlaaGreatStoDoes
import Derived.Test.YtanpkghdgdkdlaaGreatPlG3
import Derived.Test.YtanpkghdgdkdlaaGreatPlG1
import Derived.Test.YtanpkghdgdkdlaaGreatStoGood
import Derived.Deep.RegionHeld3
import Derived.Test.YtanpkghdgdkdlaaGreatStoLoop
/- Layer 6: also: the document's store does it. And the program's does, where it only gets. (Printed by wip/tools/genalso.py.) -/
namespace Go.Proofs.YtanpkghdgdkdlaaGreat.Sto
set_option linter.unusedVariables false
set_option linter.unusedSimpArgs false
set_option maxRecDepth 100000
open Go.RowKit Go.Lib Go.Proofs.YtanpkghdgdkdlaaGreat.Mem Go.Proofs.YtanpkghdgdkdlaaGreat.Oct Go.Proofs.YtanpkghdgdkdlaaGreat.Dev

def AlsoPost (w : World) (B : RBlk) (r : DoesR) (e : Ending) (w' : World) : Prop := ∃ (p : Nat) (a : Option Addr) (m c : Nat) (d : ByteArray), (p = B.p ∨ w.heap.size ≤ p) ∧ e = .returned (.tuple #[.int .i64 r.num, .agg #[.slice a m c, .string d], .int .i64 r.err]) ∧ BlockIs w.heap.size w' (.slice a m c) d r.blk ∧ RSt w' { B with p := p } r.st r.dv ∧ Chg B.all w w'
/-- what lies there ahead of a callee -/
structure Rw (w : World) (B : RBlk) (S : StS) (D : DevS) (k : DoT) (kv : Value) (kb rb : Nat) (w' : World) : Prop where
  st : RSt w' B S D
  below : Below w.heap.size w w'
  kd : w'.heap[kb]? = some (.cells #[.int .i64 k.op, .int .i64 k.i, kv, .string k.s] 51 (0, 0))
  rd : w'.heap[rb]? = some (.cells #[.slice none 0 0, .string ⟨#[]⟩] 58 (0, 0))
  kids : Ints (· ∉ B.all) w' kv k.kids
  ek : kb = w.heap.size
  er : rb = w.heap.size + 1
  lt : ∀ q ∈ B.all, q < w.heap.size
theorem Rw.on {w w' w'' : World} {B : RBlk} {S : StS} {D : DevS} {k : DoT} {kv : Value} {kb rb : Nat} (h : Rw w B S D k kv kb rb w') (hb : Below w'.heap.size w' w'') : Rw w B S D k kv kb rb w'' :=
  ⟨h.st.on hb, h.below.trans (hb.mono h.below.size), (hb.block _ (heap_lt h.kd)).trans h.kd, (hb.block _ (heap_lt h.rd)).trans h.rd, Ints.on h.kids hb, h.ek, h.er, h.lt⟩
theorem Rw.cells {w w' : World} {B : RBlk} {S : StS} {D : DevS} {k : DoT} {kv : Value} {kb rb : Nat} (h : Rw w B S D k kv kb rb w') : w'.cell? ⟨kb, 0, none⟩ = some (.int .i64 k.op) ∧ w'.cell? ⟨kb, 1, none⟩ = some (.int .i64 k.i) ∧ w'.cell? ⟨kb, 2, none⟩ = some kv ∧ w'.cell? ⟨kb, 3, none⟩ = some (.string k.s) :=
  ⟨cell_at h.kd 0, cell_at h.kd 1, cell_at h.kd 2, cell_at h.kd 3⟩
/-- behind a callee that may have turned the store -/
structure Re (w : World) (B : RBlk) (p : Nat) (S : StS) (D : DevS) (rb : Nat) (w' : World) : Prop where
  pn : p = B.p ∨ w.heap.size ≤ p
  st : RSt w' { B with p := p } S D
  chg : Chg B.all w w'
  rd : w'.heap[rb]? = some (.cells #[.slice none 0 0, .string ⟨#[]⟩] 58 (0, 0))
theorem Rw.turn {w w' w'' : World} {B : RBlk} {S S' : StS} {D D' : DevS} {k : DoT} {kv : Value} {kb rb p : Nat} (h : Rw w B S D k kv kb rb w') (hp : p = B.p ∨ w'.heap.size ≤ p) (hs : RSt w'' { B with p := p } S' D') (hc : Chg B.all w' w'') : Re w B p S' D' rb w'' :=
  ⟨hp.imp id (fun q => Nat.le_trans h.below.size q), hs, (Chg.of_below h.below).trans hc, (hc.block _ (heap_lt h.rd) (fun hm => by have := h.lt _ hm; have := h.er; omega)).trans h.rd⟩
theorem Re.same {w w' : World} {B : RBlk} {p : Nat} {S : StS} {D : DevS} {rb : Nat} (h : Re w B p S D rb w') : (w'.setCell ⟨rb, 0, none⟩ (.slice none 0 0)).setCell ⟨rb, 1, none⟩ (.string ⟨#[]⟩) = w' := by
  rw [setCell_id h.rd rfl, setCell_id h.rd rfl]
theorem Re.ends {w w' : World} {B : RBlk} {p : Nat} {S : StS} {D : DevS} {rb : Nat} (h : Re w B p S D rb w') (num err : Int) : AlsoPost w B ⟨num, none, err, S, D⟩ (.returned (.tuple #[.int .i64 num, .agg #[.slice none 0 0, .string ⟨#[]⟩], .int .i64 err])) w' :=
  ⟨p, none, 0, 0, ⟨#[]⟩, h.pn, rfl, ⟨rfl, rfl⟩, h.st, h.chg⟩
theorem RBlk.c_all (B : RBlk) : ∀ t ∈ [B.c], t ∈ B.all := by intro t ht; simp at ht; subst ht; exact B.mem_c
set_option maxHeartbeats 4000000 in
theorem also_any (w : World) (B : RBlk) (S : StS) (D : DevS) (n m : Nat) (k : DoT) (kv : Value) (h : RSt w B S D) (hi : Inv n m S) (hE : ExactH S) (hD : D.n = n) (hm : m < 1099511627776) (hn : n ≤ 4096) (hk : k.fits) (hv : Ints (· ∉ B.all) w kv k.kids) (h12 : k.opn < 12) :
    Calls Tryz.prog 26 #[.pointer (some ⟨B.s, 0, none⟩), k.val kv] w (AlsoPost w B (doesOut S D k)) := by
  have hDn : D.n.toNat = n := by omega
  have hf9 : k.i ≤ 9223372036854775807 := by
    have := hk.2.1
    simp only [Lit.wf, IntKind.min, IntKind.max, IntKind.signed, IntKind.bits, Bool.and_eq_true] at this
    simp at this
    omega
  have HI : Hid (Inv n m S ∧ D.n = n ∧ D.n.toNat = n ∧ m < 1099511627776 ∧ n ≤ 4096 ∧ k.i ≤ 9223372036854775807 ∧ ExactH S) := ⟨hi, hD, hDn, hm, hn, hf9, hE⟩
  have H0 : Hid (RSt w B S D) := h
  have hw1 : Rw w B S D k kv w.heap.size (w.heap.size + 1) ((w.alloc (.cells #[.int .i64 k.op, .int .i64 k.i, kv, .string k.s] 51)).alloc (.cells #[.slice none 0 0, .string ⟨#[]⟩] 58)) := by
    have hb1 : Below w.heap.size w (w.alloc (.cells #[.int .i64 k.op, .int .i64 k.i, kv, .string k.s] 51)) := (Below.refl _ _).alloc (Nat.le_refl _) _
    have hb2 : Below w.heap.size w ((w.alloc (.cells #[.int .i64 k.op, .int .i64 k.i, kv, .string k.s] 51)).alloc (.cells #[.slice none 0 0, .string ⟨#[]⟩] 58)) := hb1.alloc hb1.size _
    refine ⟨h.on hb2, hb2, ?_, ?_, Ints.on hv hb2, rfl, rfl, h.lt⟩
    · rw [heap_alloc_other _ (by simp)]; exact heap_alloc_last _ _
    · have := heap_alloc_last (w.alloc (.cells #[.int .i64 k.op, .int .i64 k.i, kv, .string k.s] 51)) (.cells #[.slice none 0 0, .string ⟨#[]⟩] 58)
      simpa using this
  have H1 : Hid (Rw w B S D k kv w.heap.size (w.heap.size + 1) ((w.alloc (.cells #[.int .i64 k.op, .int .i64 k.i, kv, .string k.s] 51)).alloc (.cells #[.slice none 0 0, .string ⟨#[]⟩] 58))) := hw1
  have hr : k.opn = 5 ∨ k.opn = 6 ∨ k.opn = 7 ∨ k.opn = 8 ∨ k.opn = 9 ∨ k.opn = 10 ∨ k.opn = 11 ∨ k.opn = 0 ∨ k.opn = 1 ∨ k.opn = 2 ∨ k.opn = 3 ∨ k.opn = 4 := by
    have := opn_range k
    omega
  have hval : k.val kv = .agg #[.int .i64 k.op, .int .i64 k.i, kv, .string k.s] := rfl
  rw [hval]
  clear h hi hD hDn hm hn hk hv h12 hw1 hf9 hE
  go_enter Tryz.func26, Tryz.ntmps26
  go_wp2_with fail
  obtain ⟨kb, hkb⟩ : ∃ kb, kb = w.heap.size := ⟨_, rfl⟩
  obtain ⟨rb, hrb⟩ : ∃ rb, rb = w.heap.size + 1 := ⟨_, rfl⟩
  have H1' : Hid (Rw w B S D k kv kb rb ((w.alloc (.cells #[.int .i64 k.op, .int .i64 k.i, kv, .string k.s] 51)).alloc (.cells #[.slice none 0 0, .string ⟨#[]⟩] 58))) := by rw [hkb, hrb]; exact H1
  rw [← hrb, ← hkb]
  clear H1 hkb hrb
  generalize (w.alloc (.cells #[.int .i64 k.op, .int .i64 k.i, kv, .string k.s] 51)).alloc (.cells #[.slice none 0 0, .string ⟨#[]⟩] 58) = w1 at H1' ⊢
  obtain ⟨c0, c1, c2, c3⟩ := H1'.out.cells
  refine (op_fn k kv w1).mono ?_
  rintro e w2 ⟨rfl, hb2⟩
  have H2 : Hid (Rw w B S D k kv kb rb w2) := H1'.out.on hb2
  clear hb2 c0 c1 c2 c3 H1'
  obtain ⟨c0, c1, c2, c3⟩ := H2.out.cells
  have r0 : w2.cell? ⟨rb, 0, none⟩ = some (.slice none 0 0) := cell_at H2.out.rd 0
  have r1 : w2.cell? ⟨rb, 1, none⟩ = some (.string ⟨#[]⟩) := cell_at H2.out.rd 1
  have rf : ∀ j, w2.frozen? ⟨rb, j, none⟩ = false := frozen_at H2.out.rd
  rcases hr with hr | hr | hr | hr | hr | hr | hr | hr | hr | hr | hr | hr
  · have hout : Hid (doesOut S D k = ⟨0, none, S.holdE k.i, S.holds k.i, D⟩) := by unfold Hid; rw [doesOut, if_pos (by omega)]
    rw [hr]
    go_wp2_with fail
    refine (rhold_any w2 B S D k.i H2.out.st (held_small HI.out.1 HI.out.2.2.2.1 k.i)).mono ?_
    rintro e w3 ⟨rfl, h3, t3⟩
    have H3 : Hid (Re w B B.p (S.holds k.i) D rb w3) := H2.out.turn (.inl rfl) h3 (t3.mono B.c_all)
    clear H2 c0 c1 c2 c3 r0 r1 rf
    have c0 : w3.cell? ⟨rb, 0, none⟩ = some (.slice none 0 0) := cell_at H3.out.rd 0
    have c1 : w3.cell? ⟨rb, 1, none⟩ = some (.string ⟨#[]⟩) := cell_at H3.out.rd 1
    have cf : ∀ j, w3.frozen? ⟨rb, j, none⟩ = false := frozen_at H3.out.rd
    go_wp2_with fail
    rw [H3.out.same]
    refine bodyPost_ret (results_tmp_cell_tmp Tryz.results26 _ _ rb 58 #[.slice none 0 0, .string ⟨#[]⟩] (0, 0) _ rfl H3.out.rd Tryz.underlying58 rfl (by kernel_rfl)) rfl ?_
    rw [hout.out]
    exact H3.out.ends _ _
  · have hout : Hid (doesOut S D k = ⟨0, none, S.holdE k.i, S.holds k.i, D⟩) := by unfold Hid; rw [doesOut, if_pos (by omega)]
    rw [hr]
    go_wp2_with fail
    refine (rhold_any w2 B S D k.i H2.out.st (held_small HI.out.1 HI.out.2.2.2.1 k.i)).mono ?_
    rintro e w3 ⟨rfl, h3, t3⟩
    have H3 : Hid (Re w B B.p (S.holds k.i) D rb w3) := H2.out.turn (.inl rfl) h3 (t3.mono B.c_all)
    clear H2 c0 c1 c2 c3 r0 r1 rf
    have c0 : w3.cell? ⟨rb, 0, none⟩ = some (.slice none 0 0) := cell_at H3.out.rd 0
    have c1 : w3.cell? ⟨rb, 1, none⟩ = some (.string ⟨#[]⟩) := cell_at H3.out.rd 1
    have cf : ∀ j, w3.frozen? ⟨rb, j, none⟩ = false := frozen_at H3.out.rd
    go_wp2_with fail
    rw [H3.out.same]
    refine bodyPost_ret (results_tmp_cell_tmp Tryz.results26 _ _ rb 58 #[.slice none 0 0, .string ⟨#[]⟩] (0, 0) _ rfl H3.out.rd Tryz.underlying58 rfl (by kernel_rfl)) rfl ?_
    rw [hout.out]
    exact H3.out.ends _ _
  · have hout : Hid (doesOut S D k = ⟨0, none, S.dropE k.i, S.drop n k.i, D⟩) := by unfold Hid; rw [doesOut, if_neg (by omega), if_pos hr, HI.out.2.2.1]
    rw [hr]
    go_wp2_with fail
    refine (rdrop_any w2 B S D k.i n H2.out.st HI.out.1.wf HI.out.2.2.1).mono ?_
    rintro e w3 ⟨rfl, h3, t3⟩
    have H3 : Hid (Re w B B.p (S.drop n k.i) D rb w3) := H2.out.turn (.inl rfl) h3 (t3.mono B.c_all)
    clear H2 c0 c1 c2 c3 r0 r1 rf
    have c0 : w3.cell? ⟨rb, 0, none⟩ = some (.slice none 0 0) := cell_at H3.out.rd 0
    have c1 : w3.cell? ⟨rb, 1, none⟩ = some (.string ⟨#[]⟩) := cell_at H3.out.rd 1
    have cf : ∀ j, w3.frozen? ⟨rb, j, none⟩ = false := frozen_at H3.out.rd
    go_wp2_with fail
    rw [H3.out.same]
    refine bodyPost_ret (results_tmp_cell_tmp Tryz.results26 _ _ rb 58 #[.slice none 0 0, .string ⟨#[]⟩] (0, 0) _ rfl H3.out.rd Tryz.underlying58 rfl (by kernel_rfl)) rfl ?_
    rw [hout.out]
    exact H3.out.ends _ _
  · have hout : Hid (doesOut S D k = ⟨(Sto.num S.cells n : Int) - Sto.num (S.sweep n).cells n, none, 0, S.sweep n, D⟩) := by unfold Hid; rw [doesOut, if_neg (by omega), if_neg (by omega), if_pos hr, HI.out.2.2.1]
    rw [hr]
    go_wp2_with fail
    refine (rsweep_any w2 B S D n H2.out.st HI.out.1.wf HI.out.2.2.1).mono ?_
    rintro e w3 ⟨rfl, h3, t3⟩
    have H3 : Hid (Re w B B.p (S.sweep n) D rb w3) := H2.out.turn (.inl rfl) h3 (t3.mono B.c_all)
    clear H2 c0 c1 c2 c3 r0 r1 rf
    have c0 : w3.cell? ⟨rb, 0, none⟩ = some (.slice none 0 0) := cell_at H3.out.rd 0
    have c1 : w3.cell? ⟨rb, 1, none⟩ = some (.string ⟨#[]⟩) := cell_at H3.out.rd 1
    have cf : ∀ j, w3.frozen? ⟨rb, j, none⟩ = false := frozen_at H3.out.rd
    go_wp2_with fail
    rw [H3.out.same]
    refine bodyPost_ret (results_tmp_cell_tmp Tryz.results26 _ _ rb 58 #[.slice none 0 0, .string ⟨#[]⟩] (0, 0) _ rfl H3.out.rd Tryz.underlying58 rfl (by kernel_rfl)) rfl ?_
    rw [hout.out]
    exact H3.out.ends _ _
  · have hout : Hid (doesOut S D k = ⟨0, none, (commitOut S D k.i k.s).1, (commitOut S D k.i k.s).2.1, (commitOut S D k.i k.s).2.2⟩) := by unfold Hid; rw [doesOut, if_neg (by omega), if_neg (by omega), if_neg (by omega), if_pos hr]
    rw [hr]
    go_wp2_with fail
    refine (rcommit_any w2 B S D k.i k.s n H2.out.st HI.out.2.2.1 HI.out.1.wf HI.out.1.gen).mono ?_
    rintro e w3 ⟨p, hp, rfl, h3, t3⟩
    have H3 : Hid (Re w B p (commitOut S D k.i k.s).2.1 (commitOut S D k.i k.s).2.2 rb w3) := H2.out.turn hp h3 t3
    clear H2 c0 c1 c2 c3 r0 r1 rf
    have c0 : w3.cell? ⟨rb, 0, none⟩ = some (.slice none 0 0) := cell_at H3.out.rd 0
    have c1 : w3.cell? ⟨rb, 1, none⟩ = some (.string ⟨#[]⟩) := cell_at H3.out.rd 1
    have cf : ∀ j, w3.frozen? ⟨rb, j, none⟩ = false := frozen_at H3.out.rd
    go_wp2_with fail
    rw [H3.out.same]
    refine bodyPost_ret (results_tmp_cell_tmp Tryz.results26 _ _ rb 58 #[.slice none 0 0, .string ⟨#[]⟩] (0, 0) _ rfl H3.out.rd Tryz.underlying58 rfl (by kernel_rfl)) rfl ?_
    rw [hout.out]
    exact H3.out.ends _ _
  · have hout : Hid (doesOut S D k = ⟨0, (S.getR D k.i).2, (S.getR D k.i).1, S, D⟩) := by unfold Hid; rw [doesOut, if_neg (by omega), if_neg (by omega), if_neg (by omega), if_neg (by omega), if_pos hr]
    rw [hr]
    go_wp2_with fail
    refine (rget_any w2 B S D k.i H2.out.st).mono ?_
    rintro e w3 ⟨a, m', c, d, rfl, his, hb3⟩
    have H3 : Hid (Rw w B S D k kv kb rb w3 ∧ BlockIs w2.heap.size w3 (.slice a m' c) d (S.getR D k.i).2) := ⟨H2.out.on hb3, his⟩
    have HZ : Hid (w.heap.size ≤ w2.heap.size ∧ rb < w2.heap.size) := ⟨H2.out.below.size, heap_lt H2.out.rd⟩
    clear H2 c0 c1 c2 c3 r0 r1 rf his hb3
    have c0 : w3.cell? ⟨rb, 0, none⟩ = some (.slice none 0 0) := cell_at H3.out.1.rd 0
    have c1 : w3.cell? ⟨rb, 1, none⟩ = some (.string ⟨#[]⟩) := cell_at H3.out.1.rd 1
    have cf : ∀ j, w3.frozen? ⟨rb, j, none⟩ = false := frozen_at H3.out.1.rd
    go_wp2_with fail
    have hnb : (w3.alloc (.cells #[.slice a m' c, .string d] 58)).heap[w3.heap.size]? = some (.cells #[.slice a m' c, .string d] 58 (0, 0)) := heap_alloc_last _ _
    have H4 : Hid (Rw w B S D k kv kb rb (w3.alloc (.cells #[.slice a m' c, .string d] 58)) ∧ BlockIs w2.heap.size (w3.alloc (.cells #[.slice a m' c, .string d] 58)) (.slice a m' c) d (S.getR D k.i).2) := ⟨H3.out.1.on ((Below.refl _ _).alloc (Nat.le_refl _) _), H3.out.2.chg (T := []) (Chg.of_below ((Below.refl _ _).alloc (Nat.le_refl _) _)) (by simp)⟩
    have hne : rb ≠ w3.heap.size := Nat.ne_of_lt (heap_lt H3.out.1.rd)
    generalize w3.alloc (.cells #[.slice a m' c, .string d] 58) = w4 at hnb H4 ⊢
    generalize w3.heap.size = nb at hnb hne ⊢
    clear H3 c0 c1 cf
    have c0 : w4.cell? ⟨rb, 0, none⟩ = some (.slice none 0 0) := cell_at H4.out.1.rd 0
    have c1 : w4.cell? ⟨rb, 1, none⟩ = some (.string ⟨#[]⟩) := cell_at H4.out.1.rd 1
    have cf : ∀ j, w4.frozen? ⟨rb, j, none⟩ = false := frozen_at H4.out.1.rd
    have d0 : w4.cell? ⟨nb, 0, none⟩ = some (.slice a m' c) := cell_at hnb 0
    have d1 : w4.cell? ⟨nb, 1, none⟩ = some (.string d) := cell_at hnb 1
    clear hnb
    go_region
    go_wp2_with fail
    have hs := heap_set_at (heap_set_at H4.out.1.rd 0 (.slice a m' c)) 1 (.string d)
    have hcg : Chg [rb] w4 ((w4.setCell ⟨rb, 0, none⟩ (.slice a m' c)).setCell ⟨rb, 1, none⟩ (.string d)) := ((Chg.refl [rb] w4).setCell ⟨rb, 0, none⟩ (.slice a m' c) (.inl (by simp))).setCell ⟨rb, 1, none⟩ (.string d) (.inl (by simp))
    refine bodyPost_ret (results_tmp_cell_tmp Tryz.results26 _ _ rb 58 #[.slice a m' c, .string d] (0, 0) _ rfl hs Tryz.underlying58 rfl (by kernel_rfl)) rfl ?_
    rw [hout.out]
    have hbw : Below w.heap.size w ((w4.setCell ⟨rb, 0, none⟩ (.slice a m' c)).setCell ⟨rb, 1, none⟩ (.string d)).drew := H4.out.1.below.trans (hcg.drew.below H4.out.1.below.size (fun q hq => by have := H4.out.1.er; simp at hq; omega))
    refine ⟨B.p, a, m', c, d, .inl rfl, rfl, ?_, H0.out.on hbw, Chg.of_below hbw⟩
    exact (H4.out.2.chg hcg.drew (fun t ht => by have := HZ.out.2; simp at ht; omega)).mono HZ.out.1
  · have hout : Hid (doesOut S D k = ⟨0, none, D.fuseE, S, D.fuse k.i⟩) := by unfold Hid; rw [doesOut, if_neg (by omega), if_neg (by omega), if_neg (by omega), if_neg (by omega), if_neg (by omega), if_pos hr]
    rw [hr]
    go_wp2_with fail
    obtain ⟨_, _, _, s3, _, _, _⟩ := H2.out.st.cell
    have s3d : w2.drew.cell? ⟨B.s, 3, none⟩ = some (.pointer (some ⟨B.x, 0, none⟩)) := s3
    have k1d : w2.drew.cell? ⟨kb, 1, none⟩ = some (.int .i64 k.i) := c1
    have r0d : w2.drew.cell? ⟨rb, 0, none⟩ = some (.slice none 0 0) := r0
    have r1d : w2.drew.cell? ⟨rb, 1, none⟩ = some (.string ⟨#[]⟩) := r1
    have rfd : ∀ j, w2.drew.frozen? ⟨rb, j, none⟩ = false := rf
    have HKB : Hid (kb ∉ B.all) := fun hm => by have := H2.out.lt _ hm; have := H2.out.ek; omega
    have H2d : Hid (Rw w B S D k kv kb rb w2.drew) := H2.out.on ((Below.refl _ _).drew)
    go_region_held3 (fun w' => w'.cell? ⟨B.s, 3, none⟩ = some (.pointer (some ⟨B.x, 0, none⟩)) ∧ w'.cell? ⟨kb, 1, none⟩ = some (.int .i64 k.i))
      (first | exact ⟨s3d, k1d⟩ | exact HK3.out | exact HK4.out)
      (first
        | (go_at_call 70; refine (rfuse_any _ B.x B.xk B.xd B.xi D k.i H2d.out.st.dev HI.out.2.2.2.2.2.1).mono ?_; rintro e w3 ⟨rfl, h3, t3⟩; have H3 : Hid (Re w B B.p S (D.fuse k.i) rb w3) := H2d.out.turn (.inl rfl) (H2d.out.st.dev' t3 h3 (fuse_small H2d.out.st.small _) (fuse_n _ _)) (t3.mono B.dev_mem); have HKD : Hid (w3.heap[kb]? = some (.cells #[.int .i64 k.op, .int .i64 k.i, kv, .string k.s] 51 (0, 0))) := (t3.block _ (heap_lt H2d.out.kd) (fun hm => HKB.out (B.dev_mem _ hm))).trans H2d.out.kd; have HK3 : Hid (w3.cell? ⟨B.s, 3, none⟩ = some (.pointer (some ⟨B.x, 0, none⟩)) ∧ w3.cell? ⟨kb, 1, none⟩ = some (.int .i64 k.i)) := ⟨H3.out.st.cell.2.2.2.1, cell_at HKD.out 1⟩; have hsm : (w3.setCell ⟨rb, 0, none⟩ (.slice none 0 0)).setCell ⟨rb, 1, none⟩ (.string ⟨#[]⟩) = w3 := H3.out.same; have HK4 : Hid (((w3.setCell ⟨rb, 0, none⟩ (.slice none 0 0)).setCell ⟨rb, 1, none⟩ (.string ⟨#[]⟩)).cell? ⟨B.s, 3, none⟩ = some (.pointer (some ⟨B.x, 0, none⟩)) ∧ ((w3.setCell ⟨rb, 0, none⟩ (.slice none 0 0)).setCell ⟨rb, 1, none⟩ (.string ⟨#[]⟩)).cell? ⟨kb, 1, none⟩ = some (.int .i64 k.i)) := by { rw [hsm]; exact HK3.out }; have e0 : w3.cell? ⟨rb, 0, none⟩ = some (.slice none 0 0) := cell_at H3.out.rd 0; have e1 : w3.cell? ⟨rb, 1, none⟩ = some (.string ⟨#[]⟩) := cell_at H3.out.rd 1; have ef : ∀ j, w3.frozen? ⟨rb, j, none⟩ = false := frozen_at H3.out.rd; clear h3 t3 hsm)
        | fail)
    clear H2 H2d c0 c1 c2 c3 r0 r1 rf s3 s3d k1d r0d r1d rfd
    go_wp2_with fail
    rw [H3.out.same]
    refine bodyPost_ret (results_tmp_cell_tmp Tryz.results26 _ _ rb 58 #[.slice none 0 0, .string ⟨#[]⟩] (0, 0) _ rfl H3.out.rd Tryz.underlying58 rfl (by kernel_rfl)) rfl ?_
    rw [hout.out]
    exact H3.out.ends _ _
  · have hout : Hid (doesOut S D k = ⟨(putOut S D k.kids k.s).1, none, (putOut S D k.kids k.s).2.1, (putOut S D k.kids k.s).2.2.1, (putOut S D k.kids k.s).2.2.2⟩) := by unfold Hid; rw [doesOut, if_neg (by omega), if_neg (by omega), if_neg (by omega), if_neg (by omega), if_neg (by omega), if_neg (by omega)]
    rw [hr]
    go_wp2_with fail
    refine (rput_st w2 B S D kv k.kids k.s n H2.out.st HI.out.2.2.1 HI.out.1.wf HI.out.2.2.2.2.2.2 H2.out.kids).mono ?_
    rintro e w3 ⟨rfl, h3, t3⟩
    have H3 : Hid (Re w B B.p (putOut S D k.kids k.s).2.2.1 (putOut S D k.kids k.s).2.2.2 rb w3) := H2.out.turn (.inl rfl) h3 t3
    clear H2 c0 c1 c2 c3 r0 r1 rf
    have c0 : w3.cell? ⟨rb, 0, none⟩ = some (.slice none 0 0) := cell_at H3.out.rd 0
    have c1 : w3.cell? ⟨rb, 1, none⟩ = some (.string ⟨#[]⟩) := cell_at H3.out.rd 1
    have cf : ∀ j, w3.frozen? ⟨rb, j, none⟩ = false := frozen_at H3.out.rd
    go_wp2_with fail
    rw [H3.out.same]
    refine bodyPost_ret (results_tmp_cell_tmp Tryz.results26 _ _ rb 58 #[.slice none 0 0, .string ⟨#[]⟩] (0, 0) _ rfl H3.out.rd Tryz.underlying58 rfl (by kernel_rfl)) rfl ?_
    rw [hout.out]
    exact H3.out.ends _ _
  · have hout : Hid (doesOut S D k = ⟨(putOut S D k.kids k.s).1, none, (putOut S D k.kids k.s).2.1, (putOut S D k.kids k.s).2.2.1, (putOut S D k.kids k.s).2.2.2⟩) := by unfold Hid; rw [doesOut, if_neg (by omega), if_neg (by omega), if_neg (by omega), if_neg (by omega), if_neg (by omega), if_neg (by omega)]
    rw [hr]
    go_wp2_with fail
    refine (rput_st w2 B S D kv k.kids k.s n H2.out.st HI.out.2.2.1 HI.out.1.wf HI.out.2.2.2.2.2.2 H2.out.kids).mono ?_
    rintro e w3 ⟨rfl, h3, t3⟩
    have H3 : Hid (Re w B B.p (putOut S D k.kids k.s).2.2.1 (putOut S D k.kids k.s).2.2.2 rb w3) := H2.out.turn (.inl rfl) h3 t3
    clear H2 c0 c1 c2 c3 r0 r1 rf
    have c0 : w3.cell? ⟨rb, 0, none⟩ = some (.slice none 0 0) := cell_at H3.out.rd 0
    have c1 : w3.cell? ⟨rb, 1, none⟩ = some (.string ⟨#[]⟩) := cell_at H3.out.rd 1
    have cf : ∀ j, w3.frozen? ⟨rb, j, none⟩ = false := frozen_at H3.out.rd
    go_wp2_with fail
    rw [H3.out.same]
    refine bodyPost_ret (results_tmp_cell_tmp Tryz.results26 _ _ rb 58 #[.slice none 0 0, .string ⟨#[]⟩] (0, 0) _ rfl H3.out.rd Tryz.underlying58 rfl (by kernel_rfl)) rfl ?_
    rw [hout.out]
    exact H3.out.ends _ _
  · have hout : Hid (doesOut S D k = ⟨(putOut S D k.kids k.s).1, none, (putOut S D k.kids k.s).2.1, (putOut S D k.kids k.s).2.2.1, (putOut S D k.kids k.s).2.2.2⟩) := by unfold Hid; rw [doesOut, if_neg (by omega), if_neg (by omega), if_neg (by omega), if_neg (by omega), if_neg (by omega), if_neg (by omega)]
    rw [hr]
    go_wp2_with fail
    refine (rput_st w2 B S D kv k.kids k.s n H2.out.st HI.out.2.2.1 HI.out.1.wf HI.out.2.2.2.2.2.2 H2.out.kids).mono ?_
    rintro e w3 ⟨rfl, h3, t3⟩
    have H3 : Hid (Re w B B.p (putOut S D k.kids k.s).2.2.1 (putOut S D k.kids k.s).2.2.2 rb w3) := H2.out.turn (.inl rfl) h3 t3
    clear H2 c0 c1 c2 c3 r0 r1 rf
    have c0 : w3.cell? ⟨rb, 0, none⟩ = some (.slice none 0 0) := cell_at H3.out.rd 0
    have c1 : w3.cell? ⟨rb, 1, none⟩ = some (.string ⟨#[]⟩) := cell_at H3.out.rd 1
    have cf : ∀ j, w3.frozen? ⟨rb, j, none⟩ = false := frozen_at H3.out.rd
    go_wp2_with fail
    rw [H3.out.same]
    refine bodyPost_ret (results_tmp_cell_tmp Tryz.results26 _ _ rb 58 #[.slice none 0 0, .string ⟨#[]⟩] (0, 0) _ rfl H3.out.rd Tryz.underlying58 rfl (by kernel_rfl)) rfl ?_
    rw [hout.out]
    exact H3.out.ends _ _
  · have hout : Hid (doesOut S D k = ⟨(putOut S D k.kids k.s).1, none, (putOut S D k.kids k.s).2.1, (putOut S D k.kids k.s).2.2.1, (putOut S D k.kids k.s).2.2.2⟩) := by unfold Hid; rw [doesOut, if_neg (by omega), if_neg (by omega), if_neg (by omega), if_neg (by omega), if_neg (by omega), if_neg (by omega)]
    rw [hr]
    go_wp2_with fail
    refine (rput_st w2 B S D kv k.kids k.s n H2.out.st HI.out.2.2.1 HI.out.1.wf HI.out.2.2.2.2.2.2 H2.out.kids).mono ?_
    rintro e w3 ⟨rfl, h3, t3⟩
    have H3 : Hid (Re w B B.p (putOut S D k.kids k.s).2.2.1 (putOut S D k.kids k.s).2.2.2 rb w3) := H2.out.turn (.inl rfl) h3 t3
    clear H2 c0 c1 c2 c3 r0 r1 rf
    have c0 : w3.cell? ⟨rb, 0, none⟩ = some (.slice none 0 0) := cell_at H3.out.rd 0
    have c1 : w3.cell? ⟨rb, 1, none⟩ = some (.string ⟨#[]⟩) := cell_at H3.out.rd 1
    have cf : ∀ j, w3.frozen? ⟨rb, j, none⟩ = false := frozen_at H3.out.rd
    go_wp2_with fail
    rw [H3.out.same]
    refine bodyPost_ret (results_tmp_cell_tmp Tryz.results26 _ _ rb 58 #[.slice none 0 0, .string ⟨#[]⟩] (0, 0) _ rfl H3.out.rd Tryz.underlying58 rfl (by kernel_rfl)) rfl ?_
    rw [hout.out]
    exact H3.out.ends _ _
  · have hout : Hid (doesOut S D k = ⟨(putOut S D k.kids k.s).1, none, (putOut S D k.kids k.s).2.1, (putOut S D k.kids k.s).2.2.1, (putOut S D k.kids k.s).2.2.2⟩) := by unfold Hid; rw [doesOut, if_neg (by omega), if_neg (by omega), if_neg (by omega), if_neg (by omega), if_neg (by omega), if_neg (by omega)]
    rw [hr]
    go_wp2_with fail
    refine (rput_st w2 B S D kv k.kids k.s n H2.out.st HI.out.2.2.1 HI.out.1.wf HI.out.2.2.2.2.2.2 H2.out.kids).mono ?_
    rintro e w3 ⟨rfl, h3, t3⟩
    have H3 : Hid (Re w B B.p (putOut S D k.kids k.s).2.2.1 (putOut S D k.kids k.s).2.2.2 rb w3) := H2.out.turn (.inl rfl) h3 t3
    clear H2 c0 c1 c2 c3 r0 r1 rf
    have c0 : w3.cell? ⟨rb, 0, none⟩ = some (.slice none 0 0) := cell_at H3.out.rd 0
    have c1 : w3.cell? ⟨rb, 1, none⟩ = some (.string ⟨#[]⟩) := cell_at H3.out.rd 1
    have cf : ∀ j, w3.frozen? ⟨rb, j, none⟩ = false := frozen_at H3.out.rd
    go_wp2_with fail
    rw [H3.out.same]
    refine bodyPost_ret (results_tmp_cell_tmp Tryz.results26 _ _ rb 58 #[.slice none 0 0, .string ⟨#[]⟩] (0, 0) _ rfl H3.out.rd Tryz.underlying58 rfl (by kernel_rfl)) rfl ?_
    rw [hout.out]
    exact H3.out.ends _ _
end Go.Proofs.YtanpkghdgdkdlaaGreat.Sto

/- Layer 6: the reference's Format, at a device that has power. -/
namespace Go.Proofs.YtanpkghdgdkdlaaGreat.Sto
set_option linter.unusedVariables false
set_option linter.unusedSimpArgs false
set_option maxRecDepth 100000
open Go.RowKit Go.Lib Go.Proofs.YtanpkghdgdkdlaaGreat.Mem Go.Proofs.YtanpkghdgdkdlaaGreat.Oct Go.Proofs.YtanpkghdgdkdlaaGreat.Dev

/-- what a device holds that was formatted -/
def made (D : DevS) (note : ByteArray) : DevS := (((wiped D 2).flush.write 1 (superB 1 0 D.n.toNat note))).flush
theorem rformat_long (w : World) (x : Nat) (note : ByteArray) (hnt : 3900 < note.size) :
    Calls Tryz.prog 18 #[.pointer (some ⟨x, 0, none⟩), .string note] w fun e w' => e = .returned (.tuple #[.pointer none, .int .i64 22]) ∧ w = w' := by
  go_enter Tryz.func18, Tryz.ntmps18
  go_wp2_with fail
  go_ret2
  exact ⟨rfl, rfl⟩
def RFormPost (w : World) (x xk xd xi : Nat) (D : DevS) (note : ByteArray) (e : Ending) (w' : World) : Prop := ∃ s c p, e = .returned (.tuple #[.pointer (some ⟨s, 0, none⟩), .int .i64 0]) ∧ RSt w' ⟨s, c, p, x, xk, xd, xi, []⟩ (StS.fresh note) (made D note) ∧ Chg [x, xk, xd, xi] w w' ∧ w.heap.size ≤ s ∧ w.heap.size ≤ c ∧ w.heap.size ≤ p
set_option maxHeartbeats 8000000 in
theorem rformat_any (w : World) (x xk xd xi n : Nat) (D : DevS) (note : ByteArray) (h : RefAt w x xk xd xi D) (hs : D.small) (hp : Pow D) (hD : D.n = n) (hn : 8 ≤ n ∧ n ≤ 4096) (hnt : note.size ≤ 3900) :
    Calls Tryz.prog 18 #[.pointer (some ⟨x, 0, none⟩), .string note] w (RFormPost w x xk xd xi D note) := by
  have p1 : Pow (wiped D 1) := hp.write 0 nob
  have p2 : Pow (wiped D 2) := p1.write 1 nob
  have hnob : nob.size ≤ 4096 := by decide
  have n1 : (wiped D 1).n = n := (wiped_n _ _).trans hD
  have n2 : (wiped D 2).n = n := (wiped_n _ _).trans hD
  have n3 : (wiped D 2).flush.n = n := by rw [flush_n, n2]
  have p3 := p2.flush
  have hsz : (superB 1 0 D.n.toNat note).size ≤ 4096 := super_size 1 0 hnt
  have e1 : D.writeE 0 nob = 0 := hp.writeE ⟨by omega, by omega⟩ hnob
  have e2 : (wiped D 1).writeE 1 nob = 0 := p1.writeE ⟨by omega, by omega⟩ hnob
  have e3 : (wiped D 2).flushE = 0 := p2.flushE
  have e4 : (wiped D 2).flush.writeE 1 (superB 1 0 D.n.toNat note) = 0 := p3.writeE ⟨by omega, by omega⟩ hsz
  have p4 : Pow ((wiped D 2).flush.write 1 (superB 1 0 D.n.toNat note)) := p3.write _ _
  have e5 : ((wiped D 2).flush.write 1 (superB 1 0 D.n.toNat note)).flushE = 0 := p4.flushE
  have hDn : D.n.toNat = n := by omega
  have hsup : superZ 1 0 n note = superB 1 0 D.n.toNat note := by
    rw [hDn]
    exact superZ_nat 1 0 n note (by omega) (by omega) (by omega)
  have H : Hid (RefAt w x xk xd xi D ∧ D.small) := ⟨h, hs⟩
  have HE : Hid (D.writeE 0 nob = 0 ∧ (wiped D 1).writeE 1 nob = 0 ∧ (wiped D 2).flushE = 0 ∧ (wiped D 2).flush.writeE 1 (superB 1 0 D.n.toNat note) = 0 ∧ ((wiped D 2).flush.write 1 (superB 1 0 D.n.toNat note)).flushE = 0 ∧ superZ 1 0 n note = superB 1 0 D.n.toNat note) := ⟨e1, e2, e3, e4, e5, hsup⟩
  have HN : Hid ((wiped D 1).n = n ∧ (wiped D 2).n = n ∧ (wiped D 2).flush.n = n ∧ (wiped D 2).flush.n.toNat = n) := ⟨n1, n2, n3, by omega⟩
  have hlt := h.lt
  have HLT : Hid (∀ q ∈ [x, xk, xd, xi], q < w.heap.size) := fun q hq => by
    simp only [List.mem_cons, List.mem_nil_iff, or_false] at hq
    rcases hq with rfl | rfl | rfl | rfl
    · exact hlt.1
    · exact hlt.2.1
    · exact hlt.2.2.1
    · exact hlt.2.2.2
  clear h hs hp hD p1 p2 p3 p4 n1 n2 n3 hsz e1 e2 e3 e4 e5 hsup hDn hnob hlt
  go_enter Tryz.func18, Tryz.ntmps18
  go_wp2_with fail
  obtain ⟨w1, hw1⟩ : ∃ w1, w1 = w.alloc (.cells #[.int .i64 1, .int .i64 0, .string note] 89) := ⟨_, rfl⟩
  have hb1 : Below w.heap.size w w1 := by rw [hw1]; exact (Below.refl _ _).alloc (Nat.le_refl _) _
  have hx1 : w1.heap[w.heap.size]? = some (.cells #[.int .i64 1, .int .i64 0, .string note] 89 (0, 0)) := by rw [hw1]; exact heap_alloc_last _ _
  obtain ⟨b6, hb6⟩ : ∃ b6, b6 = w.heap.size := ⟨_, rfl⟩
  rw [← hw1, ← hb6]
  rw [← hb6] at hx1
  have HB6 : Hid (b6 = w.heap.size) := hb6
  have HNM : Hid (b6 ∉ [x, xk, xd, xi]) := fun hm => by have := HLT.out _ hm; omega
  have H1 : Hid (RefAt w1 x xk xd xi D ∧ w1.heap[b6]? = some (.cells #[.int .i64 1, .int .i64 0, .string note] 89 (0, 0)) ∧ Chg [x, xk, xd, xi] w w1) := ⟨H.out.1.on hb1, hx1, Chg.of_below hb1⟩
  clear hw1 hb1 hx1 hb6
  refine (rwrite_any w1 x xk xd xi D 0 nob H1.out.1).mono ?_
  rintro e w2 ⟨rfl, h2, c2⟩
  rw [HE.out.1]
  have H2 : Hid (RefAt w2 x xk xd xi (wiped D 1) ∧ w2.heap[b6]? = some (.cells #[.int .i64 1, .int .i64 0, .string note] 89 (0, 0)) ∧ Chg [x, xk, xd, xi] w w2) := ⟨h2, (c2.block _ (heap_lt H1.out.2.1) HNM.out).trans H1.out.2.1, H1.out.2.2.trans c2⟩
  clear h2 c2 H1
  go_wp2_with fail
  refine (rwrite_any w2 x xk xd xi (wiped D 1) 1 nob H2.out.1).mono ?_
  rintro e w3 ⟨rfl, h2, c2⟩
  rw [HE.out.2.1]
  have H3 : Hid (RefAt w3 x xk xd xi (wiped D 2) ∧ w3.heap[b6]? = some (.cells #[.int .i64 1, .int .i64 0, .string note] 89 (0, 0)) ∧ Chg [x, xk, xd, xi] w w3) := ⟨h2, (c2.block _ (heap_lt H2.out.2.1) HNM.out).trans H2.out.2.1, H2.out.2.2.trans c2⟩
  clear h2 c2 H2
  go_wp2_with fail
  refine (rflush_any w3 x xk xd xi (wiped D 2) H3.out.1).mono ?_
  rintro e w4 ⟨rfl, h2, c2⟩
  rw [HE.out.2.2.1]
  have hw4 : RefAt w4.drew x xk xd xi (wiped D 2).flush := h2.on ((Below.refl _ _).drew)
  have H4 : Hid (RefAt w4.drew x xk xd xi (wiped D 2).flush ∧ w4.drew.heap[b6]? = some (.cells #[.int .i64 1, .int .i64 0, .string note] 89 (0, 0)) ∧ Chg [x, xk, xd, xi] w w4.drew) := ⟨hw4, (c2.block _ (heap_lt H3.out.2.1) HNM.out).trans H3.out.2.1, (H3.out.2.2.trans c2).drew⟩
  have y0 : w4.drew.cell? ⟨b6, 0, none⟩ = some (.int .i64 1) := cell_at H4.out.2.1 0
  have y1 : w4.drew.cell? ⟨b6, 1, none⟩ = some (.int .i64 0) := cell_at H4.out.2.1 1
  have y2 : w4.drew.cell? ⟨b6, 2, none⟩ = some (.string note) := cell_at H4.out.2.1 2
  have y3 := H4.out.1.cells.1
  rw [HN.out.2.2.2] at y3
  clear h2 c2 H3 hw4
  go_wp2_with fail
  go_region_held3 (fun w' => w'.cell? ⟨x, 0, none⟩ = some (.slice (some ⟨xk, 0, none⟩) n n) ∧ w'.cell? ⟨b6, 0, none⟩ = some (.int .i64 1) ∧ w'.cell? ⟨b6, 1, none⟩ = some (.int .i64 0) ∧ w'.cell? ⟨b6, 2, none⟩ = some (.string note))
    (first | exact ⟨y3, y0, y1, y2⟩ | exact H6f.out | exact ⟨cell_on H5.out y3, cell_on H5.out y0, cell_on H5.out y1, cell_on H5.out y2⟩)
    (first
      | (go_at_call 42; refine (rsbytes_any 1 0 n note _ (by omega)).mono ?_; rintro e w5 ⟨rfl, hb5⟩; have H5 : Hid (Below w4.drew.heap.size w4.drew w5) := hb5; clear hb5; rw [HE.out.2.2.2.2.2])
      | (go_at_call 12; refine (rwrite_any _ x xk xd xi (wiped D 2).flush 1 (superB 1 0 D.n.toNat note) (H4.out.1.on H5.out)).mono ?_; rintro e w6 ⟨rfl, h6, c6⟩; have H6 : Hid (RefAt w6 x xk xd xi ((wiped D 2).flush.write 1 (superB 1 0 D.n.toNat note)) ∧ w6.heap[b6]? = some (.cells #[.int .i64 1, .int .i64 0, .string note] 89 (0, 0)) ∧ Chg [x, xk, xd, xi] w w6) := ⟨h6, (c6.block _ (Nat.lt_of_lt_of_le (heap_lt H4.out.2.1) H5.out.size) HNM.out).trans ((H5.out.block _ (heap_lt H4.out.2.1)).trans H4.out.2.1), (H4.out.2.2.trans (Chg.of_below H5.out)).trans c6⟩; have H6f : Hid (w6.cell? ⟨x, 0, none⟩ = some (.slice (some ⟨xk, 0, none⟩) n n) ∧ w6.cell? ⟨b6, 0, none⟩ = some (.int .i64 1) ∧ w6.cell? ⟨b6, 1, none⟩ = some (.int .i64 0) ∧ w6.cell? ⟨b6, 2, none⟩ = some (.string note)) := ⟨(by { have hh := H6.out.1.cells.1; rw [write_n, HN.out.2.2.2] at hh; exact hh }), cell_at H6.out.2.1 0, cell_at H6.out.2.1 1, cell_at H6.out.2.1 2⟩; clear h6 c6; rw [HE.out.2.2.2.1])
      | fail)
  clear y0 y1 y2 y3 H4 H5
  obtain ⟨y3, y0, y1, y2⟩ := H6f.out
  clear H6f
  have hsm : ((wiped D 2).flush.write 1 (superB 1 0 D.n.toNat note)).small := write_small (flush_small (wiped_small H.out.2 2)) _ _
  obtain ⟨D4, hD4⟩ : ∃ D4, D4 = (wiped D 2).flush.write 1 (superB 1 0 D.n.toNat note) := ⟨_, rfl⟩
  have hmade : made D note = D4.flush := by rw [hD4]; rfl
  have hn4 : D4.n = n := by rw [hD4, write_n]; exact HN.out.2.2.1
  have he5 := HE.out.2.2.2.2.1
  rw [← hD4] at H6 hsm he5
  have HM : Hid (made D note = D4.flush ∧ D4.small ∧ D4.flushE = 0) := ⟨hmade, hsm, he5⟩
  clear hmade hsm he5 hD4
  go_wp2_with fail
  refine (rbare_any w6 x xk xd xi D4 1 0 note H6.out.1 HM.out.2.1).mono ?_
  rintro e w7 ⟨s, c, p, rfl, hst, hb7, hgs, hgc, hgp⟩
  have hz := H6.out.2.2.size
  have H7 : Hid (RSt w7 ⟨s, c, p, x, xk, xd, xi, []⟩ (StS.fresh note) D4 ∧ Chg [x, xk, xd, xi] w w7 ∧ w.heap.size ≤ s ∧ w.heap.size ≤ c ∧ w.heap.size ≤ p) := ⟨hst, H6.out.2.2.trans (Chg.of_below hb7), by omega, by omega, by omega⟩
  clear hst hb7 hgs hgc hgp hz y0 y1 y2 y3 H6
  go_wp2_with fail
  refine (rflush_any w7 x xk xd xi D4 H7.out.1.dev).mono ?_
  rintro e w8 ⟨rfl, h8, c8⟩
  rw [HM.out.2.2]
  have H8 : Hid (RSt w8 ⟨s, c, p, x, xk, xd, xi, []⟩ (StS.fresh note) D4.flush ∧ Chg [x, xk, xd, xi] w w8) := ⟨H7.out.1.dev' c8 h8 (flush_small HM.out.2.1) (flush_n D4), H7.out.2.1.trans c8⟩
  clear h8 c8
  go_wp2_with fail
  go_ret2
  exact ⟨s, c, p, rfl, by rw [HM.out.1]; exact H8.out.1, H8.out.2, H7.out.2.2⟩
end Go.Proofs.YtanpkghdgdkdlaaGreat.Sto

/- Layer 6: the program's store and the reference's, side by side. -/
namespace Go.Proofs.YtanpkghdgdkdlaaGreat.Sto
set_option linter.unusedVariables false
set_option linter.unusedSimpArgs false
set_option maxRecDepth 100000
open Go.RowKit Go.Lib Go.Proofs.YtanpkghdgdkdlaaGreat.Mem Go.Proofs.YtanpkghdgdkdlaaGreat.Oct Go.Proofs.YtanpkghdgdkdlaaGreat.Dev

/-- blocks where nothing of it lies are written; and kids keep away from newer blocks -/
theorem StAt.guard {w w' : World} {B : Blk} {S : StS} {D : DevS} {T L : List Nat} (h : StAt w B S D) (hc : Chg T w w') (hT : ∀ t ∈ T, t ∉ B.all ∧ t ∈ B.x) (hL : ∀ q ∈ L, w.heap.size ≤ q ∧ q < w'.heap.size) : StAt w' { B with x := L ++ B.x } S D := by
  have hm : ∀ q ∈ B.all, q ∉ T := fun q hq ht => (hT q ht).1 hq
  obtain ⟨mm, hcl⟩ := h.cells
  refine ⟨(hc.block _ (heap_lt h.box) (hm _ (by simp [Blk.all]))).trans h.box, h.dev.of_touch hc (hm _ (by simp [Blk.all])) (hm _ (by simp [Blk.all])) (hm _ (by simp [Blk.all])), ⟨mm, ⟨hcl.is.touch hc (hm _ (by simp [Blk.all])), hcl.eq, fun i c a k hi => ?_⟩⟩, h.kept.touch hc (hm _ (by simp [Blk.all])), h.nd, h.small, fun q hq => ?_⟩
  · have h2 : Ints (fun q => B.out q ∧ q < w.heap.size) w' (.slice a c.kids.length k) c.kids := (Ints.real (hcl.kids i c a k hi)).chg hc (fun q hq ht => hq.1.2 (hT q ht).2)
    refine h2.mono (fun q hq => ⟨hq.1.1, fun hm2 => ?_⟩)
    rcases List.mem_append.1 hm2 with hm2 | hm2
    · have := (hL q hm2).1; have := hq.2; omega
    · exact hq.1.2 hm2
  · rcases List.mem_append.1 hq with hq | hq
    · exact (hL q hq).2
    · exact Nat.lt_of_lt_of_le (h.low q hq) hc.size
/-- kids lie in no block whose numbers are too small -/
theorem StAt.avoid {w : World} {B : Blk} {S : StS} {D : DevS} {n : Nat} {L : List Nat} (h : StAt w B S D) (hw : WF n S []) (hL : ∀ q ∈ L, q < w.heap.size ∧ ∀ o z, w.cell? ⟨q, o, none⟩ = some (.int .i64 z) → z < 2) : StAt w { B with x := L ++ B.x } S D := by
  obtain ⟨mm, hcl⟩ := h.cells
  refine ⟨h.box, h.dev, ⟨mm, ⟨hcl.is, hcl.eq, fun i c a k hi => ?_⟩⟩, h.kept, h.nd, h.small, fun q hq => ?_⟩
  · rcases hcl.kids i c a k hi with hk | ⟨b, o, q, e, hp, hl, hcell⟩
    · exact .inl hk
    · by_cases hz : c.kids.length = 0
      · exact .inl ⟨List.length_eq_zero_iff.1 hz, a, k, by rw [hz]⟩
      · refine .inr ⟨b, o, q, e, ⟨hp.1, fun hm => ?_⟩, hl, hcell⟩
        rcases List.mem_append.1 hm with hm | hm
        · have h0 := hcell 0 (by omega)
          have h1 := (hL b hm).2 _ _ h0
          have hci : S.cells i = some c := by rw [← hcl.eq i, hi]; rfl
          obtain ⟨d, hd⟩ := has_iff.1 (hw.kids i c hci c.kids[0] (List.getElem_mem (by omega)))
          have := (hw.dom _ d hd).1
          omega
        · exact hp.2 hm
  · rcases List.mem_append.1 hq with hq | hq
    · exact (hL q hq).1
    · exact h.low q hq
/-- both stores, each told by its own -/
structure Pr (w0 w : World) (b bk bd x xk xd xi : Nat) (B : Blk) (RB : RBlk) (S : StS) (D : DevS) (S' : StS) (D' : DevS) : Prop where
  st : StAt w B S D
  rs : RSt w RB S' D'
  below : Below w0.heap.size w0 w
  bd : B.d = b ∧ B.k = bk ∧ B.y = bd
  rd : RB.x = x ∧ RB.xk = xk ∧ RB.xd = xd ∧ RB.xi = xi
  b0 : ∀ q ∈ B.all, w0.heap.size ≤ q
  r0 : ∀ q ∈ RB.all, w0.heap.size ≤ q
  bx : ∀ q ∈ RB.all, q ∈ B.x ∧ q ∉ B.all
  rx : ∀ q ∈ B.all, q ∈ RB.f
section
variable {w0 w w' : World} {b bk bd x xk xd xi : Nat} {B : Blk} {RB : RBlk} {S S' S1 : StS} {D D' D1 : DevS}
theorem Pr.on (h : Pr w0 w b bk bd x xk xd xi B RB S D S' D') (hb : Below w.heap.size w w') : Pr w0 w' b bk bd x xk xd xi B RB S D S' D' :=
  ⟨h.st.on hb, h.rs.on hb, h.below.trans (hb.mono h.below.size), h.bd, h.rd, h.b0, h.r0, h.bx, h.rx⟩
/-- other blocks are written -/
theorem Pr.off {T : List Nat} (h : Pr w0 w b bk bd x xk xd xi B RB S D S' D') (hc : Chg T w w') (hT : ∀ t ∈ T, w0.heap.size ≤ t ∧ t ∈ B.x ∧ t ∈ RB.f ∧ t ∉ B.all ∧ t ∉ RB.all) : Pr w0 w' b bk bd x xk xd xi B RB S D S' D' := by
  have hs := h.st.guard (L := []) hc (fun t ht => ⟨(hT t ht).2.2.2.1, (hT t ht).2.1⟩) (fun q hq => by cases hq)
  exact ⟨hs, h.rs.off hc (fun t ht => ⟨(hT t ht).2.2.2.2, (hT t ht).2.2.1⟩), h.below.trans (hc.below h.below.size (fun q hq => (hT q hq).1)), h.bd, h.rd, h.b0, h.r0, h.bx, h.rx⟩
/-- newer blocks are guarded -/
theorem Pr.guard {L : List Nat} (h : Pr w0 w b bk bd x xk xd xi B RB S D S' D') (hb : Below w.heap.size w w') (hL : ∀ q ∈ L, w.heap.size ≤ q ∧ q < w'.heap.size) : Pr w0 w' b bk bd x xk xd xi { B with x := L ++ B.x } { RB with f := L ++ RB.f } S D S' D' :=
  ⟨h.st.guard (T := []) (Chg.of_below hb) (by simp) hL, h.rs.guard (T := []) (Chg.of_below hb) (by simp) hL, h.below.trans (hb.mono h.below.size), h.bd, h.rd, h.b0, h.r0,
    fun q hq => ⟨List.mem_append_right _ (h.bx q hq).1, (h.bx q hq).2⟩, fun q hq => List.mem_append_right _ (h.rx q hq)⟩
theorem Blk.Next.mem' {B B' : Blk} (h : Blk.Next w B B') : ∀ q ∈ B'.all, q ∈ B.all ∨ (q = B'.p ∧ w.heap.size ≤ B'.p) := by
  intro q hq
  simp only [Blk.all, List.mem_cons, List.mem_nil_iff, or_false] at hq ⊢
  rw [h.s, h.d, h.k, h.y, h.c] at hq
  rcases h.p with hp | hp
  · rw [hp] at hq; exact .inl hq
  · rcases hq with e | e | e | e | e | e
    · exact .inl (.inl e)
    · exact .inl (.inr (.inl e))
    · exact .inl (.inr (.inr (.inl e)))
    · exact .inl (.inr (.inr (.inr (.inl e))))
    · exact .inl (.inr (.inr (.inr (.inr (.inl e)))))
    · exact .inr ⟨e, hp⟩
/-- the program's store has been turned -/
theorem Pr.prog {B' : Blk} (h : Pr w0 w b bk bd x xk xd xi B RB S D S' D') (hn : Blk.Next w B B') (hs : StAt w' B' S1 D1) (hc : Chg B.all w w') : ∃ RB', RB'.s = RB.s ∧ RB'.all = RB.all ∧ (∀ q ∈ RB.f, q ∈ RB'.f) ∧ Pr w0 w' b bk bd x xk xd xi B' RB' S1 D1 S' D' := by
  have hlt := h.rs.lt
  have hrall : ∀ q ∈ RB.all, q ∉ B'.all := fun q hq hm => by
    rcases hn.mem' q hm with h1 | ⟨h1, h2⟩
    · exact (h.bx q hq).2 h1
    · have := hlt q hq; omega
  have hbb : ∀ q ∈ B'.all, w0.heap.size ≤ q := fun q hq => by
    rcases hn.mem' q hq with h1 | ⟨h1, h2⟩
    · exact h.b0 q h1
    · have := h.below.size; omega
  have hbel := h.below.trans (hc.below h.below.size h.b0)
  have hT : ∀ t ∈ B.all, t ∉ RB.all ∧ t ∈ RB.f := fun t ht => ⟨fun hm => (h.bx t hm).2 ht, h.rx t ht⟩
  have hbd : B'.d = b ∧ B'.k = bk ∧ B'.y = bd := ⟨hn.d.trans h.bd.1, hn.k.trans h.bd.2.1, hn.y.trans h.bd.2.2⟩
  by_cases hp : w.heap.size ≤ B'.p
  · refine ⟨{ RB with f := [B'.p] ++ RB.f }, rfl, rfl, fun q hq => List.mem_append_right _ hq, hs, h.rs.guard hc hT (fun q hq => ?_), hbel, hbd, h.rd, hbb, h.r0, fun q hq => ⟨by rw [hn.x]; exact (h.bx q hq).1, hrall q hq⟩, fun q hq => ?_⟩
    · have : q = B'.p := by simpa using hq
      rw [this]
      exact ⟨hp, hs.lt _ (by simp [Blk.all])⟩
    · rcases hn.mem' q hq with h1 | ⟨h1, _⟩
      · exact List.mem_append_right _ (h.rx q h1)
      · exact List.mem_append_left _ (by simp [h1])
  · refine ⟨RB, rfl, rfl, fun q hq => hq, hs, h.rs.off hc hT, hbel, hbd, h.rd, hbb, h.r0, fun q hq => ⟨by rw [hn.x]; exact (h.bx q hq).1, hrall q hq⟩, fun q hq => ?_⟩
    rcases hn.mem' q hq with h1 | ⟨_, h2⟩
    · exact h.rx q h1
    · exact absurd h2 hp
/-- the reference's store has been turned -/
theorem Pr.refs {p : Nat} (h : Pr w0 w b bk bd x xk xd xi B RB S D S' D') (hp : p = RB.p ∨ w.heap.size ≤ p) (hs : RSt w' { RB with p := p } S1 D1) (hc : Chg RB.all w w') : ∃ B', B'.s = B.s ∧ B'.all = B.all ∧ (∀ q ∈ B.x, q ∈ B'.x) ∧ Pr w0 w' b bk bd x xk xd xi B' { RB with p := p } S D S1 D1 := by
  have hlt := h.st.lt
  have hmem : ∀ q ∈ ({ RB with p := p } : RBlk).all, q ∈ RB.all ∨ (q = p ∧ w.heap.size ≤ p) := fun q hq => by
    simp only [RBlk.all, List.mem_cons, List.mem_nil_iff, or_false] at hq ⊢
    rcases hp with hp | hp
    · rw [hp] at hq; exact .inl hq
    · rcases hq with e | e | e | e | e | e | e
      · exact .inl (.inl e)
      · exact .inl (.inr (.inl e))
      · exact .inr ⟨e, hp⟩
      · exact .inl (.inr (.inr (.inr (.inl e))))
      · exact .inl (.inr (.inr (.inr (.inr (.inl e)))))
      · exact .inl (.inr (.inr (.inr (.inr (.inr (.inl e))))))
      · exact .inl (.inr (.inr (.inr (.inr (.inr (.inr e))))))
  have hnot : ∀ q ∈ ({ RB with p := p } : RBlk).all, q ∉ B.all := fun q hq hm => by
    rcases hmem q hq with h1 | ⟨h1, h2⟩
    · exact (h.bx q h1).2 hm
    · have := hlt q hm; omega
  have hbel := h.below.trans (hc.below h.below.size h.r0)
  have hr0 : ∀ q ∈ ({ RB with p := p } : RBlk).all, w0.heap.size ≤ q := fun q hq => by
    rcases hmem q hq with h1 | ⟨h1, h2⟩
    · exact h.r0 q h1
    · have := h.below.size; omega
  have hT : ∀ t ∈ RB.all, t ∉ B.all ∧ t ∈ B.x := fun t ht => ⟨(h.bx t ht).2, (h.bx t ht).1⟩
  by_cases hpp : w.heap.size ≤ p
  · refine ⟨{ B with x := [p] ++ B.x }, rfl, rfl, fun q hq => List.mem_append_right _ hq, h.st.guard hc hT (fun q hq => ?_), hs, hbel, h.bd, h.rd, h.b0, hr0, fun q hq => ⟨?_, hnot q hq⟩, h.rx⟩
    · have : q = p := by simpa using hq
      rw [this]
      exact ⟨hpp, hs.lt _ (by simp [RBlk.all])⟩
    · rcases hmem q hq with h1 | ⟨h1, _⟩
      · exact List.mem_append_right _ (h.bx q h1).1
      · exact List.mem_append_left _ (by simp [h1])
  · refine ⟨{ B with x := [] ++ B.x }, rfl, rfl, fun q hq => hq, h.st.guard hc hT (fun q hq => by cases hq), hs, hbel, h.bd, h.rd, h.b0, hr0, fun q hq => ⟨?_, hnot q hq⟩, h.rx⟩
    rcases hmem q hq with h1 | ⟨_, h2⟩
    · exact (h.bx q h1).1
    · exact absurd h2 hpp
end
/-- the block of a slice -/
def ownB : Option Addr → List Nat
  | some ad => [ad.block]
  | none => []
theorem OwnI.blk {base : Nat} {w : World} {a : Option Addr} {m c : Nat} {l : List Int} (h : OwnI base w (.slice a m c) l) : ∀ q ∈ ownB a, base ≤ q ∧ q < w.heap.size := by
  intro q hq
  rcases h.2 with ⟨e, _⟩ | ⟨g, cap, cur, e, hg, hb, _⟩
  · injection e with e _ _
    subst e
    cases hq
  · injection e with e _ _
    subst e
    have : q = g := by simpa [ownB] using hq
    subst this
    exact ⟨hg, heap_lt hb⟩
set_option maxHeartbeats 4000000 in
theorem does_get (w : World) (B : Blk) (S : StS) (D : DevS) (n m : Nat) (k : DoT) (kv : Value) (h : StAt w B S D) (hi : Inv n m S) (hD : D.n = n) (hm : m < 1099511627776) (hn : n ≤ 4096) (hk : k.fits) (hv : Ints (· ∉ B.all) w kv k.kids) (hr : k.opn = 10) :
    Calls Tryz.prog 25 #[.pointer (some ⟨B.s, 0, none⟩), .pointer (some ⟨B.d, 0, none⟩), k.val kv] w fun e w' => ∃ (a : Option Addr) (m c : Nat) (d : ByteArray), e = .returned (.tuple #[.int .i64 0, .agg #[.slice a m c, .string d], .int .i64 (S.getR D k.i).1]) ∧ BlockIs w.heap.size w' (.slice a m c) d (S.getR D k.i).2 ∧ Below w.heap.size w w' := by
  have hDn : D.n.toNat = n := by omega
  have hf9 : k.i ≤ 9223372036854775807 := by
    have := hk.2.1
    simp only [Lit.wf, IntKind.min, IntKind.max, IntKind.signed, IntKind.bits, Bool.and_eq_true] at this
    simp at this
    omega
  have HI : Hid (Inv n m S ∧ D.n = n ∧ D.n.toNat = n ∧ m < 1099511627776 ∧ n ≤ 4096 ∧ k.i ≤ 9223372036854775807) := ⟨hi, hD, hDn, hm, hn, hf9⟩
  have hw1 : Dw w B S D k kv w.heap.size (w.heap.size + 1) ((w.alloc (.cells #[.int .i64 k.op, .int .i64 k.i, kv, .string k.s] 51)).alloc (.cells #[.slice none 0 0, .string ⟨#[]⟩] 58)) := by
    have hb1 : Below w.heap.size w (w.alloc (.cells #[.int .i64 k.op, .int .i64 k.i, kv, .string k.s] 51)) := (Below.refl _ _).alloc (Nat.le_refl _) _
    have hb2 : Below w.heap.size w ((w.alloc (.cells #[.int .i64 k.op, .int .i64 k.i, kv, .string k.s] 51)).alloc (.cells #[.slice none 0 0, .string ⟨#[]⟩] 58)) := hb1.alloc hb1.size _
    refine ⟨h.on hb2, hb2, ?_, ?_, Ints.on hv hb2, rfl, rfl⟩
    · rw [heap_alloc_other _ (by simp)]; exact heap_alloc_last _ _
    · have := heap_alloc_last (w.alloc (.cells #[.int .i64 k.op, .int .i64 k.i, kv, .string k.s] 51)) (.cells #[.slice none 0 0, .string ⟨#[]⟩] 58)
      simpa using this
  have H1 : Hid (Dw w B S D k kv w.heap.size (w.heap.size + 1) ((w.alloc (.cells #[.int .i64 k.op, .int .i64 k.i, kv, .string k.s] 51)).alloc (.cells #[.slice none 0 0, .string ⟨#[]⟩] 58))) := hw1
  have hval : k.val kv = .agg #[.int .i64 k.op, .int .i64 k.i, kv, .string k.s] := rfl
  rw [hval]
  clear h hi hD hDn hm hn hk hv hw1 hf9
  go_enter Tryz.func25, Tryz.ntmps25
  go_wp2_with fail
  obtain ⟨kb, hkb⟩ : ∃ kb, kb = w.heap.size := ⟨_, rfl⟩
  obtain ⟨rb, hrb⟩ : ∃ rb, rb = w.heap.size + 1 := ⟨_, rfl⟩
  have H1' : Hid (Dw w B S D k kv kb rb ((w.alloc (.cells #[.int .i64 k.op, .int .i64 k.i, kv, .string k.s] 51)).alloc (.cells #[.slice none 0 0, .string ⟨#[]⟩] 58))) := by rw [hkb, hrb]; exact H1
  rw [← hrb, ← hkb]
  clear H1 hkb hrb
  generalize (w.alloc (.cells #[.int .i64 k.op, .int .i64 k.i, kv, .string k.s] 51)).alloc (.cells #[.slice none 0 0, .string ⟨#[]⟩] 58) = w1 at H1' ⊢
  obtain ⟨c0, c1, c2, c3⟩ := H1'.out.cells
  refine (op_fn k kv w1).mono ?_
  rintro e w2 ⟨rfl, hb2⟩
  have H2 : Hid (Dw w B S D k kv kb rb w2) := H1'.out.on hb2
  clear hb2 c0 c1 c2 c3 H1'
  obtain ⟨c0, c1, c2, c3⟩ := H2.out.cells
  have r0 : w2.cell? ⟨rb, 0, none⟩ = some (.slice none 0 0) := cell_at H2.out.rd 0
  have r1 : w2.cell? ⟨rb, 1, none⟩ = some (.string ⟨#[]⟩) := cell_at H2.out.rd 1
  have rf : ∀ j, w2.frozen? ⟨rb, j, none⟩ = false := frozen_at H2.out.rd
  rw [hr]
  go_wp2_with fail
  refine (storeGet_any w2 B S D k.i H2.out.st).mono ?_
  rintro e w3 ⟨a, m', c, d, rfl, his, hb3⟩
  have H3 : Hid (Dw w B S D k kv kb rb w3 ∧ BlockIs w2.heap.size w3 (.slice a m' c) d (S.getR D k.i).2) := ⟨H2.out.on hb3, his⟩
  have HZ : Hid (w.heap.size ≤ w2.heap.size ∧ rb < w2.heap.size) := ⟨H2.out.below.size, heap_lt H2.out.rd⟩
  clear H2 c0 c1 c2 c3 r0 r1 rf his hb3
  have c0 : w3.cell? ⟨rb, 0, none⟩ = some (.slice none 0 0) := cell_at H3.out.1.rd 0
  have c1 : w3.cell? ⟨rb, 1, none⟩ = some (.string ⟨#[]⟩) := cell_at H3.out.1.rd 1
  have cf : ∀ j, w3.frozen? ⟨rb, j, none⟩ = false := frozen_at H3.out.1.rd
  go_wp2_with fail
  have hnb : (w3.alloc (.cells #[.slice a m' c, .string d] 58)).heap[w3.heap.size]? = some (.cells #[.slice a m' c, .string d] 58 (0, 0)) := heap_alloc_last _ _
  have H4 : Hid (Dw w B S D k kv kb rb (w3.alloc (.cells #[.slice a m' c, .string d] 58)) ∧ BlockIs w2.heap.size (w3.alloc (.cells #[.slice a m' c, .string d] 58)) (.slice a m' c) d (S.getR D k.i).2) := ⟨H3.out.1.on ((Below.refl _ _).alloc (Nat.le_refl _) _), H3.out.2.chg (T := []) (Chg.of_below ((Below.refl _ _).alloc (Nat.le_refl _) _)) (by simp)⟩
  have hne : rb ≠ w3.heap.size := Nat.ne_of_lt (heap_lt H3.out.1.rd)
  generalize w3.alloc (.cells #[.slice a m' c, .string d] 58) = w4 at hnb H4 ⊢
  generalize w3.heap.size = nb at hnb hne ⊢
  clear H3 c0 c1 cf
  have c0 : w4.cell? ⟨rb, 0, none⟩ = some (.slice none 0 0) := cell_at H4.out.1.rd 0
  have c1 : w4.cell? ⟨rb, 1, none⟩ = some (.string ⟨#[]⟩) := cell_at H4.out.1.rd 1
  have cf : ∀ j, w4.frozen? ⟨rb, j, none⟩ = false := frozen_at H4.out.1.rd
  have d0 : w4.cell? ⟨nb, 0, none⟩ = some (.slice a m' c) := cell_at hnb 0
  have d1 : w4.cell? ⟨nb, 1, none⟩ = some (.string d) := cell_at hnb 1
  clear hnb
  go_region
  go_wp2_with fail
  have hs := heap_set_at (heap_set_at H4.out.1.rd 0 (.slice a m' c)) 1 (.string d)
  have hcg : Chg [rb] w4 ((w4.setCell ⟨rb, 0, none⟩ (.slice a m' c)).setCell ⟨rb, 1, none⟩ (.string d)) := ((Chg.refl [rb] w4).setCell ⟨rb, 0, none⟩ (.slice a m' c) (.inl (by simp))).setCell ⟨rb, 1, none⟩ (.string d) (.inl (by simp))
  refine bodyPost_ret (results_tmp_cell_tmp Tryz.results25 _ _ rb 58 #[.slice a m' c, .string d] (0, 0) _ rfl hs Tryz.underlying58 rfl (by kernel_rfl)) rfl ?_
  have hbw : Below w.heap.size w ((w4.setCell ⟨rb, 0, none⟩ (.slice a m' c)).setCell ⟨rb, 1, none⟩ (.string d)).drew := H4.out.1.below.trans (hcg.drew.below H4.out.1.below.size (fun q hq => by have := H4.out.1.er; simp at hq; omega))
  refine ⟨a, m', c, d, rfl, ?_, hbw⟩
  exact (H4.out.2.chg hcg.drew (fun t ht => by have := HZ.out.2; simp at ht; omega)).mono HZ.out.1
/-- blocks that both keep away from -/
def Kept (X : List Nat) (w0 : World) (B : Blk) (RB : RBlk) : Prop := ∀ q ∈ X, w0.heap.size ≤ q ∧ q ∈ B.x ∧ q ∈ RB.f ∧ q ∉ B.all ∧ q ∉ RB.all
def kidsOf (r : Option (List Int × ByteArray)) : List Int := match r with | some x => x.1 | none => []
def dataOf (r : Option (List Int × ByteArray)) : ByteArray := match r with | some x => x.2 | none => ⟨#[]⟩
theorem BlockIs.parts {base : Nat} {w : World} {a : Option Addr} {m c : Nat} {d : ByteArray} {r : Option (List Int × ByteArray)} (h : BlockIs base w (.slice a m c) d r) (hl : (kidsOf r).length ≤ 16) : d = dataOf r ∧ m = (kidsOf r).length ∧ Ints (base ≤ ·) w (.slice a m c) (kidsOf r) ∧ (m = 0 ∨ ∃ g cur t, a = some ⟨g, 0, none⟩ ∧ w.heap[g]? = some (.cells cur t (0, 0)) ∧ m ≤ cur.size) := by
  cases r with
  | none =>
    obtain ⟨h1, h2⟩ := h
    injection h2 with e1 e2 e3
    subst e1 e2 e3
    exact ⟨h1, rfl, .inl ⟨rfl, _, _, rfl⟩, .inl rfl⟩
  | some x =>
    obtain ⟨h1, h2⟩ := h
    obtain ⟨a', c', e⟩ := h2.form
    injection e with e1 e2 e3
    subst e2
    refine ⟨h1, rfl, (h2.ints (by have : x.1.length ≤ 16 := hl; omega)).mono (fun q hq => hq.1), ?_⟩
    rcases h2.2 with ⟨_, h0⟩ | ⟨g, cap, cur, e, hg, hb, hr⟩
    · exact .inl h0
    · injection e with e3 e4 e5
      subst e3
      by_cases hz : x.1.length = 0
      · exact .inl hz
      · right
        refine ⟨g, cur, _, rfl, hb, ?_⟩
        have hi := h2.ints (by have : x.1.length ≤ 16 := hl; omega)
        obtain ⟨b, o, e6, _, hc⟩ := ints_item hi (x.1.length - 1) (by omega)
        injection e6 with e6
        injection e6 with e7 e8
        subst e7 e8
        rw [cell_at hb] at hc
        have := (Array.getElem?_eq_some_iff.1 hc).1
        show x.1.length ≤ cur.size
        omega
/-- a row that may be written -/
def RowW (w : World) (a : Option Addr) (m : Nat) : Prop := m = 0 ∨ ∃ g cur t, a = some ⟨g, 0, none⟩ ∧ w.heap[g]? = some (.cells cur t (0, 0)) ∧ m ≤ cur.size
theorem RowW.on {w w' : World} {a : Option Addr} {m : Nat} (h : RowW w a m) (hb : Below w.heap.size w w') : RowW w' a m := by
  rcases h with h | ⟨g, cur, t, h1, h2, h3⟩
  · exact .inl h
  · exact .inr ⟨g, cur, t, h1, (hb.block _ (heap_lt h2)).trans h2, h3⟩
theorem RowW.chg {w w' : World} {a : Option Addr} {m : Nat} {T : List Nat} (h : RowW w a m) (hc : Chg T w w') (hT : ∀ q ∈ ownB a, q ∉ T) : RowW w' a m := by
  rcases h with h | ⟨g, cur, t, h1, h2, h3⟩
  · exact .inl h
  · refine .inr ⟨g, cur, t, h1, (hc.block _ (heap_lt h2) (hT g ?_)).trans h2, h3⟩
    rw [h1]; simp [ownB]
theorem RowW.set {w : World} {a : Option Addr} {m g q : Nat} {v : Value} (h : RowW w a m) : RowW (w.setCell ⟨g, q, none⟩ v) a m := by
  rcases h with h | ⟨g', cur, t, h1, h2, h3⟩
  · exact .inl h
  · by_cases hg : g' = g
    · subst hg
      exact .inr ⟨g', _, t, h1, heap_set_at h2 q v, by simpa using h3⟩
    · exact .inr ⟨g', cur, t, h1, (heap_set_other _ _ hg).trans h2, h3⟩
theorem RowW.at {w : World} {a : Option Addr} {m : Nat} (h : RowW w a m) (q : Nat) (hq : q < m) : ∃ g v, a = some ⟨g, 0, none⟩ ∧ w.cell? ⟨g, q, none⟩ = some v ∧ ∀ o, w.frozen? ⟨g, o, none⟩ = false := by
  rcases h with h | ⟨g, cur, t, h1, h2, h3⟩
  · omega
  · refine ⟨g, cur[q]'(by omega), h1, ?_, frozen_at h2⟩
    rw [cell_at h2]
    exact Array.getElem?_eq_getElem (by omega)
theorem OwnI.row {base : Nat} {w : World} {a : Option Addr} {m c : Nat} {l : List Int} (h : OwnI base w (.slice a m c) l) (hl : l.length ≤ 9223372036854775807) : RowW w a m := by
  obtain ⟨a', c', e⟩ := h.form
  injection e with e1 e2 e3
  subst e2
  rcases h.2 with ⟨_, h0⟩ | ⟨g, cap, cur, e, hg, hb, hr⟩
  · exact .inl h0
  · injection e with e3 e4 e5
    subst e3
    by_cases hz : l.length = 0
    · exact .inl hz
    · right
      refine ⟨g, cur, _, rfl, hb, ?_⟩
      obtain ⟨b, o, e6, _, hc⟩ := ints_item (h.ints hl) (l.length - 1) (by omega)
      injection e6 with e6
      injection e6 with e7 e8
      subst e7 e8
      rw [cell_at hb] at hc
      have := (Array.getElem?_eq_some_iff.1 hc).1
      omega
theorem blk_len {S : StS} {D : DevS} {k : DoT} : (kidsOf (doesOut S D k).blk).length ≤ 16 := by
  have hg : (kidsOf (S.getR D k.i).2).length ≤ 16 := by
    unfold StS.getR
    split
    · cases hr : (readP D k.i).2 with
      | none => exact Nat.zero_le _
      | some x => exact (readP_in hr).1.1
    · exact Nat.zero_le _
  unfold doesOut
  repeat' split
  all_goals first | exact hg | exact Nat.zero_le _
def DuoPost (w0 w : World) (b bk bd x xk xd xi : Nat) (B : Blk) (RB : RBlk) (S : StS) (D : DevS) (r : DoesR) (e : Ending) (w' : World) : Prop := ∃ (B' : Blk) (RB' : RBlk) (a : Option Addr) (m c : Nat) (d : ByteArray), e = .returned (.tuple #[.int .i64 r.num, .agg #[.slice a m c, .string d], .int .i64 r.err]) ∧ BlockIs w.heap.size w' (.slice a m c) d r.blk ∧
  Pr w0 w' b bk bd x xk xd xi B' RB' r.st r.dv S D ∧ B'.s = B.s ∧ RB'.s = RB.s ∧ (∀ q ∈ ownB a, q ∈ B'.x ∧ q ∈ RB'.f ∧ q ∉ B'.all ∧ w.heap.size ≤ q ∧ q < w'.heap.size) ∧ (∀ q ∈ B.x, q ∈ B'.x) ∧ (∀ q ∈ RB.f, q ∈ RB'.f) ∧ Chg B.all w w' ∧ RB'.all = RB.all ∧ ∀ q ∈ B'.all, q ∈ B.all ∨ w.heap.size ≤ q
theorem blk_10 {S : StS} {D : DevS} {k : DoT} (h : k.opn ≠ 10) : (doesOut S D k).blk = none := by
  unfold doesOut
  repeat' split
  all_goals first | rfl | (exfalso; omega)
theorem pr_does {w0 w : World} {b bk bd x xk xd xi : Nat} {B : Blk} {RB : RBlk} {S : StS} {D : DevS} {n m : Nat} {k : DoT} {kv : Value} (h : Pr w0 w b bk bd x xk xd xi B RB S D S D) (hi : Inv n m S) (hD : D.n = n) (hm : m < 1099511627776) (hn : n ≤ 4096) (hk : k.fits) (hv : Ints (· ∉ B.all) w kv k.kids) (h12 : k.opn < 12) :
    Calls Tryz.prog 25 #[.pointer (some ⟨B.s, 0, none⟩), .pointer (some ⟨B.d, 0, none⟩), k.val kv] w (DuoPost w0 w b bk bd x xk xd xi B RB S D (doesOut S D k)) := by
  by_cases h10 : k.opn = 10
  · have hout : doesOut S D k = ⟨0, (S.getR D k.i).2, (S.getR D k.i).1, S, D⟩ := by rw [doesOut, if_neg (by omega), if_neg (by omega), if_neg (by omega), if_neg (by omega), if_pos h10]
    rw [hout]
    refine (does_get w B S D n m k kv h.st hi hD hm hn hk hv h10).mono ?_
    rintro e w' ⟨a, m', c, d, rfl, his, hb⟩
    have hL : ∀ q ∈ ownB a, w.heap.size ≤ q ∧ q < w'.heap.size := by
      intro q hq
      cases hg : (S.getR D k.i).2 with
      | none =>
        rw [hg] at his
        have := his.2
        injection this with e1 _ _
        subst e1
        cases hq
      | some r =>
        rw [hg] at his
        exact OwnI.blk his.2 q hq
    exact ⟨_, _, a, m', c, d, rfl, his, h.guard hb hL, rfl, rfl, fun q hq => ⟨List.mem_append_left _ hq, List.mem_append_left _ hq, fun hm => by have h1 := h.st.lt q hm; have h2 := (hL q hq).1; omega, hL q hq⟩, fun q hq => List.mem_append_right _ hq, fun q hq => List.mem_append_right _ hq, Chg.of_below hb, rfl, fun q hq => .inl hq⟩
  · refine (does_any w B S D n m k kv h.st hi hD hm hn hk hv h12).mono ?_
    rintro e w' ⟨B', a, m', c, d, hnx, rfl, his, hs, hc⟩
    obtain ⟨RB', e1, e2, e3, hp⟩ := h.prog hnx hs hc
    refine ⟨B', RB', a, m', c, d, rfl, his, hp, hnx.s, e1, fun q hq => ?_, fun q hq => by rw [hnx.x]; exact hq, e3, hc, e2, fun q hq => by
      rcases hnx.mem' q hq with h1 | ⟨h1, h2⟩
      · exact .inl h1
      · rw [← h1] at h2; exact .inr h2⟩
    rw [blk_10 h10] at his
    have := his.2
    injection this with e4 _ _
    subst e4
    cases hq
def DuoPost2 (w0 w : World) (b bk bd x xk xd xi : Nat) (B : Blk) (RB : RBlk) (r : DoesR) (e : Ending) (w' : World) : Prop := ∃ (B' : Blk) (RB' : RBlk) (a : Option Addr) (m c : Nat) (d : ByteArray), e = .returned (.tuple #[.int .i64 r.num, .agg #[.slice a m c, .string d], .int .i64 r.err]) ∧ BlockIs w.heap.size w' (.slice a m c) d r.blk ∧
  Pr w0 w' b bk bd x xk xd xi B' RB' r.st r.dv r.st r.dv ∧ B'.s = B.s ∧ RB'.s = RB.s ∧ (∀ q ∈ B.x, q ∈ B'.x) ∧ (∀ q ∈ RB.f, q ∈ RB'.f) ∧ Chg RB.all w w' ∧ B'.all = B.all ∧ ∀ q ∈ RB'.all, q ∈ RB.all ∨ w.heap.size ≤ q
theorem pr_also {w0 w : World} {b bk bd x xk xd xi : Nat} {B : Blk} {RB : RBlk} {S : StS} {D : DevS} {n m : Nat} {k : DoT} {kv : Value} (h : Pr w0 w b bk bd x xk xd xi B RB (doesOut S D k).st (doesOut S D k).dv S D) (hi : Inv n m S) (hE : ExactH S) (hD : D.n = n) (hm : m < 1099511627776) (hn : n ≤ 4096) (hk : k.fits) (hv : Ints (· ∉ RB.all) w kv k.kids) (h12 : k.opn < 12) :
    Calls Tryz.prog 26 #[.pointer (some ⟨RB.s, 0, none⟩), k.val kv] w (DuoPost2 w0 w b bk bd x xk xd xi B RB (doesOut S D k)) := by
  refine (also_any w RB S D n m k kv h.rs hi hE hD hm hn hk hv h12).mono ?_
  rintro e w' ⟨p, a, m', c, d, hp, rfl, his, hs, hc⟩
  obtain ⟨B', e1, e2, e3, hpr⟩ := h.refs hp hs hc
  refine ⟨B', { RB with p := p }, a, m', c, d, rfl, his, hpr, e1, rfl, e3, fun q hq => hq, hc, e2, fun q hq => ?_⟩
  simp only [RBlk.all, List.mem_cons, List.mem_nil_iff, or_false] at hq ⊢
  rcases hp with hp | hp
  · rw [hp] at hq; exact .inl hq
  · rcases hq with e | e | e | e | e | e | e
    · exact .inl (.inl e)
    · exact .inl (.inr (.inl e))
    · exact .inr (e ▸ hp)
    · exact .inl (.inr (.inr (.inr (.inl e))))
    · exact .inl (.inr (.inr (.inr (.inr (.inl e)))))
    · exact .inl (.inr (.inr (.inr (.inr (.inr (.inl e))))))
    · exact .inl (.inr (.inr (.inr (.inr (.inr (.inr e))))))
end Go.Proofs.YtanpkghdgdkdlaaGreat.Sto

