/- TreCost TreLawC TreLawsCosts: several texts of one proof, laid as one file (a claim has at most 60 files). No condition. -/
import Derived.Test.YtadmecjdihfmeaaGreatTG1
import Derived.Lib.MinMax
import Derived.Test.YtadmecjdihfmeaaGreatTG13
import Derived.Test.YtadmecjdihfmeaaGreatRows
import Derived.Test.YtadmecjdihfmeaaGreatLaw
import Derived.Test.YtadmecjdihfmeaaGreatRead
import Derived.ChangeSame
import Derived.Deep.Strs
/- Layer 7: Cost. -/
namespace Go.Proofs.YtadmecjdihfmeaaGreat.Tre
set_option linter.unusedVariables false
set_option linter.unusedSimpArgs false
set_option maxRecDepth 100000
open Go.RowKit Go.Lib Go.Proofs.YtadmecjdihfmeaaGreat.Mem Go.Proofs.YtadmecjdihfmeaaGreat.Oct Go.Proofs.YtadmecjdihfmeaaGreat.Dev Go.Proofs.YtadmecjdihfmeaaGreat.Sto

theorem cost_any (h : Nat) (hh : h ≤ 21) (w : World) : Calls Tryz.prog 32 #[.int .i64 h] w fun e w' => e = .returned (.int .i64 (2 * (h : Int) + 1)) ∧ w' = w := by
  have h1 : max (h : Int) 0 = h := by omega
  have h2 : min (h : Int) 21 = h := by omega
  go_enter Tryz.func32, Tryz.ntmps32
  go_wp2
  go_ret
  exact ⟨rfl, rfl⟩
end Go.Proofs.YtadmecjdihfmeaaGreat.Tre

/- Layer 7: TreeCosts, walked. (Printed by wip/tools/genlawc.py.) -/
namespace Go.Proofs.YtadmecjdihfmeaaGreat.Tre
set_option linter.unusedVariables false
set_option linter.unusedSimpArgs false
set_option maxRecDepth 100000
open Go.RowKit Go.Lib Go.Proofs.YtadmecjdihfmeaaGreat.Mem Go.Proofs.YtadmecjdihfmeaaGreat.Oct Go.Proofs.YtadmecjdihfmeaaGreat.Dev Go.Proofs.YtadmecjdihfmeaaGreat.Sto

set_option maxHeartbeats 4000000 in
theorem all_tree {w0 w : World} {B : Blk} {n m : Nat} {S : StS} {D : DevS} {root : Int} {es : List En} (hsc : Sc w0 B S D w) (hr : Run n m S D) (ht : Tree S D root es) (hes : es.length ≤ 1048576) :
    Calls Tryz.prog 24 #[.pointer (some ⟨B.s, 0, none⟩), .int .i64 root] w (AllIs w es) := by
  have hR : RangeF S D root nil8 nil8 1073741824 = (0, es) := by rw [RangeF_ok ht, rangeE_all es _ (by omega)]
  have HC : Hid (StAt w B S D ∧ RangeOk S D root nil8 nil8 1073741824 ∧ RangeF S D root nil8 nil8 1073741824 = (0, es)) := ⟨hsc.st, range_any hr ht hes _ _ _, hR⟩
  clear hsc hr hes ht hR
  go_enter Tryz.func24, Tryz.ntmps24
  go_wp2_with fail
  refine (treeRange_any w B S D root nil8 nil8 1073741824 HC.out.1 HC.out.2.1).mono ?_
  rintro e w1 ⟨v, rfl, ho, hb⟩
  rw [HC.out.2.2] at ho ⊢
  have H1 : Hid (OwnE w.heap.size w1 v es ∧ Below w.heap.size w w1) := ⟨ho, hb⟩
  clear ho hb HC
  go_wp2_with fail
  go_ret
  exact ⟨v, rfl, H1.out.1, H1.out.2⟩
/-- what a change may cost -/
structure CostB (m : Nat) (S : StS) (es : List En) (h : Nat) (r : Ch Int) : Prop where
  run : Run 700 m r.st r.dv
  tree : Tree r.st r.dv r.out es
  free : S.freeN 700 ≤ r.st.freeN 700 + (2 * h + 1) ∧ r.st.freeN 700 ≤ S.freeN 700
theorem cost_cases {m : Nat} {S : StS} {D : DevS} {root : Int} {es : List En} (h : St 700 m S D [(root, es)]) (hes : es.length ≤ 300) (k : DoE) :
    (turnF S D root k.put k.key k.val = ⟨22, 0, S, D⟩ ∧ alsoE es k.put k.key k.val = (es, 22)) ∨
    ((turnF S D root k.put k.key k.val).err = 0 ∧ (alsoE es k.put k.key k.val).2 = 0 ∧ CostB m S (alsoE es k.put k.key k.val).1 (heightN S D root) (turnF S D root k.put k.key k.val)) := by
  have hf := h.free.1
  have ht := h.trees (root, es) (by simp)
  simp [sizes] at hf
  have hes' : es.length ≤ 1000 := by omega
  rcases turn_ok (by omega) (put := k.put) (key := k.key) (val := k.val) h.run ht hes' (by omega) with ⟨h1, h2, h3⟩ | ⟨h1, h2⟩
  · exact .inl ⟨h2, h3⟩
  · refine .inr ⟨h2.err, h1, h2.went.run, h2.tree, ?_⟩
    have := h2.went.free
    push_cast at this ⊢
    exact this
theorem free_bound {m : Nat} {S : StS} {D : DevS} {root : Int} {es : List En} (h : St 700 m S D [(root, es)]) (hes : es.length ≤ 300) : 398 ≤ S.freeN 700 ∧ S.freeN 700 ≤ 698 := by
  have hf := h.free.1
  simp [sizes] at hf
  refine ⟨by omega, ?_⟩
  unfold StS.freeN
  omega
theorem free_sc {w0 w : World} {B : Blk} {m : Nat} {S : StS} {D : DevS} (hsc : Sc w0 B S D w) (hr : Run 700 m S D) :
    Calls Tryz.prog 29 #[.pointer (some ⟨B.s, 0, none⟩)] w fun e w' => e = .returned (.int .i64 (S.freeN 700)) ∧ Below w.heap.size w w' := by
  have hf := St.frees (by omega) hr
  refine (storeFree_any w B S D hsc.st (by rw [hf.1]; exact hr.inv.wf) hf.2).mono ?_
  rintro e w' ⟨rfl, hb⟩
  rw [hf.1]
  exact ⟨rfl, hb⟩
theorem rd_one {w : World} {b : Nat} {k : DoE} (hk : k.fits) (h : w.heap[b]? = some (.cells #[.int .i64 k.op, .string k.key, .string k.val] 45 (0, 0))) : Rd w (some ⟨b, 0, none⟩) 1 := by
  refine ⟨by omega, fun j hj => ⟨b, 0, k.key, k.val, rfl, ?_, ?_, hk.2.1, hk.2.2⟩⟩
  · have : j = 0 := by omega
    subst this
    exact cell_at h 1
  · have : j = 0 := by omega
    subst this
    exact cell_at h 2
set_option maxHeartbeats 16000000 in
theorem treeCosts_any (w : World) (v : Value) (l : List DoE) (k : DoE) (h : Does (· < w.heap.size) w v l) (hk : k.fits) : Calls Tryz.prog 8 #[v, k.v] w (LawIs w) := by
  obtain ⟨a, c, rfl, hm⟩ := h.len
  obtain ⟨w1, hw1⟩ : ∃ w1, w1 = w.alloc (.cells #[.int .i64 k.op, .string k.key, .string k.val] 45) := ⟨_, rfl⟩
  obtain ⟨kb, hkb⟩ : ∃ kb, kb = w.heap.size := ⟨_, rfl⟩
  have hb1 : Below w.heap.size w w1 := by rw [hw1]; exact (Below.refl _ _).alloc (Nat.le_refl _) _
  have hx1 : w1.heap[kb]? = some (.cells #[.int .i64 k.op, .string k.key, .string k.val] 45 (0, 0)) := by rw [hw1, hkb]; exact heap_alloc_last _ _
  have H1 : Hid (Does (· < w1.heap.size) w1 (.slice a l.length c) l ∧ (8 ≤ 700 ∧ 700 ≤ 4096) ∧ Below w.heap.size w w1 ∧ w1.heap[kb]? = some (.cells #[.int .i64 k.op, .string k.key, .string k.val] 45 (0, 0)) ∧ k.fits) := ⟨(h.on hb1).wide hb1.size, by omega, hb1, hx1, hk⟩
  clear h hk hb1 hx1
  have hbit : k.put = decide (bits BinOp.and IntKind.i64 k.op 7 < 5) := rfl
  have HBIT : Hid (k.put = decide (bits BinOp.and IntKind.i64 k.op 7 < 5)) := hbit
  clear hbit
  unfold DoE.v
  go_enter Tryz.func8, Tryz.ntmps8
  go_wp2_with fail
  rw [← hkb, ← hw1]
  clear hkb hw1
  refine (short_any w1 a l.length c H1.out.1.rd).mono ?_
  rintro e w2 ⟨x, rfl, hx, hb2⟩
  have hx2 : w2.heap[kb]? = some (.cells #[.int .i64 k.op, .string k.key, .string k.val] 45 (0, 0)) := (hb2.block _ (heap_lt H1.out.2.2.2.1)).trans H1.out.2.2.2.1
  have HB2 : Hid (Below w.heap.size w w2 ∧ Below w1.heap.size w1 w2 ∧ w2.heap[kb]? = some (.cells #[.int .i64 k.op, .string k.key, .string k.val] 45 (0, 0))) := ⟨H1.out.2.2.1.trans (hb2.mono H1.out.2.2.1.size), hb2, hx2⟩
  cases x with
  | false =>
    clear hb2 hx hx2
    go_wp2_with fail
    refine (awake_any w2).mono ?_
    rintro e w19 ⟨rfl, hb⟩
    have H19 : Hid (Below w.heap.size w w19) := HB2.out.1.trans (hb.mono HB2.out.1.size)
    clear hb
    go_wp2_with fail
    go_ret
    exact ⟨rfl, H19.out⟩
  | true =>
    have HL : Hid (l.length ≤ 300) := hx rfl
    have z0 : w2.cell? ⟨kb, 0, none⟩ = some (.int .i64 k.op) := cell_at hx2 0
    have z1 : w2.cell? ⟨kb, 1, none⟩ = some (.string k.key) := cell_at hx2 1
    have z2 : w2.cell? ⟨kb, 2, none⟩ = some (.string k.val) := cell_at hx2 2
    clear hx hb2 hx2
    go_wp2_with fail
    obtain ⟨w3, hw3⟩ : ∃ w3, w3 = w2.alloc (.cells #[.int .i64 k.op, .string k.key, .string k.val] 45) := ⟨_, rfl⟩
    have hb3 : Below w2.heap.size w2 w3 := by rw [hw3]; exact (Below.refl _ _).alloc (Nat.le_refl _) _
    have hx3 : w3.heap[w2.heap.size]? = some (.cells #[.int .i64 k.op, .string k.key, .string k.val] 45 (0, 0)) := by rw [hw3]; exact heap_alloc_last _ _
    rw [← hw3]
    clear hw3
    refine (short_any w3 (some ⟨w2.heap.size, 0, none⟩) 1 1 (rd_one H1.out.2.2.2.2 hx3)).mono ?_
    rintro e w4 ⟨x, rfl, hx, hb4⟩
    have hbw : Below w2.heap.size w2 w4 := hb3.trans (hb4.mono hb3.size)
    have hx4 : w4.heap[kb]? = some (.cells #[.int .i64 k.op, .string k.key, .string k.val] 45 (0, 0)) := (hbw.block _ (heap_lt HB2.out.2.2)).trans HB2.out.2.2
    have hd4 : Does (· < w4.heap.size) w4 (.slice a l.length c) l := by
      have h1 := HB2.out.2.1.trans (hbw.mono HB2.out.2.1.size)
      exact (H1.out.1.on h1).wide h1.size
    have H4 : Hid (Below w.heap.size w w4 ∧ w4.heap[kb]? = some (.cells #[.int .i64 k.op, .string k.key, .string k.val] 45 (0, 0)) ∧ Does (· < w4.heap.size) w4 (.slice a l.length c) l) := ⟨HB2.out.1.trans (hbw.mono HB2.out.1.size), hx4, hd4⟩
    clear hx3 hb3 hb4 hbw hx4 hd4 hx z0 z1 z2
    cases x with
    | false =>
      go_wp2_with fail
      refine (awake_any w4).mono ?_
      rintro e w19 ⟨rfl, hb⟩
      have H19 : Hid (Below w.heap.size w w19) := H4.out.1.trans (hb.mono H4.out.1.size)
      clear hb
      go_wp2_with fail
      go_ret
      exact ⟨rfl, H19.out⟩
    | true =>
      go_wp2_with fail
      refine (fresh_any w4 700 H1.out.2.1).mono ?_
      rintro e w5 ⟨B, D, rfl, hsc, hst⟩
      have H5 : Hid (Sc w4 B (StS.fresh nil8) D w5 ∧ St 700 0 (StS.fresh nil8) D [(0, [])]) := ⟨hsc, hst⟩
      clear hsc hst
      go_wp2_with fail
      refine (made_fresh H1.out.2.1 HL.out (by omega) H5.out.1 H5.out.2 H4.out.2.2).mono ?_
      rintro e w6 ⟨root, v6, rfl, hM⟩
      obtain ⟨es, hes⟩ : ∃ es, es = playE l [] := ⟨_, rfl⟩
      have hel : es.length ≤ 300 := by rw [hes]; exact play_len HL.out
      rw [← hes] at hM
      obtain ⟨S, D, hsc, hst⟩ := hM.ex
      have H6 : Hid (Sc w4 B S D w6 ∧ St 700 l.length S D [(root, es)] ∧ Ents (Oth w4 B w6) w6 v6 es ∧ es.length ≤ 300) := ⟨hsc, hst, hM.row, hel⟩
      clear hM H5 hes hel hsc hst
      obtain ⟨r, hr⟩ : ∃ r, r = turnF S D root k.put k.key k.val := ⟨_, rfl⟩
      obtain ⟨g, hg⟩ : ∃ g, g = heightN S D root := ⟨_, rfl⟩
      obtain ⟨fr, hfr⟩ : ∃ fr, fr = S.freeN 700 := ⟨_, rfl⟩
      have hcase := cost_cases H6.out.2.1 H6.out.2.2.2 k
      have hfb := free_bound H6.out.2.1 H6.out.2.2.2
      have hlow := (low_ok (H6.out.2.1.trees (root, es) (by simp))).2.1
      have htr := H6.out.2.1.trees (root, es) (by simp)
      rw [← hg] at hcase hlow
      rw [← hr] at hcase
      rw [← hfr] at hfb
      have HC : Hid ((r = ⟨22, 0, S, D⟩ ∧ alsoE es k.put k.key k.val = (es, 22)) ∨ (r.err = 0 ∧ (alsoE es k.put k.key k.val).2 = 0 ∧ CostB l.length S (alsoE es k.put k.key k.val).1 g r)) := hcase
      have HG : Hid (g ≤ 21 ∧ HeightF S D root = .ok g ∧ fr = S.freeN 700 ∧ (398 ≤ fr ∧ fr ≤ 698) ∧ r = turnF S D root k.put k.key k.val) := ⟨hlow, by rw [hg]; exact HeightF_ok htr, hfr, hfb, hr⟩
      clear hcase hfb hlow htr hg hfr hr
      go_wp2_with fail
      refine (height_any w6 B S D root H6.out.1.st).mono ?_
      rintro e wh ⟨rfl, hbh⟩
      rw [HG.out.2.1]
      have HH : Hid (Sc w4 B S D wh ∧ Below w6.heap.size w6 wh) := ⟨H6.out.1.on hbh, hbh⟩
      clear hbh
      have eh1 : hOf (.ok g) = g := rfl
      have eh2 : erOf (.ok g : Except Int Nat) = 0 := rfl
      rw [eh1, eh2]
      clear eh1 eh2
      go_wp2_with fail
      refine (free_sc HH.out.1 H6.out.2.1.run).mono ?_
      rintro e w7 ⟨rfl, hb7⟩
      rw [← HG.out.2.2.1]
      have hsc7 : Sc w4 B S D w7 := HH.out.1.on hb7
      have hx7 : w7.heap[kb]? = some (.cells #[.int .i64 k.op, .string k.key, .string k.val] 45 (0, 0)) := (hsc7.below.block _ (heap_lt H4.out.2.1)).trans H4.out.2.1
      have H7 : Hid (Sc w4 B S D w7 ∧ Ents (Oth w4 B w7) w7 v6 es) := ⟨hsc7, (H6.out.2.2.1.oth (Chg.of_below HH.out.2)).oth (Chg.of_below hb7)⟩
      have z0 : w7.cell? ⟨kb, 0, none⟩ = some (.int .i64 k.op) := cell_at hx7 0
      have z1 : w7.cell? ⟨kb, 1, none⟩ = some (.string k.key) := cell_at hx7 1
      have z2 : w7.cell? ⟨kb, 2, none⟩ = some (.string k.val) := cell_at hx7 2
      have hT := turn_any w7 B S D root k hsc7.st (H6.out.2.1.wok H1.out.2.1)
      rw [← HG.out.2.2.2.2] at hT
      have HT1 : Hid (k.put = true → Calls Tryz.prog 30 #[.pointer (some ⟨B.s, 0, none⟩), .int .i64 root, .string k.key, .string k.val] w7 (RootIs w7 B r)) := hT.1
      have HT2 : Hid (k.put = false → Calls Tryz.prog 31 #[.pointer (some ⟨B.s, 0, none⟩), .int .i64 root, .string k.key] w7 (RootIs w7 B r)) := hT.2
      clear hb7 hsc7 hx7 HH hT
      have hbit := HBIT.out
      by_cases h5 : bits BinOp.and IntKind.i64 k.op 7 < 5
      all_goals first
        | (have HP : Hid (k.put = true) := by show _ = _; rw [hbit]; simp [h5]
           clear hbit
           go_wp2_with fail
           refine (HT1.out HP.out).mono ?_
           rintro e w8 ⟨rfl, hs2, hc2⟩
           have H8 : Hid (StAt w8 B r.st r.dv ∧ Chg B.all w7 w8) := ⟨hs2, hc2⟩
           clear hs2 hc2)
        | (have HP : Hid (k.put = false) := by show _ = _; rw [hbit]; simp [h5]
           clear hbit
           go_wp2_with fail
           refine (HT2.out HP.out).mono ?_
           rintro e w8 ⟨rfl, hs2, hc2⟩
           have H8 : Hid (StAt w8 B r.st r.dv ∧ Chg B.all w7 w8) := ⟨hs2, hc2⟩
           clear hs2 hc2)
      all_goals
        clear z0 z1 z2 HT1 HT2 h5 HP
        have hsc8 : Sc w4 B r.st r.dv w8 := H7.out.1.turn (Blk.Next.refl _ _) H8.out.1 H8.out.2
        have hx8 : w8.heap[kb]? = some (.cells #[.int .i64 k.op, .string k.key, .string k.val] 45 (0, 0)) := (hsc8.below.block _ (heap_lt H4.out.2.1)).trans H4.out.2.1
        have H9 : Hid (Sc w4 B r.st r.dv w8 ∧ Ents (Oth w4 B w8) w8 v6 es) := ⟨hsc8, H7.out.2.oth H8.out.2⟩
        have z0 : w8.cell? ⟨kb, 0, none⟩ = some (.int .i64 k.op) := cell_at hx8 0
        have z1 : w8.cell? ⟨kb, 1, none⟩ = some (.string k.key) := cell_at hx8 1
        have z2 : w8.cell? ⟨kb, 2, none⟩ = some (.string k.val) := cell_at hx8 2
        have hso : SortE es := (H6.out.2.1.trees (root, es) (by simp)).sort
        have HSO : Hid (SortE es) := hso
        clear hsc8 hx8 hso H8 H7
        go_wp2_with fail
        refine (also_any _ w8 v6 es k H9.out.2 (fun q hq => hq.2.1) (by have := H6.out.2.2.2; omega) HSO.out).mono ?_
        rintro e w9 ⟨v9, rfl, hE, hb9⟩
        have HA : Hid (Sc w4 B r.st r.dv w9 ∧ ∃ p, Ents p w9 v9 (alsoE es k.put k.key k.val).1) := ⟨H9.out.1.on hb9, _, hE⟩
        clear hE hb9 H9 z0 z1 z2
        rcases HC.out with ⟨hra, haa⟩ | ⟨hra, haa, hcb⟩
        · have e1 : r.err = 22 := by rw [hra]
          have e2 : r.out = 0 := by rw [hra]
          have hsA := HA.out.1
          rw [hra] at hsA
          have HS9 : Hid (Sc w4 B S D w9) := hsA
          rw [haa, e1, e2]
          clear hra haa e1 e2 hsA HC
          have hrun := H6.out.2.1.run
          have HR : Hid (Run 700 l.length S D) := hrun
          clear hrun
          go_wp2_with fail
          refine (free_sc HS9.out HR.out).mono ?_
          rintro e w10 ⟨rfl, hb10⟩
          rw [← HG.out.2.2.1]
          have HB10 : Hid (Below w.heap.size w w10) := by
            have h1 := (HS9.out.on hb10).below
            exact H4.out.1.trans (h1.mono H4.out.1.size)
          have hfb := HG.out.2.2.2.1
          have hu0 : wrap64 (fr - fr) = 0 := by unfold wrap64; omega
          have hg0 : (0 : Int) ≤ 2 * (g : Int) + 1 := by omega
          clear hb10
          go_wp2_with fail
          refine (cost_any g HG.out.1 w10).mono ?_
          rintro e w11 ⟨rfl, rfl⟩
          go_wp2_with fail
          refine (awake_any w11).mono ?_
          rintro e w19 ⟨rfl, hb⟩
          have H19 : Hid (Below w.heap.size w w19) := HB10.out.trans (hb.mono HB10.out.size)
          clear hb
          go_wp2_with fail
          go_ret
          exact ⟨rfl, H19.out⟩
        · obtain ⟨o, ho⟩ : ∃ o, o = r.out := ⟨_, rfl⟩
          obtain ⟨fs, hfs⟩ : ∃ fs, fs = r.st.freeN 700 := ⟨_, rfl⟩
          obtain ⟨ys, hys⟩ : ∃ ys, ys = (alsoE es k.put k.key k.val).1 := ⟨_, rfl⟩
          have hyl : ys.length ≤ 301 := by
            have h1 := alsoE_len es k.put k.key k.val
            have h2 := H6.out.2.2.2
            rw [hys]
            omega
          have hff := hcb.free
          rw [← HG.out.2.2.1, ← hfs] at hff
          rw [← hys] at HA hcb
          have HR : Hid (Run 700 l.length r.st r.dv ∧ Tree r.st r.dv o ys ∧ ys.length ≤ 1048576 ∧ fs = r.st.freeN 700) := ⟨hcb.run, by rw [ho]; exact hcb.tree, by omega, hfs⟩
          rw [haa, hra, ← ho]
          clear haa hra hcb HC hys hyl hfs ho
          go_wp2_with fail
          refine (free_sc HA.out.1 HR.out.1).mono ?_
          rintro e w10 ⟨rfl, hb10⟩
          rw [← HR.out.2.2.2]
          have H10 : Hid (Sc w4 B r.st r.dv w10 ∧ ∃ p, Ents p w10 v9 ys) := by
            obtain ⟨p, hp⟩ := HA.out.2
            exact ⟨HA.out.1.on hb10, p, hp.on hb10⟩
          have hfb := HG.out.2.2.2.1
          obtain ⟨u, hu⟩ : ∃ u, u = fr - fs := ⟨_, rfl⟩
          have hg21 := HG.out.1
          have hu0 : wrap64 (fr - fs) = u := by unfold wrap64; omega
          have hu1 : 0 ≤ u := by omega
          have hu2 : u ≤ 2 * (g : Int) + 1 := by omega
          clear hb10 HA hff hfb hu
          go_wp2_with fail
          refine (cost_any g HG.out.1 w10).mono ?_
          rintro e w11 ⟨rfl, rfl⟩
          go_wp2_with fail
          refine (all_tree H10.out.1 HR.out.1 HR.out.2.1 HR.out.2.2.1).mono ?_
          rintro e w12 ⟨v12, rfl, ho12, hb12⟩
          have H12 : Hid (Sc w4 B r.st r.dv w12 ∧ (∃ p, Ents p w12 v9 ys) ∧ ∃ b, OwnE b w12 v12 ys) := by
            obtain ⟨p, hp⟩ := H10.out.2
            exact ⟨H10.out.1.on hb12, ⟨p, hp.on hb12⟩, _, ho12⟩
          clear ho12 hb12 H10
          obtain ⟨⟨p12, hp12⟩, b12, ho12⟩ := H12.out.2
          have HE12 : Hid (Ents p12 w12 v9 ys ∧ OwnE b12 w12 v12 ys) := ⟨hp12, ho12⟩
          clear hp12 ho12
          go_wp2_with fail
          refine (equal_own HE12.out.2 (by have := HR.out.2.2.1; omega) HE12.out.1).mono ?_
          rintro e w13 ⟨rfl, hb13⟩
          have HB13 : Hid (Below w.heap.size w w13) := by
            have h1 := (H12.out.1.on hb13).below
            exact H4.out.1.trans (h1.mono H4.out.1.size)
          clear hb13 HE12 H12
          go_wp2_with fail
          refine (awake_any w13).mono ?_
          rintro e w19 ⟨rfl, hb⟩
          have H19 : Hid (Below w.heap.size w w19) := HB13.out.trans (hb.mono HB13.out.size)
          clear hb
          go_wp2_with fail
          go_ret
          exact ⟨rfl, H19.out⟩
end Go.Proofs.YtadmecjdihfmeaaGreat.Tre

/- Statements of layer 7: for every input the law returns true. No condition. (Printed by wip/tools/treelaws.py.) -/
namespace Go.Proofs.YtadmecjdihfmeaaGreat.Tre
set_option maxRecDepth 100000
set_option linter.unusedVariables false
set_option linter.unusedSimpArgs false
open Go.ChangeShapes Go.WideShapes Go.ChangeAt Go.RowKit Go.WideMaps Go.WideElems Go.Proofs.YtadmecjdihfmeaaGreat.Mem
open Go.ChangeMaps (open_string shut_string)

theorem own : ownKnob Tryz.prog.godebug = none := by kernel_rfl
theorem laidOut : laidOutB Tryz.prog = true := by kernel_rfl

theorem do_of {H : Type} {enc : TypeId × Value → H} {W : World} {n0 n1 n2 : Nat} {c0 c1 c2 : Value} {y0 y1 y2 : DataW H × List MemPlace}
    (h0 : DataW.trod enc Tryz.prog W 0 (fun _ => true) true n0 3 [c0] = some y0) (h1 : DataW.trod enc Tryz.prog W 0 (fun _ => true) true n1 9 [c1] = some y1)
    (h2 : DataW.trod enc Tryz.prog W 0 (fun _ => true) true n2 9 [c2] = some y2) (hw : Mem.Reached ((DataW.agg [y0.1, y1.1, y2.1]).weights Tryz.prog 45)) : ∃ k, DoIs W [c0, c1, c2] k := by
  obtain ⟨x0, q0, _, w0⟩ := DataW.trod_int Tryz.underlying3 h0
  obtain ⟨x1, q1, r1, w1⟩ := DataW.trod_string Tryz.underlying9 h1
  obtain ⟨x2, q2, r2, w2⟩ := DataW.trod_string Tryz.underlying9 h2
  rw [r1, r2] at hw
  simp only [DataW.weights, Tryz.underlying45] at hw
  have hs1 := open_str_w (t := 9) (P := Tryz.prog) (H := H) (s := x1) (fun n hn => hw n (by simp [DataW.weightsEach, hn]))
  have hs2 := open_str_w (t := 9) (P := Tryz.prog) (H := H) (s := x2) (fun n hn => hw n (by simp [DataW.weightsEach, hn]))
  simp only [List.cons.injEq, and_true] at q0 q1 q2
  subst q0 q1 q2
  exact ⟨⟨x0, x1, x2⟩, rfl, w0, hs1, hs2⟩
/-- A []Do that came in. -/
theorem open_dos {H : Type} {enc : TypeId × Value → H} {W : World} {base : Nat} {v : Value} {d : DataW H} {ps : List MemPlace} (hval : Value.okWide Tryz.prog W .any base 22 v)
    (h : DataW.Trod enc Tryz.prog W 0 (fun _ => true) true 22 v d ps) (hp : ∀ x ∈ ps, x.block < W.heap.size) (hw : Mem.Reached (d.weights Tryz.prog 22)) : ∃ l, Does (· < W.heap.size) W v l := by
  obtain ⟨a, len, cap, rfl⟩ := okWide_slice Tryz.underlying22 hval
  obtain ⟨fuel, hf⟩ := h
  obtain ⟨v', l, hv, hs, _⟩ := open_slice_w (α := DoE) (sz := 3) (R := DoIs) (p := (· < W.heap.size)) Tryz.underlying22 (by kernel_rfl) (by omega) hf hp hw (fun n cs' y htr hz hr => by
    obtain ⟨y0, y1, y2, m, rfl, hl, h0, h1, h2⟩ := Deep.trod_struct3 (f0 := _) (f1 := _) (f2 := _) Tryz.underlying45 htr
    have hl3 : cs'.length = 3 := hl
    match cs', hl3 with
    | [c0, c1, c2], _ => exact do_of h0 h1 h2 hr)
  have e : v' = .slice a len cap := by simpa [Value.cells] using hv.symm
  subst e
  exact ⟨l, hs⟩
/-- A Do that came in. -/
theorem open_do {H : Type} {enc : TypeId × Value → H} {W : World} {base : Nat} {v : Value} {d : DataW H} {ps : List MemPlace} (hval : Value.okWide Tryz.prog W .any base 45 v)
    (h : DataW.Trod enc Tryz.prog W 0 (fun _ => true) true 45 v d ps) (hw : Mem.Reached (d.weights Tryz.prog 45)) : ∃ k : DoE, v = k.v ∧ k.fits := by
  obtain ⟨c0, c1, c2, y0, y1, y2, m, rfl, rfl, rfl, h0, h1, h2⟩ := Joins.open_agg3 Tryz.underlying45 (by kernel_rfl) (by kernel_rfl) hval h
  obtain ⟨k, hcs, hf⟩ := do_of h0 h1 h2 hw
  simp only [List.cons.injEq, and_true] at hcs
  obtain ⟨rfl, rfl, rfl⟩ := hcs
  exact ⟨k, rfl, hf⟩

set_option maxRecDepth 100000 in
theorem treeCosts_lifted (os : Os) (started : os.Started) (H : Type) (enc : TypeId × Value → H) :
    ReturnsInHanded {} Tryz.checked os 8 .any (Rows.treeCostsSpec.pre6 enc Tryz.prog Tryz.f8 Rows.treeCostsRow.domain false) (Rows.treeCostsSpec.post enc Tryz.prog Tryz.f8 false true false false) := by
  refine LawFrame.lifted (C := Tryz.checked) (tb := 4) own started (by kernel_rfl) Tryz.func8
    (ChangeSpec.witness6 (enc := enc) (C := Tryz.checked) false ⟨#[], #[.slice none 0 0, .agg #[.int .i64 0, .string ⟨#[]⟩, .string ⟨#[]⟩]], []⟩ 8 (by kernel_rfl) (by kernel_rfl) (by kernel_rfl) (by kernel_rfl))
    laidOut (by kernel_rfl) ⟨rfl, fun H ds hd => by match ds, hd with | [d0, d1], _ => exact ⟨rfl, rfl, rfl⟩⟩ rfl Tryz.underlying4 ?_
  intro W base args ds p hval0 hA0 hlt hfz hsz0
  have hval : ∀ (j : Nat) t v, Tryz.f8.params[j]? = some t → args[j]? = some v → Value.okWide Tryz.prog W .any base t v := hval0
  have hA : DataW.TrodAll enc Tryz.prog W 0 (fun _ => true) true Tryz.f8.params.toList args.toList ds p := hA0
  have hsz : (DataW.weightsEach Tryz.prog Tryz.f8.params.toList ds).all (· ≤ reachBytes) = true := hsz0
  rw [Tryz.params8] at hA hval hsz
  obtain ⟨v0, v1, d0, d1, p0, p1, rfl, rfl, rfl, h0, h1⟩ := trodAll_two hA
  obtain ⟨l, Hl⟩ := open_dos (hval 0 22 v0 rfl rfl) h0 (fun x hx => hlt x (by simp [hx])) (fun n hn => of_decide_eq_true (List.all_eq_true.1 hsz n (by simp [DataW.weightsEach, hn])))
  obtain ⟨k, rfl, Fk⟩ := open_do (hval 1 45 v1 rfl rfl) h1 (fun n hn => of_decide_eq_true (List.all_eq_true.1 hsz n (by simp [DataW.weightsEach, hn])))
  exact treeCosts_any W v0 l k Hl Fk
theorem treeCosts_holds : Rows.TreeCostsSaid :=
  OpenClaim.holds_of_wide 8 Tryz.f8 rfl rfl rfl rfl rfl rfl rfl ⟨rfl, rfl, rfl, rfl, rfl⟩ rfl rfl rfl rfl rfl (by kernel_rfl) Tryz.func8 (by kernel_rfl)
    (of_decide_eq_true (by kernel_rfl)) (by unfold Func.isWrapper; rw [if_neg (of_decide_eq_false (by kernel_rfl))]; exact ⟨rfl, rfl⟩)
    (fun os started H enc _ => treeCosts_lifted os started H enc)

end Go.Proofs.YtadmecjdihfmeaaGreat.Tre

