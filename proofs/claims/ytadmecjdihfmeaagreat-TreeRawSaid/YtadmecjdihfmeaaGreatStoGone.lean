/- Layer 6: what goes. -/
import Derived.Test.YtadmecjdihfmeaaGreatStoOps
import Derived.Test.YtadmecjdihfmeaaGreatStoWF
import Derived.Test.YtadmecjdihfmeaaGreatMemDel
namespace Go.Proofs.YtadmecjdihfmeaaGreat.Sto
set_option linter.unusedVariables false
set_option linter.unusedSimpArgs false
set_option maxRecDepth 100000
open Go.RowKit Go.Lib Go.Proofs.YtadmecjdihfmeaaGreat.Mem Go.Proofs.YtadmecjdihfmeaaGreat.Oct Go.Proofs.YtadmecjdihfmeaaGreat.Dev

theorem CellsAt.del {w w' : World} {B : Blk} {f : Int → Option Cel} {mm : Int → Option CV} {i : Int} (h : CellsAt w B f mm) (hm : IsI celV w' B.c (upd mm i none)) (hc : Chg [B.c] w w') : CellsAt w' B (upd f i none) (upd mm i none) := by
  have hT : ∀ q, B.out q → q ∉ [B.c] := fun q hq hm => hq.1 (by simp at hm; subst hm; simp [Blk.all])
  refine ⟨hm, fun j => ?_, fun j c' a' k' hj => ?_⟩
  · by_cases hji : j = i
    · subst hji; rw [upd_same, upd_same]; rfl
    · rw [upd_other _ _ _ hji, upd_other _ _ _ hji]; exact h.eq j
  · by_cases hji : j = i
    · subst hji; rw [upd_same] at hj; cases hj
    · rw [upd_other _ _ _ hji] at hj; exact (h.kids j c' a' k' hj).chg hc hT
/-- what a place holds, asked with 'ok' -/
theorem CellsAt.get2 {w : World} {B : Blk} {f : Int → Option Cel} {mm : Int → Option CV} (h : CellsAt w B f mm) (i : Int) {c : Cel} (hc : f i = some c) : ∃ a k, (Instr.lookup 94 (.map (some B.c)) (.int .i64 i) true).run Tryz.prog w = .ok (.tuple #[celV (c, a, k), .bool true]) w ∧ Ints B.out w (.slice a c.kids.length k) c.kids := by
  have he := h.eq i
  rw [hc] at he
  cases hi : mm i with
  | none => rw [hi] at he; cases he
  | some q =>
    obtain ⟨c', a, k⟩ := q
    rw [hi] at he
    have : c' = c := by simpa using he
    subst this
    have hl := h.is.look (P := Tryz.prog) Tryz.underlying94 Tryz.underlying3 (zero_cell w) i
    rw [hi] at hl
    exact ⟨a, k, hl, h.kids i c' a k hi⟩
theorem CellsAt.get2n {w : World} {B : Blk} {f : Int → Option Cel} {mm : Int → Option CV} (h : CellsAt w B f mm) (i : Int) (hc : f i = none) : (Instr.lookup 94 (.map (some B.c)) (.int .i64 i) true).run Tryz.prog w = .ok (.tuple #[celV (noCel, none, 0), .bool false]) w := by
  have he := h.eq i
  rw [hc] at he
  cases hi : mm i with
  | some q => rw [hi] at he; cases he
  | none =>
    have hl := h.is.look (P := Tryz.prog) Tryz.underlying94 Tryz.underlying3 (zero_cell w) i
    rw [hi] at hl
    exact hl
theorem loose_any (w : World) (c : Cel) (a : Option Addr) (k : Nat) (h1 : 0 ≤ c.named ∧ c.named ≤ 1099511627776) (h2 : 0 ≤ c.held ∧ c.held ≤ 4611686018427387904) : Calls Tryz.prog 77 #[celV (c, a, k)] w fun e w' => e = .returned (.bool (c.named + c.held == 0)) ∧ Below w.heap.size w w' := by
  obtain ⟨q1, q2⟩ := h1
  obtain ⟨q3, q4⟩ := h2
  go_enter Tryz.func77, Tryz.ntmps77
  go_wp2_with fail
  go_ret
  exact ⟨rfl, (Below.refl _ _).alloc (Nat.le_refl _) _⟩
/-- what goes, by its definition -/
theorem goneF_none {S : StS} {i : Int} (h : S.cells i = none) : ∀ f, S.goneF f i = S
  | 0 => rfl
  | f + 1 => by rw [StS.goneF, h]
theorem goneF_stay {S : StS} {i : Int} {c : Cel} (h : S.cells i = some c) (hl : ¬ c.named + c.held = 0) : ∀ f, S.goneF f i = S
  | 0 => rfl
  | f + 1 => by rw [StS.goneF, h]; exact if_neg hl
theorem goneF_go {S : StS} {i : Int} {c : Cel} (h : S.cells i = some c) (hl : c.named + c.held = 0) (f : Nat) : S.goneF (f + 1) i = c.kids.foldl (fun T k => StS.goneF f (T.name k (-1)) k) (S.setC i none) := by
  rw [StS.goneF, h]; exact if_pos hl
set_option maxHeartbeats 8000000 in
theorem gone_any (D : DevS) (B : Blk) (n : Nat) : ∀ (f : Nat) (w : World) (S : StS) (pend : List Int) (i : Int), StAt w B S D → WF n S pend → num S.cells n ≤ f →
    Calls Tryz.prog 48 #[.pointer (some ⟨B.s, 0, none⟩), .int .i64 i] w fun e w' => e = .returned (.tuple #[]) ∧ StAt w' B (S.goneF f i) D ∧ Chg B.all w w' := by
  intro f
  induction f with
  | zero =>
    intro w S pend i h hwf hn
    have hno : S.cells i = none := by
      cases hc : S.cells i with
      | none => rfl
      | some c =>
        have hd := hwf.dom i c hc
        obtain ⟨q, rfl⟩ := Int.eq_ofNat_of_zero_le (show 0 ≤ i by omega)
        have := num_pos n q (by omega) (f := S.cells) (by rw [hc]; rfl)
        omega
    have hg : Hid (S.goneF 0 i = S) := rfl
    obtain ⟨c0, c1, c2, c3, c4, c5, cf⟩ := h.cell
    obtain ⟨mm, hm⟩ := h.cells
    have hl := hm.get2n i hno
    have H : Hid (StAt w B S D) := h
    clear h hm c0 c1 c2 c3 c5 cf hwf hn hno
    go_enter Tryz.func48, Tryz.ntmps48
    go_wp2
    first | go_end0 | refine bodyPost_ret (results_none rfl _ _ _) rfl ?_
    have hb := (Below.refl w.heap.size w).alloc (Nat.le_refl _) (.cells #[.int .i64 0, .int .i64 0, .int .i64 0, .slice none 0 0] 113)
    exact ⟨rfl, H.out.on hb, Chg.of_below hb⟩
  | succ f ih =>
    intro w S pend i h hwf hn
    obtain ⟨c0, c1, c2, c3, c4, c5, cf⟩ := h.cell
    obtain ⟨mm, hm⟩ := h.cells
    have H : Hid (StAt w B S D) := h
    have HI : Hid (∀ (w : World) (S : StS) (pend : List Int) (i : Int), StAt w B S D → WF n S pend → num S.cells n ≤ f →
      Calls Tryz.prog 48 #[.pointer (some ⟨B.s, 0, none⟩), .int .i64 i] w fun e w' => e = .returned (.tuple #[]) ∧ StAt w' B (S.goneF f i) D ∧ Chg B.all w w') := ih
    clear h ih c0 c1 c2 c3 c5 cf
    cases hc : S.cells i with
    | none =>
      have hg : Hid (S.goneF (f + 1) i = S) := goneF_none hc _
      have hl := hm.get2n i hc
      clear hm hwf hn hc HI
      go_enter Tryz.func48, Tryz.ntmps48
      go_wp2
      first | go_end0 | refine bodyPost_ret (results_none rfl _ _ _) rfl ?_
      have hb := (Below.refl w.heap.size w).alloc (Nat.le_refl _) (.cells #[.int .i64 0, .int .i64 0, .int .i64 0, .slice none 0 0] 113)
      exact ⟨rfl, by rw [hg.out]; exact H.out.on hb, Chg.of_below hb⟩
    | some c =>
      obtain ⟨a, k, hl, hk⟩ := hm.get2 i hc
      have hnm := hwf.named i c hc
      have htop := hwf.top i c hc
      have hheld := hwf.held i c hc
      have hlen := hwf.len i c hc
      have HN : Hid ((0 ≤ c.named ∧ c.named ≤ 1099511627776) ∧ (0 ≤ c.held ∧ c.held ≤ 4611686018427387904)) := ⟨⟨by omega, htop⟩, hheld⟩
      have HK : Hid (Ints B.out w (.slice a c.kids.length k) c.kids) := hk
      have HC : Hid (S.cells i = some c ∧ WF n S pend ∧ num S.cells n ≤ f + 1 ∧ CellsAt w B S.cells mm) := ⟨hc, hwf, hn, hm⟩
      clear hm hk hnm htop hheld hc hwf hn
      cases hlo : (c.named + c.held == 0) with
      | false =>
        have hg : Hid (S.goneF (f + 1) i = S) := goneF_stay HC.out.1 (by simpa using hlo) _
        go_enter Tryz.func48, Tryz.ntmps48
        go_wp2_with (first
          | (go_at_call 77; refine (loose_any _ c a k HN.out.1 HN.out.2).mono ?_; rintro e w1 ⟨rfl, hb⟩; rw [hlo]; have HB : Hid (Below _ _ w1) := hb; clear hb)
          | fail)
        first | go_end0 | refine bodyPost_ret (results_none rfl _ _ _) rfl ?_
        have hb0 := (Below.refl w.heap.size w).alloc (Nat.le_refl _) (.cells #[.int .i64 c.named, .int .i64 c.held, .int .i64 c.high, .slice a c.kids.length k] 113)
        have hb := hb0.trans (HB.out.mono hb0.size)
        exact ⟨rfl, by rw [hg.out]; exact H.out.on hb, Chg.of_below hb⟩
      | true =>
        have hl0 : c.named + c.held = 0 := by simpa using hlo
        go_enter Tryz.func48, Tryz.ntmps48
        go_wp2_with fail
        have hb0 : Below w.heap.size w (w.alloc (.cells #[.int .i64 c.named, .int .i64 c.held, .int .i64 c.high, .slice a c.kids.length k] 113)) := (Below.refl w.heap.size w).alloc (Nat.le_refl _) _
        have hx0 : (w.alloc (.cells #[.int .i64 c.named, .int .i64 c.held, .int .i64 c.high, .slice a c.kids.length k] 113)).heap[w.heap.size]? = some (.cells #[.int .i64 c.named, .int .i64 c.held, .int .i64 c.high, .slice a c.kids.length k] 113 (0, 0)) := heap_alloc_last _ _
        generalize w.alloc (.cells #[.int .i64 c.named, .int .i64 c.held, .int .i64 c.high, .slice a c.kids.length k] 113) = w0 at hb0 hx0 ⊢
        refine (loose_any _ c a k HN.out.1 HN.out.2).mono ?_
        rintro e w1 ⟨rfl, hb⟩
        rw [hlo]
        have hb1 : Below w.heap.size w w1 := hb0.trans (hb.mono hb0.size)
        have hs1 : StAt w1 B S D := H.out.on hb1
        have hm1 : CellsAt w1 B S.cells mm := HC.out.2.2.2.chg (T := []) (Chg.of_below hb1) (by simp)
        have hx1 : w1.heap[w.heap.size]? = some (.cells #[.int .i64 c.named, .int .i64 c.held, .int .i64 c.high, .slice a c.kids.length k] 113 (0, 0)) := (hb.block _ (heap_lt hx0)).trans hx0
        obtain ⟨w2, hrun, hm2, ht2⟩ := hm1.is.del (P := Tryz.prog) Tryz.underlying94 Tryz.underlying3 i 0 3
        have hs2 : StAt w2 B (S.setC i none) D := hs1.setCells ht2 (hm1.del hm2 ht2) rfl rfl
        have hne : w.heap.size ≠ B.c := fun e => by have := H.out.lt B.c (by simp [Blk.all]); omega
        have hx2 : w2.heap[w.heap.size]? = some (.cells #[.int .i64 c.named, .int .i64 c.held, .int .i64 c.high, .slice a c.kids.length k] 113 (0, 0)) := (ht2.block _ (heap_lt hx1) (by simpa using hne)).trans hx1
        have hc2 : Chg B.all w w2 := (Chg.of_below hb1).trans (ht2.mono B.c_mem)
        obtain ⟨d0, d1, d2, d3, d4, d5, df⟩ := hs1.cell
        have x3 : w2.cell? ⟨w.heap.size, 3, none⟩ = some (.slice a c.kids.length k) := cell_at hx2 3
        have hwf1 := HC.out.2.1.gone HC.out.1 hl0
        have hnum : num (S.setC i none).cells n ≤ f := by
          have hd := HC.out.2.1.dom i c HC.out.1
          have := num_upd (f := S.cells) (j := i) (o := none) n (by omega) hd.2
          rw [HC.out.1] at this
          have h2 := HC.out.2.2.1
          simp [StS.setC] at this ⊢
          omega
        have HG : Hid (c.kids.foldl (fun T k => StS.goneF f (T.name k (-1)) k) (S.setC i none) = S.goneF (f + 1) i) := (goneF_go HC.out.1 hl0 f).symm
        have HS2 : Hid (StAt w2 B (S.setC i none) D ∧ WF n (S.setC i none) (c.kids ++ pend) ∧ num (S.setC i none).cells n ≤ f ∧ Chg B.all w w2) := ⟨hs2, hwf1, hnum, hc2⟩
        clear hb0 hx0 hb hb1 hs1 hm1 hx1 hm2 ht2 hs2 hne hx2 hc2 hwf1 hnum hl0 hlo d0 d1 d2 d3 d5 df c4 hl
        go_wp2_with fail
        go_loopw [32] (fun v wr => ∃ (j : Nat) (T : StS), j ≤ c.kids.length ∧ v = .int .i64 j ∧ Hid (StAt wr B T D ∧ WF n T (c.kids.drop j ++ pend) ∧ num T.cells n ≤ f ∧ Chg B.all w wr ∧ (c.kids.drop j).foldl (fun T k => StS.goneF f (T.name k (-1)) k) T = S.goneF (f + 1) i)) (fun v _ => c.kids.length - (intOf v).toNat)
        case atStart => exact ⟨0, _, by omega, rfl, HS2.out.1, HS2.out.2.1, HS2.out.2.2.1, HS2.out.2.2.2, HG.out⟩
        case round =>
          obtain ⟨j, T, hj, rfl, HT⟩ := hrel
          clear x3
          by_cases hlt : j < c.kids.length
          · have hdr : c.kids.drop j = c.kids[j] :: c.kids.drop (j + 1) := List.drop_eq_getElem_cons hlt
            obtain ⟨a', c', e', _, hcell⟩ := (Ints.chg HK.out HT.out.2.2.2.1 (fun q hq => hq.1)).form
            obtain ⟨b, o, ha, hcj⟩ := hcell j hlt
            have haa : a = a' := by injection e'
            subst haa
            subst ha
            obtain ⟨kj, hkj⟩ : ∃ kj, kj = c.kids[j] := ⟨_, rfl⟩
            rw [← hkj] at hcj hdr
            have hwfT := HT.out.2.1
            rw [hdr] at hwfT
            have hfold := HT.out.2.2.2.2
            rw [hdr, List.foldl_cons] at hfold
            obtain ⟨cj, hcj2⟩ := has_iff.1 (hwfT.pend kj (by simp))
            have hwf2 : WF n (T.name kj (-1)) (c.kids.drop (j + 1) ++ pend) := WF.name (by simpa using hwfT)
            have hnum2 : num (T.name kj (-1)).cells n ≤ f := by
              have hcel := cel_some hcj2
              have e : (T.name kj (-1)).cells = upd T.cells kj (some { cj with named := cj.named + -1 }) := by rw [StS.name, hcel]; rfl
              rw [e, num_same hcj2]
              exact HT.out.2.2.1
            have hrange : Hid (-9223372036854775808 ≤ (T.cel kj).named + -1 ∧ (T.cel kj).named + -1 ≤ 9223372036854775807) := by
              rw [cel_some hcj2]
              have h1 := hwfT.named kj cj hcj2
              have h2 := hwfT.top kj cj hcj2
              exact ⟨by omega, by omega⟩
            have HW : Hid (WF n (T.name kj (-1)) (c.kids.drop (j + 1) ++ pend) ∧ num (T.name kj (-1)).cells n ≤ f ∧ (c.kids.drop (j + 1)).foldl (fun T k => StS.goneF f (T.name k (-1)) k) (StS.goneF f (T.name kj (-1)) kj) = S.goneF (f + 1) i) := ⟨hwf2, hnum2, hfold⟩
            clear e' hcell hdr hwfT hfold hcj2 hwf2 hnum2 hkj
            go_wp2_with (first
              | (go_at_call 63; refine (name_any _ B T D kj (-1) HT.out.1 hrange.out).mono ?_; rintro e w3 ⟨rfl, hs3, hc3⟩; have H3 : Hid (StAt w3 B (T.name kj (-1)) D ∧ Chg B.all w w3) := ⟨hs3, HT.out.2.2.2.1.trans hc3⟩; clear hs3 hc3)
              | (go_at_call 48; refine (HI.out _ _ _ kj H3.out.1 HW.out.1 HW.out.2.1).mono ?_; rintro e w4 ⟨rfl, hs4, hc4⟩; have H4 : Hid (StAt w4 B (StS.goneF f (T.name kj (-1)) kj) D ∧ Chg B.all w w4) := ⟨hs4, H3.out.2.trans hc4⟩; clear hs4 hc4)
              | fail)
            go_roundw
            case rel =>
              have hgw := gone_wf f (T.name kj (-1)) kj _ HW.out.1 HW.out.2.1
              exact ⟨j + 1, _, by omega, by go_num, H4.out.1, hgw.1, Nat.le_trans hgw.2 HW.out.2.1, H4.out.2, HW.out.2.2⟩
            case measure => simp [intOf]; omega
          · have hjl : j = c.kids.length := by omega
            subst hjl
            have HT2 : Hid (StAt wr B (S.goneF (f + 1) i) D ∧ Chg B.all w wr) := by
              have := HT.out.2.2.2.2
              rw [List.drop_length, List.foldl_nil] at this
              exact ⟨this ▸ HT.out.1, HT.out.2.2.2.1⟩
            clear HT
            go_wp2
            first | go_end0 | refine bodyPost_ret (results_none rfl _ _ _) rfl ?_
            exact ⟨rfl, HT2.out⟩
end Go.Proofs.YtadmecjdihfmeaaGreat.Sto
