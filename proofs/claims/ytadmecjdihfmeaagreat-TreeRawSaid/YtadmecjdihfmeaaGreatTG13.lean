/- TreLawA: several texts of one proof, laid as one file (a claim has at most 60 files). No condition. -/
import Derived.Test.YtadmecjdihfmeaaGreatTG12
/- Layer 7: TreeLow, TreeRanges, walked. -/
namespace Go.Proofs.YtadmecjdihfmeaaGreat.Tre
set_option linter.unusedVariables false
set_option linter.unusedSimpArgs false
set_option maxRecDepth 100000
open Go.RowKit Go.Lib Go.Proofs.YtadmecjdihfmeaaGreat.Mem Go.Proofs.YtadmecjdihfmeaaGreat.Oct Go.Proofs.YtadmecjdihfmeaaGreat.Dev Go.Proofs.YtadmecjdihfmeaaGreat.Sto

theorem equal_ents {p q : Nat → Prop} {w : World} {v u : Value} {l : List En} (h : Ents p w v l) (k : Ents q w u l) :
    Calls Tryz.prog 18 #[v, u] w fun e w' => e = .returned (.bool true) ∧ Below w.heap.size w w' := by
  obtain ⟨a, ca, rfl, hl⟩ := h.form
  obtain ⟨b, cb, rfl, _⟩ := k.form
  refine equal_row w a b l.length ca cb ⟨hl, fun j hj => ?_⟩
  obtain ⟨b1, o1, e1, _, h1, h2⟩ := h.at j hj
  obtain ⟨b2, o2, e2, _, h3, h4⟩ := k.at j hj
  exact ⟨b1, o1, b2, o2, _, _, e1, e2, h1, h2, h3, h4⟩
/-- the same rows are told the same -/
theorem equal_own {base : Nat} {q : Nat → Prop} {w : World} {v u : Value} {l : List En} (h : OwnE base w v l) (hl : l.length ≤ 9223372036854775807) (k : Ents q w u l) :
    Calls Tryz.prog 18 #[v, u] w fun e w' => e = .returned (.bool true) ∧ Below w.heap.size w w' := equal_ents (h.ents hl) k
def LawIs (w : World) (e : Ending) (w' : World) : Prop := e = .returned (.bool true) ∧ Below w.heap.size w w'
theorem Made.below {w0 w : World} {B : Blk} {n m : Nat} {L : List (Int × List En)} {root : Int} {es : List En} {v : Value} (h : Made w0 B n m L root es v w) : Below w0.heap.size w0 w := by
  obtain ⟨S, D, h1, h2⟩ := h.ex
  exact h1.below
theorem low_ok {S : StS} {D : DevS} {root : Int} {es : List En} (h : Tree S D root es) : ((heightN S D root = 0) ↔ es.length = 0) ∧ heightN S D root ≤ 21 ∧ ∀ k, 1 ≤ k → es.length < 2 * 4 ^ k → heightN S D root ≤ k := by
  by_cases h0 : root = 0
  · have : heightN S D root = 0 := by unfold heightN; exact if_pos h0
    rw [this, h.nil h0]
    exact ⟨by simp, by omega, fun k hk _ => by omega⟩
  · obtain ⟨nd, hr⟩ := h.node h0
    have e : heightN S D root = nd.level + 1 := by unfold heightN; rw [if_neg h0, hr.load]
    have hne : es.length ≠ 0 := fun hl => hr.ne (List.length_eq_zero_iff.1 hl)
    have hlv := hr.nd.level
    rw [e]
    refine ⟨by constructor <;> intro h <;> omega, by omega, fun k hk hlt => ?_⟩
    by_cases hc : nd.level + 1 ≤ k
    · exact hc
    · have := hr.low (by omega)
      have : 4 ^ k ≤ 4 ^ nd.level := Nat.pow_le_pow_right (by decide) (by omega)
      omega
/-- the start of a law -/
theorem made_fresh {w0 w : World} {B : Blk} {n : Nat} {D : DevS} {a : Option Addr} {c : Nat} {l : List DoE} (hn : 8 ≤ n ∧ n ≤ 4096) (hl : l.length ≤ 300) (hln : 352 ≤ n) (hsc : Sc w0 B (StS.fresh nil8) D w) (hst : St n 0 (StS.fresh nil8) D [(0, [])]) (hd : Does (· < w0.heap.size) w0 (.slice a l.length c) l) :
    Calls Tryz.prog 13 #[.pointer (some ⟨B.s, 0, none⟩), .slice a l.length c] w fun e w' => ∃ root v, e = .returned (.tuple #[.int .i64 root, v]) ∧ Made w0 B n l.length [] root (playE l []) v w' :=
  made_any w0 w B n _ D a c l hn hl (by omega) hsc hst hd
theorem play_len {l : List DoE} (h : l.length ≤ 300) : (playE l []).length ≤ 300 := by
  have := playE_len l []
  simp at this
  omega
theorem Made.up {w0 w : World} {B : Blk} {n m : Nat} {L : List (Int × List En)} {root : Int} {es : List En} {v : Value} (h : Made w0 B n m L root es v w) : Up w0 B n m L root es w := h.ex
theorem rangeE_len (es : List En) (frm upt : ByteArray) (most : Int) : (rangeE es frm upt most).length ≤ es.length := by
  unfold rangeE
  rw [List.length_take]
  have := List.length_filter_le (inR frm upt) es
  omega
theorem Up.range {w0 w : World} {B : Blk} {n m : Nat} {L : List (Int × List En)} {root : Int} {es : List En} (h : Up w0 B n m L root es w) (frm upt : ByteArray) (most : Int) (hes : es.length ≤ 1048576) :
    Calls Tryz.prog 26 #[.pointer (some ⟨B.s, 0, none⟩), .int .i64 root, .string frm, .string upt, .int .i64 most] w fun e w' => ∃ v, e = .returned (.tuple #[v, .int .i64 0]) ∧ OwnE w.heap.size w' v (rangeE es frm upt most) ∧ Below w.heap.size w w' := by
  obtain ⟨S, D, h1, h2⟩ := h
  have ht := h2.trees (root, es) (by simp)
  refine (treeRange_any w B S D root frm upt most h1.st (range_any h2.run ht hes frm upt most)).mono ?_
  rw [RangeF_ok ht]
  intro e w' hr
  exact hr
set_option maxHeartbeats 8000000 in
theorem treeLow_any (w : World) (v : Value) (l : List DoE) (h : Does (· < w.heap.size) w v l) : Calls Tryz.prog 3 #[v] w (LawIs w) := by
  obtain ⟨a, c, rfl, hm⟩ := h.len
  have H : Hid (Does (· < w.heap.size) w (.slice a l.length c) l ∧ (8 ≤ 700 ∧ 700 ≤ 4096)) := ⟨h, by omega⟩
  clear h
  go_enter Tryz.func3, Tryz.ntmps3
  go_wp2_with fail
  refine (short_any w a l.length c H.out.1.rd).mono ?_
  rintro e w1 ⟨x, rfl, hx, hb⟩
  cases x with
  | false =>
    have H1 : Hid (Below w.heap.size w w1) := hb
    clear hb hx
    go_wp2_with fail
    refine (awake_any w1).mono ?_
    rintro e w2 ⟨rfl, hb⟩
    have H2 : Hid (Below w.heap.size w w2) := H1.out.trans (hb.mono H1.out.size)
    clear hb
    go_wp2_with fail
    go_ret
    exact ⟨rfl, H2.out⟩
  | true =>
    have HL : Hid (l.length ≤ 300) := hx rfl
    have H1 : Hid (Does (· < w1.heap.size) w1 (.slice a l.length c) l ∧ Below w.heap.size w w1) := ⟨(H.out.1.on hb).wide hb.size, hb⟩
    clear hb hx
    go_wp2_with fail
    refine (fresh_any w1 700 H.out.2).mono ?_
    rintro e w2 ⟨B, D, rfl, hsc, hst⟩
    have H2 : Hid (Sc w1 B (StS.fresh nil8) D w2 ∧ St 700 0 (StS.fresh nil8) D [(0, [])]) := ⟨hsc, hst⟩
    clear hsc hst
    go_wp2_with fail
    refine (made_fresh H.out.2 HL.out (by omega) H2.out.1 H2.out.2 H1.out.1).mono ?_
    rintro e w3 ⟨root, v3, rfl, hM⟩
    obtain ⟨es, hes⟩ : ∃ es, es = playE l [] := ⟨_, rfl⟩
    have hel : es.length ≤ 300 := by rw [hes]; exact play_len HL.out
    rw [← hes] at hM
    clear hes
    obtain ⟨a3, c3, rfl, _⟩ := hM.row.form
    have H3 : Hid (Made w1 B 700 l.length [] root es (.slice a3 es.length c3) w3) := hM
    clear hM H2
    go_wp2_with fail
    refine H3.out.up.height.mono ?_
    rintro e w4 ⟨S, D4, ht, rfl, hb4⟩
    obtain ⟨hz, h21, hlow⟩ := low_ok ht
    obtain ⟨g, hg⟩ : ∃ g, g = heightN S D4 root := ⟨_, rfl⟩
    rw [← hg] at hz h21 hlow ⊢
    clear hg ht
    obtain ⟨m, hme⟩ : ∃ m, m = es.length := ⟨_, rfl⟩
    have HLOW : Hid (∀ k, 1 ≤ k → m < 2 * 4 ^ k → g ≤ k) := by rw [hme]; exact hlow
    have H4 : Hid (Below w.heap.size w w4) := H1.out.2.trans ((H3.out.below.trans (hb4.mono H3.out.below.size)).mono H1.out.2.size)
    rw [← hme] at hz hel H3 ⊢
    clear hlow hme hb4 H3
    have hbb : ((g : Int) == 0) = ((m : Int) == 0) := by
      by_cases h0 : m = 0
      · have : g = 0 := hz.2 h0
        rw [h0, this]
      · have : g ≠ 0 := fun hg => h0 (hz.1 hg)
        have e1 : ((g : Int) == 0) = false := by simpa using this
        have e2 : ((m : Int) == 0) = false := by simpa using h0
        rw [e1, e2]
    clear hz
    go_wp2_with fail
    clear hbb
    go_loopw [8, 9] (fun v8 v9 wr => ∃ k q : Nat, (1 ≤ k ∧ k ≤ 12) ∧ q ≤ 33554432 ∧ v8 = .int .i64 q ∧ v9 = .int .i64 k ∧ Hid (q = 2 * 4 ^ k ∧ Below w.heap.size w wr)) (fun _ v9 _ => 12 - (intOf v9).toNat)
    case atStart => exact ⟨1, 8, by omega, by omega, rfl, rfl, by decide, H4.out⟩
    case round =>
      obtain ⟨k, q, ⟨hk1, hk⟩, hq, rfl, rfl, HT⟩ := hrel
      by_cases hlt : k < 12
      · have hlt' : (k : Int) < 12 := by omega
        have HQ : Hid (q * 4 = 2 * 4 ^ (k + 1)) := by show _ = _; rw [HT.out.1, Nat.pow_succ]; omega
        have hq4 : q * 4 ≤ 33554432 := by
          have : 4 ^ (k + 1) ≤ 4 ^ 12 := Nat.pow_le_pow_right (by decide) (by omega)
          have h2 := HQ.out
          omega
        have hge : m < q → ¬ (k : Int) < g := fun hmq => by
          have h1 := HT.out.1
          have h2 := HLOW.out k hk1 (by omega)
          omega
        by_cases hmq : (m : Int) < q
        · have hgk := hge (by omega)
          clear hge
          go_wp2_with fail
          go_roundw
          case rel => exact ⟨k + 1, q * 4, by omega, hq4, by go_num, by go_num, HQ.out, HT.out.2⟩
          case measure => simp [intOf]; omega
        · clear hge
          go_wp2_with fail
          go_roundw
          case rel => exact ⟨k + 1, q * 4, by omega, hq4, by go_num, by go_num, HQ.out, HT.out.2⟩
          case measure => simp [intOf]; omega
      · have hk12 : k = 12 := by omega
        subst hk12
        have hq0 : q = 33554432 := HT.out.1.trans (by decide)
        subst hq0
        go_wp2_with fail
        refine (awake_any wr).mono ?_
        rintro e w5 ⟨rfl, hb⟩
        have H5 : Hid (Below w.heap.size w w5) := HT.out.2.trans (hb.mono HT.out.2.size)
        clear hb
        go_wp2_with fail
        go_ret
        exact ⟨rfl, H5.out⟩
theorem len_size (s : ByteArray) : s.toList.length = s.size := by rw [toList_data, Array.length_toList]; rfl
set_option maxHeartbeats 8000000 in
theorem treeRanges_any (w : World) (v : Value) (l : List DoE) (frm upt : ByteArray) (most : Int) (h : Does (· < w.heap.size) w v l) : Calls Tryz.prog 6 #[v, .string frm, .string upt, .int .i64 most] w (LawIs w) := by
  obtain ⟨a, c, rfl, hm⟩ := h.len
  have H : Hid (Does (· < w.heap.size) w (.slice a l.length c) l ∧ (8 ≤ 700 ∧ 700 ≤ 4096)) := ⟨h, by omega⟩
  clear h
  go_enter Tryz.func6, Tryz.ntmps6
  go_wp2_with fail
  refine (short_any w a l.length c H.out.1.rd).mono ?_
  rintro e w1 ⟨x, rfl, hx, hb⟩
  have HB1 : Hid (Below w.heap.size w w1) := hb
  cases x with
  | false =>
    clear hb hx
    go_wp2_with fail
    refine (awake_any w1).mono ?_
    rintro e w9 ⟨rfl, hb⟩
    have H9 : Hid (Below w.heap.size w w9) := HB1.out.trans (hb.mono HB1.out.size)
    clear hb
    go_wp2_with fail
    go_ret
    exact ⟨rfl, H9.out⟩
  | true =>
    have HL : Hid (l.length ≤ 300) := hx rfl
    have H1 : Hid (Does (· < w1.heap.size) w1 (.slice a l.length c) l) := (H.out.1.on hb).wide hb.size
    clear hb hx
    by_cases hf : 16384 < (frm.size : Int)
    · go_wp2_with fail
      refine (awake_any w1).mono ?_
      rintro e w9 ⟨rfl, hb⟩
      have H9 : Hid (Below w.heap.size w w9) := HB1.out.trans (hb.mono HB1.out.size)
      clear hb
      go_wp2_with fail
      go_ret
      exact ⟨rfl, H9.out⟩
    · by_cases hu : 16384 < (upt.size : Int)
      · go_wp2_with fail
        refine (awake_any w1).mono ?_
        rintro e w9 ⟨rfl, hb⟩
        have H9 : Hid (Below w.heap.size w w9) := HB1.out.trans (hb.mono HB1.out.size)
        clear hb
        go_wp2_with fail
        go_ret
        exact ⟨rfl, H9.out⟩
      · have HF : Hid (frm.size ≤ 1048576 ∧ upt.size ≤ 1048576) := ⟨by omega, by omega⟩
        go_wp2_with fail
        clear hf hu
        refine (fresh_any w1 700 H.out.2).mono ?_
        rintro e w2 ⟨B, D, rfl, hsc, hst⟩
        have H2 : Hid (Sc w1 B (StS.fresh nil8) D w2 ∧ St 700 0 (StS.fresh nil8) D [(0, [])]) := ⟨hsc, hst⟩
        clear hsc hst
        go_wp2_with fail
        refine (made_fresh H.out.2 HL.out (by omega) H2.out.1 H2.out.2 H1.out).mono ?_
        rintro e w3 ⟨root, v3, rfl, hM⟩
        obtain ⟨es, hes⟩ : ∃ es, es = playE l [] := ⟨_, rfl⟩
        have hel : es.length ≤ 300 := by rw [hes]; exact play_len HL.out
        rw [← hes] at hM
        have H3 : Hid (Made w1 B 700 l.length [] root es v3 w3 ∧ es.length ≤ 300) := ⟨hM, hel⟩
        clear hM H2 hes hel
        go_wp2_with fail
        refine (H3.out.1.up.range frm upt most (by have := H3.out.2; omega)).mono ?_
        rintro e w4 ⟨v4, rfl, ho4, hb4⟩
        have H4 : Hid (Made w1 B 700 l.length [] root es v3 w4 ∧ OwnE w3.heap.size w4 v4 (rangeE es frm upt most)) := ⟨H3.out.1.on hb4, ho4⟩
        clear ho4 hb4
        go_wp2_with fail
        refine (refRange_any _ w4 v3 es frm upt most H4.out.1.row (by have := H3.out.2; omega) HF.out.1 HF.out.2).mono ?_
        rintro e w5 ⟨v5, rfl, ho5, hb5⟩
        rw [refRange_ok] at ho5
        have hrl : (rangeE es frm upt most).length ≤ 9223372036854775807 := by have := rangeE_len es frm upt most; have := H3.out.2; omega
        have H5 : Hid (Below w1.heap.size w1 w5 ∧ OwnE w3.heap.size w5 v4 (rangeE es frm upt most) ∧ OwnE w4.heap.size w5 v5 (rangeE es frm upt most) ∧ (rangeE es frm upt most).length ≤ 9223372036854775807) := ⟨(H4.out.1.on hb5).below, H4.out.2.on hb5, ho5, hrl⟩
        clear ho5 hb5 hrl H4
        go_wp2_with fail
        refine (equal_own H5.out.2.1 H5.out.2.2.2 (H5.out.2.2.1.ents H5.out.2.2.2)).mono ?_
        rintro e w6 ⟨rfl, hb6⟩
        have H6 : Hid (Below w.heap.size w w6) := HB1.out.trans ((H5.out.1.trans (hb6.mono H5.out.1.size)).mono HB1.out.size)
        clear hb6 H5
        go_wp2_with fail
        refine (awake_any w6).mono ?_
        rintro e w9 ⟨rfl, hb⟩
        have H9 : Hid (Below w.heap.size w w9) := H6.out.trans (hb.mono H6.out.size)
        clear hb
        go_wp2_with fail
        go_ret
        exact ⟨rfl, H9.out⟩
end Go.Proofs.YtadmecjdihfmeaaGreat.Tre

