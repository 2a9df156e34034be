/- StoreCounts, walked. -/
import Derived.Test.YtanpkghdgdkdlaaStoLawBack
import Derived.Test.YtanpkghdgdkdlaaDevDirty
namespace Go.Proofs.Ytanpkghdgdkdlaa.Sto
set_option linter.unusedVariables false
set_option linter.unusedSimpArgs false
set_option maxRecDepth 100000
open Go.RowKit Go.Lib Go.Proofs.Ytanpkghdgdkdlaa.Mem Go.Proofs.Ytanpkghdgdkdlaa.Oct Go.Proofs.Ytanpkghdgdkdlaa.Dev

/-! ### a map of numbers, whose lack is a 0 -/
def NumAt (w : World) (g : Nat) (N : Int → Int) : Prop := ∃ m, IsI (Value.int .i64) w g m ∧ ∀ x, (m x).getD 0 = N x
theorem NumAt.made (w : World) : NumAt (w.alloc (.map #[] 0)) w.heap.size (fun _ => 0) := ⟨_, IsI.made w, fun _ => rfl⟩
theorem NumAt.look {w : World} {g : Nat} {N : Int → Int} (h : NumAt w g N) (i : Int) : (Instr.lookup 74 (.map (some g)) (.int .i64 i) false).run Try.prog w = .ok (.int .i64 (N i)) w := by
  obtain ⟨m, hm, hN⟩ := h
  have hl := hm.look1 (P := Try.prog) Try.underlying74 Try.underlying3 (z := .int .i64 0) (by kernel_rfl) i
  rw [hl, ← hN]
  cases m i <;> rfl
theorem NumAt.put {w : World} {g : Nat} {N : Int → Int} (h : NumAt w g N) (i x : Int) : ∃ w', (Instr.mapUpdate 74 (.map (some g)) (.int .i64 i) (.int .i64 x)).run Try.prog w = .ok () w' ∧ NumAt w' g (fun j => if j = i then x else N j) ∧ Chg [g] w w' := by
  obtain ⟨m, hm, hN⟩ := h
  obtain ⟨w1, hrun, hm1, hc1⟩ := IsI.put hm (P := Try.prog) Try.underlying74 Try.underlying3 i x
  refine ⟨w1, hrun, ⟨_, hm1, fun j => ?_⟩, hc1⟩
  by_cases hj : j = i
  · subst hj
    show (upd m j (some x) j).getD 0 = if j = j then x else N j
    rw [upd_same, if_pos rfl]; rfl
  · show (upd m i (some x) j).getD 0 = if j = i then x else N j
    rw [upd_other _ _ _ hj, if_neg hj]; exact hN j
theorem NumAt.lt {w : World} {g : Nat} {N : Int → Int} (h : NumAt w g N) : g < w.heap.size := by obtain ⟨m, hm, _⟩ := h; exact hm.lt
theorem NumAt.chg {w w' : World} {g : Nat} {N : Int → Int} {T : List Nat} (h : NumAt w g N) (hc : Chg T w w') (hT : g ∉ T) : NumAt w' g N := by obtain ⟨m, hm, hN⟩ := h; exact ⟨m, hm.touch hc hT, hN⟩
theorem NumAt.on {w w' : World} {g : Nat} {N : Int → Int} (h : NumAt w g N) (hb : Below w.heap.size w w') : NumAt w' g N := h.chg (T := []) (Chg.of_below hb) (by simp)
theorem NumAt.nocell {w : World} {g : Nat} {N : Int → Int} (h : NumAt w g N) (o : Nat) : w.cell? ⟨g, o, none⟩ = none := by
  obtain ⟨m, ⟨es, cl, hb, _⟩, _⟩ := h
  simp [World.cell?, hb]
theorem NumAt.congr {w : World} {g : Nat} {N N' : Int → Int} (h : NumAt w g N) (he : ∀ x, N x = N' x) : NumAt w g N' := by
  have : N = N' := funext he
  rw [← this]; exact h
/-- one more number in a map that a store does not read -/
theorem Sc.off {w0 w w' : World} {B : Blk} {S : StS} {D : DevS} {g : Nat} {N : Int → Int} (h : Sc w0 B S D w) (hg : NumAt w g N) (hn : g ∉ B.all) (hb : w0.heap.size ≤ g) (hc : Chg [g] w w') : Sc w0 B S D w' :=
  ⟨h.below.trans (hc.below h.below.size (by simpa using hb)), h.st.off2 hg.nocell hn hc, h.base⟩
/-! ### the pure law -/
/-- how often those of a list name one -/
def cntL (S : StS) (l : List Int) (x : Int) : Int := (l.map fun i => ((S.cel i).kids.count x : Int)).sum
theorem cntL_snoc (S : StS) (l : List Int) (i x : Int) : cntL S (l ++ [i]) x = cntL S l x + ((S.cel i).kids.count x : Int) := by simp [cntL]
theorem cntL_live (S : StS) (x : Int) : ∀ n : Nat, cntL S (S.live n) x = (cnt S.cells x n : Int)
  | 0 => rfl
  | n + 1 => by
    have ih := cntL_live S x n
    unfold StS.live at ih ⊢
    rw [List.range_succ, List.map_append, List.filter_append]
    simp only [List.map_cons, List.map_nil, cnt]
    cases hh : S.cells (n : Int) with
    | none =>
      have : S.has (n : Int) = false := by rw [StS.has, hh]; rfl
      rw [List.filter_cons_of_neg (by rw [this]; decide), List.filter_nil, List.append_nil, ih]
      simp [kc]
    | some c =>
      have : S.has (n : Int) = true := by rw [StS.has, hh]; rfl
      rw [List.filter_cons_of_pos this, List.filter_nil, cntL_snoc, ih, cel_some hh]
      simp [kc]
theorem cntL_le {n m : Nat} {S : StS} (hi : Inv n m S) (hn : n ≤ 4096) (x : Int) {l : List Int} (hl : l.length ≤ 4096) : 0 ≤ cntL S l x ∧ cntL S l x ≤ 16 * l.length := by
  have key : ∀ l : List Int, 0 ≤ cntL S l x ∧ cntL S l x ≤ 16 * l.length := by
    intro l
    induction l using list_snoc_ind with
    | nil => simp [cntL]
    | snoc l i ih =>
      rw [cntL_snoc]
      have : (S.cel i).kids.count x ≤ 16 := by
        cases hc : S.cells i with
        | none =>
          have : S.cel i = noCel := by rw [StS.cel, hc]; rfl
          rw [this]; simp [noCel]
        | some c =>
          rw [cel_some hc]
          exact Nat.le_trans List.count_le_length (hi.wf.len i c hc)
      simp
      omega
  exact key l
theorem live_length {n : Nat} (S : StS) (hn : n ≤ 4096) : (S.live n).length ≤ 4096 := by
  rw [live_len]
  have := num_le S.cells n
  omega
theorem live_cell {n m : Nat} {S : StS} (hi : Inv n m S) {j : Nat} (hj : j < (S.live n).length) : ∃ c, S.cells (S.live n)[j] = some c := by
  have := (live_mem (S := S) (n := n) (wf_dom hi.wf) (S.live n)[j]).1 (List.getElem_mem _)
  cases hc : S.cells (S.live n)[j] with
  | none => exact absurd hc this
  | some c => exact ⟨c, rfl⟩
/-- those that are kept, and not there -/
theorem kept_live {n : Nat} {S S' : StS} (h : ∀ i, S'.has i = S.kept i) : ((S'.live n).filter fun i => !S.has i).length = S.keptOnly n := by
  unfold StS.live StS.keptOnly
  rw [List.filter_filter]
  congr 1
  refine List.filter_congr (fun i _ => ?_)
  rw [h, Bool.and_comm]
/-! ### the walk -/
structure Cn (w0 : World) (B : Blk) (S : StS) (D : DevS) (g : Nat) (N : Int → Int) (lv : Value) (n : Nat) (w : World) : Prop where
  sc : Sc w0 B S D w
  map : NumAt w g N
  ng : g ∉ B.all
  bg : w0.heap.size ≤ g
  live : Ints (fun k => k ≠ g ∧ w0.heap.size ≤ k) w lv (S.live n)
theorem Cn.on {w0 w w' : World} {B : Blk} {S : StS} {D : DevS} {g n : Nat} {N : Int → Int} {lv : Value} (h : Cn w0 B S D g N lv n w) (hb : Below w.heap.size w w') : Cn w0 B S D g N lv n w' :=
  ⟨h.sc.on hb, h.map.on hb, h.ng, h.bg, Ints.on h.live hb⟩
theorem Cn.put {w0 w : World} {B : Blk} {S : StS} {D : DevS} {g n : Nat} {N : Int → Int} {lv : Value} (h : Cn w0 B S D g N lv n w) (i x : Int) : ∃ w', (Instr.mapUpdate 74 (.map (some g)) (.int .i64 i) (.int .i64 x)).run Try.prog w = .ok () w' ∧ Cn w0 B S D g (fun j => if j = i then x else N j) lv n w' ∧ Chg [g] w w' := by
  obtain ⟨w', hr, hm, hc⟩ := h.map.put i x
  exact ⟨w', hr, ⟨h.sc.off h.map h.ng h.bg hc, hm, h.ng, h.bg, h.live.chg hc (fun k hk => by simpa using hk.1)⟩, hc⟩
/-- the store as it is, and a map over which the other one is made -/
theorem Cn.next {w0 w : World} {B : Blk} {S : StS} {D : DevS} {g n : Nat} {N : Int → Int} {lv : Value} (h : Cn w0 B S D g N lv n w) : Cn w0 B S D w.heap.size (fun _ => 0) lv n (w.alloc (.map #[] 0)) ∧ NumAt (w.alloc (.map #[] 0)) g N ∧ g ≠ w.heap.size := by
  have hb : Below w.heap.size w (w.alloc (.map #[] 0)) := (Below.refl _ _).alloc (Nat.le_refl _) _
  refine ⟨⟨h.sc.on hb, NumAt.made w, fun hm => by have := h.sc.st.lt _ hm; omega, h.sc.below.size, ?_⟩, h.map.on hb, Nat.ne_of_lt h.map.lt⟩
  exact Ints.on ((Ints.real h.live).mono (fun k hk => ⟨by omega, hk.1.2⟩)) hb
theorem Ints.item {p : Nat → Prop} {w : World} {a : Option Addr} {c n : Nat} {l : List Int} (h : Ints p w (.slice a n c) l) (j : Nat) (hj : j < l.length) : ∃ b o, a = some ⟨b, o, none⟩ ∧ p b ∧ w.cell? ⟨b, o + j, none⟩ = some (.int .i64 l[j]) := by
  rcases h with ⟨rfl, _⟩ | ⟨b, o, c', e, hp, hl, hc⟩
  · simp at hj
  · injection e with e _ _
    subst e
    exact ⟨b, o, rfl, hp, hc j hj⟩
theorem count_snoc (l : List Int) (k x : Int) : ((l ++ [k]).count x : Int) = (l.count x : Int) + (if x = k then 1 else 0) := by
  rw [List.count_append]
  by_cases h : x = k
  · subst h; simp
  · simp [h, Ne.symm h]
set_option maxHeartbeats 16000000 in
/-- StoreCounts -/
theorem storeCounts_any (w : World) (n : Int) (v : Value) (l : List DoT) (h : Dos (· < w.heap.size) w v l) :
    Calls Try.prog 6 #[.int .i64 n, v] w fun e w' => e = .returned (.bool true) ∧ Below w.heap.size w w' := by
  obtain ⟨a, c, rfl, hlen⟩ := h.len
  have H : Hid (Dos (· < w.heap.size) w (.slice a l.length c) l) := h
  have hmm := @run_makeMap Try.prog
  clear h
  go_enter Try.func6, Try.ntmps6
  go_wp2_with fail
  refine (short_one _ w a c l H.out).mono ?_
  rintro e w1 ⟨x, rfl, hx, hb1⟩
  have HB1 : Hid (Below w.heap.size w w1) := hb1
  clear hb1
  cases x with
  | false =>
    go_wp2_with fail
    refine (awake_any w1).mono ?_
    rintro e w9 ⟨rfl, hb9⟩
    have H9 : Hid (Below w.heap.size w w9) := HB1.out.trans (hb9.mono HB1.out.size)
    clear hb9
    go_wp2_with fail
    go_ret
    exact ⟨rfl, H9.out⟩
  | true =>
    have hl2 := hx rfl
    clear hx
    go_wp2_with fail
    refine (size_fn n w1).mono ?_
    rintro e w2 ⟨rfl, rfl⟩
    obtain ⟨N, hN, hN8, hN40⟩ := size_nat n
    rw [hN]
    have HN : Hid (8 ≤ N ∧ N ≤ 4096) := ⟨hN8, by omega⟩
    clear hN
    go_wp2_with fail
    refine (new_yes w1 N (by have := HN.out; omega)).mono ?_
    rintro e w3 ⟨b, bk, bd, rfl, hA, hb, hb1, hb2, hb3⟩
    have HA : Hid (At w3 b bk bd (DevS.new N) ∧ Below w.heap.size w w3 ∧ w.heap.size ≤ b ∧ w.heap.size ≤ bk ∧ w.heap.size ≤ bd) := by
      have := HB1.out.size
      exact ⟨hA, HB1.out.trans (hb.mono this), by omega, by omega, by omega⟩
    clear hA hb hb1 hb2 hb3
    go_wp2_with fail
    refine (format_sc (n := N) (note := nob) HN.out (by decide) HA.out.1 HA.out.2.1 HA.out.2.2.1 HA.out.2.2.2.1 HA.out.2.2.2.2).mono ?_
    rintro e w4 ⟨B, D1, rfl, rfl, hsc, hrun⟩
    have H4 : Hid (Lp w N B.s B.d 0 w4) := ⟨B, _, D1, rfl, rfl, hsc, hrun⟩
    obtain ⟨s, hs⟩ : ∃ s, s = B.s := ⟨_, rfl⟩
    obtain ⟨d, hd⟩ : ∃ d, d = B.d := ⟨_, rfl⟩
    clear hsc hrun HA
    rw [← hs, ← hd] at H4 ⊢
    clear hs hd
    go_wp2_with fail
    go_loopw [49] (fun i wr => ∃ j : Nat, j ≤ l.length ∧ i = .int .i64 j ∧ Hid (Lp w N s d j wr)) (fun i _ => l.length - (intOf i).toNat)
    case atStart => exact ⟨0, by omega, rfl, H4.out⟩
    case round =>
      obtain ⟨j, hj, rfl, HL⟩ := hrel
      by_cases hlt : j < l.length
      · obtain ⟨k, b, o, kv, _, _, rfl, q0, q1, q2, q3, hf, hkv⟩ := (H.out.below HL.out.below).item j hlt
        obtain ⟨ka, kc, rfl, hkl, hkc⟩ := hkv.form
        have HF : Hid (k.fits ∧ Ints (· < w.heap.size) wr (.slice ka k.kids.length kc) k.kids) := ⟨hf, hkv⟩
        clear hf hkv hkl hkc
        have hb1 : Below wr.heap.size wr (wr.alloc (.cells #[.int .i64 k.op, .int .i64 k.i, .slice ka k.kids.length kc, .string k.s] 24)) := (Below.refl _ _).alloc (Nat.le_refl _) _
        have HB2 : Hid _ := hb1
        clear hb1
        go_wp2_with fail
        refine (op_fn' k _ _).mono ?_
        rintro e w5 ⟨rfl, hb5⟩
        have H5 : Hid (Below wr.heap.size wr w5 ∧ w5.heap[wr.heap.size]? = some (.cells #[.int .i64 k.op, .int .i64 k.i, .slice ka k.kids.length kc, .string k.s] 24 (0, 0))) := ⟨HB2.out.trans (hb5.mono HB2.out.size), (hb5.block _ (by simp)).trans (heap_alloc_last _ _)⟩
        clear hb5 q0 q1 q2 q3
        have q0 : w5.cell? ⟨wr.heap.size, 0, none⟩ = some (.int .i64 k.op) := cell_at H5.out.2 0
        have q1 : w5.cell? ⟨wr.heap.size, 1, none⟩ = some (.int .i64 k.i) := cell_at H5.out.2 1
        have q2 : w5.cell? ⟨wr.heap.size, 2, none⟩ = some (.slice ka k.kids.length kc) := cell_at H5.out.2 2
        have q3 : w5.cell? ⟨wr.heap.size, 3, none⟩ = some (.string k.s) := cell_at H5.out.2 3
        by_cases h11 : k.opn < 11
        · go_wp2_with fail
          refine ((HL.out.on H5.out.1).does HN.out (by omega) HF.out.1 (Ints.on HF.out.2 H5.out.1) h11).mono ?_
          rintro e w6 ⟨v6, rfl, hl6⟩
          have H6 : Hid (Lp w N s d (j + 1) w6) := hl6
          clear hl6 q0 q1 q2 q3
          go_wp2_with fail
          go_roundw
          case rel => exact ⟨j + 1, by omega, by go_num, H6.out⟩
          case measure => simp [intOf]; omega
        · have H6 : Hid (Lp w N s d (j + 1) w5) := (HL.out.on H5.out.1).more
          go_wp2_with fail
          go_roundw
          case rel => exact ⟨j + 1, by omega, by go_num, H6.out⟩
          case measure => simp [intOf]; omega
      · obtain ⟨B, S, D, rfl, rfl, hsc, hrun⟩ := HL.out
        have HR : Hid (Run N j S D) := hrun
        have HS : Hid (Sc w B S D (wr.alloc (.map #[] 0)) ∧ NumAt (wr.alloc (.map #[] 0)) wr.heap.size (fun _ => 0) ∧ wr.heap.size ∉ B.all ∧ w.heap.size ≤ wr.heap.size) := ⟨hsc.on ((Below.refl _ _).alloc (Nat.le_refl _) _), NumAt.made wr, fun hm => by have := hsc.st.lt _ hm; omega, hsc.below.size⟩
        clear hsc hrun
        go_wp2_with fail
        obtain ⟨g, hg⟩ : ∃ g, g = wr.heap.size := ⟨_, rfl⟩
        rw [← hg] at HS ⊢
        clear hg
        generalize wr.alloc (.map #[] 0) = w5 at HS ⊢
        refine (storeLive_any w5 B S D N HS.out.1.st (wf_dom HR.out.inv.wf) HN.out.2).mono ?_
        rintro e w6 ⟨lv, rfl, hli, hb6⟩
        obtain ⟨al, cl, rfl, hlenL, _⟩ := hli.form
        have H6 : Hid (Cn w B S D g (fun _ => 0) (.slice al (S.live N).length cl) N w6) := ⟨HS.out.1.on hb6, HS.out.2.1.on hb6, HS.out.2.2.1, HS.out.2.2.2, hli.mono (fun k hk => ⟨by have := HS.out.2.1.lt; omega, by have := HS.out.1.below.size; omega⟩)⟩
        have hLL := live_length S HN.out.2
        clear hli hb6 HS
        generalize hLV : S.live N = L at hlenL hLL H6 ⊢
        have HLV : Hid (S.live N = L) := hLV
        clear hLV
        go_wp2_with fail
        go_loopw [66] (fun i wr => ∃ j : Nat, j ≤ L.length ∧ i = .int .i64 j ∧ Hid (Cn w B S D g (cntL S (L.take j)) (.slice al L.length cl) N wr)) (fun i _ => L.length - (intOf i).toNat)
        case atStart => exact ⟨0, by omega, rfl, H6.out⟩
        case round =>
          obtain ⟨q, hq, rfl, HC⟩ := hrel
          by_cases hlt : q < L.length
          · have hcq : ∃ c, S.cells L[q] = some c := by
              have h1 := HLV.out
              subst h1
              exact live_cell HR.out.inv hlt
            obtain ⟨cc, hcc⟩ := hcq
            have hlv := HC.out.live
            rw [HLV.out] at hlv
            obtain ⟨b, o, rfl, _, hcell⟩ := Ints.item hlv q hlt
            obtain ⟨dd, _, hget⟩ := HR.out.good.get HR.out.inv HR.out.pow.off hcc
            have hklen := HR.out.inv.wf.len _ cc hcc
            have htk : L.take (q + 1) = L.take q ++ [L[q]] := take_snoc L q hlt
            obtain ⟨id, hid⟩ : ∃ id, id = L[q] := ⟨_, rfl⟩
            rw [← hid] at hcc hcell hget htk
            have HG : Hid (S.getR D id = (0, some (cc.kids, dd)) ∧ S.cells id = some cc ∧ L.take (q + 1) = L.take q ++ [id]) := ⟨hget, hcc, htk⟩
            clear hlv hid hcc hget htk
            go_wp2_with fail
            refine (storeGet_any wr B S D id HC.out.sc.st).mono ?_
            rintro e w7 ⟨a8, m8, c8, d8, rfl, his, hb7⟩
            rw [HG.out.1] at his ⊢
            obtain ⟨hd8, hown⟩ := his
            replace hd8 := hd8.symm
            subst hd8
            obtain ⟨a', c', hv⟩ := hown.form
            injection hv with hv1 hv2 hv3
            subst hv1 hv2 hv3
            have hb8 : Below wr.heap.size wr (w7.alloc (.cells #[.slice a8 cc.kids.length c8, .string dd] 39)) := hb7.alloc hb7.size _
            have hki : Ints (fun k => k ≠ g) w7 (.slice a8 cc.kids.length c8) cc.kids := (hown.ints (by omega)).mono (fun k hk => by have := HC.out.map.lt; omega)
            have H8 : Hid (Cn w B S D g (cntL S (L.take q)) (.slice (some ⟨b, o, none⟩) L.length cl) N (w7.alloc (.cells #[.slice a8 cc.kids.length c8, .string dd] 39)) ∧ Ints (fun k => k ≠ g) (w7.alloc (.cells #[.slice a8 cc.kids.length c8, .string dd] 39)) (.slice a8 cc.kids.length c8) cc.kids) := ⟨HC.out.on hb8, Ints.on hki ((Below.refl _ _).alloc (Nat.le_refl _) _)⟩
            clear hown hb7 hb8 hki hcell
            go_wp2_with fail
            generalize w7.alloc (.cells #[.slice a8 cc.kids.length c8, .string dd] 39) = w8 at H8 ⊢
            go_loopw [81] (fun i wk => ∃ r : Nat, r ≤ cc.kids.length ∧ i = .int .i64 r ∧ Hid (Cn w B S D g (fun x => cntL S (L.take q) x + ((cc.kids.take r).count x : Int)) (.slice (some ⟨b, o, none⟩) L.length cl) N wk ∧ Ints (fun k => k ≠ g) wk (.slice a8 cc.kids.length c8) cc.kids)) (fun i _ => cc.kids.length - (intOf i).toNat)
            case atStart =>
              refine ⟨0, by omega, rfl, ?_, H8.out.2⟩
              have e0 : (fun x => cntL S (L.take q) x + (((cc.kids.take 0).count x : Nat) : Int)) = cntL S (L.take q) := by funext x; simp
              rw [e0]
              exact H8.out.1
            case round =>
              obtain ⟨r, hr, rfl, HK⟩ := hrel
              by_cases hrl : r < cc.kids.length
              · obtain ⟨b2, o2, rfl, _, hkc⟩ := Ints.item HK.out.2 r hrl
                have hks : cc.kids.take (r + 1) = cc.kids.take r ++ [cc.kids[r]] := take_snoc cc.kids r hrl
                obtain ⟨kk, hkk⟩ : ∃ kk, kk = cc.kids[r] := ⟨_, rfl⟩
                rw [← hkk] at hkc hks
                have hlook := HK.out.1.map.look kk
                have hNk : 0 ≤ cntL S (L.take q) kk + ((cc.kids.take r).count kk : Int) ∧ cntL S (L.take q) kk + ((cc.kids.take r).count kk : Int) ≤ 1000000 := by
                  have h1 := cntL_le HR.out.inv HN.out.2 kk (l := L.take q) (by simp; omega)
                  have h2 : (cc.kids.take r).count kk ≤ 16 := Nat.le_trans List.count_le_length (by simp; omega)
                  have h3 : (L.take q).length ≤ 4096 := by simp; omega
                  omega
                obtain ⟨NN, hNN⟩ : ∃ NN, NN = cntL S (L.take q) kk + ((cc.kids.take r).count kk : Int) := ⟨_, rfl⟩
                rw [← hNN] at hNk hlook
                have hadd : wrap64 (NN + 1) = NN + 1 := by unfold wrap64; omega
                obtain ⟨w9, hput, hcn, hcg⟩ := HK.out.1.put kk (NN + 1)
                have H9 : Hid (Cn w B S D g (fun x => cntL S (L.take q) x + ((cc.kids.take (r + 1)).count x : Int)) (.slice (some ⟨b, o, none⟩) L.length cl) N w9 ∧ Ints (fun k => k ≠ g) w9 (.slice (some ⟨b2, o2, none⟩) cc.kids.length c8) cc.kids) := by
                  refine ⟨⟨hcn.sc, hcn.map.congr (fun x => ?_), hcn.ng, hcn.bg, hcn.live⟩, HK.out.2.chg hcg (fun k hk => by simpa using hk)⟩
                  show (if x = kk then NN + 1 else cntL S (L.take q) x + ((cc.kids.take r).count x : Int)) = _
                  rw [hks, count_snoc]
                  by_cases hx : x = kk
                  · subst hx; rw [if_pos rfl, if_pos rfl, hNN]; omega
                  · rw [if_neg hx, if_neg hx]; omega
                clear hNN hNk hcn hcg hks hkk
                go_wp2_with fail
                go_roundw
                case rel => exact ⟨r + 1, by omega, by go_num, H9.out⟩
                case measure => simp [intOf]; omega
              · have hre : r = cc.kids.length := by omega
                subst hre
                have H9 : Hid (Cn w B S D g (cntL S (L.take (q + 1))) (.slice (some ⟨b, o, none⟩) L.length cl) N wr) := by
                  have e9 : (fun x => cntL S (L.take q) x + ((cc.kids.take cc.kids.length).count x : Int)) = cntL S (L.take (q + 1)) := by
                    funext x
                    rw [HG.out.2.2, cntL_snoc, cel_some HG.out.2.1, List.take_length]
                  rw [← e9]
                  exact HK.out.1
                go_wp2_with fail
                go_roundw
                case rel => exact ⟨q + 1, by omega, by go_num, H9.out⟩
                case measure => simp [intOf]; omega
          · have hqe : q = L.length := by omega
            have hcnt : cntL S (L.take q) = fun x => (cnt S.cells x N : Int) := by
              funext x
              rw [List.take_of_length_le (by omega), ← HLV.out]
              exact cntL_live S x N
            obtain ⟨hn1, hn2, hn3⟩ := HC.out.next
            rw [hcnt] at hn2
            have H7 : Hid (Cn w B S D wr.heap.size (fun _ => 0) (.slice al L.length cl) N (wr.alloc (.map #[] 0)) ∧ NumAt (wr.alloc (.map #[] 0)) g (fun x => (cnt S.cells x N : Int)) ∧ g ≠ wr.heap.size) := ⟨hn1, hn2, hn3⟩
            clear hcnt hn1 hn2 hn3 hqe
            go_wp2_with fail
            obtain ⟨g2, hg2⟩ : ∃ g2, g2 = wr.heap.size := ⟨_, rfl⟩
            rw [← hg2] at H7 ⊢
            clear hg2 HC
            generalize wr.alloc (.map #[] 0) = w7 at H7 ⊢
            go_loopw [94] (fun i wk => ∃ j : Nat, j ≤ L.length ∧ i = .int .i64 j ∧ Hid (Cn w B S D g2 (fun x => if x ∈ L.take j then 1 else 0) (.slice al L.length cl) N wk ∧ NumAt wk g (fun x => (cnt S.cells x N : Int)))) (fun i _ => L.length - (intOf i).toNat)
            case atStart => exact ⟨0, by omega, rfl, by simpa using H7.out.1, H7.out.2.1⟩
            case round =>
              obtain ⟨r, hr, rfl, HK⟩ := hrel
              by_cases hrl : r < L.length
              · have hcq : ∃ c, S.cells L[r] = some c := by
                  have h1 := HLV.out
                  subst h1
                  exact live_cell HR.out.inv hrl
                obtain ⟨cc, hcc⟩ := hcq
                have hlv := HK.out.1.live
                rw [HLV.out] at hlv
                obtain ⟨b, o, rfl, _, hcell⟩ := Ints.item hlv r hrl
                have htk : L.take (r + 1) = L.take r ++ [L[r]] := take_snoc L r hrl
                obtain ⟨id, hid⟩ : ∃ id, id = L[r] := ⟨_, rfl⟩
                rw [← hid] at hcc hcell htk
                have hnm := HR.out.inv.wf.named id cc hcc
                have hhd := (HR.out.inv.wf.held id cc hcc).1
                have hdm := HR.out.inv.wf.dom id cc hcc
                have hnm' : (cnt S.cells id N : Int) = cc.named := by simp at hnm; omega
                have HT : Hid (L.take (r + 1) = L.take r ++ [id] ∧ (S.cel id).named = cc.named ∧ (S.cel id).held = cc.held ∧ S.has id = true) := ⟨htk, by rw [cel_some hcc], by rw [cel_some hcc], has_iff.2 ⟨cc, hcc⟩⟩
                clear hlv hid hcc htk hnm
                go_wp2_with fail
                refine (storeRefs_any wr B S D id HK.out.1.sc.st).mono ?_
                rintro e w8 ⟨rfl, hb8⟩
                rw [HT.out.2.1, HT.out.2.2.1, HT.out.2.2.2]
                have H8 : Hid (Cn w B S D g2 (fun x => if x ∈ L.take r then 1 else 0) (.slice (some ⟨b, o, none⟩) L.length cl) N w8 ∧ NumAt w8 g (fun x => (cnt S.cells x N : Int))) := ⟨HK.out.1.on hb8, HK.out.2.on hb8⟩
                have hlook := H8.out.2.look id
                rw [hnm'] at hlook
                clear hb8 hcell hnm'
                have hlt0 : ¬ cc.held < 0 := by omega
                have hlt2 : ¬ id < 2 := by omega
                go_wp2_with fail
                refine (size_at w8 B S D H8.out.1.sc.st).mono ?_
                rintro e w9 ⟨rfl, rfl⟩
                have hge : ¬ D.n ≤ id := by rw [HR.out.good.dn]; omega
                obtain ⟨w9, hput, hcn, hcg⟩ := H8.out.1.put id 1
                have H9 : Hid (Cn w B S D g2 (fun x => if x ∈ L.take (r + 1) then 1 else 0) (.slice (some ⟨b, o, none⟩) L.length cl) N w9 ∧ NumAt w9 g (fun x => (cnt S.cells x N : Int))) := by
                  refine ⟨⟨hcn.sc, hcn.map.congr (fun x => ?_), hcn.ng, hcn.bg, hcn.live⟩, H8.out.2.chg hcg (by simpa using H7.out.2.2)⟩
                  show (if x = id then 1 else if x ∈ L.take r then (1 : Int) else 0) = _
                  rw [HT.out.1]
                  by_cases hx : x = id
                  · subst hx; rw [if_pos rfl, if_pos (by simp)]
                  · rw [if_neg hx]
                    by_cases hm : x ∈ L.take r
                    · rw [if_pos hm, if_pos (by simp [hm])]
                    · rw [if_neg hm, if_neg (by simp [hm, hx])]
                clear hcn hcg
                go_wp2_with fail
                go_roundw
                case rel => exact ⟨r + 1, by omega, by go_num, H9.out⟩
                case measure => simp [intOf]; omega
              · have hmap : Hid (Cn w B S D g2 (fun x => if x ∈ L then 1 else 0) (.slice al L.length cl) N wr) := by
                  have h1 := HK.out.1
                  rw [List.take_of_length_le (by omega)] at h1
                  exact h1
                clear HK
                go_wp2_with fail
                refine (clone_any wr B.d B.k B.y D hmap.out.sc.st.dev).mono ?_
                rintro e w8 ⟨b', bk', bd', rfl, hA8, hb8, g1, g2', g3⟩
                have H8 : Hid (At w8 b' bk' bd' D ∧ Below wr.heap.size wr w8 ∧ wr.heap.size ≤ b' ∧ wr.heap.size ≤ bk' ∧ wr.heap.size ≤ bd') := ⟨hA8, hb8, g1, g2', g3⟩
                clear hA8 hb8 g1 g2' g3
                go_wp2_with fail
                refine (dirty_any w8 b' bk' bd' D H8.out.1).mono ?_
                rintro e w9 ⟨vd, ld, rfl, _, _, hid, _, hb9, _⟩
                obtain ⟨ad, cd, rfl, _, _⟩ := hid.form
                have H9 : Hid (At w9 b' bk' bd' D ∧ Below wr.heap.size wr w9 ∧ Ints (fun k => k ≠ b' ∧ k ≠ bk' ∧ k ≠ bd') w9 (.slice ad ld.length cd) ld) := ⟨H8.out.1.on6 hb9, H8.out.2.1.trans (hb9.mono H8.out.2.1.size), hid.mono (fun k hk => by
                  have h1 := heap_lt H8.out.1.heap
                  have h2 := H8.out.1.kept.lt
                  have h3 := H8.out.1.dirty.lt
                  omega)⟩
                clear hid hb9
                go_wp2_with fail
                refine (crash_any w9 b' bk' bd' D _ ld H9.out.1 H9.out.2.2).mono ?_
                rintro e w10 ⟨rfl, hA10, hc10⟩
                have H10 : Hid (At w10 b' bk' bd' (D.crash ld) ∧ Below wr.heap.size wr w10) := ⟨hA10, H9.out.2.1.trans (hc10.below H9.out.2.1.size (by have := H8.out.2.2; simp; omega))⟩
                clear hA10 hc10 H9
                go_wp2_with fail
                refine (start_any w10 b' bk' bd' _ H10.out.1).mono ?_
                rintro e w11 ⟨rfl, hA11, hc11⟩
                have H11 : Hid (At w11 b' bk' bd' (D.crash ld).start ∧ Below wr.heap.size wr w11) := ⟨hA11, H10.out.2.trans (hc11.below H10.out.2.size (by have := H8.out.2.2; simp; omega))⟩
                clear hA11 hc11 H10
                obtain ⟨S', hop, hopd, _⟩ := HR.out.good.crash HR.out.inv HN.out ld
                have HO : Hid (openOut (D.crash ld).start = .ok S' ∧ Opened N S (vw (D.crash ld).start) S') := ⟨hop, hopd⟩
                clear hop hopd
                go_wp2_with fail
                refine (open_sc (w0 := wr) H11.out.1 (crash_small hmap.out.sc.st.small ld) HO.out.1 H11.out.2 H8.out.2.2.1 H8.out.2.2.2.1 H8.out.2.2.2.2).mono ?_
                rintro e w12 ⟨B2, rfl, _, hsc2, _, _⟩
                have H12 : Hid (Sc wr B2 S' (D.crash ld).start w12 ∧ Cn w B S D g2 (fun x => if x ∈ L then 1 else 0) (.slice al L.length cl) N w12) := ⟨hsc2, hmap.out.on hsc2.below⟩
                clear hsc2 hmap H11 H8
                go_wp2_with fail
                refine (storeLive_any w12 B2 S' _ N H12.out.1.st (wf_dom HO.out.2.inv.wf) HN.out.2).mono ?_
                rintro e w13 ⟨lv2, rfl, hli2, hb13⟩
                obtain ⟨al2, cl2, rfl, hlenL2, _⟩ := hli2.form
                have H13 : Hid (Cn w B S D g2 (fun x => if x ∈ L then 1 else 0) (.slice al L.length cl) N w13 ∧ Ints (fun _ => True) w13 (.slice al2 (S'.live N).length cl2) (S'.live N)) := ⟨H12.out.2.on hb13, hli2.mono (fun _ _ => trivial)⟩
                have hkl := kept_live (n := N) (S := S) (S' := S') HO.out.2.has
                have hLL2 := live_length S' HN.out.2
                have hmem : Hid (∀ i, S.has i = decide (i ∈ L)) := by
                  intro i
                  have h1 := live_mem (S := S) (n := N) (wf_dom HR.out.inv.wf) i
                  rw [HLV.out] at h1
                  by_cases hm : i ∈ L
                  · rw [decide_eq_true hm]
                    have := h1.1 hm
                    unfold StS.has
                    cases hc : S.cells i with
                    | none => exact absurd hc this
                    | some c => rfl
                  · rw [decide_eq_false hm]
                    unfold StS.has
                    cases hc : S.cells i with
                    | none => rfl
                    | some c => exact absurd (h1.2 (by rw [hc]; simp)) hm
                clear hli2 hb13 H12
                generalize hL2 : S'.live N = L2 at hlenL2 hkl hLL2 H13 ⊢
                have HKL : Hid ((L2.filter fun i => !S.has i).length = S.keptOnly N) := hkl
                clear hL2 hkl
                go_wp2_with fail
                go_loopw [28, 151] (fun mv i wk => ∃ j : Nat, j ≤ L2.length ∧ i = .int .i64 j ∧ mv = .int .i64 ((L.length : Int) + (((L2.take j).filter fun i => !S.has i).length : Int)) ∧ Hid (Cn w B S D g2 (fun x => if x ∈ L then 1 else 0) (.slice al L.length cl) N wk ∧ Ints (fun _ => True) wk (.slice al2 L2.length cl2) L2)) (fun _ i _ => L2.length - (intOf i).toNat)
                case atStart => exact ⟨0, by omega, rfl, by simp, H13.out⟩
                case round =>
                  obtain ⟨t, ht, rfl, rfl, HM⟩ := hrel
                  by_cases htl : t < L2.length
                  · obtain ⟨b5, o5, rfl, _, hcell5⟩ := Ints.item HM.out.2 t htl
                    have htk5 : L2.take (t + 1) = L2.take t ++ [L2[t]] := take_snoc L2 t htl
                    obtain ⟨id5, hid5⟩ : ∃ id, id = L2[t] := ⟨_, rfl⟩
                    rw [← hid5] at hcell5 htk5
                    have hlook5 := HM.out.1.map.look id5
                    obtain ⟨fl, hfl⟩ : ∃ fl, fl = ((L2.take t).filter fun i => !S.has i).length := ⟨_, rfl⟩
                    have hfle : fl ≤ 4096 := by
                      rw [hfl]
                      refine Nat.le_trans (List.length_filter_le _ _) ?_
                      simp; omega
                    have hnext : Hid (((L2.take (t + 1)).filter fun i => !S.has i).length = fl + (if id5 ∈ L then 0 else 1)) := by
                      unfold Hid
                      rw [htk5, List.filter_append, List.length_append, ← hfl]
                      congr 1
                      by_cases hm : id5 ∈ L
                      · rw [if_pos hm, List.filter_cons_of_neg (by rw [hmem.out, decide_eq_true hm]; decide)]; rfl
                      · rw [if_neg hm, List.filter_cons_of_pos (by rw [hmem.out, decide_eq_false hm]; decide)]; rfl
                    rw [← hfl]
                    clear hid5 htk5 hfl
                    have hlook6 : (Instr.lookup 74 (.map (some g2)) (.int .i64 id5) false).run Try.prog wr = .ok (.int .i64 (if id5 ∈ L then 1 else 0)) wr := hlook5
                    clear hlook5
                    obtain ⟨x5, hx5⟩ : ∃ x5 : Int, x5 = if id5 ∈ L then 1 else 0 := ⟨_, rfl⟩
                    rw [← hx5] at hlook6
                    have hnx : Hid ((((L2.take (t + 1)).filter fun i => !S.has i).length : Int) = (fl : Int) + (1 - x5) ∧ 0 ≤ x5 ∧ x5 ≤ 1) := by
                      have h0 := hnext.out
                      rw [hx5]
                      by_cases hm : id5 ∈ L
                      · rw [if_pos hm] at h0 ⊢
                        exact ⟨by omega, by omega, by omega⟩
                      · rw [if_neg hm] at h0 ⊢
                        exact ⟨by omega, by omega, by omega⟩
                    have hs1 : wrap64 (1 - x5) = 1 - x5 := by have := hnx.out; unfold wrap64; omega
                    have hs2 : wrap64 ((L.length : Int) + (fl : Int) + (1 - x5)) = (L.length : Int) + (fl : Int) + (1 - x5) := by have := hnx.out; unfold wrap64; omega
                    clear hnext hx5
                    go_wp2_with fail
                    go_roundw
                    case rel => exact ⟨t + 1, by omega, by go_num, by rw [hnx.out.1]; exact congrArg _ (by omega), HM.out⟩
                    case measure => simp [intOf]; omega
                  · have hall : ((L2.take t).filter fun i => !S.has i).length = S.keptOnly N := by
                      rw [List.take_of_length_le (by omega)]; exact HKL.out
                    rw [hall]
                    have hfn : S.freeN N = (N : Int) - 2 - ((L.length : Int) + (S.keptOnly N : Int)) := by
                      have := live_len S N
                      rw [HLV.out] at this
                      unfold StS.freeN
                      omega
                    have hko := keptOnly_le S N
                    obtain ⟨ko, hko2⟩ : ∃ ko, ko = S.keptOnly N := ⟨_, rfl⟩
                    rw [← hko2] at hfn hko ⊢
                    have HFN : Hid _ := hfn
                    clear hfn hko2 hall
                    go_wp2_with fail
                    refine (HM.out.1.sc.free HR.out.inv HR.out.good.dn).mono ?_
                    rintro e w14 ⟨rfl, hb14⟩
                    have H14 : Hid (Sc w B S D w14) := HM.out.1.sc.on hb14
                    clear hb14
                    rw [HFN.out]
                    go_wp2_with fail
                    refine (size_at w14 B S D H14.out.st).mono ?_
                    rintro e w15 ⟨rfl, rfl⟩
                    rw [HR.out.good.dn]
                    have hw2 : wrap64 ((N : Int) - 2) = (N : Int) - 2 := by unfold wrap64; omega
                    have hw3 : wrap64 ((N : Int) - 2 - ((L.length : Int) + (ko : Int))) = (N : Int) - 2 - ((L.length : Int) + (ko : Int)) := by unfold wrap64; omega
                    go_wp2_with fail
                    refine (awake_any w14).mono ?_
                    rintro e w16 ⟨rfl, hb16⟩
                    have H16 : Hid (Below w.heap.size w w16) := H14.out.below.trans (hb16.mono H14.out.below.size)
                    clear hb16
                    go_wp2_with fail
                    go_ret
                    exact ⟨rfl, H16.out⟩
end Go.Proofs.Ytanpkghdgdkdlaa.Sto
