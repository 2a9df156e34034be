/- Live: the blocks that are there, rising. (Turned from XDevDirty.) -/
import Derived.Test.YtadmecjdihfmeaaGreatStoPut
import Derived.Test.YtadmecjdihfmeaaGreatMemKeys
import Derived.Test.YtadmecjdihfmeaaGreatIterC
namespace Go.Proofs.YtadmecjdihfmeaaGreat.Sto
set_option linter.unusedVariables false
set_option linter.unusedSimpArgs false
set_option maxRecDepth 100000
open Go.RowKit Go.Lib Go.Proofs.YtadmecjdihfmeaaGreat.Mem Go.Proofs.YtadmecjdihfmeaaGreat.Oct Go.Proofs.YtadmecjdihfmeaaGreat.Dev Go.Maps Go.Sort Go.Shelf

theorem sorts_intsC (m : Nat) : AnyZI.SortsIn Tryz.prog Tryz.sortedC_ren Fence.wide m :=
  ⟨fun blk off cap ss W hH hblk hsz => callsIn_wide.2 (AnyM.slices_Sort_int Tryz.sortC blk off cap ss W hH hblk hsz),
   fun p cap W => callsIn_wide.2 (AnyM.slices_Sort_int_none Tryz.sortC p cap W)⟩

theorem keysC_any (mb : Option Nat) (W : World) : Calls Tryz.prog 76 #[.map mb] W fun e w' => e = .returned (.func (.func 96) #[] #[.pointer (some ⟨W.heap.size, 0, none⟩)]) ∧ w' = W.alloc (.cells #[.map mb] 94) :=
  callsIn_wide.1 (AnyZI.keys_in Tryz.keysC Fence.wide 5 trivial rfl mb W)

/-- a slice of one's own: it may be written -/
def Own (w : World) (v : Value) : Prop := ∀ g o n c, v = .slice (some ⟨g, o, none⟩) n c → ∀ j, w.frozen? ⟨g, j, none⟩ = false
set_option maxHeartbeats 1000000 in
/-- slices.Sorted at what maps.Keys handed back -/
theorem sortedC_any (w : World) (b n : Nat) (m : Int → Option CV) (h : IsI celV w b m) (hn : n ≤ 4096) (hr : ∀ k, m k ≠ none → 0 ≤ k ∧ k < n) :
    Calls Tryz.prog 75 #[.func (.func 96) #[] #[.pointer (some ⟨w.heap.size, 0, none⟩)]] (w.alloc (.cells #[.map (some b)] 94)) fun e w' =>
      ∃ (v : Value) (l : List Int), e = .returned v ∧ l.Pairwise (· < ·) ∧ (∀ k, k ∈ l ↔ m k ≠ none) ∧ Ints (w.heap.size ≤ ·) w' v l ∧ (v = .slice none 0 0 ↔ l = []) ∧ Below w.heap.size w w' ∧ Own w' v := by
  obtain ⟨N, D0, hown, hsz, hnd, hmem⟩ := h.owns (P := Tryz.prog) Tryz.underlying3 n hn hr
  have hbl := hown.lt
  have hseq : SeqGives Fence.wide 2 Tryz.prog 96 #[.pointer (some ⟨w.heap.size, 0, none⟩)] encZ (fun ss => ss.Perm (intKeys D0)) (Maps.size D0) (w.alloc (.cells #[.map (some b)] 94)) :=
    AnyZI.keys_gives (ρ := Tryz.keysC_ren) { Tryz.keysC with } Fence.wide _ trivial rfl (by omega) w.heap.size b N D0 _ (by simp) (by simp) (by
      obtain ⟨es, clock, hb, Ft, hs, hD⟩ := hown
      exact ⟨es, clock, (Below.heap_alloc _ _ b hbl).trans hb, Ft, hs, hD⟩)
  have cS := AnyZI.sorted_in Tryz.sortedC Fence.wide 5 trivial trivial trivial trivial rfl (by omega) (sorts_intsC _) (enters_of Tryz.func95 (by kernel_rfl) rfl) 96 #[.pointer (some ⟨w.heap.size, 0, none⟩)] trivial (enters_of Tryz.func96 (by kernel_rfl) rfl) _ _ (by unfold maxLen; omega) (by omega) _ hseq
  change CallsIn _ _ Tryz.prog 75 _ _ _ at cS
  refine (callsIn_wide.1 cS).mono ?_
  rintro e w' ⟨v, ss, rfl, hperm, hrow, hnil, hb⟩
  have hfro : Own w' v := by
    intro g o n c e j
    rcases hrow.2 with ⟨rfl, h0⟩ | ⟨g', cap, cur, rfl, hbase, hg, hcap, hcm, hcs, htake⟩
    · cases e
    · injection e with e1 e2 e3
      injection e1 with e1
      injection e1 with e1 e4
      subst e1
      exact frozen_at hg j
  have hsize : (w.alloc (.cells #[.map (some b)] 94)).heap.size = w.heap.size + 1 := by simp
  have hlen : ss.length ≤ 4096 := by
    have h1 := hperm.length_eq
    have h2 : (intKeys D0).length = Maps.size D0 := by
      obtain ⟨es, clock, hb, Ft, hs, hD⟩ := hown
      rw [hD, Maps.size_eq]
      simp [intKeys]
    omega
  have hs2 : (ss.mergeSort (fun x y => decide (x ≤ y))).Perm ss := List.mergeSort_perm _ _
  refine ⟨v, ss.mergeSort (fun x y => decide (x ≤ y)), rfl, ?_, ?_, ?_, ?_, ?_⟩
  · have hnd2 : (ss.mergeSort (fun x y => decide (x ≤ y))).Nodup := (hs2.trans hperm).nodup_iff.2 hnd
    have hsorted : (ss.mergeSort (fun x y => decide (x ≤ y))).Pairwise (fun a b => decide (a ≤ b) = true) :=
      List.pairwise_mergeSort (by intro a b c h1 h2; simp at h1 h2 ⊢; omega) (by intro a b; simp; omega) ss
    refine (List.pairwise_and_iff.2 ⟨hsorted, hnd2⟩).imp ?_
    rintro a b ⟨h1, h2⟩
    simp at h1
    omega
  · intro k
    rw [hs2.mem_iff, hperm.mem_iff, hmem]
  · have hl := hs2.length_eq
    rcases hrow.2 with ⟨rfl, h0⟩ | ⟨g, cap, cur, rfl, hbase, hg, hcap, hcm, hcs, htake⟩
    · left
      exact ⟨List.eq_nil_of_length_eq_zero (by omega), _, _, rfl⟩
    · right
      refine ⟨g, 0, cap, by rw [hl], by omega, by omega, ?_⟩
      intro j hj
      have h3 := hrow.cellAt j (by omega)
      rw [Nat.zero_add, h3]
      simp [hj]
  · rw [hnil]
    constructor
    · rintro rfl; simp
    · intro h
      have := hs2.length_eq
      rw [h] at this
      exact List.eq_nil_of_length_eq_zero (by simpa using this.symm)
  · exact ⟨((Below.refl _ w).alloc (Nat.le_refl _) _).trans (hb.mono (by omega)), hfro⟩

/-- two rising lists of the same numbers -/
theorem rising_eq : ∀ {l m : List Int}, l.Pairwise (· < ·) → m.Pairwise (· < ·) → (∀ k, k ∈ l ↔ k ∈ m) → l = m
  | [], [], _, _, _ => rfl
  | [], y :: m, _, _, h => absurd ((h y).2 (by simp)) (by simp)
  | x :: l, [], _, _, h => absurd ((h x).1 (by simp)) (by simp)
  | x :: l, y :: m, hl, hm, h => by
    have hl' := List.pairwise_cons.1 hl
    have hm' := List.pairwise_cons.1 hm
    have hxy : x = y := by
      have h1 := (h x).1 (by simp)
      have h2 := (h y).2 (by simp)
      rcases List.mem_cons.1 h1 with e | h1
      · exact e
      · rcases List.mem_cons.1 h2 with e | h2
        · exact e.symm
        · have := hm'.1 x h1
          have := hl'.1 y h2
          omega
    subst hxy
    rw [rising_eq hl'.2 hm'.2 (fun k => ?_)]
    constructor
    · intro hk
      rcases List.mem_cons.1 ((h k).1 (by simp [hk])) with e | hk2
      · subst e; have := hl'.1 k hk; omega
      · exact hk2
    · intro hk
      rcases List.mem_cons.1 ((h k).2 (by simp [hk])) with e | hk2
      · subst e; have := hm'.1 k hk; omega
      · exact hk2
/-- what is there, rising -/
def StS.live (S : StS) (n : Nat) : List Int := ((List.range n).map fun (j : Nat) => (j : Int)).filter S.has
theorem live_rising (S : StS) (n : Nat) : (S.live n).Pairwise (· < ·) := by
  refine List.Pairwise.filter _ ?_
  rw [List.pairwise_map]
  exact List.pairwise_lt_range.imp (by intro a b h; omega)
theorem live_mem {S : StS} {n : Nat} (h : ∀ i c, S.cells i = some c → 0 ≤ i ∧ i < n) (k : Int) : k ∈ S.live n ↔ S.cells k ≠ none := by
  unfold StS.live
  rw [List.mem_filter, List.mem_map]
  constructor
  · rintro ⟨_, hk⟩
    obtain ⟨c, hc⟩ := has_iff.1 hk
    rw [hc]; simp
  · intro hk
    obtain ⟨c, hc⟩ := Option.ne_none_iff_exists'.1 hk
    have := h k c hc
    refine ⟨⟨k.toNat, List.mem_range.2 (by omega), by omega⟩, has_iff.2 ⟨c, hc⟩⟩
theorem live_len (S : StS) : ∀ n, (S.live n).length = num S.cells n
  | 0 => rfl
  | n + 1 => by
    have ih := live_len S n
    unfold StS.live at ih ⊢
    rw [List.range_succ, List.map_append, List.filter_append, List.length_append, ih]
    simp only [num, List.map_cons, List.map_nil]
    congr 1
    by_cases h : S.has (n : Int) = true
    · have h2 : (S.cells (n : Int)).isSome = true := h
      simp [h, h2]
    · have h2 : ¬ (S.cells (n : Int)).isSome = true := h
      simp [h, h2]
/-- 'len(m)' -/
theorem _root_.Go.Proofs.YtadmecjdihfmeaaGreat.Mem.IsI.len {β : Type} {enc : β → Value} {w : World} {b : Nat} {m : Int → Option β} (h : IsI enc w b m) {t kt et : TypeId} (ht : Tryz.prog.underlying t = some (.map (Tryz.prog.mapKeyOf t) (Tryz.prog.mapElemOf t))) :
    ∃ (N : Nat) (ks : List Int), (∀ ty, (Builtin.len_ #[t] ty #[.map (some b)]).run Tryz.prog w = .ok (.int .i64 N) w) ∧ ks.length = N ∧ ks.Nodup ∧ ∀ k, k ∈ ks ↔ m k ≠ none := by
  obtain ⟨es, clock, hb, hs, h1, h2⟩ := h
  refine ⟨es.size, es.toList.map (fun x => RowKit.intOf x.key), fun ty => run_len_map w t ty b es clock ht hb, by simp, ?_, fun k => ?_⟩
  · have h3 := ((MapKept.stamped_iff es clock).1 hs).2.2
    rw [List.Nodup, List.pairwise_map]
    refine List.Pairwise.imp_of_mem ?_ h3
    intro x y hx hy hne he
    obtain ⟨k, v, q1, _⟩ := h1 x hx
    obtain ⟨k', v', q1', _⟩ := h1 y hy
    rw [q1, q1'] at he hne
    simp [RowKit.intOf] at he
    exact hne (by rw [he])
  · rw [List.mem_map]
    constructor
    · rintro ⟨x, hx, rfl⟩
      obtain ⟨k', v, q1, q2, q3⟩ := h1 x hx
      rw [q1]
      show m (RowKit.intOf (.int .i64 k')) ≠ none
      simp [RowKit.intOf, q3]
    · intro hk
      obtain ⟨v, hv⟩ := Option.ne_none_iff_exists'.1 hk
      obtain ⟨x, hx, q1, _⟩ := h2 k v hv
      exact ⟨x, hx, by rw [q1]; rfl⟩
/-- how many are there, as the map counts them -/
theorem cells_len {w : World} {B : Blk} {S : StS} {D : DevS} {n : Nat} (h : StAt w B S D) (hd : ∀ i c, S.cells i = some c → 0 ≤ i ∧ i < n) (ty : TypeId) : (Builtin.len_ #[94] ty #[.map (some B.c)]).run Tryz.prog w = .ok (.int .i64 (num S.cells n)) w := by
  obtain ⟨mm, hm⟩ := h.cells
  obtain ⟨N, ks, h1, h2, h3, h4⟩ := hm.is.len (t := 94) (kt := 3) (et := 113) Tryz.underlying94
  rw [h1 ty]
  have hp : ks.Perm (S.live n) := by
    refine (List.perm_ext_iff_of_nodup h3 ((live_rising S n).imp (by intro a b hh; omega))).2 (fun k => ?_)
    rw [h4, live_mem hd, ← hm.eq k]
    simp
  have := hp.length_eq
  rw [live_len] at this
  rw [← h2, this]
set_option maxHeartbeats 1000000 in
/-- Live -/
theorem storeLive_any (w : World) (B : Blk) (S : StS) (D : DevS) (n : Nat) (h : StAt w B S D) (hd : ∀ i c, S.cells i = some c → 0 ≤ i ∧ i < n) (hn : n ≤ 4096) :
    Calls Tryz.prog 47 #[.pointer (some ⟨B.s, 0, none⟩)] w fun e w' => ∃ v, e = .returned v ∧ Ints (w.heap.size ≤ ·) w' v (S.live n) ∧ Below w.heap.size w w' := by
  obtain ⟨c0, c1, c2, c3, c4, c5, cf⟩ := h.cell
  obtain ⟨mm, hm⟩ := h.cells
  have H : Hid (StAt w B S D ∧ CellsAt w B S.cells mm) := ⟨h, hm⟩
  have HD : Hid (∀ i c, S.cells i = some c → 0 ≤ i ∧ i < n) := hd
  clear h hm c0 c1 c2 c3 c5 cf hd
  go_enter Tryz.func47, Tryz.ntmps47
  go_wp2_with fail
  refine (dead_any _ B S D H.out.1).mono ?_
  rintro e w1 ⟨rfl, rfl⟩
  go_wp2_with fail
  refine (keysC_any (some B.c) w).mono ?_
  rintro e w1 ⟨rfl, rfl⟩
  go_wp2_with fail
  refine (sortedC_any w B.c n mm H.out.2.is hn (fun k hk => ?_)).mono ?_
  · have he := H.out.2.eq k
    obtain ⟨q, hq⟩ := Option.ne_none_iff_exists'.1 hk
    rw [hq] at he
    exact HD.out k q.1 he.symm
  rintro e w2 ⟨v, l, rfl, h1, h2, h3, h4, h5, h6⟩
  have hl : l = S.live n := rising_eq h1 (live_rising S n) (fun k => by
    rw [h2, live_mem HD.out, ← H.out.2.eq k]
    simp)
  subst hl
  have HX : Hid (Ints (w.heap.size ≤ ·) w2 v (S.live n) ∧ Below w.heap.size w w2) := ⟨h3, h5⟩
  clear h1 h2 h3 h4 h5 h6
  go_wp2
  go_ret
  exact ⟨v, rfl, HX.out.1, HX.out.2⟩
/-- Sweep -/
def StS.sweep (S : StS) (n : Nat) : StS := (S.live n).foldl (fun T i => T.goneF n i) S
theorem sweep_wf {n : Nat} : ∀ (l : List Int) (T : StS), WF n T [] → WF n (l.foldl (fun T i => StS.goneF n T i) T) [] ∧ num (l.foldl (fun T i => StS.goneF n T i) T).cells n ≤ num T.cells n
  | [], T, h => ⟨h, Nat.le_refl _⟩
  | i :: l, T, h => by
    have h1 := gone_wf n T i [] h (num_le _ _)
    have h2 := sweep_wf l (T.goneF n i) h1.1
    exact ⟨h2.1, Nat.le_trans h2.2 h1.2⟩
theorem wf_dom {n : Nat} {S : StS} {pd : List Int} (h : WF n S pd) : ∀ i c, S.cells i = some c → 0 ≤ i ∧ i < n := fun i c hc => by have := h.dom i c hc; omega
set_option maxHeartbeats 2000000 in
theorem storeSweep_any (w : World) (B : Blk) (S : StS) (D : DevS) (n : Nat) (h : StAt w B S D) (hwf : WF n S []) (hn : n ≤ 4096) :
    Calls Tryz.prog 25 #[.pointer (some ⟨B.s, 0, none⟩)] w fun e w' => e = .returned (.int .i64 ((num S.cells n : Int) - num (S.sweep n).cells n)) ∧ StAt w' B (S.sweep n) D ∧ Chg B.all w w' := by
  have hl0 := fun ty => cells_len h (wf_dom hwf) ty
  obtain ⟨c0, c1, c2, c3, c4, c5, cf⟩ := h.cell
  have hnum := num_le S.cells n
  have H : Hid (StAt w B S D ∧ WF n S []) := ⟨h, hwf⟩
  have hll := live_len S n
  clear h hwf c0 c1 c2 c3 c5 cf
  go_enter Tryz.func25, Tryz.ntmps25
  go_wp2_with (first
    | (go_at_call 46; refine (dead_any _ B S D H.out.1).mono ?_; rintro e w1 ⟨rfl, rfl⟩)
    | (go_at_call 47; refine (storeLive_any _ B S D n H.out.1 (wf_dom H.out.2) hn).mono ?_; rintro e w1 ⟨v, rfl, hi, hb⟩; obtain ⟨a, c, rfl, _, _⟩ := hi.form; have H1 : Hid (StAt w1 B S D ∧ Below w.heap.size w w1 ∧ Ints (fun k => w.heap.size ≤ k ∧ k < w1.heap.size) w1 (.slice a (S.live n).length c) (S.live n)) := ⟨H.out.1.on hb, hb, Ints.real hi⟩; clear hi hb)
    | fail)
  clear hl0 c4
  go_loopw [16] (fun v wr => ∃ (j : Nat) (T : StS), j ≤ (S.live n).length ∧ v = .int .i64 j ∧ Hid (StAt wr B T D ∧ WF n T [] ∧ Chg B.all w wr ∧ Chg B.all w1 wr ∧ ((S.live n).drop j).foldl (fun T i => StS.goneF n T i) T = S.sweep n)) (fun v _ => (S.live n).length - (intOf v).toNat)
  case atStart => exact ⟨0, S, by omega, rfl, H1.out.1, H.out.2, Chg.of_below H1.out.2.1, Chg.refl _ _, rfl⟩
  case round =>
    obtain ⟨j, T, hj, rfl, HT⟩ := hrel
    by_cases hlt : j < (S.live n).length
    · have hdr : (S.live n).drop j = (S.live n)[j] :: (S.live n).drop (j + 1) := List.drop_eq_getElem_cons hlt
      obtain ⟨a', k', e', _, hcell⟩ := (Ints.chg H1.out.2.2 HT.out.2.2.2.1 (fun q hq hm => by have := H.out.1.lt q hm; have := hq.1; omega)).form
      obtain ⟨b, o, ha, hcj⟩ := hcell j hlt
      have haa : a = a' := by injection e'
      subst haa
      subst ha
      obtain ⟨kj, hkj⟩ : ∃ kj, kj = (S.live n)[j] := ⟨_, rfl⟩
      rw [← hkj] at hcj hdr
      have hfold := HT.out.2.2.2.2
      rw [hdr, List.foldl_cons] at hfold
      have HW : Hid (((S.live n).drop (j + 1)).foldl (fun T i => StS.goneF n T i) (T.goneF n kj) = S.sweep n) := hfold
      clear e' hcell hdr hfold hkj
      go_wp2_with (first
        | (go_at_call 48; refine (gone_any D B n n _ T [] kj HT.out.1 HT.out.2.1 (num_le _ _)).mono ?_; rintro e w4 ⟨rfl, hs4, hc4⟩; have H4 : Hid (StAt w4 B (T.goneF n kj) D ∧ Chg B.all w w4 ∧ Chg B.all w1 w4) := ⟨hs4, HT.out.2.2.1.trans hc4, HT.out.2.2.2.1.trans hc4⟩; clear hs4 hc4)
        | fail)
      go_roundw
      case rel =>
        have hgw := gone_wf n T kj [] HT.out.2.1 (num_le _ _)
        exact ⟨j + 1, _, by omega, by go_num, H4.out.1, hgw.1, H4.out.2.1, H4.out.2.2, HW.out⟩
      case measure => simp [intOf]; omega
    · have hjl : j = (S.live n).length := by omega
      subst hjl
      have HT2 : Hid (StAt wr B (S.sweep n) D ∧ Chg B.all w wr ∧ WF n (S.sweep n) []) := by
        have := HT.out.2.2.2.2
        rw [List.drop_length, List.foldl_nil] at this
        exact ⟨this ▸ HT.out.1, HT.out.2.2.1, this ▸ HT.out.2.1⟩
      have hl1 := fun ty => cells_len HT2.out.1 (wf_dom HT2.out.2.2) ty
      have c4 := HT2.out.1.cell.2.2.2.2.1
      have hnum2 := num_le (S.sweep n).cells n
      clear HT
      go_wp2
      go_ret
      exact ⟨rfl, HT2.out.1, HT2.out.2.1⟩
end Go.Proofs.YtadmecjdihfmeaaGreat.Sto
