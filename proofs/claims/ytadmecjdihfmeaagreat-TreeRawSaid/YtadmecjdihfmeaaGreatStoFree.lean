/- Layer 6: Free. -/
import Derived.Test.YtadmecjdihfmeaaGreatStoLive
namespace Go.Proofs.YtadmecjdihfmeaaGreat.Sto
set_option linter.unusedVariables false
set_option linter.unusedSimpArgs false
set_option maxRecDepth 100000
open Go.RowKit Go.Lib Go.Proofs.YtadmecjdihfmeaaGreat.Mem Go.Proofs.YtadmecjdihfmeaaGreat.Oct Go.Proofs.YtadmecjdihfmeaaGreat.Dev Go.MapKept

/-- how many are kept, and not there -/
def StS.keptOnly (S : StS) (n : Nat) : Nat := (((List.range n).map fun (j : Nat) => (j : Int)).filter fun i => S.kept i && !S.has i).length
/-- Free -/
def StS.freeN (S : StS) (n : Nat) : Int := (n : Int) - 2 - S.keptOnly n - num S.cells n
theorem filter_push (es : List MapEntry) (q : MapEntry → Bool) (seen : Array Nat) (e : MapEntry) (he : e ∈ es) (hn : seen.contains e.born = false) (hnd : (es.map (·.born)).Nodup) :
    (es.filter fun x => (seen.push e.born).contains x.born && q x).length = (es.filter fun x => seen.contains x.born && q x).length + (if q e = true then 1 else 0) := by
  induction es with
  | nil => simp at he
  | cons x es ih =>
    simp only [List.map_cons, List.nodup_cons] at hnd
    by_cases hx : x = e
    · subst hx
      have hrest : ∀ y ∈ es, y.born ≠ x.born := fun y hy hb => hnd.1 (List.mem_map.2 ⟨y, hy, hb⟩)
      have h1 : (es.filter fun y => (seen.push x.born).contains y.born && q y) = es.filter fun y => seen.contains y.born && q y := by
        apply List.filter_congr
        intro y hy
        rw [contains_push]
        have : (y.born == x.born) = false := by simpa using hrest y hy
        simp [this]
      have h2 : (seen.push x.born).contains x.born = true := by rw [contains_push]; simp
      simp only [List.filter_cons, h1, h2, hn]
      cases q x <;> simp
    · have he2 : e ∈ es := by
        rcases List.mem_cons.1 he with h | h
        · exact absurd h.symm hx
        · exact h
      have hb : (x.born == e.born) = false := by
        have : x.born ≠ e.born := fun hb => hnd.1 (List.mem_map.2 ⟨e, he2, hb.symm⟩)
        simpa using this
      have h1 : (seen.push e.born).contains x.born = seen.contains x.born := by rw [contains_push]; simp [hb]
      have h2 := ih he2 hnd.2
      simp only [List.filter_cons, h1]
      split
      · simp only [List.length_cons, h2]; omega
      · exact h2
theorem born_nodup {es : Array MapEntry} {clock : Nat} (h : Stamped es clock) : (es.toList.map (·.born)).Nodup := ((stamped_iff es clock).1 h).2.1
set_option maxHeartbeats 2000000 in
theorem storeFree_any (w : World) (B : Blk) (S : StS) (D : DevS) (h : StAt w B S D) (hwf : WF D.n.toNat S []) (hkd : ∀ i, S.kept i = true → 0 ≤ i ∧ i < D.n) :
    Calls Tryz.prog 29 #[.pointer (some ⟨B.s, 0, none⟩)] w fun e w' => e = .returned (.int .i64 (S.freeN D.n.toNat)) ∧ Below w.heap.size w w' := by
  have hdn := h.dev.ok.2.2
  obtain ⟨c0, c1, c2, c3, c4, c5, cf⟩ := h.cell
  have H : Hid (StAt w B S D ∧ WF D.n.toNat S []) := ⟨h, hwf⟩
  have hnum := num_le S.cells D.n.toNat
  obtain ⟨es, clock, hb, hst, hes1, hes2⟩ := h.kept
  have hrange := run_range_map (P := Tryz.prog) w 95 3 4 B.p es clock Tryz.underlying95 hb
  have hblt := heap_lt hb
  have HB : Hid (w.heap[B.p]? = some (.map es clock)) := hb
  have HS : Hid (Stamped es clock) := hst
  have H1 : Hid (∀ x ∈ es.toList, ∃ k, x.key = .int .i64 k ∧ x.val = .bool true ∧ S.kept k = true) := by
    intro x hx
    obtain ⟨k, v, q1, q2, q3⟩ := hes1 x hx
    refine ⟨k, q1, q2, ?_⟩
    by_cases hk : S.kept k = true
    · exact hk
    · have q4 : (if S.kept k = true then some () else none) = some v := q3
      rw [if_neg hk] at q4; cases q4
  obtain ⟨q, hq⟩ : ∃ q : MapEntry → Bool, q = fun x => !S.has (RowKit.intOf x.key) := ⟨_, rfl⟩
  have HQ : Hid (q = fun x => !S.has (RowKit.intOf x.key)) := hq
  have HE : Hid ((es.toList.filter q).length = S.keptOnly D.n.toNat) := by
    have hnd : (es.toList.map (fun x => RowKit.intOf x.key)).Nodup := by
      have h3 := ((stamped_iff es clock).1 hst).2.2
      rw [List.Nodup, List.pairwise_map]
      refine List.Pairwise.imp_of_mem ?_ h3
      intro x y hx hy hne he
      obtain ⟨k, v, q1, _⟩ := hes1 x hx
      obtain ⟨k', v', q1', _⟩ := hes1 y hy
      rw [q1, q1'] at he hne
      exact hne (by simpa [RowKit.intOf] using he)
    have hp : ((es.toList.map (fun x => RowKit.intOf x.key)).filter fun i => !S.has i).Perm (((List.range D.n.toNat).map fun (j : Nat) => (j : Int)).filter fun i => S.kept i && !S.has i) := by
      refine (List.perm_ext_iff_of_nodup (List.Pairwise.filter _ hnd) ?_).2 (fun k => ?_)
      · refine List.Pairwise.filter _ ?_
        rw [List.pairwise_map]
        exact List.pairwise_lt_range.imp (by intro a b h; omega)
      · rw [List.mem_filter, List.mem_filter, List.mem_map, List.mem_map]
        constructor
        · rintro ⟨⟨x, hx, rfl⟩, h2⟩
          obtain ⟨k', q1, _, q3⟩ := H1.out x hx
          rw [q1] at h2 ⊢
          have h3 : (!S.has k') = true := h2
          have := hkd k' q3
          exact ⟨⟨k'.toNat, List.mem_range.2 (by omega), by show ((k'.toNat : Nat) : Int) = k'; omega⟩, by show (S.kept k' && !S.has k') = true; rw [q3, h3]; rfl⟩
        · rintro ⟨_, h2⟩
          rw [Bool.and_eq_true] at h2
          obtain ⟨x, hx, q1, _⟩ := hes2 k () (by show (if S.kept k = true then some () else none) = some (); rw [if_pos h2.1])
          exact ⟨⟨x, hx, by rw [q1]; rfl⟩, h2.2⟩
    have := hp.length_eq
    rw [StS.keptOnly, ← this, List.filter_map, List.length_map, hq]
    rfl
  clear hb hst hes1 hes2 hq hwf hkd
  have hlt := heap_lt h.box
  clear h
  go_enter Tryz.func29, Tryz.ntmps29
  go_wp2_with (first
    | (go_at_call 46; refine (dead_any _ B S D H.out.1).mono ?_; rintro e w1 ⟨rfl, rfl⟩)
    | (go_at_call 53; refine (size_at w B S D H.out.1).mono ?_; rintro e w1 ⟨rfl, rfl⟩)
    | fail)
  clear hrange c0 c1 c2 c3 c4 c5 cf
  go_loopg [3] (leftOf es #[]).size (fun g nv wr => ∃ (seen : Array Nat) (c0 : Nat), nv = .int .i64 (D.n - 2 - ((es.toList.filter fun x => seen.contains x.born && q x).length : Nat)) ∧ Hid (g = (leftOf es seen).size) ∧ Hid (wr.heap[w.heap.size]? = some (.mapIter (some B.p) clock seen c0) ∧ clock ≤ c0 ∧ wr.heap[B.p]? = some (.map es clock)) ∧ Hid (Below w.heap.size w wr))
  case atStart =>
    refine ⟨#[], clock, ?_, rfl, ⟨heap_alloc_last _ _, Nat.le_refl _, (heap_alloc_other _ hblt).trans HB.out⟩, (Below.refl _ _).alloc (Nat.le_refl _) _⟩
    rw [List.filter_eq_nil_iff.2 (fun x _ => by simp)]
    simp
  case round =>
    obtain ⟨seen, c0, rfl, hg, hwr, ht⟩ := hrel
    obtain ⟨hit, hc0, hbd⟩ := hwr.out
    have hcl : (es.toList.filter fun x => seen.contains x.born && q x).length ≤ 4096 := by
      have h1 : (es.toList.filter fun x => seen.contains x.born && q x).length ≤ (es.toList.filter q).length := by
        rw [← List.filter_filter]
        exact List.length_filter_le _ _
      rw [HE.out] at h1
      have h2 : S.keptOnly D.n.toNat ≤ D.n.toNat := by
        unfold StS.keptOnly
        refine Nat.le_trans (List.length_filter_le _ _) ?_
        simp
      omega
    obtain ⟨cs, hcs⟩ : ∃ cs, cs = (es.toList.filter fun x => seen.contains x.born && q x).length := ⟨_, rfl⟩
    rw [← hcs] at hcl ⊢
    have HCS : Hid (cs = (es.toList.filter fun x => seen.contains x.born && q x).length) := hcs
    clear hcs
    rcases run_next_at (P := Tryz.prog) wr 0 w.heap.size B.p clock c0 seen es clock hit hbd HS.out.1 hc0 with ⟨hz, hrun⟩ | ⟨e, he, w1, hw1, hrun⟩
    · have hnx : ∀ ty, (Instr.next (.pointer (some ⟨w.heap.size, 0, none⟩)) false ty).run Tryz.prog wr = .ok (.tuple #[.bool false]) wr := fun ty => hrun
      have hall := all_seen es seen hz
      have hko : Hid (cs = S.keptOnly D.n.toNat) := by
        rw [HCS.out, ← HE.out]
        congr 1
        apply List.filter_congr
        intro x hx
        rw [hall x hx, Bool.true_and]
      have hW : StAt wr B S D := H.out.1.on ht.out
      have hl1 := fun ty => cells_len hW (wf_dom H.out.2) ty
      have c4 := hW.cell.2.2.2.2.1
      clear hrun hit hc0 hbd hz hall hW
      go_wp2
      go_ret
      refine ⟨?_, ht.out⟩
      rw [StS.freeN, ← hko.out]
      have : ((D.n.toNat : Nat) : Int) = D.n := by omega
      rw [this]
      rfl
    · obtain ⟨hees, hsn⟩ := mem_left he
      obtain ⟨k, q1, q2, q3⟩ := H1.out e hees
      have hr1 : w1.heap = wr.heap := by rcases hw1 with rfl | rfl <;> rfl
      have t1 : Chg [w.heap.size] wr (ChangeMaps.setBlock w1 w.heap.size (.mapIter (some B.p) clock (seen.push e.born) clock)) := by
        have a1 : Chg [w.heap.size] w1 (ChangeMaps.setBlock w1 w.heap.size (.mapIter (some B.p) clock (seen.push e.born) clock)) := Chg.setBlock _ _
        rcases hw1 with rfl | rfl
        · exact a1
        · exact ((Chg.refl _ _).drew).trans a1
      obtain ⟨w2, hw2⟩ : ∃ w2, w2 = ChangeMaps.setBlock w1 w.heap.size (.mapIter (some B.p) clock (seen.push e.born) clock) := ⟨_, rfl⟩
      have hit2 : w2.heap[w.heap.size]? = some (.mapIter (some B.p) clock (seen.push e.born) clock) := by
        rw [hw2]
        exact (MapKept.heap_set (w := w1) (o' := .mapIter (some B.p) clock (seen.push e.born) clock) (by rw [hr1]; exact hit)).1
      rw [← hw2] at hrun t1
      clear hw2
      have hbd2 : w2.heap[B.p]? = some (.map es clock) := (t1.block B.p (heap_lt hbd) (by simp; omega)).trans hbd
      have hent := run_entry_at (P := Tryz.prog) w2 w.heap.size B.p clock seen es clock e hit2 hbd2 hees HS.out.2.1
      rw [q1, q2] at hrun hent
      have hnx : ∀ ty, (Instr.next (.pointer (some ⟨w.heap.size, 0, none⟩)) false ty).run Tryz.prog wr = .ok (.tuple #[.bool true, .int .i64 k, .bool true]) w2 := fun ty => hrun
      have hb2 : Below w.heap.size w w2 := ht.out.trans (t1.below ht.out.size (by simp))
      have HW2 : Hid (StAt w2 B S D ∧ Below w.heap.size w w2 ∧ w2.heap[w.heap.size]? = some (.mapIter (some B.p) clock (seen.push e.born) clock) ∧ w2.heap[B.p]? = some (.map es clock)) := ⟨H.out.1.on hb2, hb2, hit2, hbd2⟩
      have HEE : Hid (e ∈ (leftOf es seen).toList ∧ q e = !S.has k ∧ (es.toList.filter fun x => (seen.push e.born).contains x.born && q x).length = cs + (if q e = true then 1 else 0)) := by
        refine ⟨he, ?_, ?_⟩
        · rw [HQ.out]
          show (!S.has (RowKit.intOf e.key)) = _
          rw [q1]; rfl
        · rw [HCS.out]
          exact filter_push es.toList q seen e hees hsn (born_nodup HS.out)
      clear hrun hit hc0 hbd he hees hsn q1 q2 q3 hr1 hw1 hit2 hbd2 t1 hb2
      cases hh : S.has k with
      | true =>
        go_wp2_with (first
          | (go_at_call 51; refine (has_any _ B S D k HW2.out.1).mono ?_; rintro e3 w3 ⟨rfl, hb⟩; rw [hh]; have H3 : Hid (Below w.heap.size w w3 ∧ w3.heap[w.heap.size]? = some (.mapIter (some B.p) clock (seen.push e.born) clock) ∧ clock ≤ clock ∧ w3.heap[B.p]? = some (.map es clock)) := ⟨HW2.out.2.1.trans (hb.mono HW2.out.2.1.size), (hb.block _ (heap_lt HW2.out.2.2.1)).trans HW2.out.2.2.1, Nat.le_refl _, (hb.block _ (heap_lt HW2.out.2.2.2)).trans HW2.out.2.2.2⟩; clear hb)
          | fail)
        go_roundg (leftOf es (seen.push e.born)).size
        case measure =>
          rw [hg.out]
          exact left_shrinks es seen e HEE.out.1
        case rel =>
          refine ⟨seen.push e.born, clock, ?_, rfl, H3.out.2, H3.out.1⟩
          rw [HEE.out.2.2, HEE.out.2.1, hh]
          simp
      | false =>
        go_wp2_with (first
          | (go_at_call 51; refine (has_any _ B S D k HW2.out.1).mono ?_; rintro e3 w3 ⟨rfl, hb⟩; rw [hh]; have H3 : Hid (Below w.heap.size w w3 ∧ w3.heap[w.heap.size]? = some (.mapIter (some B.p) clock (seen.push e.born) clock) ∧ clock ≤ clock ∧ w3.heap[B.p]? = some (.map es clock)) := ⟨HW2.out.2.1.trans (hb.mono HW2.out.2.1.size), (hb.block _ (heap_lt HW2.out.2.2.1)).trans HW2.out.2.2.1, Nat.le_refl _, (hb.block _ (heap_lt HW2.out.2.2.2)).trans HW2.out.2.2.2⟩; clear hb)
          | fail)
        go_roundg (leftOf es (seen.push e.born)).size
        case measure =>
          rw [hg.out]
          exact left_shrinks es seen e HEE.out.1
        case rel =>
          refine ⟨seen.push e.born, clock, ?_, rfl, H3.out.2, H3.out.1⟩
          rw [HEE.out.2.2, HEE.out.2.1, hh]
          congr 1
          simp
          omega
end Go.Proofs.YtadmecjdihfmeaaGreat.Sto
