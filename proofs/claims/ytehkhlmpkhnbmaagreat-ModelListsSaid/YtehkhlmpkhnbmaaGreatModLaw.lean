/- ModelLists, walked. -/
import Derived.Test.YtehkhlmpkhnbmaaGreatModWriters
import Derived.Test.YtehkhlmpkhnbmaaGreatModUnlinked
import Derived.Test.YtehkhlmpkhnbmaaGreatModAwake
import Derived.Deep.RegionHeld3
import Derived.Test.YtehkhlmpkhnbmaaGreatTwo
namespace Go.Proofs.YtehkhlmpkhnbmaaGreat.Mod
set_option linter.unusedVariables false
set_option linter.unusedSimpArgs false
set_option maxRecDepth 100000
open Go.RowKit Go.Proofs.YtehkhlmpkhnbmaaGreat.Mem

/-- what stands while the law is walked -/
structure LK (w w' : World) (b7 b8 b11 b13 : Nat) (seen : Vec) (id : Stp) (ev : Event) (vn vl vn' vl' : Value) : Prop where
  below : Below w.heap.size w w'
  h7 : w'.heap[b7]? = some (.cells #[.int .i64 seen.v0, .int .i64 seen.v1, .int .i64 seen.v2, .int .i64 seen.v3, .int .i64 seen.v4, .int .i64 seen.v5, .int .i64 seen.v6, .int .i64 seen.v7] 26 (0, 0))
  h8 : w'.heap[b8]? = some (.cells #[.int .i64 id.t, .int .i64 id.who] 24 (0, 0))
  h11 : w'.heap[b11]? = some (.cells (ev.list vn vl).toArray 32 (0, 0))
  h13 : w'.heap[b13]? = some (.cells (ev.list vn' vl').toArray 32 (0, 0))
  s11 : StateR (· < w'.heap.size) w' vn vl ev.delta
  s13 : StateR (· < w'.heap.size) w' vn' vl' ev.delta
section
variable {w w' w'' : World} {b7 b8 b11 b13 : Nat} {seen : Vec} {id : Stp} {ev : Event} {vn vl vn' vl' : Value}
theorem LK.on (h : LK w w' b7 b8 b11 b13 seen id ev vn vl vn' vl') (hb : Below w'.heap.size w' w'') : LK w w'' b7 b8 b11 b13 seen id ev vn vl vn' vl' :=
  ⟨h.below.trans (hb.mono h.below.size), (hb.block _ (heap_lt h.h7)).trans h.h7, (hb.block _ (heap_lt h.h8)).trans h.h8, (hb.block _ (heap_lt h.h11)).trans h.h11, (hb.block _ (heap_lt h.h13)).trans h.h13, h.s11.on hb, h.s13.on hb⟩
theorem LK.held (h : LK w w' b7 b8 b11 b13 seen id ev vn vl vn' vl') : w'.cell? ⟨b7, 0, none⟩ = some (.int .i64 seen.v0) ∧ w'.cell? ⟨b7, 1, none⟩ = some (.int .i64 seen.v1) ∧ w'.cell? ⟨b7, 2, none⟩ = some (.int .i64 seen.v2) ∧ w'.cell? ⟨b7, 3, none⟩ = some (.int .i64 seen.v3) ∧
    w'.cell? ⟨b7, 4, none⟩ = some (.int .i64 seen.v4) ∧ w'.cell? ⟨b7, 5, none⟩ = some (.int .i64 seen.v5) ∧ w'.cell? ⟨b7, 6, none⟩ = some (.int .i64 seen.v6) ∧ w'.cell? ⟨b7, 7, none⟩ = some (.int .i64 seen.v7) ∧
    w'.cell? ⟨b8, 0, none⟩ = some (.int .i64 id.t) ∧ w'.cell? ⟨b8, 1, none⟩ = some (.int .i64 id.who) ∧ w'.rangeAt b11 0 (ev.list vn vl) ∧ w'.rangeAt b13 0 (ev.list vn' vl') ∧ Hid (LK w w' b7 b8 b11 b13 seen id ev vn vl vn' vl') :=
  ⟨cell_at h.h7 0, cell_at h.h7 1, cell_at h.h7 2, cell_at h.h7 3, cell_at h.h7 4, cell_at h.h7 5, cell_at h.h7 6, cell_at h.h7 7, cell_at h.h8 0, cell_at h.h8 1, rangeAt_box h.h11, rangeAt_box h.h13, h⟩
theorem LK.events {a : Value} {l : List Event} (h : Hid (LK w w' b7 b8 b11 b13 seen id ev vn vl vn' vl')) (he : Hid (Events (· < w.heap.size) w a l)) : Events (· < w'.heap.size) w' a l := he.out.on h.out.below
theorem LK.step (h : Hid (LK w w' b7 b8 b11 b13 seen id ev vn vl vn' vl')) (hb : Below w'.heap.size w' w'') : Hid (LK w w'' b7 b8 b11 b13 seen id ev vn vl vn' vl') := h.out.on hb
end
theorem lists_one {w : World} {b : Nat} {v : Value} {l : List Event} (h : Events (· < w.heap.size) w v l) (hb : w.heap[b]? = some (.cells #[v] 22 (0, 0))) : EventLists (· < w.heap.size) w (.slice (some ⟨b, 0, none⟩) 1 1) [l] := by
  refine .inr ⟨b, 0, 1, rfl, heap_lt hb, by simp, fun j hj => ?_⟩
  obtain rfl : j = 0 := by have : j < 1 := hj; omega
  refine ⟨[v], rfl, fun q hq => ?_, v, rfl, h⟩
  obtain rfl : q = 0 := by omega
  rw [cell_at hb]
  rfl
set_option maxHeartbeats 16000000 in
theorem modelLists_any (v : Value) (l : List Event) (vol : Int) (seen : Vec) (id : Stp) (what : Int) (w : World) (h : Events (· < w.heap.size) w v l) (hr : l.length * 200 ≤ 140737488351232) :
    Calls Tryz.prog 5 #[v, .int .i64 vol, seen.val, id.val, .int .i64 what] w fun e w' => e = .returned (.bool true) ∧ Below w.heap.size w w' := by
  obtain ⟨a, c, rfl, _⟩ := slice_form h
  have H : Hid _ := h
  clear h
  go_enter Tryz.func5, Tryz.ntmps5
  go_wp2_with fail
  obtain ⟨w1, hw1⟩ : ∃ w1, w1 = ((w.alloc (.cells #[.int .i64 seen.v0, .int .i64 seen.v1, .int .i64 seen.v2, .int .i64 seen.v3, .int .i64 seen.v4, .int .i64 seen.v5, .int .i64 seen.v6, .int .i64 seen.v7] 26)).alloc (.cells #[.int .i64 id.t, .int .i64 id.who] 24)).alloc (.cells #[.slice a l.length c] 22) := ⟨_, rfl⟩
  have hb1 : Below w.heap.size w w1 := by rw [hw1]; exact (((Below.refl _ _).alloc (Nat.le_refl _) _).alloc (by simp) _).alloc (by simp; omega) _
  have h7 : w1.heap[w.heap.size]? = some (.cells #[.int .i64 seen.v0, .int .i64 seen.v1, .int .i64 seen.v2, .int .i64 seen.v3, .int .i64 seen.v4, .int .i64 seen.v5, .int .i64 seen.v6, .int .i64 seen.v7] 26 (0, 0)) := by
    rw [hw1, heap_alloc_other _ (by simp; omega), heap_alloc_other _ (by simp)]; exact heap_alloc_last _ _
  have h8 : w1.heap[w.heap.size + 1]? = some (.cells #[.int .i64 id.t, .int .i64 id.who] 24 (0, 0)) := by
    rw [hw1, heap_alloc_other _ (by simp)]
    have := heap_alloc_last (w.alloc (.cells #[.int .i64 seen.v0, .int .i64 seen.v1, .int .i64 seen.v2, .int .i64 seen.v3, .int .i64 seen.v4, .int .i64 seen.v5, .int .i64 seen.v6, .int .i64 seen.v7] 26)) (.cells #[.int .i64 id.t, .int .i64 id.who] 24)
    simpa using this
  have h9 : w1.heap[w.heap.size + 1 + 1]? = some (.cells #[.slice a l.length c] 22 (0, 0)) := by
    have := heap_alloc_last ((w.alloc (.cells #[.int .i64 seen.v0, .int .i64 seen.v1, .int .i64 seen.v2, .int .i64 seen.v3, .int .i64 seen.v4, .int .i64 seen.v5, .int .i64 seen.v6, .int .i64 seen.v7] 26)).alloc (.cells #[.int .i64 id.t, .int .i64 id.who] 24)) (.cells #[.slice a l.length c] 22)
    rw [hw1]
    simpa using this
  rw [← hw1]
  clear hw1
  generalize w.heap.size + 1 + 1 = b9 at h9 ⊢
  generalize w.heap.size + 1 = b8 at h8 ⊢
  generalize hb7 : w.heap.size = b7 at h7 ⊢
  have HX : Hid _ := hb7
  have HB1 : Hid (Below w.heap.size w w1) := by rw [HX.out]; rw [hb7] at hb1; exact hb1
  have H7 : Hid _ := h7
  have H8 : Hid _ := h8
  have H9 : Hid _ := h9
  clear hb7 hb1 h7 h8 h9
  refine (smalls_any _ [l] w1 (lists_one (Events.on H.out HB1.out) H9.out)).mono ?_
  rintro e w2 ⟨x, rfl, hb2⟩
  have HB2 : Hid (Below w.heap.size w w2) := HB1.out.trans (hb2.mono HB1.out.size)
  have H72 : Hid _ := (hb2.block _ (heap_lt H7.out)).trans H7.out
  have H82 : Hid _ := (hb2.block _ (heap_lt H8.out)).trans H8.out
  clear hb2 H7 H8 H9 HB1
  cases x with
  | false =>
    go_wp2_with fail
    refine (awake_any w2).mono ?_
    rintro e w3 ⟨rfl, hb3⟩
    have HB3 : Hid (Below w.heap.size w w3) := HB2.out.trans (hb3.mono HB2.out.size)
    clear hb3
    go_wp2_with fail
    go_ret
    exact ⟨rfl, HB3.out⟩
  | true =>
    go_wp2_with fail
    refine (last_any _ l w2 (Events.on H.out HB2.out)).mono ?_
    rintro e w3 ⟨vn, vl, rfl, hs, hb3⟩
    obtain ⟨an, cn, rfl, _⟩ := slice_form hs.nodes
    obtain ⟨al, cl, rfl, _⟩ := slice_form hs.links
    have hb4 := hb3.trans ((below_alloc w3 (.cells ((lastE l).row (.slice an (lastE l).delta.nodes.length cn) (.slice al (lastE l).delta.links.length cl)) 32)).mono hb3.size)
    have HB4 : Hid _ := HB2.out.trans (hb4.mono HB2.out.size)
    have H74 : Hid _ := (hb4.block _ (heap_lt H72.out)).trans H72.out
    have H84 : Hid _ := (hb4.block _ (heap_lt H82.out)).trans H82.out
    have H114 : Hid _ := heap_alloc_last w3 (.cells ((lastE l).row (.slice an (lastE l).delta.nodes.length cn) (.slice al (lastE l).delta.links.length cl)) 32)
    have HS4 : Hid _ := hs.on hb4
    clear hb3 hb4 hs H72 H82 HB2
    go_wp2_with (first | (refine wpList_var rfl rfl 32 (.tmp 23) (.tmp 11) rfl rfl rfl ((lastE l).row (.slice an (lastE l).delta.nodes.length cn) (.slice al (lastE l).delta.links.length cl)) _ Tryz.zeroValue32 rfl (by kernel_rfl) rfl rfl rfl ?_) | fail)
    generalize w3.alloc _ = w4 at HB4 H74 H84 H114 HS4 ⊢
    generalize w3.heap.size = b11 at H114 ⊢
    refine (rlast_any _ l w4 (Events.on H.out HB4.out)).mono ?_
    rintro e w5 ⟨vn', vl', rfl, hs, hb5⟩
    obtain ⟨an', cn', rfl, _⟩ := slice_form hs.nodes
    obtain ⟨al', cl', rfl, _⟩ := slice_form hs.links
    have hb6 := hb5.trans ((below_alloc w5 (.cells ((lastE l).row (.slice an' (lastE l).delta.nodes.length cn') (.slice al' (lastE l).delta.links.length cl')) 32)).mono hb5.size)
    have H136 : Hid _ := heap_alloc_last w5 (.cells ((lastE l).row (.slice an' (lastE l).delta.nodes.length cn') (.slice al' (lastE l).delta.links.length cl')) 32)
    have HS6 : Hid _ := HS4.out.on hb6
    have HS6' : Hid _ := hs.on hb6
    have HL6 : Hid (Below w.heap.size w _ ∧ _ ∧ _ ∧ _) := ⟨HB4.out.trans (hb6.mono HB4.out.size), (hb6.block _ (heap_lt H74.out)).trans H74.out, (hb6.block _ (heap_lt H84.out)).trans H84.out, (hb6.block _ (heap_lt H114.out)).trans H114.out⟩
    clear hb5 hb6 hs HB4 H74 H84 H114 HS4
    go_wp2_with (first | (refine wpList_var rfl rfl 32 (.tmp 28) (.tmp 13) rfl rfl rfl ((lastE l).row (.slice an' (lastE l).delta.nodes.length cn') (.slice al' (lastE l).delta.links.length cl')) _ Tryz.zeroValue32 rfl (by kernel_rfl) rfl rfl rfl ?_) | fail)
    generalize w5.alloc _ = w6 at HL6 H136 HS6 HS6' ⊢
    generalize w5.heap.size = b13 at H136 ⊢
    generalize lastE l = ev at HL6 H136 HS6 HS6' ⊢
    generalize (lastO l).isSome = ok
    have HK : Hid (LK w w6 b7 b8 b11 b13 seen id ev (.slice an ev.delta.nodes.length cn) (.slice al ev.delta.links.length cl) (.slice an' ev.delta.nodes.length cn') (.slice al' ev.delta.links.length cl')) := ⟨HL6.out.1, HL6.out.2.1, HL6.out.2.2.1, HL6.out.2.2.2, H136.out, HS6.out, HS6'.out⟩
    clear HL6 H136 HS6 HS6'
    have A0 : Hid (LK w w6.drew b7 b8 b11 b13 seen id ev (.slice an ev.delta.nodes.length cn) (.slice al ev.delta.links.length cl) (.slice an' ev.delta.nodes.length cn') (.slice al' ev.delta.links.length cl')) := HK.out.on ((Below.refl _ _).drew)
    clear HK
    have hu := Tryz.underlying32
    have hi1 : (Tryz.prog.info? 32).map (·.size) = some (ev.list (.slice an ev.delta.nodes.length cn) (.slice al ev.delta.links.length cl)).length := by kernel_rfl
    have hi2 : (Tryz.prog.info? 32).map (·.size) = some (ev.list (.slice an' ev.delta.nodes.length cn') (.slice al' ev.delta.links.length cl')).length := by kernel_rfl
    refine wp_region_held_drew (S := (fun w' => Hid (LK w w' b7 b8 b11 b13 seen id ev (.slice an ev.delta.nodes.length cn) (.slice al ev.delta.links.length cl) (.slice an' ev.delta.nodes.length cn') (.slice al' ev.delta.links.length cl')))) (by kernel_rfl) A0 (fun hHeld => ?_)
    clear hHeld
    have A : Hid (LK w w6.drew b7 b8 b11 b13 seen id ev (.slice an ev.delta.nodes.length cn) (.slice al ev.delta.links.length cl) (.slice an' ev.delta.nodes.length cn') (.slice al' ev.delta.links.length cl')) := A0
    clear A0
    all_goals
      refine Pair.take (i := 0) (fuel := 42) (d := 30) (v := ?_) (by kernel_rfl) rfl rfl (by kernel_rfl) (by kernel_rfl) (by kernel_rfl) (fun _ _ _ h => h) (Or.inl ⟨by rfl, ?_⟩) A ?_
      rotate_left 1
      · (intro w' hSw; go_simp; try with_reducible rfl)
      try simp only [Act.put, List.setIfInBounds_toArray, List.set_cons_zero, List.set_cons_succ]
    all_goals
      refine Pair.take (i := 1) (fuel := 41) (d := 31) (v := ?_) (by kernel_rfl) rfl rfl (by kernel_rfl) (by kernel_rfl) (by kernel_rfl) (fun _ _ _ h => h) (Or.inl ⟨by rfl, ?_⟩) A ?_
      rotate_left 1
      · (intro w' hSw; go_simp; try with_reducible rfl)
      try simp only [Act.put, List.setIfInBounds_toArray, List.set_cons_zero, List.set_cons_succ]
    all_goals
      refine Pair.take (i := 2) (fuel := 40) (d := 32) (v := ?_) (by kernel_rfl) rfl rfl (by kernel_rfl) (by kernel_rfl) (by kernel_rfl) (fun _ _ _ h => h) (Or.inl ⟨by rfl, ?_⟩) A ?_
      rotate_left 1
      · (intro w' hSw; obtain ⟨f0, f1, f2, f3, f4, f5, f6, f7, g0, g1, -⟩ := LK.held (Hid.out hSw); go_simp; try with_reducible rfl)
      try simp only [Act.put, List.setIfInBounds_toArray, List.set_cons_zero, List.set_cons_succ]
    all_goals
      refine Pair.take (i := 4) (fuel := 39) (d := 34) (v := ?_) (by kernel_rfl) rfl rfl (by kernel_rfl) (by kernel_rfl) (by kernel_rfl) (fun _ _ _ h => h) (Or.inl ⟨by rfl, ?_⟩) A ?_
      rotate_left 1
      · (intro w' hSw; go_simp; try with_reducible rfl)
      try simp only [Act.put, List.setIfInBounds_toArray, List.set_cons_zero, List.set_cons_succ]
    all_goals
      refine Pair.take (i := 5) (fuel := 38) (d := 35) (v := ?_) (by kernel_rfl) rfl rfl (by kernel_rfl) (by kernel_rfl) (by kernel_rfl) (fun _ _ _ h => h) (Or.inl ⟨by rfl, ?_⟩) A ?_
      rotate_left 1
      · (intro w' hSw; go_simp; try with_reducible rfl)
      try simp only [Act.put, List.setIfInBounds_toArray, List.set_cons_zero, List.set_cons_succ]
    all_goals
      refine Pair.take (i := 6) (fuel := 37) (d := 36) (v := ?_) (by kernel_rfl) rfl rfl (by kernel_rfl) (by kernel_rfl) (by kernel_rfl) (fun _ _ _ h => h) (Or.inl ⟨by rfl, ?_⟩) A ?_
      rotate_left 1
      · (intro w' hSw; obtain ⟨f0, f1, f2, f3, f4, f5, f6, f7, g0, g1, -⟩ := LK.held (Hid.out hSw); go_simp; try with_reducible rfl)
      try simp only [Act.put, List.setIfInBounds_toArray, List.set_cons_zero, List.set_cons_succ]
    all_goals
      refine Pair.call1 (i := 3) (fuel := 36) (by kernel_rfl) rfl (by kernel_rfl) (fun K hK => ?_)
    all_goals
      go_simp
      go_at_call 19
      refine (known_any _ l vol seen _ (LK.events A H) hr).mono ?_
      rintro e wk ⟨vk, rfl, hek, hbk⟩
      replace A := LK.step A hbk
      refine hK.out _ _ A (fun hHeld => ?_)
      clear hHeld hK K
      try simp only [Act.put, List.setIfInBounds_toArray, List.set_cons_zero, List.set_cons_succ]
    all_goals
      refine Pair.call1 (i := 7) (fuel := 35) (by kernel_rfl) rfl (by kernel_rfl) (fun K hK => ?_)
    all_goals
      go_simp
      go_at_call 20
      refine (rknown_any _ l vol seen _ (LK.events A H) hr).mono ?_
      rintro e wr ⟨vr, rfl, her, hbr⟩
      replace A := LK.step A hbr
      replace hek := hek.on hbr
      refine hK.out _ _ A (fun hHeld => ?_)
      clear hHeld hK K
      try simp only [Act.put, List.setIfInBounds_toArray, List.set_cons_zero, List.set_cons_succ]
    all_goals
      refine Pair.call1 (i := 8) (fuel := 34) (by kernel_rfl) rfl (by kernel_rfl) (fun K hK => ?_)
    all_goals
      go_simp
      go_at_call 18
      refine (sames_any vk vr (knownL l vol seen) _ hek her).mono ?_
      rintro e ws ⟨rfl, hbs⟩
      replace A := LK.step A hbs
      clear hek her
      refine hK.out _ _ A (fun hHeld => ?_)
      clear hHeld hK K
      try simp only [Act.put, List.setIfInBounds_toArray, List.set_cons_zero, List.set_cons_succ]
    all_goals
      refine Pair.take (i := 9) (fuel := 33) (d := 39) (v := ?_) (by kernel_rfl) rfl rfl (by kernel_rfl) (by kernel_rfl) (by kernel_rfl) (fun _ _ _ h => h) (Or.inl ⟨by rfl, ?_⟩) A ?_
      rotate_left 1
      · (intro w' hSw; go_simp; try with_reducible rfl)
      try simp only [Act.put, List.setIfInBounds_toArray, List.set_cons_zero, List.set_cons_succ]
    all_goals
      refine Pair.take (i := 10) (fuel := 32) (d := 40) (v := ?_) (by kernel_rfl) rfl rfl (by kernel_rfl) (by kernel_rfl) (by kernel_rfl) (fun _ _ _ h => h) (Or.inl ⟨by rfl, ?_⟩) A ?_
      rotate_left 1
      · (intro w' hSw; go_simp; try with_reducible rfl)
      try simp only [Act.put, List.setIfInBounds_toArray, List.set_cons_zero, List.set_cons_succ]
    all_goals
      refine Pair.take (i := 11) (fuel := 31) (d := 41) (v := ?_) (by kernel_rfl) rfl rfl (by kernel_rfl) (by kernel_rfl) (by kernel_rfl) (fun _ _ _ h => h) (Or.inl ⟨by rfl, ?_⟩) A ?_
      rotate_left 1
      · (intro w' hSw; obtain ⟨f0, f1, f2, f3, f4, f5, f6, f7, g0, g1, -⟩ := LK.held (Hid.out hSw); go_simp; try with_reducible rfl)
      try simp only [Act.put, List.setIfInBounds_toArray, List.set_cons_zero, List.set_cons_succ]
    all_goals
      refine Pair.take (i := 12) (fuel := 30) (d := 42) (v := ?_) (by kernel_rfl) rfl rfl (by kernel_rfl) (by kernel_rfl) (by kernel_rfl) (fun _ _ _ h => h) (Or.inl ⟨by rfl, ?_⟩) A ?_
      rotate_left 1
      · (intro w' hSw; go_simp; try with_reducible rfl)
      try simp only [Act.put, List.setIfInBounds_toArray, List.set_cons_zero, List.set_cons_succ]
    all_goals
      refine Pair.take (i := 14) (fuel := 29) (d := 44) (v := ?_) (by kernel_rfl) rfl rfl (by kernel_rfl) (by kernel_rfl) (by kernel_rfl) (fun _ _ _ h => h) (Or.inl ⟨by rfl, ?_⟩) A ?_
      rotate_left 1
      · (intro w' hSw; go_simp; try with_reducible rfl)
      try simp only [Act.put, List.setIfInBounds_toArray, List.set_cons_zero, List.set_cons_succ]
    all_goals
      refine Pair.take (i := 15) (fuel := 28) (d := 45) (v := ?_) (by kernel_rfl) rfl rfl (by kernel_rfl) (by kernel_rfl) (by kernel_rfl) (fun _ _ _ h => h) (Or.inl ⟨by rfl, ?_⟩) A ?_
      rotate_left 1
      · (intro w' hSw; obtain ⟨f0, f1, f2, f3, f4, f5, f6, f7, g0, g1, -⟩ := LK.held (Hid.out hSw); go_simp; try with_reducible rfl)
      try simp only [Act.put, List.setIfInBounds_toArray, List.set_cons_zero, List.set_cons_succ]
    all_goals
      refine Pair.take (i := 16) (fuel := 27) (d := 46) (v := ?_) (by kernel_rfl) rfl rfl (by kernel_rfl) (by kernel_rfl) (by kernel_rfl) (fun _ _ _ h => h) (Or.inl ⟨by rfl, ?_⟩) A ?_
      rotate_left 1
      · (intro w' hSw; go_simp; try with_reducible rfl)
      try simp only [Act.put, List.setIfInBounds_toArray, List.set_cons_zero, List.set_cons_succ]
    all_goals
      refine Pair.call1 (i := 13) (fuel := 26) (by kernel_rfl) rfl (by kernel_rfl) (fun K hK => ?_)
    all_goals
      go_simp
      go_at_call 21
      refine (writers_any _ l id what _ (LK.events A H) hr).mono ?_
      rintro e ww ⟨vw, rfl, hew, hbw⟩
      replace A := LK.step A hbw
      refine hK.out _ _ A (fun hHeld => ?_)
      clear hHeld hK K
      try simp only [Act.put, List.setIfInBounds_toArray, List.set_cons_zero, List.set_cons_succ]
    all_goals
      refine Pair.call1 (i := 17) (fuel := 25) (by kernel_rfl) rfl (by kernel_rfl) (fun K hK => ?_)
    all_goals
      go_simp
      go_at_call 22
      refine (rwriters_any _ l id what _ (LK.events A H) hr).mono ?_
      rintro e wx ⟨vx, rfl, hex, hbx⟩
      replace A := LK.step A hbx
      replace hew := hew.on hbx
      refine hK.out _ _ A (fun hHeld => ?_)
      clear hHeld hK K
      try simp only [Act.put, List.setIfInBounds_toArray, List.set_cons_zero, List.set_cons_succ]
    all_goals
      refine Pair.call1 (i := 18) (fuel := 24) (by kernel_rfl) rfl (by kernel_rfl) (fun K hK => ?_)
    all_goals
      go_simp
      go_at_call 18
      refine (sames_any vw vx (writersL l id what) _ hew hex).mono ?_
      rintro e wt ⟨rfl, hbt⟩
      replace A := LK.step A hbt
      clear hew hex
      refine hK.out _ _ A (fun hHeld => ?_)
      clear hHeld hK K
      try simp only [Act.put, List.setIfInBounds_toArray, List.set_cons_zero, List.set_cons_succ]
    all_goals
      refine Pair.take (i := 19) (fuel := 23) (d := 49) (v := ?_) (by kernel_rfl) rfl rfl (by kernel_rfl) (by kernel_rfl) (by kernel_rfl) (fun _ _ _ h => h) (Or.inl ⟨by rfl, ?_⟩) A ?_
      rotate_left 1
      · (intro w' hSw; go_simp; try with_reducible rfl)
      try simp only [Act.put, List.setIfInBounds_toArray, List.set_cons_zero, List.set_cons_succ]
    all_goals
      refine Pair.take (i := 20) (fuel := 22) (d := 50) (v := ?_) (by kernel_rfl) rfl rfl (by kernel_rfl) (by kernel_rfl) (by kernel_rfl) (fun _ _ _ h => h) (Or.inl ⟨by rfl, ?_⟩) A ?_
      rotate_left 1
      · (intro w' hSw; go_simp; try with_reducible rfl)
      try simp only [Act.put, List.setIfInBounds_toArray, List.set_cons_zero, List.set_cons_succ]
    all_goals
      refine Pair.take (i := 21) (fuel := 21) (d := 51) (by kernel_rfl) rfl rfl (by kernel_rfl) (by kernel_rfl) (by kernel_rfl) (fun _ _ _ h => h) (yieldsIf_load_mid (by rfl) 32 _ rfl _ 0 rfl _ _ (fun w' hSw => rangeAt_box (Hid.out hSw).h11) Tryz.underlying32 rfl hi1) A ?_
      try simp only [Act.put, List.setIfInBounds_toArray, List.set_cons_zero, List.set_cons_succ]
    all_goals
      refine Pair.take (i := 22) (fuel := 20) (d := 52) (by kernel_rfl) rfl rfl (by kernel_rfl) (by kernel_rfl) (by kernel_rfl) (fun _ _ _ h => h) (yieldsIf_load_mid (by rfl) 32 _ rfl _ 0 rfl _ _ (fun w' hSw => rangeAt_box (Hid.out hSw).h13) Tryz.underlying32 rfl hi2) A ?_
      try simp only [Act.put, List.setIfInBounds_toArray, List.set_cons_zero, List.set_cons_succ]
    all_goals
      refine Pair.call1 (i := 23) (fuel := 19) (by kernel_rfl) rfl (by kernel_rfl) (fun K hK => ?_)
    all_goals
      go_simp
      go_at_call 23
      refine (same22_any ev _ _ _ _ _ (LK.s11 (Hid.out A)) (LK.s13 (Hid.out A))).mono ?_
      rintro e wu ⟨rfl, hbu⟩
      replace A := LK.step A hbu
      refine hK.out _ _ A (fun hHeld => ?_)
      clear hHeld hK K
      try simp only [Act.put, List.setIfInBounds_toArray, List.set_cons_zero, List.set_cons_succ]
    all_goals
      refine Pair.take (i := 24) (fuel := 18) (d := 54) (v := ?_) (by kernel_rfl) rfl rfl (by kernel_rfl) (by kernel_rfl) (by kernel_rfl) (fun _ _ _ h => h) (Or.inl ⟨by rfl, ?_⟩) A ?_
      rotate_left 1
      · (intro w' hSw; go_simp; try with_reducible rfl)
      try simp only [Act.put, List.setIfInBounds_toArray, List.set_cons_zero, List.set_cons_succ]
    all_goals
      refine Pair.take (i := 25) (fuel := 17) (d := 55) (v := ?_) (by kernel_rfl) rfl rfl (by kernel_rfl) (by kernel_rfl) (by kernel_rfl) (fun _ _ _ h => h) (Or.inl ⟨by rfl, ?_⟩) A ?_
      rotate_left 1
      · (intro w' hSw; go_simp; try with_reducible rfl)
      try simp only [Act.put, List.setIfInBounds_toArray, List.set_cons_zero, List.set_cons_succ]
    all_goals
      refine Pair.take (i := 26) (fuel := 16) (d := 56) (v := ?_) (by kernel_rfl) rfl rfl (by kernel_rfl) (by kernel_rfl) (by kernel_rfl) (fun _ _ _ h => h) (Or.inl ⟨by rfl, ?_⟩) A ?_
      rotate_left 1
      · (intro w' hSw; go_simp; try with_reducible rfl)
      try simp only [Act.put, List.setIfInBounds_toArray, List.set_cons_zero, List.set_cons_succ]
    all_goals
      refine Pair.take (i := 27) (fuel := 15) (d := 57) (v := ?_) (by kernel_rfl) rfl rfl (by kernel_rfl) (by kernel_rfl) (by kernel_rfl) (fun _ _ _ h => h) (Or.inl ⟨by rfl, ?_⟩) A ?_
      rotate_left 1
      · (intro w' hSw; go_simp; try with_reducible rfl)
      try simp only [Act.put, List.setIfInBounds_toArray, List.set_cons_zero, List.set_cons_succ]
    all_goals
      refine Pair.take (i := 28) (fuel := 14) (d := 58) (v := .bool true) (by kernel_rfl) rfl rfl (by kernel_rfl) (by kernel_rfl) (by kernel_rfl) (fun _ _ _ h => h) (Or.inl ⟨by rfl, ?_⟩) A ?_
      · (intro w' hSw; go_simp; try simp; done)
      try simp only [Act.put, List.setIfInBounds_toArray, List.set_cons_zero, List.set_cons_succ]
    all_goals
      refine Pair.take (i := 29) (fuel := 13) (d := 59) (v := ?_) (by kernel_rfl) rfl rfl (by kernel_rfl) (by kernel_rfl) (by kernel_rfl) (fun _ _ _ h => h) (Or.inl ⟨by rfl, ?_⟩) A ?_
      rotate_left 1
      · (intro w' hSw; go_simp; try with_reducible rfl)
      try simp only [Act.put, List.setIfInBounds_toArray, List.set_cons_zero, List.set_cons_succ]
    all_goals
      refine Pair.take (i := 30) (fuel := 12) (d := 60) (v := ?_) (by kernel_rfl) rfl rfl (by kernel_rfl) (by kernel_rfl) (by kernel_rfl) (fun _ _ _ h => h) (Or.inl ⟨by rfl, ?_⟩) A ?_
      rotate_left 1
      · (intro w' hSw; go_simp; try with_reducible rfl)
      try simp only [Act.put, List.setIfInBounds_toArray, List.set_cons_zero, List.set_cons_succ]
    all_goals
      refine Pair.take (i := 31) (fuel := 11) (d := 61) (v := ?_) (by kernel_rfl) rfl rfl (by kernel_rfl) (by kernel_rfl) (by kernel_rfl) (fun _ _ _ h => h) (Or.inl ⟨by rfl, ?_⟩) A ?_
      rotate_left 1
      · (intro w' hSw; go_simp; try with_reducible rfl)
      try simp only [Act.put, List.setIfInBounds_toArray, List.set_cons_zero, List.set_cons_succ]
    all_goals
      refine Pair.take (i := 32) (fuel := 10) (d := 62) (v := ?_) (by kernel_rfl) rfl rfl (by kernel_rfl) (by kernel_rfl) (by kernel_rfl) (fun _ _ _ h => h) (Or.inl ⟨by rfl, ?_⟩) A ?_
      rotate_left 1
      · (intro w' hSw; obtain ⟨f0, f1, f2, f3, f4, f5, f6, f7, g0, g1, -⟩ := LK.held (Hid.out hSw); go_simp; try with_reducible rfl)
      try simp only [Act.put, List.setIfInBounds_toArray, List.set_cons_zero, List.set_cons_succ]
    all_goals
      refine Pair.take (i := 34) (fuel := 9) (d := 64) (v := ?_) (by kernel_rfl) rfl rfl (by kernel_rfl) (by kernel_rfl) (by kernel_rfl) (fun _ _ _ h => h) (Or.inl ⟨by rfl, ?_⟩) A ?_
      rotate_left 1
      · (intro w' hSw; go_simp; try with_reducible rfl)
      try simp only [Act.put, List.setIfInBounds_toArray, List.set_cons_zero, List.set_cons_succ]
    all_goals
      refine Pair.take (i := 35) (fuel := 8) (d := 65) (v := ?_) (by kernel_rfl) rfl rfl (by kernel_rfl) (by kernel_rfl) (by kernel_rfl) (fun _ _ _ h => h) (Or.inl ⟨by rfl, ?_⟩) A ?_
      rotate_left 1
      · (intro w' hSw; obtain ⟨f0, f1, f2, f3, f4, f5, f6, f7, g0, g1, -⟩ := LK.held (Hid.out hSw); go_simp; try with_reducible rfl)
      try simp only [Act.put, List.setIfInBounds_toArray, List.set_cons_zero, List.set_cons_succ]
    all_goals
      refine Pair.call1 (i := 33) (fuel := 7) (by kernel_rfl) rfl (by kernel_rfl) (fun K hK => ?_)
    all_goals
      go_simp
      go_at_call 24
      refine (unlinked_any _ l id _ (LK.events A H)).mono ?_
      rintro e wv ⟨rfl, hbv⟩
      replace A := LK.step A hbv
      refine hK.out _ _ A (fun hHeld => ?_)
      clear hHeld hK K
      try simp only [Act.put, List.setIfInBounds_toArray, List.set_cons_zero, List.set_cons_succ]
    all_goals
      refine Pair.call1 (i := 36) (fuel := 6) (by kernel_rfl) rfl (by kernel_rfl) (fun K hK => ?_)
    all_goals
      go_simp
      go_at_call 25
      refine (runlinked_any _ l id _ (LK.events A H)).mono ?_
      rintro e wy ⟨rfl, hby⟩
      replace A := LK.step A hby
      refine hK.out _ _ A (fun hHeld => ?_)
      clear hHeld hK K
      try simp only [Act.put, List.setIfInBounds_toArray, List.set_cons_zero, List.set_cons_succ]
    all_goals
      refine Pair.take (i := 37) (fuel := 5) (d := 67) (v := .bool true) (by kernel_rfl) rfl rfl (by kernel_rfl) (by kernel_rfl) (by kernel_rfl) (fun _ _ _ h => h) (Or.inl ⟨by rfl, ?_⟩) A ?_
      · (intro w' hSw; go_simp; try simp; done)
      try simp only [Act.put, List.setIfInBounds_toArray, List.set_cons_zero, List.set_cons_succ]
    all_goals
      refine Pair.take (i := 38) (fuel := 4) (d := 68) (v := ?_) (by kernel_rfl) rfl rfl (by kernel_rfl) (by kernel_rfl) (by kernel_rfl) (fun _ _ _ h => h) (Or.inl ⟨by rfl, ?_⟩) A ?_
      rotate_left 1
      · (intro w' hSw; go_simp; try with_reducible rfl)
      try simp only [Act.put, List.setIfInBounds_toArray, List.set_cons_zero, List.set_cons_succ]
    all_goals
      refine Pair.take (i := 39) (fuel := 3) (d := 69) (v := ?_) (by kernel_rfl) rfl rfl (by kernel_rfl) (by kernel_rfl) (by kernel_rfl) (fun _ _ _ h => h) (Or.inl ⟨by rfl, ?_⟩) A ?_
      rotate_left 1
      · (intro w' hSw; go_simp; try with_reducible rfl)
      try simp only [Act.put, List.setIfInBounds_toArray, List.set_cons_zero, List.set_cons_succ]
    all_goals
      refine Pair.call1 (i := 40) (fuel := 2) (by kernel_rfl) rfl (by kernel_rfl) (fun K hK => ?_)
    all_goals
      go_simp
      go_at_call 7
      refine (awake_any _).mono ?_
      rintro e wz ⟨rfl, hbz⟩
      replace A := LK.step A hbz
      refine hK.out _ _ A (fun hHeld => ?_)
      clear hHeld hK K
      try simp only [Act.put, List.setIfInBounds_toArray, List.set_cons_zero, List.set_cons_succ]
    all_goals
      refine Pair.take (i := 41) (fuel := 1) (d := 71) (v := ?_) (by kernel_rfl) rfl rfl (by kernel_rfl) (by kernel_rfl) (by kernel_rfl) (fun _ _ _ h => h) (Or.inl ⟨by rfl, ?_⟩) A ?_
      rotate_left 1
      · (intro w' hSw; go_simp; try with_reducible rfl)
      try simp only [Act.put, List.setIfInBounds_toArray, List.set_cons_zero, List.set_cons_succ]
    all_goals
      refine Pair.take (i := 42) (fuel := 0) (d := 10) (v := ?_) (by kernel_rfl) rfl rfl (by kernel_rfl) (by kernel_rfl) (by kernel_rfl) (fun _ _ _ h => h) (Or.inl ⟨by rfl, ?_⟩) A ?_
      rotate_left 1
      · (intro w' hSw; go_simp; try with_reducible rfl)
      try simp only [Act.put, List.setIfInBounds_toArray, List.set_cons_zero, List.set_cons_succ]
    all_goals
      refine wpAnyH_done (by kernel_rfl) ?_ _
      have HF := LK.below (Hid.out A)
      clear A
      have HF2 : Hid _ := HF
      clear HF
      go_wp2
      go_ret
      exact ⟨rfl, HF2.out⟩
end Go.Proofs.YtehkhlmpkhnbmaaGreat.Mod
