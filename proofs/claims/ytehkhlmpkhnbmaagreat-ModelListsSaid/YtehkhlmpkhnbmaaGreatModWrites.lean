/- What the functions of layer 22 compute (4): who wrote a register, who unlinked. -/
import Derived.Test.YtehkhlmpkhnbmaaGreatModFuncs
import Derived.Test.YtehkhlmpkhnbmaaGreatVecEq
namespace Go.Proofs.YtehkhlmpkhnbmaaGreat.Mod
set_option linter.unusedVariables false
set_option linter.unusedSimpArgs false
set_option maxRecDepth 100000
open Go.RowKit Go.Proofs.YtehkhlmpkhnbmaaGreat.Mem

theorem ret_bool {a b : Bool} (h : a = b) : Ending.returned (.bool a) = .returned (.bool b) := by rw [h]
set_option maxHeartbeats 4000000 in
theorem writes1_any (a : Link) (id : Stp) (b : Nat) (w : World) (h : w.heap[b]? = some (.cells #[.int .i64 id.t, .int .i64 id.who] 24 (0, 0))) :
    Calls Tryz.prog 91 #[.agg a.row, .pointer (some ⟨b, 0, none⟩)] w fun e w' => e = .returned (.bool (placeB id a)) ∧ Below w.heap.size w w' := by
  have q0 := cell_at h 0
  have q1 := cell_at h 1
  simp only [List.getElem?_toArray, List.getElem?_cons_zero, List.getElem?_cons_succ] at q0 q1
  have hb := heap_lt h
  clear h
  go_enter Tryz.func91, Tryz.ntmps91
  go_wp2
  all_goals
    clear q0 q1 hb
    go_ret
    refine ⟨?_, below_alloc _ _⟩
    refine ret_bool ?_
    simp_all [placeB, Stp.eq, Stp.zero, Act.put]
set_option maxHeartbeats 8000000 in
theorem writes2_any (a : Inode) (vp vx : Value) (id : Stp) (what : Int) (b c : Nat) (w : World) (h : w.heap[b]? = some (.cells #[.int .i64 id.t, .int .i64 id.who] 24 (0, 0))) (hw : w.heap[c]? = some (.cells #[.int .i64 what] 3 (0, 0))) :
    Calls Tryz.prog 93 #[.agg (a.row vp vx), .pointer (some ⟨b, 0, none⟩), .pointer (some ⟨c, 0, none⟩)] w fun e w' => e = .returned (.bool (nodeB id what a)) ∧ Below w.heap.size w w' := by
  have q0 := cell_at h 0
  have q1 := cell_at h 1
  have q2 := cell_at hw 0
  simp only [List.getElem?_toArray, List.getElem?_cons_zero, List.getElem?_cons_succ] at q0 q1 q2
  have hb := heap_lt h
  have hc := heap_lt hw
  clear h hw
  go_enter Tryz.func93, Tryz.ntmps93
  go_wp2
  all_goals
    clear q0 q1 q2 hb hc
    go_ret
    refine ⟨?_, below_alloc _ _⟩
    refine ret_bool ?_
    simp_all [nodeB, Stp.eq, Stp.zero, Act.put]
set_option maxHeartbeats 8000000 in
theorem through1_any (a : Link) (id : Stp) (b : Nat) (w : World) (h : w.heap[b]? = some (.cells #[.int .i64 id.t, .int .i64 id.who] 24 (0, 0))) :
    Calls Tryz.prog 94 #[.agg a.row, .pointer (some ⟨b, 0, none⟩)] w fun e w' => e = .returned (.bool (throughB id a)) ∧ Below w.heap.size w w' := by
  have q0 := cell_at h 0
  have q1 := cell_at h 1
  simp only [List.getElem?_toArray, List.getElem?_cons_zero, List.getElem?_cons_succ] at q0 q1
  have hb := heap_lt h
  clear h
  have hnv := run_neq_vec
  go_enter Tryz.func94, Tryz.ntmps94
  go_wp2
  all_goals
    clear q0 q1 hb hnv
    go_ret
    refine ⟨?_, below_alloc _ _⟩
    refine ret_bool ?_
    simp_all [throughB, Stp.eq, Vec.eq, Vec.zero, Act.put]
set_option maxHeartbeats 8000000 in
theorem kills1_any (a : Link) (id : Stp) (b : Nat) (w : World) (h : w.heap[b]? = some (.cells #[.int .i64 id.t, .int .i64 id.who] 24 (0, 0))) :
    Calls Tryz.prog 95 #[.agg a.row, .pointer (some ⟨b, 0, none⟩)] w fun e w' => e = .returned (.bool (killsB id a)) ∧ Below w.heap.size w w' := by
  have q0 := cell_at h 0
  have q1 := cell_at h 1
  simp only [List.getElem?_toArray, List.getElem?_cons_zero, List.getElem?_cons_succ] at q0 q1
  have hb := heap_lt h
  clear h
  have hnv := run_neq_vec
  go_enter Tryz.func95, Tryz.ntmps95
  go_wp2
  all_goals
    clear q0 q1 hb hnv
    go_ret
    refine ⟨?_, below_alloc _ _⟩
    refine ret_bool ?_
    simp_all [killsB, Stp.eq, Vec.eq, Vec.zero, Act.put]

theorem linkR_len (cs : List Value) (x : Link) (w : World) (h : LinkR w cs x) : cs.length = 25 := by rw [h.1]; rfl
theorem inodeR_len {p : Nat → Prop} (cs : List Value) (x : Inode) (w : World) (h : InodeR p w cs x) : cs.length = 13 := by
  obtain ⟨vp, vx, rfl, _⟩ := h
  rfl
theorem eventR_len {p : Nat → Prop} (cs : List Value) (x : Event) (w : World) (h : EventR p w cs x) : cs.length = 21 := by
  obtain ⟨vp, vx, rfl, _⟩ := h
  rfl
theorem eg_writes1 : ∀ args w, (callFunc 91 args).run Tryz.prog w = .ok (.enter 91 args) w := enters_of Tryz.func91 (by kernel_rfl) rfl
theorem eg_writes2 : ∀ args w, (callFunc 93 args).run Tryz.prog w = .ok (.enter 93 args) w := enters_of Tryz.func93 (by kernel_rfl) rfl
theorem eg_through1 : ∀ args w, (callFunc 94 args).run Tryz.prog w = .ok (.enter 94 args) w := enters_of Tryz.func94 (by kernel_rfl) rfl
theorem eg_kills1 : ∀ args w, (callFunc 95 args).run Tryz.prog w = .ok (.enter 95 args) w := enters_of Tryz.func95 (by kernel_rfl) rfl
set_option maxHeartbeats 8000000 in
theorem through_any (s : State) (vn vl : Value) (id : Stp) (w : World) (h : StateR (· < w.heap.size) w vn vl s) :
    Calls Tryz.prog 49 #[.agg (s.row vn vl), id.val] w fun e w' => e = .returned (.bool (s.links.any (throughB id))) ∧ Below w.heap.size w w' := by
  go_enter Tryz.func49, Tryz.ntmps49
  go_wp2_with fail
  have hb : Below w.heap.size w ((w.alloc (.cells (s.row vn vl) 30)).alloc (.cells #[.int .i64 id.t, .int .i64 id.who] 24)) := ((Below.refl _ _).alloc (Nat.le_refl _) _).alloc (by simp) _
  have hbox : ((w.alloc (.cells (s.row vn vl) 30)).alloc (.cells #[.int .i64 id.t, .int .i64 id.who] 24)).heap[w.heap.size + 1]? = some (.cells #[.int .i64 id.t, .int .i64 id.who] 24 (0, 0)) := by
    have := heap_alloc_last (w.alloc (.cells (s.row vn vl) 30)) (.cells #[.int .i64 id.t, .int .i64 id.who] 24)
    simpa using this
  generalize (w.alloc (.cells (s.row vn vl) 30)).alloc (.cells #[.int .i64 id.t, .int .i64 id.who] 24) = w1 at hb hbox ⊢
  generalize w.heap.size + 1 = bs at hbox ⊢
  refine (contains_Link LinkR vl s.links _ _ (throughB id) w1 (h.links.on hb) (fun cs x hh => linkR_len cs x _ hh) ?_ eg_through1).mono ?_
  · intro x hx cs W hR hW
    rw [hR.1]
    exact through1_any x id bs W ((hW.block _ (heap_lt hbox)).trans hbox)  |>.mono fun e w' hh => ⟨hh.1, hW.trans (hh.2.mono hW.size)⟩
  · rintro e w2 ⟨rfl, hb2⟩
    have HB : Hid (Below w.heap.size w w2) := hb.trans (hb2.mono hb.size)
    clear hb hb2 hbox
    go_wp2_with fail
    go_ret
    exact ⟨rfl, HB.out⟩
set_option maxHeartbeats 8000000 in
theorem kills_any (s : State) (vn vl : Value) (id : Stp) (w : World) (h : StateR (· < w.heap.size) w vn vl s) :
    Calls Tryz.prog 51 #[.agg (s.row vn vl), id.val] w fun e w' => e = .returned (.bool (s.links.any (killsB id))) ∧ Below w.heap.size w w' := by
  go_enter Tryz.func51, Tryz.ntmps51
  go_wp2_with fail
  have hb : Below w.heap.size w ((w.alloc (.cells (s.row vn vl) 30)).alloc (.cells #[.int .i64 id.t, .int .i64 id.who] 24)) := ((Below.refl _ _).alloc (Nat.le_refl _) _).alloc (by simp) _
  have hbox : ((w.alloc (.cells (s.row vn vl) 30)).alloc (.cells #[.int .i64 id.t, .int .i64 id.who] 24)).heap[w.heap.size + 1]? = some (.cells #[.int .i64 id.t, .int .i64 id.who] 24 (0, 0)) := by
    have := heap_alloc_last (w.alloc (.cells (s.row vn vl) 30)) (.cells #[.int .i64 id.t, .int .i64 id.who] 24)
    simpa using this
  generalize (w.alloc (.cells (s.row vn vl) 30)).alloc (.cells #[.int .i64 id.t, .int .i64 id.who] 24) = w1 at hb hbox ⊢
  generalize w.heap.size + 1 = bs at hbox ⊢
  refine (contains_Link LinkR vl s.links _ _ (killsB id) w1 (h.links.on hb) (fun cs x hh => linkR_len cs x _ hh) ?_ eg_kills1).mono ?_
  · intro x hx cs W hR hW
    rw [hR.1]
    exact kills1_any x id bs W ((hW.block _ (heap_lt hbox)).trans hbox)  |>.mono fun e w' hh => ⟨hh.1, hW.trans (hh.2.mono hW.size)⟩
  · rintro e w2 ⟨rfl, hb2⟩
    have HB : Hid (Below w.heap.size w w2) := hb.trans (hb2.mono hb.size)
    clear hb hb2 hbox
    go_wp2_with fail
    go_ret
    exact ⟨rfl, HB.out⟩
set_option maxHeartbeats 8000000 in
theorem writes_any (s : State) (vn vl : Value) (id : Stp) (what : Int) (w : World) (h : StateR (· < w.heap.size) w vn vl s) :
    Calls Tryz.prog 48 #[.agg (s.row vn vl), id.val, .int .i64 what] w fun e w' => e = .returned (.bool (writesB id what s)) ∧ Below w.heap.size w w' := by
  have hfact : ∃ w1, w1 = ((w.alloc (.cells (s.row vn vl) 30)).alloc (.cells #[.int .i64 id.t, .int .i64 id.who] 24)).alloc (.cells #[.int .i64 what] 3) := ⟨_, rfl⟩
  obtain ⟨w1, hw1⟩ := hfact
  have hb : Below w.heap.size w w1 := by rw [hw1]; exact (((Below.refl _ _).alloc (Nat.le_refl _) _).alloc (by simp) _).alloc (by simp; omega) _
  have hbox : w1.heap[w.heap.size + 1]? = some (.cells #[.int .i64 id.t, .int .i64 id.who] 24 (0, 0)) := by
    rw [hw1, heap_alloc_other _ (by simp)]
    have := heap_alloc_last (w.alloc (.cells (s.row vn vl) 30)) (.cells #[.int .i64 id.t, .int .i64 id.who] 24)
    simpa using this
  have hbox2 : w1.heap[w.heap.size + 1 + 1]? = some (.cells #[.int .i64 what] 3 (0, 0)) := by
    rw [hw1]
    have := heap_alloc_last ((w.alloc (.cells (s.row vn vl) 30)).alloc (.cells #[.int .i64 id.t, .int .i64 id.who] 24)) (.cells #[.int .i64 what] 3)
    simpa using this
  have HB0 : Hid (Below w.heap.size w w1 ∧ w1.heap[w.heap.size + 1]? = some (.cells #[.int .i64 id.t, .int .i64 id.who] 24 (0, 0)) ∧ w1.heap[w.heap.size + 1 + 1]? = some (.cells #[.int .i64 what] 3 (0, 0))) := ⟨hb, hbox, hbox2⟩
  have HW1 : Hid _ := hw1
  clear hb hbox hbox2 hw1
  by_cases hw : what = 3
  · subst hw
    go_enter Tryz.func48, Tryz.ntmps48
    go_wp2_with fail
    rw [← HW1.out]
    obtain ⟨hb, hbox, _⟩ := HB0.out
    generalize w.heap.size + 1 = bs at hbox ⊢
    refine (contains_Link LinkR vl s.links _ _ (placeB id) w1 (h.links.on hb) (fun cs x hh => linkR_len cs x _ hh) ?_ eg_writes1).mono ?_
    · intro x hx cs W hR hW
      rw [hR.1]
      exact writes1_any x id bs W ((hW.block _ (heap_lt hbox)).trans hbox) |>.mono fun e w' hh => ⟨hh.1, hW.trans (hh.2.mono hW.size)⟩
    · rintro e w2 ⟨rfl, hb2⟩
      have HB : Hid (Below w.heap.size w w2) := hb.trans (hb2.mono hb.size)
      clear hb hb2 hbox HB0 HW1
      go_wp2_with fail
      go_ret
      exact ⟨rfl, HB.out⟩
  · have hwb : (what == 3) = false := by simpa using hw
    have HE : Hid (writesB id what s = s.nodes.any (nodeB id what)) := by unfold writesB; rw [if_neg hw]; exact rfl
    clear hw
    go_enter Tryz.func48, Tryz.ntmps48
    go_wp2_with fail
    rw [← HW1.out]
    obtain ⟨hb, hbox, hbox2⟩ := HB0.out
    generalize w.heap.size + 1 + 1 = bw at hbox2 ⊢
    generalize w.heap.size + 1 = bs at hbox ⊢
    refine (contains_Inode (InodeR (· < w1.heap.size)) vn s.nodes _ _ (nodeB id what) w1 (h.nodes.on hb) (fun cs x hh => inodeR_len cs x _ hh) ?_ eg_writes2).mono ?_
    · intro x hx cs W hR hW
      obtain ⟨vp, vx, rfl, _⟩ := hR
      exact writes2_any x vp vx id what bs bw W ((hW.block _ (heap_lt hbox)).trans hbox) ((hW.block _ (heap_lt hbox2)).trans hbox2) |>.mono fun e w' hh => ⟨hh.1, hW.trans (hh.2.mono hW.size)⟩
    · rintro e w2 ⟨rfl, hb2⟩
      have HB : Hid (Below w.heap.size w w2) := hb.trans (hb2.mono hb.size)
      clear hb hb2 hbox hbox2 HB0 HW1
      go_wp2_with fail
      go_ret
      exact ⟨by rw [HE.out]; rfl, HB.out⟩
end Go.Proofs.YtehkhlmpkhnbmaaGreat.Mod
