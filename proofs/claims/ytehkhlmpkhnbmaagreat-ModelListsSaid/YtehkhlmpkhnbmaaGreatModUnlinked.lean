/- What the functions of layer 22 compute (7): whether a link was unlinked. -/
import Derived.Test.YtehkhlmpkhnbmaaGreatModLast
namespace Go.Proofs.YtehkhlmpkhnbmaaGreat.Mod
set_option linter.unusedVariables false
set_option linter.unusedSimpArgs false
set_option maxRecDepth 100000
open Go.RowKit Go.Proofs.YtehkhlmpkhnbmaaGreat.Mem
attribute [local go_sem high] run_eql_stp run_neq_stp

def unl1B (id : Stp) (e u : Event) : Bool := u.delta.links.any (killsB id) && e.before u
def okB (l : List Event) (id : Stp) (e : Event) : Bool := !e.delta.links.any (throughB id) || l.any (unl1B id e)
theorem unlinked_eq (l : List Event) (id : Stp) : unlinkedB l id = l.all (okB l id) := rfl
set_option maxHeartbeats 8000000 in
theorem unl1_any (e u : Event) (en el un ul : Value) (id : Stp) (b c : Nat) (w : World) (h : w.heap[b]? = some (.cells #[.int .i64 id.t, .int .i64 id.who] 24 (0, 0))) (h2 : w.heap[c]? = some (.cells (e.row en el) 32 (0, 0)))
    (hs : StateR (· < w.heap.size) w un ul u.delta) :
    Calls Tryz.prog 50 #[.agg (u.row un ul), .pointer (some ⟨b, 0, none⟩), .pointer (some ⟨c, 0, none⟩)] w fun e' w' => e' = .returned (.bool (unl1B id e u)) ∧ Below w.heap.size w w' := by
  have q0 := cell_at h 0
  have q1 := cell_at h 1
  simp only [List.getElem?_toArray, List.getElem?_cons_zero, List.getElem?_cons_succ] at q0 q1
  have hb := heap_lt h
  have HC : Hid _ := h2
  have HS : Hid _ := hs
  clear h h2 hs
  go_enter Tryz.func50, Tryz.ntmps50
  go_wp2_with fail
  have HK : Hid _ := Kept.made w (u.row un ul) 32
  have HS1 : Hid _ := HS.out.on (below_alloc w (.cells (u.row un ul) 32))
  generalize w.alloc (.cells (u.row un ul) 32) = w1 at HK HS1 ⊢
  generalize hbx : w.heap.size = bx at HK ⊢
  have HX : Hid _ := hbx
  clear hbx q0 q1 hb
  refine (kills_any u.delta un ul id w1 HS1.out).mono ?_
  rintro e' w2 ⟨rfl, hb2⟩
  have HK2 : Hid _ := HK.out.on hb2
  clear hb2 HK HS1
  cases hk : u.delta.links.any (killsB id) with
  | false =>
    have HE : Hid (unl1B id e u = false) := by unfold unl1B; rw [hk]; exact rfl
    clear hk
    go_wp2_with fail
    go_ret
    exact ⟨by rw [HE.out]; rfl, HK2.out.below⟩
  | true =>
    have HE : Hid (unl1B id e u = e.before u) := by unfold unl1B; rw [hk]; exact rfl
    clear hk
    have hr2 := rangeAt_box HK2.out.box
    have hr1 := rangeAt_box ((HK2.out.below.block c (heap_lt HC.out)).trans HC.out)
    go_wp2_with (first
      | (refine wpList_load_want rfl 32 (.tmp 2) rfl _ 0 rfl _ _ hr1 Tryz.underlying32 rfl (by kernel_rfl) ?_)
      | (refine wpList_load_want rfl 32 (.tmp 3) rfl _ 0 rfl _ _ hr2 Tryz.underlying32 rfl (by kernel_rfl) ?_))
    refine (before_any e u en el un ul w2).mono ?_
    rintro e' w3 ⟨rfl, hb3⟩
    have HB : Hid (Below w.heap.size w w3) := HK2.out.below.trans (hb3.mono HK2.out.below.size)
    clear hb3 hr1 hr2
    go_wp2_with fail
    go_ret
    exact ⟨by rw [HE.out]; rfl, HB.out⟩
theorem eg_unl1 : ∀ args w, (callFunc 50 args).run Tryz.prog w = .ok (.enter 50 args) w := enters_of Tryz.func50 (by kernel_rfl) rfl
set_option maxHeartbeats 8000000 in
theorem unlinked_any (v : Value) (l : List Event) (id : Stp) (w : World) (h : Events (· < w.heap.size) w v l) :
    Calls Tryz.prog 24 #[v, id.val] w fun e w' => e = .returned (.bool (unlinkedB l id)) ∧ Below w.heap.size w w' := by
  obtain ⟨a, c, rfl, hn⟩ := slice_form h
  have H : Hid _ := h
  clear h
  go_enter Tryz.func24, Tryz.ntmps24
  go_wp2
  have HB : Hid _ := Kept.made w #[.int .i64 id.t, .int .i64 id.who] 24
  generalize w.alloc (.cells #[.int .i64 id.t, .int .i64 id.who] 24) = w1 at HB ⊢
  generalize hbs : w.heap.size = bs at HB ⊢
  have HX : Hid _ := hbs
  clear hbs
  go_loopg [10] l.length (fun g s10 wr => ∃ (j : Nat), s10 = .int .i64 j ∧ j ≤ l.length ∧ l.length - j ≤ g ∧ Hid (∀ i (hi : i < l.length), i < j → okB l id l[i] = true) ∧ Hid (Kept w wr bs #[.int .i64 id.t, .int .i64 id.who] 24))
  case atStart => exact ⟨0, rfl, by omega, by omega, fun i hi h => by omega, HB⟩
  case round => as_aux_lemma =>
    clear HB
    obtain ⟨j, rfl, hj, hg, HA, HK⟩ := hrel
    by_cases hlt : j < l.length
    · obtain ⟨b, o, cs, ha, hp, ⟨vn, vl, hcs, hst⟩, hload0⟩ := row_at H.out j hlt
      subst ha hcs
      obtain ⟨an, cn, rfl, _⟩ := slice_form hst.nodes
      obtain ⟨al, cl, rfl, _⟩ := slice_form hst.links
      have hload := rangeAt_below hload0 HK.out.below hp
      have HN : Hid (okB l id l[j] = true → ∀ i (hi : i < l.length), i < j + 1 → okB l id l[i] = true) := fun hq i hi h => by
        by_cases e : i = j
        · subst e; exact hq
        · exact HA.out i hi (by omega)
      have HF : Hid (okB l id l[j] = false → unlinkedB l id = false) := fun hq => by
        rw [unlinked_eq, List.all_eq_false]
        exact ⟨_, List.getElem_mem hlt, by simp [hq]⟩
      generalize l[j] = ev at *
      have HS : Hid (StateR (· < w.heap.size) w (.slice an ev.delta.nodes.length cn) (.slice al ev.delta.links.length cl) ev.delta) := hst
      clear hload0 hst hp
      have q0 := cell_at HK.out.box 0
      have q1 := cell_at HK.out.box 1
      simp only [List.getElem?_toArray, List.getElem?_cons_zero, List.getElem?_cons_succ] at q0 q1
      have hbl : bs < wr.heap.size := heap_lt HK.out.box
      go_wp2_with (refine Elem.halt_load 32 (.tmp 12) rfl ?_)
      refine ⟨?_⟩
      refine Elem.wpList_elem rfl rfl rfl 32 (.tmp 12) (.tmp 13) (.tmp 6) rfl rfl rfl rfl b (o + j * 21) rfl _ hload _ Tryz.underlying32 rfl _ Tryz.zeroValue32 rfl (by kernel_rfl) rfl rfl rfl ?_
      clear hload
      go_wp2_with fail
      have HW : Hid _ := HK.out.add (ev.row (.slice an ev.delta.nodes.length cn) (.slice al ev.delta.links.length cl)) 32
      have HZ : Hid _ := HK.out.on (below_alloc wr (.cells (ev.row (.slice an ev.delta.nodes.length cn) (.slice al ev.delta.links.length cl)) 32))
      clear HK q0 q1 hbl
      generalize wr.alloc _ = w1 at HW HZ ⊢
      generalize wr.heap.size = bx at HW ⊢
      refine (through_any ev.delta _ _ id w1 (HS.out.on HZ.out.below)).mono ?_
      rintro e' w2 ⟨rfl, hb2⟩
      have HW2 : Hid _ := HW.out.on hb2
      have HZ2 : Hid _ := HZ.out.on hb2
      clear HW HZ hb2
      cases ht : ev.delta.links.any (throughB id) with
      | false =>
        have HO : Hid _ := HN.out (by unfold okB; rw [ht]; rfl)
        clear ht
        go_wp2_with fail
        go_roundg (l.length - (j + 1))
        case measure => omega
        case rel => exact ⟨j + 1, by go_num, by omega, by omega, HO, HZ2⟩
      | true =>
        have HE : Hid (okB l id ev = l.any (unl1B id ev)) := by unfold okB; rw [ht]; exact rfl
        clear ht
        go_wp2_with fail
        refine (contains_Event (EventR (· < w2.heap.size)) _ l _ _ (unl1B id ev) w2 (Events.on H.out HZ2.out.below) (fun cs x hh => eventR_len cs x _ hh) ?_ eg_unl1).mono ?_
        · intro x hx cs W hR hW
          obtain ⟨xn, xl, rfl, hxs⟩ := hR
          exact unl1_any ev x _ _ xn xl id bs bx W ((hW.block _ (heap_lt HZ2.out.box)).trans HZ2.out.box) ((hW.block _ (heap_lt HW2.out.box)).trans HW2.out.box) (hxs.on hW) |>.mono fun e w' hh => ⟨hh.1, hW.trans (hh.2.mono hW.size)⟩
        · rintro e w3 ⟨rfl, hb3⟩
          have HZ3 : Hid _ := HZ2.out.on hb3
          clear hb3 HW2 HZ2
          cases hq : l.any (unl1B id ev) with
          | true =>
            have HO : Hid _ := HN.out (by rw [HE.out, hq])
            clear hq
            go_wp2_with fail
            go_roundg (l.length - (j + 1))
            case measure => omega
            case rel => exact ⟨j + 1, by go_num, by omega, by omega, HO, HZ3⟩
          | false =>
            have HO : Hid _ := HF.out (by rw [HE.out, hq])
            clear hq
            go_wp2_with fail
            go_ret
            exact ⟨by rw [HO.out]; rfl, HZ3.out.below⟩
    · have HO : Hid (unlinkedB l id = true) := by
        rw [unlinked_eq, List.all_eq_true]
        intro x hx
        obtain ⟨i, hi, rfl⟩ := List.getElem_of_mem hx
        exact HA.out i hi (by omega)
      go_wp2
      go_ret
      exact ⟨by rw [HO.out]; rfl, HK.out.below⟩

/-! the reference's -/
def innerB (id : Stp) (e u : Event) (x : Link) : Bool := killsB id x && e.before u
theorem unl1_inner (id : Stp) (e u : Event) : u.delta.links.any (innerB id e u) = unl1B id e u := by
  unfold unl1B
  generalize u.delta.links = l
  induction l with
  | nil => simp
  | cons x l ih => simp only [List.any_cons, ih, innerB]; cases killsB id x <;> cases e.before u <;> simp
theorem inner_cases (id : Stp) (e u : Event) (x : Link) (acc : Bool) : acc = true ∨ (acc = false ∧ x.id.eq id = false ∧ innerB id e u x = false) ∨ (acc = false ∧ x.id.eq id = true ∧ x.dead.eq ⟨0, 0, 0, 0, 0, 0, 0, 0⟩ = true ∧ innerB id e u x = false) ∨
    (acc = false ∧ x.id.eq id = true ∧ x.dead.eq ⟨0, 0, 0, 0, 0, 0, 0, 0⟩ = false ∧ innerB id e u x = e.before u) := by
  unfold innerB killsB Vec.zero
  cases acc
  · cases h : x.id.eq id
    · simp
    · cases h2 : x.dead.eq ⟨0, 0, 0, 0, 0, 0, 0, 0⟩ <;> simp
  · simp
theorem link_through (id : Stp) (x : Link) : (x.id.eq id = false ∧ throughB id x = false) ∨ (x.id.eq id = true ∧ x.alive.eq ⟨0, 0, 0, 0, 0, 0, 0, 0⟩ = true ∧ throughB id x = false) ∨
    (x.id.eq id = true ∧ x.alive.eq ⟨0, 0, 0, 0, 0, 0, 0, 0⟩ = false ∧ throughB id x = true) := by
  unfold throughB Vec.zero
  cases h : x.id.eq id
  · simp
  · cases h2 : x.alive.eq ⟨0, 0, 0, 0, 0, 0, 0, 0⟩ <;> simp
theorem acc_any {acc x y z : Bool} (h : true = (acc || x)) (h2 : y = (x || z)) : true = (acc || y) := by subst h2; cases acc <;> cases x <;> simp_all
theorem acc_add {acc x y z r : Bool} (h : false = (acc || x)) (h2 : y = (x || z)) (h3 : z = r) : r = (acc || y) := by subst h2 h3; cases acc <;> cases x <;> simp_all
set_option maxHeartbeats 16000000 in
theorem runlinked_any (v : Value) (l : List Event) (id : Stp) (w : World) (h : Events (· < w.heap.size) w v l) :
    Calls Tryz.prog 25 #[v, id.val] w fun e w' => e = .returned (.bool (unlinkedB l id)) ∧ Below w.heap.size w w' := by
  obtain ⟨a, c, rfl, hn⟩ := slice_form h
  have H : Hid _ := h
  clear h
  go_enter Tryz.func25, Tryz.ntmps25
  go_wp2
  have HB : Hid _ := Kept.made w #[.int .i64 id.t, .int .i64 id.who] 24
  generalize w.alloc (.cells #[.int .i64 id.t, .int .i64 id.who] 24) = w1 at HB ⊢
  generalize hbs : w.heap.size = bs at HB ⊢
  have HX : Hid _ := hbs
  clear hbs
  go_loopg [16] l.length (fun g s16 wr => ∃ (j : Nat), s16 = .int .i64 j ∧ j ≤ l.length ∧ l.length - j ≤ g ∧ Hid (∀ i (hi : i < l.length), i < j → okB l id l[i] = true) ∧ Hid (Kept w wr bs #[.int .i64 id.t, .int .i64 id.who] 24))
  case atStart => exact ⟨0, rfl, by omega, by omega, fun i hi h => by omega, HB⟩
  case round => as_aux_lemma =>
    clear HB
    obtain ⟨j, rfl, hj, hg, HA, HK⟩ := hrel
    by_cases hlt : j < l.length
    · obtain ⟨b, o, cs, ha, hp, ⟨vn, vl, hcs, hst⟩, hload0⟩ := row_at H.out j hlt
      subst ha hcs
      obtain ⟨an, cn, rfl, _⟩ := slice_form hst.nodes
      obtain ⟨al, cl, rfl, _⟩ := slice_form hst.links
      have hload := rangeAt_below hload0 HK.out.below hp
      have HN : Hid (okB l id l[j] = true → ∀ i (hi : i < l.length), i < j + 1 → okB l id l[i] = true) := fun hq i hi h => by
        by_cases e : i = j
        · subst e; exact hq
        · exact HA.out i hi (by omega)
      have HF : Hid (okB l id l[j] = false → unlinkedB l id = false) := fun hq => by
        rw [unlinked_eq, List.all_eq_false]
        exact ⟨_, List.getElem_mem hlt, by simp [hq]⟩
      generalize l[j] = ev at *
      have HS : Hid (StateR (· < w.heap.size) w (.slice an ev.delta.nodes.length cn) (.slice al ev.delta.links.length cl) ev.delta) := hst
      clear hload0 hst hp
      go_wp2_with (refine Elem.halt_load 32 (.tmp 18) rfl ?_)
      refine ⟨?_⟩
      refine Elem.wpList_elem rfl rfl rfl 32 (.tmp 18) (.tmp 19) (.tmp 6) rfl rfl rfl rfl b (o + j * 21) rfl _ hload _ Tryz.underlying32 rfl _ Tryz.zeroValue32 rfl (by kernel_rfl) rfl rfl rfl ?_
      clear hload
      go_wp2_with fail
      have HW : Hid _ := HK.out.add (ev.row (.slice an ev.delta.nodes.length cn) (.slice al ev.delta.links.length cl)) 32
      have HZ : Hid _ := HK.out.on (below_alloc wr (.cells (ev.row (.slice an ev.delta.nodes.length cn) (.slice al ev.delta.links.length cl)) 32))
      clear HK
      generalize wr.alloc _ = w1 at HW HZ ⊢
      generalize wr.heap.size = bx at HW ⊢
      have HD : Hid _ := HS.out.on HZ.out.below
      go_loopg [24] ev.delta.links.length (fun g s24 w3 => ∃ (q : Nat), s24 = .int .i64 q ∧ q ≤ ev.delta.links.length ∧ ev.delta.links.length - q ≤ g ∧ Hid ((ev.delta.links.take q).any (throughB id) = true → l.any (unl1B id ev) = true) ∧ Hid (Below w1.heap.size w1 w3))
      case atStart => exact ⟨0, rfl, by omega, by omega, (fun h => by simp at h), Below.refl _ _⟩
      case round => as_aux_lemma =>
        obtain ⟨q, rfl, hq, hg1, HM, HB⟩ := hrel
        by_cases hq1 : q < ev.delta.links.length
        · obtain ⟨b2, o2, cs, ha, hp, ⟨hcs, hft⟩, hload⟩ := row_at (HD.out.links.below HB.out) q hq1
          subst ha hcs
          have HT : Hid _ := any_take ev.delta.links (throughB id) q hq1
          have HTj : Hid (throughB id ev.delta.links[q] = true → l.any (unl1B id ev) = false → unlinkedB l id = false) := fun k1 k2 => HF.out (by
            unfold okB
            rw [k2, any_hit q hq1 k1]; rfl)
          clear hft hp
          generalize ev.delta.links[q] = lk at *
          have HZ3 : Hid _ := HZ.out.on HB.out
          have q0 := cell_at HZ3.out.box 0
          have q1 := cell_at HZ3.out.box 1
          simp only [List.getElem?_toArray, List.getElem?_cons_zero, List.getElem?_cons_succ] at q0 q1
          have hbl : bs < wr.heap.size := heap_lt HZ3.out.box
          have hev := run_eql_vec
          have HB2 : Hid _ := HB.out.trans ((below_alloc wr (.cells lk.row 62)).mono HB.out.size)
          rcases link_through id lk with ⟨k1, k2⟩ | ⟨k1, k3, k2⟩ | ⟨k1, k3, k2⟩
          iterate 2
            · have HM2 : Hid ((ev.delta.links.take (q + 1)).any (throughB id) = true → l.any (unl1B id ev) = true) := fun h => HM.out (by rw [HT.out, k2, Bool.or_false] at h; exact h)
              clear k2
              go_wp2_with (refine Elem.halt_load 62 (.tmp 26) rfl ?_)
              refine ⟨?_⟩
              refine Elem.wpList_elem rfl rfl rfl 62 (.tmp 26) (.tmp 27) (.tmp 8) rfl rfl rfl rfl b2 (o2 + q * 25) rfl _ hload _ Tryz.underlying62 rfl _ Tryz.zeroValue62 rfl (by kernel_rfl) rfl rfl rfl ?_
              clear hload
              go_wp2
              go_roundg (ev.delta.links.length - (q + 1))
              case measure => omega
              case rel => exact ⟨q + 1, by go_num, by omega, by omega, HM2, HB2.out⟩
          · have K2 : Hid _ := k2
            clear k2
            go_wp2_with (refine Elem.halt_load 62 (.tmp 26) rfl ?_)
            refine ⟨?_⟩
            refine Elem.wpList_elem rfl rfl rfl 62 (.tmp 26) (.tmp 27) (.tmp 8) rfl rfl rfl rfl b2 (o2 + q * 25) rfl _ hload _ Tryz.underlying62 rfl _ Tryz.zeroValue62 rfl (by kernel_rfl) rfl rfl rfl ?_
            clear hload
            go_wp2
            clear hev q0 q1 hbl k1 k3 HZ3 HB
            go_loopg [9, 40] l.length (fun g s9 s40 w3 => ∃ (r : Nat) (acc : Bool), s40 = .int .i64 r ∧ s9 = .bool acc ∧ r ≤ l.length ∧ l.length - r ≤ g ∧ Hid (acc = (l.take r).any (unl1B id ev)) ∧ Hid (Below w1.heap.size w1 w3))
            case atStart => exact ⟨0, false, rfl, rfl, by omega, by omega, rfl, HB2⟩
            case round => as_aux_lemma =>
              clear HB2
              obtain ⟨r, acc, rfl, rfl, hr, hg2, HA2, HB⟩ := hrel
              by_cases hr1 : r < l.length
              · obtain ⟨b3, o3, cs, ha, hp, ⟨xn, xl, hcs, hst⟩, hload0⟩ := row_at H.out r hr1
                injection ha with ha
                injection ha with hb1 ho1 _
                subst hb1 ho1 hcs
                obtain ⟨axn, cxn, rfl, _⟩ := slice_form hst.nodes
                obtain ⟨axl, cxl, rfl, _⟩ := slice_form hst.links
                have hload := rangeAt_below hload0 (HZ.out.below.trans (HB.out.mono HZ.out.below.size)) hp
                have HT2 : Hid _ := any_take l (unl1B id ev) r hr1
                generalize l[r] = u at *
                have HSu : Hid (StateR (· < w.heap.size) w (.slice axn u.delta.nodes.length cxn) (.slice axl u.delta.links.length cxl) u.delta) := hst
                clear hload0 hst hp
                go_wp2_with (refine Elem.halt_load 32 (.tmp 42) rfl ?_)
                refine ⟨?_⟩
                refine Elem.wpList_elem rfl rfl rfl 32 (.tmp 42) (.tmp 43) (.tmp 11) rfl rfl rfl rfl b (o + r * 21) rfl _ hload _ Tryz.underlying32 rfl _ Tryz.zeroValue32 rfl (by kernel_rfl) rfl rfl rfl ?_
                clear hload
                go_wp2
                have HB4 : Hid _ := HB.out.trans ((below_alloc wr (.cells (u.row (.slice axn u.delta.nodes.length cxn) (.slice axl u.delta.links.length cxl)) 32)).mono HB.out.size)
                have HU : Hid _ := heap_alloc_last wr (.cells (u.row (.slice axn u.delta.nodes.length cxn) (.slice axl u.delta.links.length cxl)) 32)
                clear HB
                generalize wr.alloc _ = w4 at HB4 HU ⊢
                generalize wr.heap.size = bu at HU ⊢
                go_loopg [9, 48] u.delta.links.length (fun g s9 s48 w5 => ∃ (p : Nat) (acc2 : Bool), s48 = .int .i64 p ∧ s9 = .bool acc2 ∧ p ≤ u.delta.links.length ∧ u.delta.links.length - p ≤ g ∧ Hid (acc2 = (acc || (u.delta.links.take p).any (innerB id ev u))) ∧ Hid (Below w4.heap.size w4 w5))
                case atStart => exact ⟨0, acc, rfl, rfl, by omega, by omega, (show acc = (acc || false) by simp), Below.refl _ _⟩
                case round => as_aux_lemma =>
                  obtain ⟨p, acc2, rfl, rfl, hp, hg3, HA3, HB⟩ := hrel
                  have HBB : Hid _ := HB4.out.trans (HB.out.mono HB4.out.size)
                  by_cases hp1 : p < u.delta.links.length
                  · obtain ⟨b5, o5, cs, ha, hpp, ⟨hcs, hft⟩, hload⟩ := row_at ((Links.on HSu.out.links HZ.out.below).below HBB.out) p hp1
                    subst ha hcs
                    have HT3 : Hid _ := any_take u.delta.links (innerB id ev u) p hp1
                    clear hft hpp
                    generalize u.delta.links[p] = x at *
                    have HZ3 : Hid _ := HZ.out.on HBB.out
                    have q0 := cell_at HZ3.out.box 0
                    have q1 := cell_at HZ3.out.box 1
                    simp only [List.getElem?_toArray, List.getElem?_cons_zero, List.getElem?_cons_succ] at q0 q1
                    have hbl : bs < wr.heap.size := heap_lt HZ3.out.box
                    have hnv := run_neq_vec
                    have HB6 : Hid _ := HB.out.trans ((below_alloc wr (.cells x.row 62)).mono HB.out.size)
                    rcases inner_cases id ev u x acc2 with rfl | ⟨rfl, k1, k2⟩ | ⟨rfl, k1, k3, k2⟩ | ⟨rfl, k1, k3, k2⟩
                    · go_wp2_with (refine Elem.halt_load 62 (.tmp 50) rfl ?_)
                      refine ⟨?_⟩
                      refine Elem.wpList_elem rfl rfl rfl 62 (.tmp 50) (.tmp 51) (.tmp 13) rfl rfl rfl rfl b5 (o5 + p * 25) rfl _ hload _ Tryz.underlying62 rfl _ Tryz.zeroValue62 rfl (by kernel_rfl) rfl rfl rfl ?_
                      clear hload
                      go_wp2
                      go_roundg (u.delta.links.length - (p + 1))
                      case measure => omega
                      case rel => exact ⟨p + 1, _, by go_num, rfl, by omega, by omega, acc_any HA3.out HT3.out, HB6.out⟩
                    iterate 2
                      · have K2 : Hid _ := k2
                        clear k2
                        go_wp2_with (refine Elem.halt_load 62 (.tmp 50) rfl ?_)
                        refine ⟨?_⟩
                        refine Elem.wpList_elem rfl rfl rfl 62 (.tmp 50) (.tmp 51) (.tmp 13) rfl rfl rfl rfl b5 (o5 + p * 25) rfl _ hload _ Tryz.underlying62 rfl _ Tryz.zeroValue62 rfl (by kernel_rfl) rfl rfl rfl ?_
                        clear hload
                        go_wp2
                        go_roundg (u.delta.links.length - (p + 1))
                        case measure => omega
                        case rel => exact ⟨p + 1, _, by go_num, rfl, by omega, by omega, acc_add HA3.out HT3.out K2.out, HB6.out⟩
                    · have K2 : Hid _ := k2
                      clear k2
                      have hr2 := rangeAt_box ((HB6.out.block bu (heap_lt HU.out)).trans HU.out)
                      have hr1 := rangeAt_box ((HW.out.on (HB4.out.trans (HB6.out.mono HB4.out.size))).box)
                      go_wp2_with (refine Elem.halt_load 62 (.tmp 50) rfl ?_)
                      refine ⟨?_⟩
                      refine Elem.wpList_elem rfl rfl rfl 62 (.tmp 50) (.tmp 51) (.tmp 13) rfl rfl rfl rfl b5 (o5 + p * 25) rfl _ hload _ Tryz.underlying62 rfl _ Tryz.zeroValue62 rfl (by kernel_rfl) rfl rfl rfl ?_
                      clear hload
                      go_wp2_with (first
                        | (refine wpList_load_want rfl 32 (.tmp 6) rfl _ 0 rfl _ _ hr1 Tryz.underlying32 rfl (by kernel_rfl) ?_)
                        | (refine wpList_load_want rfl 32 (.tmp 11) rfl _ 0 rfl _ _ hr2 Tryz.underlying32 rfl (by kernel_rfl) ?_))
                      refine (rbefore_any ev u _ _ _ _ _).mono ?_
                      rintro e' w7 ⟨rfl, hb7⟩
                      have HB7 : Hid _ := HB6.out.trans (hb7.mono HB6.out.size)
                      clear hb7 q0 q1 hbl hr1 hr2 k1 k3 hnv
                      go_wp2_with fail
                      go_roundg (u.delta.links.length - (p + 1))
                      case measure => omega
                      case rel => exact ⟨p + 1, _, by go_num, rfl, by omega, by omega, acc_add HA3.out HT3.out K2.out, HB7.out⟩
                  · have HF4 : Hid (acc2 = (l.take (r + 1)).any (unl1B id ev)) := by
                      have := HA3.out
                      rw [any_full u.delta.links (innerB id ev u) p hp1, unl1_inner, HA2.out] at this
                      rw [HT2.out]
                      exact this
                    go_wp2
                    go_roundg (l.length - (r + 1))
                    case measure => omega
                    case rel => exact ⟨r + 1, _, by go_num, rfl, by omega, by omega, HF4, HBB⟩
              · have HF3 : Hid (acc = l.any (unl1B id ev)) := by
                  have := HA2.out
                  rw [any_full l (unl1B id ev) r hr1] at this
                  exact this
                have HZ5 : Hid _ := HZ.out.on HB.out
                cases acc with
                | true =>
                  have HM2 : Hid ((ev.delta.links.take (q + 1)).any (throughB id) = true → l.any (unl1B id ev) = true) := fun _ => HF3.out.symm
                  go_wp2
                  go_roundg (ev.delta.links.length - (q + 1))
                  case measure => omega
                  case rel => exact ⟨q + 1, by go_num, by omega, by omega, HM2, HB⟩
                | false =>
                  have HO : Hid _ := HTj.out K2.out HF3.out.symm
                  go_wp2
                  go_ret
                  exact ⟨by rw [HO.out]; rfl, HZ5.out.below⟩
        · have HO : Hid _ := HN.out (by
            have := HM.out
            rw [any_full ev.delta.links (throughB id) q hq1] at this
            unfold okB
            cases ht : ev.delta.links.any (throughB id)
            · rfl
            · rw [this ht]; rfl)
          have HZ5 : Hid _ := HZ.out.on HB.out
          go_wp2
          go_roundg (l.length - (j + 1))
          case measure => omega
          case rel => exact ⟨j + 1, by go_num, by omega, by omega, HO, HZ5⟩
    · have HO : Hid (unlinkedB l id = true) := by
        rw [unlinked_eq, List.all_eq_true]
        intro x hx
        obtain ⟨i, hi, rfl⟩ := List.getElem_of_mem hx
        exact HA.out i hi (by omega)
      go_wp2
      go_ret
      exact ⟨by rw [HO.out]; rfl, HK.out.below⟩
end Go.Proofs.YtehkhlmpkhnbmaaGreat.Mod
