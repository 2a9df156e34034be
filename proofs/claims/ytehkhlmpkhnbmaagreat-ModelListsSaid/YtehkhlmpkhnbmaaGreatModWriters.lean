/- What the functions of layer 22 compute (5): the events that wrote a register. -/
import Derived.Test.YtehkhlmpkhnbmaaGreatModWrites
namespace Go.Proofs.YtehkhlmpkhnbmaaGreat.Mod
set_option linter.unusedVariables false
set_option linter.unusedSimpArgs false
set_option maxRecDepth 100000
open Go.RowKit Go.Proofs.YtehkhlmpkhnbmaaGreat.Mem

theorem writers_skip {l : List Event} {e : Event} {id : Stp} {what : Int} (h : writesB id what e.delta = false) : writersL (l ++ [e]) id what = writersL l id what := by simp [writersL, h]
theorem writers_take {l : List Event} {e : Event} {id : Stp} {what : Int} (h : writesB id what e.delta = true) : writersL (l ++ [e]) id what = writersL l id what ++ [e] := by simp [writersL, h]
theorem writers_len (l : List Event) (id : Stp) (what : Int) (j : Nat) (h : j < l.length) : (writersL (l.take j) id what).length + 1 ≤ l.length := by
  have h1 := List.length_filter_le (fun e => writesB id what e.delta) (l.take j)
  have h2 := List.length_take_le j l
  unfold writersL
  omega
set_option maxHeartbeats 8000000 in
theorem writers_any (v : Value) (l : List Event) (id : Stp) (what : Int) (w : World) (h : Events (· < w.heap.size) w v l) (hr : l.length * 200 ≤ 140737488351232) :
    Calls Tryz.prog 21 #[v, id.val, .int .i64 what] w (GivesEvents w (writersL l id what)) := by
  obtain ⟨a, c, rfl, hn⟩ := slice_form h
  have H : Hid _ := h
  clear h
  go_enter Tryz.func21, Tryz.ntmps21
  go_wp2
  have HB : Hid _ := Kept.made w #[.int .i64 id.t, .int .i64 id.who] 24
  have HP : Hid _ := (Picked.start w).on HB.out.below
  generalize w.alloc (.cells #[.int .i64 id.t, .int .i64 id.who] 24) = w1 at HB HP ⊢
  generalize hbs : w.heap.size = bs at HB ⊢
  have HX : Hid _ := hbs
  clear hbs
  go_loopg [7, 12] l.length (fun g s7 s12 wr => ∃ (j : Nat), s12 = .int .i64 j ∧ j ≤ l.length ∧ l.length - j ≤ g ∧ Hid (Picked w wr s7 (writersL (l.take j) id what) ∧ Kept w wr bs #[.int .i64 id.t, .int .i64 id.who] 24))
  case atStart => exact ⟨0, rfl, by omega, by omega, HP.out, HB.out⟩
  case round => as_aux_lemma =>
    clear HP HB
    obtain ⟨j, rfl, hj, hg, HK⟩ := hrel
    by_cases hlt : j < l.length
    · obtain ⟨b, o, cs, ha, hp, ⟨vn, vl, hcs, hst⟩, hload0⟩ := row_at H.out j hlt
      subst ha hcs
      have htk := take_next l j hlt
      have hln := writers_len l id what j hlt
      obtain ⟨an, cn, rfl, _⟩ := slice_form hst.nodes
      obtain ⟨al, cl, rfl, _⟩ := slice_form hst.links
      have hload := rangeAt_below hload0 HK.out.1.below hp
      have hone := event_cells l[j] (.slice an l[j].delta.nodes.length cn) (.slice al l[j].delta.links.length cl) ⟨_, _, _, rfl⟩ ⟨_, _, _, rfl⟩
      generalize l[j] = ev at *
      have HS : Hid (StateR (· < w.heap.size) w (.slice an ev.delta.nodes.length cn) (.slice al ev.delta.links.length cl) ev.delta) := hst
      have HT : Hid (l.take (j + 1) = l.take j ++ [ev]) := htk
      have HO : Hid _ := hone
      have HL : Hid ((writersL (l.take j) id what).length + 1 ≤ l.length) := hln
      clear hload0 hst htk hone hln hp
      have q0 := cell_at HK.out.2.box 0
      have q1 := cell_at HK.out.2.box 1
      simp only [List.getElem?_toArray, List.getElem?_cons_zero, List.getElem?_cons_succ] at q0 q1
      have hbl : bs < wr.heap.size := heap_lt HK.out.2.box
      go_wp2_with (first | (refine Elem.wpList_elem rfl rfl rfl 32 (.tmp 14) (.tmp 15) (.tmp 9) rfl rfl rfl rfl b (o + j * 21) rfl _ hload _ Tryz.underlying32 rfl _ Tryz.zeroValue32 rfl (by kernel_rfl) rfl rfl rfl ?_) | fail)
      have HW : Hid _ := HK.out.2.add (ev.row (.slice an ev.delta.nodes.length cn) (.slice al ev.delta.links.length cl)) 32
      have HQ : Hid _ := HK.out.1.on (below_alloc wr (.cells (ev.row (.slice an ev.delta.nodes.length cn) (.slice al ev.delta.links.length cl)) 32))
      have HZ : Hid _ := HK.out.2.on (below_alloc wr (.cells (ev.row (.slice an ev.delta.nodes.length cn) (.slice al ev.delta.links.length cl)) 32))
      generalize wr.alloc (.cells (ev.row (.slice an ev.delta.nodes.length cn) (.slice al ev.delta.links.length cl)) 32) = w1 at HW HQ HZ ⊢
      generalize wr.heap.size = bx at HW ⊢
      refine (writes_any ev.delta _ _ id what w1 (HS.out.on HQ.out.below)).mono ?_
      rintro e w2 ⟨rfl, hb2⟩
      have HW2 : Hid _ := HW.out.on hb2
      have HQ2 : Hid _ := HQ.out.on hb2
      have HZ2 : Hid _ := HZ.out.on hb2
      clear HW HQ HZ hb2 q0 q1 hbl HK hload
      cases hh : writesB id what ev.delta with
      | false =>
        have HF : Hid (writersL (l.take (j + 1)) id what = writersL (l.take j) id what) := by rw [HT.out]; exact writers_skip hh
        clear hh
        go_wp2_with fail
        go_roundg (l.length - (j + 1))
        case measure => omega
        case rel => exact ⟨j + 1, by go_num, by omega, by omega, by rw [HF.out]; exact HQ2.out, HZ2.out⟩
      | true =>
        have HF : Hid (writersL (l.take (j + 1)) id what = writersL (l.take j) id what ++ [ev]) := by rw [HT.out]; exact writers_take hh
        clear hh
        have hload := rangeAt_box HW2.out.box
        obtain ⟨hbel, K, hK1, hown, hK3⟩ := HQ2.out
        have hkl : K.length + 1 ≤ l.length := by
          have h1 := HL.out
          rw [← hK1, List.length_map] at h1
          exact h1
        have hsz := hbel.size
        have HK1 : Hid _ := hK1
        have HOW : Hid _ := hown
        have HK3 : Hid _ := hK3
        have HBE : Hid _ := hbel
        clear hK1 hown hK3 hbel
        go_wp2_with (first | (refine Elem.wpList_append_elem rfl rfl rfl 32 22 (.tmp 9) (.tmp 21) (.tmp 22) (.tmp 23) rfl rfl rfl bx 0 rfl _ hload _ Tryz.underlying32 rfl Tryz.underlying22 _ 200 evInfo rfl (Nat.succ_pos _) (show 21 ≤ 16777216 by decide) HO.out w.heap.size _ K.length _ HOW.out (by unfold maxLen; omega) (by omega) hsz rfl rfl rfl ?_; intro v' w3 hown' hgrow) | fail)
        have HP3 : Hid (Picked w w3 v' (writersL (l.take (j + 1)) id what)) := by
          rw [HF.out]
          exact Picked.add HBE.out HS.out HK1.out HOW.out HK3.out hown' hgrow
        have HZ3 : Hid _ := HZ2.out.grow HOW.out hgrow (owns_ne HOW.out HZ2.out.box (by decide))
        clear hown' hload hgrow
        go_roundg (l.length - (j + 1))
        case measure => omega
        case rel => exact ⟨j + 1, by go_num, by omega, by omega, HP3.out, HZ3.out⟩
    · have hjl : l.take j = l := List.take_of_length_le (by omega)
      rw [hjl] at HK
      go_wp2
      go_ret
      exact ⟨_, rfl, HK.out.1.events, HK.out.1.below⟩

/-! the reference's -/
def linkB (id : Stp) (what : Int) (k : Link) : Bool := placeB id k && what == 3
theorem writes_split (id : Stp) (what : Int) (d : State) : (d.nodes.any (nodeB id what) || d.links.any (linkB id what)) = writesB id what d := by
  unfold writesB
  by_cases h : what = 3
  · subst h
    have h1 : nodeB id 3 = fun _ => false := by funext n; simp [nodeB]
    have h2 : linkB id 3 = placeB id := by funext k; simp [linkB]
    rw [h1, h2]; simp
  · have h2 : linkB id what = fun _ => false := by funext k; simp [linkB, h]
    rw [h2, if_neg h]; simp
theorem any_take {α : Type} (l : List α) (q : α → Bool) (j : Nat) (h : j < l.length) : (l.take (j + 1)).any q = ((l.take j).any q || q l[j]) := by rw [take_next l j h, List.any_append]; simp
theorem any_full {α : Type} (l : List α) (q : α → Bool) (j : Nat) (h : ¬ j < l.length) : (l.take j).any q = l.any q := by rw [List.take_of_length_le (by omega)]
attribute [local go_sem high] run_eql_stp run_neq_stp
/-- what decides a node's flag, and what comes of it -/
theorem node_cases (id : Stp) (what : Int) (n : Inode) : (n.id.eq id = false ∧ nodeB id what n = false) ∨
    (n.id.eq id = true ∧ (what == 1) = true ∧ (what == 2) = false ∧ nodeB id what n = !n.aAt.eq ⟨0, 0⟩) ∨
    (n.id.eq id = true ∧ (what == 1) = false ∧ (what == 2) = true ∧ nodeB id what n = !n.sAt.eq ⟨0, 0⟩) ∨
    (n.id.eq id = true ∧ (what == 1) = false ∧ (what == 2) = false ∧ nodeB id what n = false) := by
  unfold nodeB Stp.zero
  cases h : n.id.eq id
  · left; exact ⟨rfl, rfl⟩
  · by_cases h1 : what = 1
    · subst h1; right; left; simp
    · by_cases h2 : what = 2
      · subst h2; right; right; left; simp
      · right; right; right
        have e1 : (what == 1) = false := by simpa using h1
        have e2 : (what == 2) = false := by simpa using h2
        rw [e1, e2]
        exact ⟨rfl, rfl, rfl, rfl⟩
/-- what decides a link's flag, and what comes of it -/
theorem link_cases (id : Stp) (what : Int) (n : Link) : (n.id.eq id = false ∧ linkB id what n = false) ∨
    (n.id.eq id = true ∧ (what == 3) = true ∧ linkB id what n = !n.at_.eq ⟨0, 0⟩) ∨
    (n.id.eq id = true ∧ (what == 3) = false ∧ linkB id what n = false) := by
  unfold linkB placeB Stp.zero
  cases h : n.id.eq id
  · left; exact ⟨rfl, rfl⟩
  · cases h1 : (what == 3)
    · right; right; simp
    · right; left; simp
set_option maxHeartbeats 16000000 in
theorem rwriters_any (v : Value) (l : List Event) (id : Stp) (what : Int) (w : World) (h : Events (· < w.heap.size) w v l) (hr : l.length * 200 ≤ 140737488351232) :
    Calls Tryz.prog 22 #[v, id.val, .int .i64 what] w (GivesEvents w (writersL l id what)) := by
  obtain ⟨a, c, rfl, hn⟩ := slice_form h
  have H : Hid _ := h
  clear h
  go_enter Tryz.func22, Tryz.ntmps22
  go_wp2
  have HB : Hid _ := Kept.made w #[.int .i64 id.t, .int .i64 id.who] 24
  have HP : Hid _ := (Picked.start w).on HB.out.below
  generalize w.alloc (.cells #[.int .i64 id.t, .int .i64 id.who] 24) = w1 at HB HP ⊢
  generalize hbs : w.heap.size = bs at HB ⊢
  have HX : Hid _ := hbs
  clear hbs
  go_loopg [7, 17] l.length (fun g s7 s17 wr => ∃ (j : Nat), s17 = .int .i64 j ∧ j ≤ l.length ∧ l.length - j ≤ g ∧ Hid (Picked w wr s7 (writersL (l.take j) id what) ∧ Kept w wr bs #[.int .i64 id.t, .int .i64 id.who] 24))
  case atStart => exact ⟨0, rfl, by omega, by omega, HP.out, HB.out⟩
  case round => as_aux_lemma =>
    clear HP HB
    obtain ⟨j, rfl, hj, hg, HK⟩ := hrel
    by_cases hlt : j < l.length
    · obtain ⟨b, o, cs, ha, hp, ⟨vn, vl, hcs, hst⟩, hload0⟩ := row_at H.out j hlt
      subst ha hcs
      have htk := take_next l j hlt
      have hln := writers_len l id what j hlt
      obtain ⟨an, cn, rfl, _⟩ := slice_form hst.nodes
      obtain ⟨al, cl, rfl, _⟩ := slice_form hst.links
      have hload := rangeAt_below hload0 HK.out.1.below hp
      have hone := event_cells l[j] (.slice an l[j].delta.nodes.length cn) (.slice al l[j].delta.links.length cl) ⟨_, _, _, rfl⟩ ⟨_, _, _, rfl⟩
      generalize l[j] = ev at *
      have HS : Hid (StateR (· < w.heap.size) w (.slice an ev.delta.nodes.length cn) (.slice al ev.delta.links.length cl) ev.delta) := hst
      have HT : Hid (l.take (j + 1) = l.take j ++ [ev]) := htk
      have HO : Hid _ := hone
      have HL : Hid ((writersL (l.take j) id what).length + 1 ≤ l.length) := hln
      clear hload0 hst htk hone hln hp
      go_wp2_with (first | (refine Elem.wpList_elem rfl rfl rfl 32 (.tmp 19) (.tmp 20) (.tmp 9) rfl rfl rfl rfl b (o + j * 21) rfl _ hload _ Tryz.underlying32 rfl _ Tryz.zeroValue32 rfl (by kernel_rfl) rfl rfl rfl ?_) | fail)
      clear hload
      have HW : Hid _ := HK.out.2.add (ev.row (.slice an ev.delta.nodes.length cn) (.slice al ev.delta.links.length cl)) 32
      have HQ : Hid _ := HK.out.1.on (below_alloc wr (.cells (ev.row (.slice an ev.delta.nodes.length cn) (.slice al ev.delta.links.length cl)) 32))
      have HZ : Hid _ := HK.out.2.on (below_alloc wr (.cells (ev.row (.slice an ev.delta.nodes.length cn) (.slice al ev.delta.links.length cl)) 32))
      clear HK
      generalize wr.alloc (.cells (ev.row (.slice an ev.delta.nodes.length cn) (.slice al ev.delta.links.length cl)) 32) = w1 at HW HQ HZ ⊢
      generalize wr.heap.size = bx at HW ⊢
      have HD : Hid _ := HS.out.on HQ.out.below
      go_loopg [10, 25] ev.delta.nodes.length (fun g s10 s25 w3 => ∃ (q : Nat) (acc : Bool), s25 = .int .i64 q ∧ s10 = .bool acc ∧ q ≤ ev.delta.nodes.length ∧ ev.delta.nodes.length - q ≤ g ∧ Hid (acc = (ev.delta.nodes.take q).any (nodeB id what)) ∧ Hid (Below w1.heap.size w1 w3))
      case atStart => exact ⟨0, false, rfl, rfl, by omega, by omega, rfl, Below.refl _ _⟩
      case round => as_aux_lemma =>
        obtain ⟨q, acc, rfl, rfl, hq, hg1, HA, HB⟩ := hrel
        by_cases hq1 : q < ev.delta.nodes.length
        · obtain ⟨b2, o2, cs, ha, hp, ⟨vp, vx, hcs, hft, hps, hxs⟩, hload⟩ := row_at (HD.out.nodes.below HB.out) q hq1
          subst ha hcs
          obtain ⟨ap, cp, rfl, _⟩ := slice_form hps
          obtain ⟨ax, cx, rfl, _⟩ := slice_form hxs
          have HN : Hid _ := any_take ev.delta.nodes (nodeB id what) q hq1
          clear hft hps hxs hp
          generalize ev.delta.nodes[q] = nd at *
          have HZ3 : Hid _ := HZ.out.on HB.out
          have q0 := cell_at HZ3.out.box 0
          have q1 := cell_at HZ3.out.box 1
          simp only [List.getElem?_toArray, List.getElem?_cons_zero, List.getElem?_cons_succ] at q0 q1
          have hbl : bs < wr.heap.size := heap_lt HZ3.out.box
          have hc := node_cases id what nd
          obtain ⟨r, hr⟩ : ∃ r, r = nodeB id what nd := ⟨_, rfl⟩
          rw [← hr] at hc
          have HR : Hid (r = nodeB id what nd) := hr
          clear hr
          have hcases : acc = true ∨ (acc = false ∧ nd.id.eq id = false ∧ r = false) ∨ (acc = false ∧ nd.id.eq id = true ∧ (what == 1) = true ∧ (what == 2) = false ∧ nd.aAt.eq ⟨0, 0⟩ = true ∧ r = false) ∨
              (acc = false ∧ nd.id.eq id = true ∧ (what == 1) = true ∧ (what == 2) = false ∧ nd.aAt.eq ⟨0, 0⟩ = false ∧ r = true) ∨
              (acc = false ∧ nd.id.eq id = true ∧ (what == 1) = false ∧ (what == 2) = true ∧ nd.sAt.eq ⟨0, 0⟩ = true ∧ r = false) ∨
              (acc = false ∧ nd.id.eq id = true ∧ (what == 1) = false ∧ (what == 2) = true ∧ nd.sAt.eq ⟨0, 0⟩ = false ∧ r = true) ∨
              (acc = false ∧ nd.id.eq id = true ∧ (what == 1) = false ∧ (what == 2) = false ∧ r = false) := by
            cases acc
            · rcases hc with ⟨k1, k2⟩ | ⟨k1, k2, k3, k4⟩ | ⟨k1, k2, k3, k4⟩ | ⟨k1, k2, k3, k4⟩
              · simp [k1, k2]
              · cases hz : nd.aAt.eq ⟨0, 0⟩ <;> simp [k1, k2, k3, k4, hz]
              · cases hz : nd.sAt.eq ⟨0, 0⟩ <;> simp [k1, k2, k3, k4, hz]
              · simp [k1, k2, k3, k4]
            · simp
          clear hc
          have hfin : acc = false → r = nodeB id what nd := fun _ => HR.out
          clear hfin
          rcases hcases with rfl | ⟨rfl, k1, rfl⟩ | ⟨rfl, k1, k2, k3, k4, rfl⟩ | ⟨rfl, k1, k2, k3, k4, rfl⟩ | ⟨rfl, k1, k2, k3, k4, rfl⟩ | ⟨rfl, k1, k2, k3, k4, rfl⟩ | ⟨rfl, k1, k2, k3, rfl⟩
          all_goals
            go_wp2_with (refine Elem.halt_load 60 (.tmp 27) rfl ?_)
            refine ⟨?_⟩
            refine Elem.wpList_elem rfl rfl rfl 60 (.tmp 27) (.tmp 28) (.tmp 12) rfl rfl rfl rfl b2 (o2 + q * 13) rfl _ hload _ Tryz.underlying60 rfl _ Tryz.zeroValue60 rfl (by kernel_rfl) rfl rfl rfl ?_
            clear hload
            go_wp2
            go_roundg (ev.delta.nodes.length - (q + 1))
            case measure => omega
            case rel =>
              refine ⟨q + 1, _, by go_num, rfl, by omega, by omega, ?_, HB.out.trans ((below_alloc _ _).mono HB.out.size)⟩
              refine Eq.trans ?_ HN.out.symm
              rw [← HA.out, ← HR.out]
              rfl
        · have HN : Hid (acc = ev.delta.nodes.any (nodeB id what)) := by rw [← any_full ev.delta.nodes (nodeB id what) q hq1]; exact HA.out
          have HW4 : Hid _ := HW.out.on HB.out
          have q20 := cell_at HW4.out.box 20
          simp only [List.getElem?_toArray, List.getElem?_cons_zero, List.getElem?_cons_succ] at q20
          clear HA
          go_wp2
          clear q20
          go_loopg [10, 70] ev.delta.links.length (fun g s10 s70 w3 => ∃ (q : Nat) (acc2 : Bool), s70 = .int .i64 q ∧ s10 = .bool acc2 ∧ q ≤ ev.delta.links.length ∧ ev.delta.links.length - q ≤ g ∧ Hid (acc2 = (acc || (ev.delta.links.take q).any (linkB id what))) ∧ Hid (Below w1.heap.size w1 w3))
          case atStart => exact ⟨0, acc, rfl, rfl, by omega, by omega, (show acc = (acc || false) by simp), HB.out⟩
          case round => as_aux_lemma =>
            clear HB HW4
            obtain ⟨q2, acc2, rfl, rfl, hq2, hg2, HA, HB⟩ := hrel
            by_cases hq3 : q2 < ev.delta.links.length
            · obtain ⟨b3, o3, cs, ha, hp, ⟨hcs, hft⟩, hload⟩ := row_at (HD.out.links.below HB.out) q2 hq3
              subst ha hcs
              have HT2 : Hid _ := any_take ev.delta.links (linkB id what) q2 hq3
              clear hft hp
              generalize ev.delta.links[q2] = lk at *
              have HZ3 : Hid _ := HZ.out.on HB.out
              have q0 := cell_at HZ3.out.box 0
              have q1 := cell_at HZ3.out.box 1
              simp only [List.getElem?_toArray, List.getElem?_cons_zero, List.getElem?_cons_succ] at q0 q1
              have hbl : bs < wr.heap.size := heap_lt HZ3.out.box
              have hc := link_cases id what lk
              obtain ⟨r, hr⟩ : ∃ r, r = linkB id what lk := ⟨_, rfl⟩
              rw [← hr] at hc
              have HR : Hid (r = linkB id what lk) := hr
              clear hr
              have hcases : acc2 = true ∨ (acc2 = false ∧ lk.id.eq id = false ∧ r = false) ∨ (acc2 = false ∧ lk.id.eq id = true ∧ (what == 3) = true ∧ lk.at_.eq ⟨0, 0⟩ = true ∧ r = false) ∨
                  (acc2 = false ∧ lk.id.eq id = true ∧ (what == 3) = true ∧ lk.at_.eq ⟨0, 0⟩ = false ∧ r = true) ∨
                  (acc2 = false ∧ lk.id.eq id = true ∧ (what == 3) = false ∧ r = false) := by
                cases acc2
                · rcases hc with ⟨k1, k2⟩ | ⟨k1, k2, k4⟩ | ⟨k1, k2, k4⟩
                  · simp [k1, k2]
                  · cases hz : lk.at_.eq ⟨0, 0⟩ <;> simp [k1, k2, k4, hz]
                  · simp [k1, k2, k4]
                · simp
              clear hc
              rcases hcases with rfl | ⟨rfl, k1, rfl⟩ | ⟨rfl, k1, k2, k4, rfl⟩ | ⟨rfl, k1, k2, k4, rfl⟩ | ⟨rfl, k1, k2, rfl⟩
              all_goals
                go_wp2_with (refine Elem.halt_load 62 (.tmp 72) rfl ?_)
                refine ⟨?_⟩
                refine Elem.wpList_elem rfl rfl rfl 62 (.tmp 72) (.tmp 73) (.tmp 14) rfl rfl rfl rfl b3 (o3 + q2 * 25) rfl _ hload _ Tryz.underlying62 rfl _ Tryz.zeroValue62 rfl (by kernel_rfl) rfl rfl rfl ?_
                clear hload
                go_wp2
                go_roundg (ev.delta.links.length - (q2 + 1))
                case measure => omega
                case rel =>
                  refine ⟨q2 + 1, _, by go_num, rfl, by omega, by omega, ?_, HB.out.trans ((below_alloc _ _).mono HB.out.size)⟩
                  refine Eq.trans ?_ (congrArg (acc || ·) HT2.out.symm)
                  show _ = (acc || ((ev.delta.links.take q2).any (linkB id what) || linkB id what lk))
                  rw [← Bool.or_assoc, ← HA.out, ← HR.out]
                  rfl
            · have HF : Hid (acc2 = writesB id what ev.delta) := by
                have := HA.out
                rw [any_full ev.delta.links (linkB id what) q2 hq3, HN.out, writes_split] at this
                exact this
              have HW2 : Hid _ := HW.out.on HB.out
              have HQ2 : Hid _ := HQ.out.on HB.out
              have HZ2 : Hid _ := HZ.out.on HB.out
              clear HA HB HN HD
              cases acc2 with
              | false =>
                have HF2 : Hid (writersL (l.take (j + 1)) id what = writersL (l.take j) id what) := by rw [HT.out]; exact writers_skip HF.out.symm
                go_wp2_with fail
                go_roundg (l.length - (j + 1))
                case measure => omega
                case rel => exact ⟨j + 1, by go_num, by omega, by omega, by rw [HF2.out]; exact HQ2.out, HZ2.out⟩
              | true =>
                have HF2 : Hid (writersL (l.take (j + 1)) id what = writersL (l.take j) id what ++ [ev]) := by rw [HT.out]; exact writers_take HF.out.symm
                have hload := rangeAt_box HW2.out.box
                obtain ⟨hbel, K, hK1, hown, hK3⟩ := HQ2.out
                have hkl : K.length + 1 ≤ l.length := by
                  have h1 := HL.out
                  rw [← hK1, List.length_map] at h1
                  exact h1
                have hsz := hbel.size
                have HK1 : Hid _ := hK1
                have HOW : Hid _ := hown
                have HK3 : Hid _ := hK3
                have HBE : Hid _ := hbel
                clear hK1 hown hK3 hbel
                go_wp2_with (refine Elem.halt_load 32 (.tmp 9) rfl ?_)
                refine ⟨?_⟩
                refine Elem.wpList_append_elem rfl rfl rfl 32 22 (.tmp 9) (.tmp 93) (.tmp 94) (.tmp 95) rfl rfl rfl bx 0 rfl _ hload _ Tryz.underlying32 rfl Tryz.underlying22 _ 200 evInfo rfl (Nat.succ_pos _) (show 21 ≤ 16777216 by decide) HO.out w.heap.size _ K.length _ HOW.out (by unfold maxLen; omega) (by omega) hsz rfl rfl rfl ?_
                intro v' w3 hown' hgrow
                have HP3 : Hid (Picked w w3 v' (writersL (l.take (j + 1)) id what)) := by
                  rw [HF2.out]
                  exact Picked.add HBE.out HS.out HK1.out HOW.out HK3.out hown' hgrow
                have HZ3 : Hid _ := HZ2.out.grow HOW.out hgrow (owns_ne HOW.out HZ2.out.box (by decide))
                clear hown' hload hgrow
                go_wp2
                go_roundg (l.length - (j + 1))
                case measure => omega
                case rel => exact ⟨j + 1, by go_num, by omega, by omega, HP3.out, HZ3.out⟩
    · have hjl : l.take j = l := List.take_of_length_le (by omega)
      rw [hjl] at HK
      go_wp2
      go_ret
      exact ⟨_, rfl, HK.out.1.events, HK.out.1.below⟩
end Go.Proofs.YtehkhlmpkhnbmaaGreat.Mod
