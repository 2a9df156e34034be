/- What the functions of layer 22 compute (6): the one that knew all others; what was unlinked. -/
import Derived.Test.YtehkhlmpkhnbmaaGreatModWrites
import Derived.Laws.CopyOwn
namespace Go.Proofs.YtehkhlmpkhnbmaaGreat.Mod
set_option linter.unusedVariables false
set_option linter.unusedSimpArgs false
set_option maxRecDepth 100000
open Go.RowKit Go.Proofs.YtehkhlmpkhnbmaaGreat.Mem
attribute [local go_sem high] run_eql_stp run_neq_stp

/-- a row out of the middle of a block, where the operation is guarded and wanted -/
theorem wpList_load_want {P : Program} {ops : Array Oper} {rest : List Oper} {op : Oper} {a : Act} {w : World} {Q : Exit → Act → World → Prop} (hw : Region.wanted op (yielded ops a.tmps) = true) (ty : TypeId) (x : Operand) (ho : op.op = .load ty x)
    (b o : Nat) (hx : a.eval x = .pointer (some ⟨b, o, none⟩)) (cs : List Value) (d : TypeDesc) (hc : w.rangeAt b o cs) (hu : P.underlying ty = some d) (hd : d.isRow = true) (hi : (P.info? ty).map (·.size) = some cs.length)
    (h : wpList P ops Q rest (a.put op.dst (.agg cs.toArray)) w) : wpList P ops Q (op :: rest) a w :=
  wpList_step fun K hK => by rw [if_pos hw]; exact wp_load_mid ty x ho b o hx cs d hc hu hd hi (hK _ _ h)
theorem wpList_skip {P : Program} {ops : Array Oper} {rest : List Oper} {o : Oper} {a : Act} {w : World} {Q : Exit → Act → World → Prop} (hw : Region.wanted o (yielded ops a.tmps) = false)
    (h : wpList P ops Q rest (a.put o.dst undef) w) : wpList P ops Q (o :: rest) a w :=
  wpList_step fun K hK => by rw [if_neg (by rw [hw]; exact Bool.false_ne_true)]; exact hK _ _ h
/-- the stamp of an event in a box -/
theorem event_at {w : World} {b : Nat} {e : Event} {vn vl : Value} {t : TypeId} {f : Nat × Nat} (h : w.heap[b]? = some (.cells (e.row vn vl) t f)) :
    w.cell? ⟨b, 0, none⟩ = some (.int .i64 e.at_.t) ∧ w.cell? ⟨b, 1, none⟩ = some (.int .i64 e.at_.who) ∧ w.rangeAt b 0 (e.list vn vl) := ⟨cell_at h 0, cell_at h 1, rangeAt_box h⟩
set_option maxHeartbeats 8000000 in
theorem last1_any (e u : Event) (en el un ul : Value) (b : Nat) (w : World) (h : w.heap[b]? = some (.cells (u.row un ul) 32 (0, 0))) :
    Calls Tryz.prog 47 #[.agg (e.row en el), .pointer (some ⟨b, 0, none⟩)] w fun e' w' => e' = .returned (.bool (othersB u e)) ∧ Below w.heap.size w w' := by
  obtain ⟨q0, q1, hr⟩ := event_at h
  have hb := heap_lt h
  have hr1 := rangeAt_below hr (below_alloc w (.cells (e.row en el) 32)) hb
  have hr2 := rangeAt_box (heap_alloc_last w (.cells (e.row en el) 32))
  clear h hr
  cases h1 : e.at_.eq u.at_ with
  | true =>
    have HO : Hid (othersB u e = false) := by simp only [othersB, h1]; exact rfl
    go_enter Tryz.func47, Tryz.ntmps47
    go_wp2_with fail
    go_ret
    exact ⟨by rw [HO.out]; rfl, below_alloc _ _⟩
  | false =>
    have HO : Hid (othersB u e = !e.before u) := by simp only [othersB, h1]; exact rfl
    go_enter Tryz.func47, Tryz.ntmps47
    go_wp2_with (first
      | (refine wpList_load_want rfl 32 (.tmp 2) rfl _ 0 rfl _ _ hr2 Tryz.underlying32 rfl (by kernel_rfl) ?_)
      | (refine wpList_load_want rfl 32 (.tmp 1) rfl _ 0 rfl _ _ hr1 Tryz.underlying32 rfl (by kernel_rfl) ?_))
    refine (before_any e u en el un ul _).mono ?_
    rintro e' w2 ⟨rfl, hb2⟩
    have HB : Hid (Below w.heap.size w w2) := (below_alloc _ _).trans (hb2.mono (by simp))
    clear hb2 q0 q1 hb h1 hr1 hr2
    go_wp2_with fail
    go_ret
    exact ⟨by rw [HO.out]; rfl, HB.out⟩
theorem eg_last1 : ∀ args w, (callFunc 47 args).run Tryz.prog w = .ok (.enter 47 args) w := enters_of Tryz.func47 (by kernel_rfl) rfl
theorem results_cell_tmp {P : Program} {fn : Func} {p q : Tmp} {ty : TypeId} (h : fn.results = #[.cell p ty, .tmp q]) (tmps : Array Value) (w : World) (g : Nat) (t : TypeId) (cs : Array Value) (fr : Nat × Nat) (d : TypeDesc)
    (hp : tmps.getD p undef = .pointer (some ⟨g, 0, none⟩)) (hg : w.heap[g]? = some (.cells cs t fr))
    (hu : P.underlying ty = some d) (hd : (match d with | .struct _ | .array _ _ => true | _ => false) = true) (hi : (P.info? ty).map (·.size) = some cs.size) :
    (results fn tmps).run P w = .ok (.tuple #[.agg cs, tmps.getD q undef]) w := by
  have hp' : tmps[p]?.getD undef = .pointer (some ⟨g, 0, none⟩) := by simpa using hp
  simp [results, h, hp', asAddr, run_loadVar_row w g t ty cs fr d hg hu hd hi]
/-- no event -/
def noEvent : Event := ⟨⟨0, 0⟩, 0, ⟨0, 0, 0, 0, 0, 0, 0, 0⟩, ⟨⟨0, 0, 0, 0, 0, 0, 0, 0⟩, [], []⟩⟩
def nilS : Value := .slice none 0 0
theorem noState (p : Nat → Prop) (w : World) : StateR p w (.slice none 0 0) (.slice none 0 0) noEvent.delta := ⟨.inl ⟨rfl, _, _, rfl⟩, .inl ⟨rfl, _, _, rfl⟩⟩
/-- the one that knew all others, and whether there is one -/
def lastE (l : List Event) : Event := (lastO l).getD noEvent
def GivesLast (w : World) (l : List Event) (e : Ending) (w' : World) : Prop :=
  ∃ vn vl, e = .returned (.tuple #[.agg ((lastE l).row vn vl), .bool (lastO l).isSome]) ∧ StateR (· < w.heap.size) w vn vl (lastE l).delta ∧ Below w.heap.size w w'
theorem last_hit {l : List Event} (j : Nat) (h : j < l.length) (hn : ∀ i (hi : i < l.length), i < j → l.any (othersB l[i]) = true) (hq : l.any (othersB l[j]) = false) : lastO l = some l[j] := by
  unfold lastO
  rw [List.find?_eq_some_iff_getElem]
  refine ⟨by simpa using hq, j, h, rfl, fun i hi => ?_⟩
  simpa using hn i (by omega) hi
theorem last_miss {l : List Event} (hn : ∀ i (hi : i < l.length), l.any (othersB l[i]) = true) : lastO l = none := by
  unfold lastO
  rw [List.find?_eq_none]
  intro x hx
  obtain ⟨i, hi, rfl⟩ := List.getElem_of_mem hx
  simpa using hn i hi
set_option maxHeartbeats 8000000 in
theorem last_any (v : Value) (l : List Event) (w : World) (h : Events (· < w.heap.size) w v l) :
    Calls Tryz.prog 16 #[v] w (GivesLast w l) := by
  obtain ⟨a, c, rfl, hn⟩ := slice_form h
  have H : Hid _ := h
  clear h
  go_enter Tryz.func16, Tryz.ntmps16
  go_wp2
  have HB : Hid _ := Kept.made w (noEvent.row (.slice none 0 0) (.slice none 0 0)) 32
  generalize hw1 : w.alloc _ = w1
  have HW1 : Hid _ := hw1
  clear hw1
  have HB1 : Hid (Kept w w1 w.heap.size (noEvent.row (.slice none 0 0) (.slice none 0 0)) 32) := by rw [← HW1.out]; exact HB.out
  clear HB HW1
  generalize hbr : w.heap.size = br at HB1 ⊢
  have HX : Hid _ := hbr
  clear hbr
  go_loopg [8] l.length (fun g s8 wr => ∃ (j : Nat), s8 = .int .i64 j ∧ j ≤ l.length ∧ l.length - j ≤ g ∧ Hid (Kept w wr br (noEvent.row (.slice none 0 0) (.slice none 0 0)) 32) ∧ Hid (∀ i (hi : i < l.length), i < j → l.any (othersB l[i]) = true))
  case atStart => exact ⟨0, rfl, by omega, by omega, HB1, fun i hi h => by omega⟩
  case round => as_aux_lemma =>
    clear HB1
    obtain ⟨j, rfl, hj, hg, HK, HA⟩ := hrel
    by_cases hlt : j < l.length
    · obtain ⟨b, o, cs, ha, hp, ⟨vn, vl, hcs, hst⟩, hload0⟩ := row_at H.out j hlt
      subst ha hcs
      obtain ⟨an, cn, rfl, _⟩ := slice_form hst.nodes
      obtain ⟨al, cl, rfl, _⟩ := slice_form hst.links
      have hload := rangeAt_below hload0 HK.out.below hp
      have hone := event_cells l[j] (.slice an l[j].delta.nodes.length cn) (.slice al l[j].delta.links.length cl) ⟨_, _, _, rfl⟩ ⟨_, _, _, rfl⟩
      have hhit := last_hit j hlt HA.out
      have HN : Hid (l.any (othersB l[j]) = true → ∀ i (hi : i < l.length), i < j + 1 → l.any (othersB l[i]) = true) := fun hq i hi h => by
        by_cases e : i = j
        · subst e; exact hq
        · exact HA.out i hi (by omega)
      generalize l[j] = ev at *
      have HS : Hid (StateR (· < w.heap.size) w (.slice an ev.delta.nodes.length cn) (.slice al ev.delta.links.length cl) ev.delta) := hst
      have HO : Hid _ := hone
      have HH : Hid _ := hhit
      clear hload0 hst hone hhit hp
      go_wp2_with (first | (refine Elem.wpList_elem rfl rfl rfl 32 (.tmp 10) (.tmp 11) (.tmp 5) rfl rfl rfl rfl b (o + j * 21) rfl _ hload _ Tryz.underlying32 rfl _ Tryz.zeroValue32 rfl (by kernel_rfl) rfl rfl rfl ?_) | fail)
      clear hload
      have HW : Hid _ := HK.out.add (ev.row (.slice an ev.delta.nodes.length cn) (.slice al ev.delta.links.length cl)) 32
      have HZ : Hid _ := HK.out.on (below_alloc wr (.cells (ev.row (.slice an ev.delta.nodes.length cn) (.slice al ev.delta.links.length cl)) 32))
      clear HK
      generalize wr.alloc (.cells (ev.row (.slice an ev.delta.nodes.length cn) (.slice al ev.delta.links.length cl)) 32) = w1 at HW HZ ⊢
      generalize wr.heap.size = bx at HW ⊢
      refine (contains_Event (EventR (· < w1.heap.size)) _ l _ _ (othersB ev) w1 (Events.on H.out HZ.out.below) (fun cs x hh => eventR_len cs x _ hh) ?_ eg_last1).mono ?_
      · intro x hx cs W hR hW
        obtain ⟨xn, xl, rfl, _⟩ := hR
        exact last1_any x ev xn xl _ _ bx W ((hW.block _ (heap_lt HW.out.box)).trans HW.out.box) |>.mono fun e w' hh => ⟨hh.1, hW.trans (hh.2.mono hW.size)⟩
      · rintro e w2 ⟨rfl, hb2⟩
        have HW2 : Hid _ := HW.out.on hb2
        have HZ2 : Hid _ := HZ.out.on hb2
        clear HW HZ hb2
        cases hq : l.any (othersB ev) with
        | true =>
          have HN2 : Hid _ := HN.out hq
          clear hq
          go_wp2_with fail
          go_roundg (l.length - (j + 1))
          case measure => omega
          case rel => exact ⟨j + 1, by go_num, by omega, by omega, HZ2, HN2⟩
        | false =>
          have HQ : Hid _ := HH.out hq
          clear hq HH HN
          have hload := rangeAt_box HW2.out.box
          have hbox := HZ2.out.box
          go_wp2_with (first
            | (refine wpList_load_mid rfl 32 (.tmp 5) rfl bx 0 rfl _ _ hload Tryz.underlying32 rfl (by kernel_rfl) ?_)
            | (refine wpList_store_row rfl 32 (.tmp 2) (.tmp 16) rfl br (ev.row (.slice an ev.delta.nodes.length cn) (.slice al ev.delta.links.length cl)) rfl rfl 32 _ hbox (by kernel_rfl) rfl (all_oneCell_toArray HO.out) ?_))
          refine bodyPost_ret (results_cell_tmp Tryz.results16 _ _ br 32 (ev.row (.slice an ev.delta.nodes.length cn) (.slice al ev.delta.links.length cl)) (0, 0) _ rfl (setRow_heap _ _ _ _ _ _ hbox) Tryz.underlying32 rfl (by kernel_rfl)) rfl ?_
          have e1 : lastE l = ev := by unfold lastE; rw [HQ.out]; rfl
          have e2 : (lastO l).isSome = true := by rw [HQ.out]; rfl
          refine ⟨.slice an ev.delta.nodes.length cn, .slice al ev.delta.links.length cl, ?_, by rw [e1]; exact HS.out, below_setRow HZ2.out.below (by rw [HX.out]; exact Nat.le_refl _) _⟩
          rw [e1, e2]
          rfl
    · have HQ : Hid _ := last_miss (fun i hi => HA.out i hi (by omega))
      have hbox := HK.out.box
      go_wp2_with (first
        | (refine wpList_store_row rfl 32 (.tmp 2) (.tmp 18) rfl br (noEvent.row (.slice none 0 0) (.slice none 0 0)) rfl rfl 32 _ hbox (by kernel_rfl) rfl (all_oneCell_toArray (List.all_eq_true.1 rfl)) ?_)
        | fail)
      refine bodyPost_ret (results_cell_tmp Tryz.results16 _ _ br 32 (noEvent.row (.slice none 0 0) (.slice none 0 0)) (0, 0) _ rfl (setRow_heap _ _ _ _ _ _ hbox) Tryz.underlying32 rfl (by kernel_rfl)) rfl ?_
      have e1 : lastE l = noEvent := by unfold lastE; rw [HQ.out]; rfl
      have e2 : (lastO l).isSome = false := by rw [HQ.out]; rfl
      refine ⟨.slice none 0 0, .slice none 0 0, ?_, by rw [e1]; exact noState _ _, below_setRow HK.out.below (by rw [HX.out]; exact Nat.le_refl _) _⟩
      rw [e1, e2]
      rfl
theorem any_take {α : Type} (l : List α) (q : α → Bool) (j : Nat) (h : j < l.length) : (l.take (j + 1)).any q = ((l.take j).any q || q l[j]) := by rw [take_next l j h, List.any_append]; simp
theorem any_full {α : Type} (l : List α) (q : α → Bool) (j : Nat) (h : ¬ j < l.length) : (l.take j).any q = l.any q := by rw [List.take_of_length_le (by omega)]
theorem flag_no {x y z : Bool} (h : false = !x) (h2 : y = (x || z)) : false = !y := by cases x <;> simp_all
theorem flag_yes {x y z : Bool} (h : true = !x) (h2 : y = (x || z)) (h3 : z = false) : true = !y := by cases x <;> simp_all
theorem flag_is {x y z b : Bool} (h : true = !x) (h2 : y = (x || z)) (h3 : z = !b) : b = !y := by cases x <;> simp_all
set_option maxHeartbeats 1000000 in
theorem rbefore_any (a b : Event) (an al bn bl : Value) (w : World) : Calls Tryz.prog 12 #[.agg (a.row an al), .agg (b.row bn bl)] w fun e w' => e = .returned (.bool (a.before b)) ∧ Below w.heap.size w w' := by
  go_enter Tryz.func12, Tryz.ntmps12
  go_wp2_with fail
  refine (rhas_any b.knew a.at_ _).mono ?_
  rintro e w1 ⟨rfl, hb⟩
  have HB : Hid (Below w.heap.size w w1) := ((((Below.refl _ _).alloc (Nat.le_refl _) _).alloc (by simp) _)).trans (hb.mono (by simp; omega))
  clear hb
  go_wp2
  go_ret
  exact ⟨rfl, HB.out⟩
set_option maxHeartbeats 8000000 in
theorem rlast_any (v : Value) (l : List Event) (w : World) (h : Events (· < w.heap.size) w v l) :
    Calls Tryz.prog 17 #[v] w (GivesLast w l) := by
  obtain ⟨a, c, rfl, hn⟩ := slice_form h
  have H : Hid _ := h
  clear h
  go_enter Tryz.func17, Tryz.ntmps17
  go_wp2
  have HB : Hid _ := Kept.made w (noEvent.row (.slice none 0 0) (.slice none 0 0)) 32
  generalize hw1 : w.alloc _ = w1
  have HW1 : Hid _ := hw1
  clear hw1
  have HB1 : Hid (Kept w w1 w.heap.size (noEvent.row (.slice none 0 0) (.slice none 0 0)) 32) := by rw [← HW1.out]; exact HB.out
  clear HB HW1
  generalize hbr : w.heap.size = br at HB1 ⊢
  have HX : Hid _ := hbr
  clear hbr
  go_loopg [11] l.length (fun g s11 wr => ∃ (j : Nat), s11 = .int .i64 j ∧ j ≤ l.length ∧ l.length - j ≤ g ∧ Hid (Kept w wr br (noEvent.row (.slice none 0 0) (.slice none 0 0)) 32) ∧ Hid (∀ i (hi : i < l.length), i < j → l.any (othersB l[i]) = true))
  case atStart => exact ⟨0, rfl, by omega, by omega, HB1, fun i hi h => by omega⟩
  case round => as_aux_lemma =>
    clear HB1
    obtain ⟨j, rfl, hj, hg, HK, HA⟩ := hrel
    by_cases hlt : j < l.length
    · obtain ⟨b, o, cs, ha, hp, ⟨vn, vl, hcs, hst⟩, hload0⟩ := row_at H.out j hlt
      subst ha hcs
      obtain ⟨an, cn, rfl, _⟩ := slice_form hst.nodes
      obtain ⟨al, cl, rfl, _⟩ := slice_form hst.links
      have hload := rangeAt_below hload0 HK.out.below hp
      have hone := event_cells l[j] (.slice an l[j].delta.nodes.length cn) (.slice al l[j].delta.links.length cl) ⟨_, _, _, rfl⟩ ⟨_, _, _, rfl⟩
      have hhit := last_hit j hlt HA.out
      have HN : Hid (l.any (othersB l[j]) = true → ∀ i (hi : i < l.length), i < j + 1 → l.any (othersB l[i]) = true) := fun hq i hi h => by
        by_cases e : i = j
        · subst e; exact hq
        · exact HA.out i hi (by omega)
      generalize l[j] = ev at *
      have HS : Hid (StateR (· < w.heap.size) w (.slice an ev.delta.nodes.length cn) (.slice al ev.delta.links.length cl) ev.delta) := hst
      have HO : Hid _ := hone
      have HH : Hid _ := hhit
      clear hload0 hst hone hhit hp
      go_wp2_with (first | (refine Elem.wpList_elem rfl rfl rfl 32 (.tmp 13) (.tmp 14) (.tmp 5) rfl rfl rfl rfl b (o + j * 21) rfl _ hload _ Tryz.underlying32 rfl _ Tryz.zeroValue32 rfl (by kernel_rfl) rfl rfl rfl ?_) | fail)
      clear hload
      have HW : Hid _ := HK.out.add (ev.row (.slice an ev.delta.nodes.length cn) (.slice al ev.delta.links.length cl)) 32
      have HZ : Hid _ := HK.out.on (below_alloc wr (.cells (ev.row (.slice an ev.delta.nodes.length cn) (.slice al ev.delta.links.length cl)) 32))
      clear HK
      generalize wr.alloc (.cells (ev.row (.slice an ev.delta.nodes.length cn) (.slice al ev.delta.links.length cl)) 32) = w1 at HW HZ ⊢
      generalize wr.heap.size = bx at HW ⊢
      go_loopg [6, 17] l.length (fun g s6 s17 w3 => ∃ (q : Nat) (acc : Bool), s17 = .int .i64 q ∧ s6 = .bool acc ∧ q ≤ l.length ∧ l.length - q ≤ g ∧ Hid (acc = !(l.take q).any (othersB ev)) ∧ Hid (Below w1.heap.size w1 w3))
      case atStart => exact ⟨0, true, rfl, rfl, by omega, by omega, rfl, Below.refl _ _⟩
      case round => as_aux_lemma =>
        obtain ⟨q, acc, rfl, rfl, hq, hg1, HA1, HB⟩ := hrel
        by_cases hq1 : q < l.length
        · obtain ⟨b2, o2, cs, ha, hp, ⟨xn, xl, hcs, hst⟩, hload0⟩ := row_at H.out q hq1
          injection ha with ha
          injection ha with hb1 ho1 _
          subst hb1 ho1 hcs
          obtain ⟨axn, cxn, rfl, _⟩ := slice_form hst.nodes
          obtain ⟨axl, cxl, rfl, _⟩ := slice_form hst.links
          have hload := rangeAt_below hload0 (HZ.out.below.trans (HB.out.mono HZ.out.below.size)) hp
          have HT := any_take l (othersB ev) q hq1
          have HT' : Hid _ := HT
          clear HT hload0 hst hp
          generalize l[q] = x at *
          have HW3 : Hid _ := HW.out.on HB.out
          obtain ⟨q0, q1, hr⟩ := event_at HW3.out.box
          have hbl := heap_lt HW3.out.box
          have hr1 := rangeAt_below hr (below_alloc wr (.cells (x.row (.slice axn x.delta.nodes.length cxn) (.slice axl x.delta.links.length cxl)) 32)) hbl
          have hr2 := rangeAt_box (heap_alloc_last wr (.cells (x.row (.slice axn x.delta.nodes.length cxn) (.slice axl x.delta.links.length cxl)) 32))
          clear hr
          have hcs : acc = false ∨ (acc = true ∧ x.at_.eq ev.at_ = true ∧ othersB ev x = false) ∨ (acc = true ∧ x.at_.eq ev.at_ = false ∧ othersB ev x = !x.before ev) := by
            cases acc
            · simp
            · cases hx : x.at_.eq ev.at_ <;> simp [othersB, hx]
          rcases hcs with rfl | ⟨rfl, k1, k2⟩ | ⟨rfl, k1, k2⟩
          · have HB3 : Hid _ := HB.out.trans ((below_alloc wr (.cells (x.row (.slice axn x.delta.nodes.length cxn) (.slice axl x.delta.links.length cxl)) 32)).mono HB.out.size)
            go_wp2_with (refine Elem.halt_load 32 (.tmp 19) rfl ?_)
            refine ⟨?_⟩
            refine Elem.wpList_elem rfl rfl rfl 32 (.tmp 19) (.tmp 20) (.tmp 8) rfl rfl rfl rfl b (o + q * 21) rfl _ hload _ Tryz.underlying32 rfl _ Tryz.zeroValue32 rfl (by kernel_rfl) rfl rfl rfl ?_
            clear hload hr1 hr2
            go_wp2
            go_roundg (l.length - (q + 1))
            case measure => omega
            case rel => exact ⟨q + 1, _, by go_num, rfl, by omega, by omega, flag_no HA1.out HT'.out, HB3.out⟩
          · have HB3 : Hid _ := HB.out.trans ((below_alloc wr (.cells (x.row (.slice axn x.delta.nodes.length cxn) (.slice axl x.delta.links.length cxl)) 32)).mono HB.out.size)
            have K2 : Hid _ := k2
            clear k2
            go_wp2_with (refine Elem.halt_load 32 (.tmp 19) rfl ?_)
            refine ⟨?_⟩
            refine Elem.wpList_elem rfl rfl rfl 32 (.tmp 19) (.tmp 20) (.tmp 8) rfl rfl rfl rfl b (o + q * 21) rfl _ hload _ Tryz.underlying32 rfl _ Tryz.zeroValue32 rfl (by kernel_rfl) rfl rfl rfl ?_
            clear hload hr1 hr2
            go_wp2
            go_roundg (l.length - (q + 1))
            case measure => omega
            case rel => exact ⟨q + 1, _, by go_num, rfl, by omega, by omega, flag_yes HA1.out HT'.out K2.out, HB3.out⟩
          · have HB3 : Hid _ := HB.out.trans ((below_alloc wr (.cells (x.row (.slice axn x.delta.nodes.length cxn) (.slice axl x.delta.links.length cxl)) 32)).mono HB.out.size)
            have K2 : Hid _ := k2
            clear k2
            go_wp2_with (first
              | (refine Elem.wpList_elem rfl rfl rfl 32 (.tmp 19) (.tmp 20) (.tmp 8) rfl rfl rfl rfl b (o + q * 21) rfl _ hload _ Tryz.underlying32 rfl _ Tryz.zeroValue32 rfl (by kernel_rfl) rfl rfl rfl ?_)
              | (refine wpList_load_want rfl 32 (.tmp 8) rfl _ 0 rfl _ _ hr2 Tryz.underlying32 rfl (by kernel_rfl) ?_)
              | (refine wpList_load_want rfl 32 (.tmp 5) rfl _ 0 rfl _ _ hr1 Tryz.underlying32 rfl (by kernel_rfl) ?_))
            refine (rbefore_any x ev _ _ _ _ _).mono ?_
            rintro e' w5 ⟨rfl, hb5⟩
            have HB5 : Hid _ := HB3.out.trans (hb5.mono HB3.out.size)
            clear hb5 q0 q1 hbl hr1 hr2 hload k1
            go_wp2_with fail
            go_roundg (l.length - (q + 1))
            case measure => omega
            case rel => exact ⟨q + 1, _, by go_num, rfl, by omega, by omega, flag_is HA1.out HT'.out K2.out, HB5.out⟩
        · have HF : Hid (acc = !l.any (othersB ev)) := by rw [← any_full l (othersB ev) q hq1]; exact HA1.out
          have HW2 : Hid _ := HW.out.on HB.out
          have HZ2 : Hid _ := HZ.out.on HB.out
          clear HW HZ HA1
          have hacc := HF.out
          clear HF
          cases hq : l.any (othersB ev) with
          | true =>
            have HN2 : Hid _ := HN.out hq
            rw [hq] at hacc
            subst hacc
            clear hq
            go_wp2_with fail
            go_roundg (l.length - (j + 1))
            case measure => omega
            case rel => exact ⟨j + 1, by go_num, by omega, by omega, HZ2, HN2⟩
          | false =>
            have HQ : Hid _ := HH.out hq
            rw [hq] at hacc
            subst hacc
            clear hq HH HN
            have hload := rangeAt_box HW2.out.box
            have hbox := HZ2.out.box
            go_wp2_with (first
              | (refine wpList_load_mid rfl 32 (.tmp 5) rfl bx 0 rfl _ _ hload Tryz.underlying32 rfl (by kernel_rfl) ?_)
              | (refine wpList_store_row rfl 32 (.tmp 2) (.tmp 36) rfl br (ev.row (.slice an ev.delta.nodes.length cn) (.slice al ev.delta.links.length cl)) rfl rfl 32 _ hbox (by kernel_rfl) rfl (all_oneCell_toArray HO.out) ?_))
            refine bodyPost_ret (results_cell_tmp Tryz.results17 _ _ br 32 (ev.row (.slice an ev.delta.nodes.length cn) (.slice al ev.delta.links.length cl)) (0, 0) _ rfl (setRow_heap _ _ _ _ _ _ hbox) Tryz.underlying32 rfl (by kernel_rfl)) rfl ?_
            have e1 : lastE l = ev := by unfold lastE; rw [HQ.out]; rfl
            have e2 : (lastO l).isSome = true := by rw [HQ.out]; rfl
            refine ⟨.slice an ev.delta.nodes.length cn, .slice al ev.delta.links.length cl, ?_, by rw [e1]; exact HS.out, below_setRow HZ2.out.below (by rw [HX.out]; exact Nat.le_refl _) _⟩
            rw [e1, e2]
            rfl
    · have HQ : Hid _ := last_miss (fun i hi => HA.out i hi (by omega))
      have hbox := HK.out.box
      go_wp2_with (first
        | (refine wpList_store_row rfl 32 (.tmp 2) (.tmp 38) rfl br (noEvent.row (.slice none 0 0) (.slice none 0 0)) rfl rfl 32 _ hbox (by kernel_rfl) rfl (all_oneCell_toArray (List.all_eq_true.1 rfl)) ?_)
        | fail)
      refine bodyPost_ret (results_cell_tmp Tryz.results17 _ _ br 32 (noEvent.row (.slice none 0 0) (.slice none 0 0)) (0, 0) _ rfl (setRow_heap _ _ _ _ _ _ hbox) Tryz.underlying32 rfl (by kernel_rfl)) rfl ?_
      have e1 : lastE l = noEvent := by unfold lastE; rw [HQ.out]; rfl
      have e2 : (lastO l).isSome = false := by rw [HQ.out]; rfl
      refine ⟨.slice none 0 0, .slice none 0 0, ?_, by rw [e1]; exact noState _ _, below_setRow HK.out.below (by rw [HX.out]; exact Nat.le_refl _) _⟩
      rw [e1, e2]
      rfl
end Go.Proofs.YtehkhlmpkhnbmaaGreat.Mod
