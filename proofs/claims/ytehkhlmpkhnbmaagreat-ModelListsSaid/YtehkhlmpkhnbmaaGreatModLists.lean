/- What the functions of layer 22 compute (3): lists of events picked out of lists of events. -/
import Derived.Test.YtehkhlmpkhnbmaaGreatModSmall
import Derived.Laws.AppendOwn
import Derived.OwnWalk
import Derived.Great.Walk
namespace Go.Proofs.YtehkhlmpkhnbmaaGreat.Mod
set_option linter.unusedVariables false
set_option linter.unusedSimpArgs false
set_option maxRecDepth 100000
open Go.RowKit Go.Proofs.YtehkhlmpkhnbmaaGreat.Mem

theorem evInfo : (Tryz.prog.info? 32).map (fun i => (i.zero, i.size, i.bytes)) = some (some (.agg #[.int .i64 0, .int .i64 0, .int .i64 0, .int .i64 0, .int .i64 0, .int .i64 0, .int .i64 0, .int .i64 0, .int .i64 0, .int .i64 0, .int .i64 0, .int .i64 0, .int .i64 0, .int .i64 0, .int .i64 0, .int .i64 0, .int .i64 0, .int .i64 0, .int .i64 0, .slice none 0 0, .slice none 0 0]), 21, 200) := by kernel_rfl

/-- a list of events that a call makes: whose states lay there -/
structure Picked (w wr : World) (v : Value) (L : List Event) : Prop where
  below : Below w.heap.size w wr
  held : ∃ K : List (Event × Value × Value), K.map (·.1) = L ∧ wr.ownsRow w.heap.size 32 21 v K.length (K.flatMap fun x => x.1.list x.2.1 x.2.2) ∧ ∀ x ∈ K, StateR (· < w.heap.size) w x.2.1 x.2.2 x.1.delta
theorem Picked.start (w : World) : Picked w w (.slice none 0 0) [] := ⟨Below.refl _ _, [], rfl, ⟨rfl, .inl ⟨rfl, rfl⟩⟩, by simp⟩
theorem ownsRow_on {w w' : World} {base e size n : Nat} {v : Value} {xs : List Value} (h : w.ownsRow base e size v n xs) (hb : Below w.heap.size w w') : w'.ownsRow base e size v n xs := by
  obtain ⟨h1, h2 | ⟨g, cap, cur, h3, h4, h5, h6⟩⟩ := h
  · exact ⟨h1, .inl h2⟩
  · exact ⟨h1, .inr ⟨g, cap, cur, h3, h4, (hb.block _ (heap_lt h5)).trans h5, h6⟩⟩
theorem Picked.on {w wr wr' : World} {v : Value} {L : List Event} (h : Picked w wr v L) (hb : Below wr.heap.size wr wr') : Picked w wr' v L := by
  obtain ⟨h1, K, h2, h3, h4⟩ := h
  exact ⟨h1.trans (hb.mono h1.size), K, h2, ownsRow_on h3 hb, h4⟩
theorem grown_below {w wr wr' : World} {v : Value} {n : Nat} {xs : List Value} {e size : Nat} (h : Below w.heap.size w wr) (ho : wr.ownsRow w.heap.size e size v n xs) (hg : wr.grownBy wr' v.ownBlock) : Below w.heap.size w wr' := by
  refine h.trans ⟨hg.os, hg.tape, hg.output, hg.size, fun k hk => hg.block k (Nat.lt_of_lt_of_le hk h.size) ?_⟩
  obtain ⟨_, ⟨h2, _⟩ | ⟨g, cap, cur, h3, h4, _⟩⟩ := ho
  · rw [h2]; simp [Value.ownBlock]
  · rw [h3]
    simp only [Value.ownBlock, ne_eq, Option.some.injEq]
    omega
theorem flat_len : ∀ (K : List (Event × Value × Value)), (K.flatMap fun x => x.1.list x.2.1 x.2.2).length = K.length * 21
  | [] => rfl
  | x :: K => by
    rw [List.flatMap_cons, List.length_append, flat_len K, List.length_cons]
    show 21 + K.length * 21 = (K.length + 1) * 21
    omega
theorem flat_at : ∀ (K : List (Event × Value × Value)) (j : Nat) (hj : j < K.length) (q : Nat), q < 21 → (K.flatMap fun x => x.1.list x.2.1 x.2.2)[j * 21 + q]? = (K[j].1.list K[j].2.1 K[j].2.2)[q]?
  | x :: K, 0, _, q, hq => by
    simp only [List.flatMap_cons, Nat.zero_mul, Nat.zero_add, List.getElem_cons_zero]
    exact List.getElem?_append_left (show q < 21 from hq)
  | x :: K, j + 1, hj, q, hq => by
    simp only [List.flatMap_cons, List.getElem_cons_succ]
    rw [List.getElem?_append_right (show 21 ≤ (j + 1) * 21 + q by omega), ← flat_at K j (by simpa using hj) q hq]
    show (K.flatMap fun x => x.1.list x.2.1 x.2.2)[(j + 1) * 21 + q - 21]? = _
    rw [show (j + 1) * 21 + q - 21 = j * 21 + q by omega]
/-- as any list of events -/
theorem Picked.events {w wr : World} {v : Value} {L : List Event} (h : Picked w wr v L) : Events (· < wr.heap.size) wr v L := by
  obtain ⟨hb, K, rfl, ⟨hl, h2 | ⟨g, cap, cur, rfl, h4, h5, h6, h7, h8, h9⟩⟩, hs⟩ := h
  · have : K = [] := List.length_eq_zero_iff.1 h2.2
    subst this
    exact .inl ⟨rfl, none, 0, h2.1⟩
  · refine .inr ⟨g, 0, cap, by simp, heap_lt h5, by simp; unfold maxLen at h7; omega, fun j hj => ?_⟩
    have hj' : j < K.length := by simpa using hj
    refine ⟨K[j].1.list K[j].2.1 K[j].2.2, rfl, fun q hq => ?_, ?_⟩
    · have e : K.length * 21 = K.length * 21 := rfl
      rw [cell_at h5, ← flat_at K j hj' q hq, ← h9, List.getElem?_take_of_lt (by omega)]
      simp
    · simp only [List.getElem_map]
      exact ⟨_, _, rfl, ((hs _ (List.getElem_mem hj')).below hb).mono (fun k hk => Nat.lt_of_lt_of_le hk hb.size)⟩
/-- one more -/
theorem Picked.add {w wr wr' : World} {v v' : Value} {L : List Event} {e : Event} {vn vl : Value} {K : List (Event × Value × Value)} (hb : Below w.heap.size w wr) (hs : StateR (· < w.heap.size) w vn vl e.delta)
    (h1 : K.map (·.1) = L) (h2 : wr.ownsRow w.heap.size 32 21 v K.length (K.flatMap fun x => x.1.list x.2.1 x.2.2)) (h3 : ∀ x ∈ K, StateR (· < w.heap.size) w x.2.1 x.2.2 x.1.delta)
    (hr : wr'.ownsRow w.heap.size 32 21 v' (K.length + 1) ((K.flatMap fun x => x.1.list x.2.1 x.2.2) ++ e.list vn vl)) (hg : wr.grownBy wr' v.ownBlock) : Picked w wr' v' (L ++ [e]) := by
  refine ⟨grown_below hb h2 hg, K ++ [(e, vn, vl)], by simp [h1], ?_, fun x hx => ?_⟩
  · simpa using hr
  · rcases List.mem_append.1 hx with hx | hx
    · exact h3 x hx
    · simp only [List.mem_singleton] at hx
      subst hx
      exact hs
/-- a box outlasts an append to a list that a call makes -/
theorem Kept.grow {w wr wr' : World} {b : Nat} {cs : Array Value} {t e size n : Nat} {v : Value} {xs : List Value} (h : Kept w wr b cs t) (ho : wr.ownsRow w.heap.size e size v n xs) (hg : wr.grownBy wr' v.ownBlock) (hne : v.ownBlock ≠ some b) : Kept w wr' b cs t :=
  ⟨grown_below h.below ho hg, (hg.block b (heap_lt h.box) (fun h => hne h.symm)).trans h.box⟩
theorem owns_ne {wr : World} {base e size n b : Nat} {v : Value} {xs : List Value} {cs : Array Value} {t : TypeId} (ho : wr.ownsRow base e size v n xs) (hb : wr.heap[b]? = some (.cells cs t (0, 0))) (ht : t ≠ e) : v.ownBlock ≠ some b := by
  obtain ⟨_, ⟨h2, _⟩ | ⟨g, cap, cur, h3, h4, h5, _⟩⟩ := ho
  · rw [h2]; simp [Value.ownBlock]
  · rw [h3]
    simp only [Value.ownBlock, ne_eq, Option.some.injEq]
    intro hgb
    subst hgb
    rw [hb] at h5
    injection h5 with h5
    injection h5 with _ h6 _
    exact ht h6
theorem rangeAt_below {B : Nat} {w w' : World} {b o : Nat} {cs : List Value} (h : w.rangeAt b o cs) (hb : Below B w w') (hlt : b < B) : w'.rangeAt b o cs := fun j v hj => (hb.cell (p := ⟨b, o + j, none⟩) hlt).trans (h j v hj)
theorem take_next {α : Type} (l : List α) (j : Nat) (h : j < l.length) : l.take (j + 1) = l.take j ++ [l[j]] := by rw [List.take_add_one, List.getElem?_eq_getElem h]; rfl
theorem known_skip {l : List Event} {e : Event} {vol : Int} {seen : Vec} (h : knownB vol seen e = false) : knownL (l ++ [e]) vol seen = knownL l vol seen := by simp [knownL, h]
theorem known_take {l : List Event} {e : Event} {vol : Int} {seen : Vec} (h : knownB vol seen e = true) : knownL (l ++ [e]) vol seen = knownL l vol seen ++ [e] := by simp [knownL, h]
theorem known_len (l : List Event) (vol : Int) (seen : Vec) (j : Nat) (h : j < l.length) : (knownL (l.take j) vol seen).length + 1 ≤ l.length := by
  have h1 := List.length_filter_le (knownB vol seen) (l.take j)
  have h2 := List.length_take_le j l
  unfold knownL
  omega
theorem event_cells (e : Event) (vn vl : Value) (hn : ∃ a n c, vn = .slice a n c) (hl : ∃ a n c, vl = .slice a n c) : ∀ u ∈ e.list vn vl, u.oneCell' = true := by
  obtain ⟨a, n, c, rfl⟩ := hn
  obtain ⟨a', n', c', rfl⟩ := hl
  exact List.all_eq_true.1 rfl
theorem news_at {w : World} {b : Nat} {cs : List Value} {t : TypeId} {f : Nat × Nat} (h : w.heap[b]? = some (.cells cs.toArray t f)) : ∀ j u, cs[j]? = some u → w.cell? ((⟨b, 0, none⟩ : Addr).add j) = some u := fun j u hj => by
  have e : (⟨b, 0, none⟩ : Addr).add j = ⟨b, j, none⟩ := by unfold Addr.add; split <;> simp_all
  rw [e, cell_at h]
  simpa using hj

theorem rangeAt_box {w : World} {b : Nat} {cs : List Value} {t : TypeId} {f : Nat × Nat} (h : w.heap[b]? = some (.cells cs.toArray t f)) : w.rangeAt b 0 cs := fun j u hj => by
  rw [Nat.zero_add, cell_at h]
  simpa using hj

/-- a list of events, made -/
def GivesEvents (w : World) (L : List Event) (e : Ending) (w' : World) : Prop := ∃ v, e = .returned v ∧ Events (· < w'.heap.size) w' v L ∧ Below w.heap.size w w'

set_option maxHeartbeats 8000000 in
theorem known_any (v : Value) (l : List Event) (vol : Int) (seen : Vec) (w : World) (h : Events (· < w.heap.size) w v l) (hr : l.length * 200 ≤ 140737488351232) :
    Calls Tryz.prog 19 #[v, .int .i64 vol, seen.val] w (GivesEvents w (knownL l vol seen)) := by
  obtain ⟨a, c, rfl, hn⟩ := slice_form h
  have H : Hid _ := h
  clear h
  go_enter Tryz.func19, Tryz.ntmps19
  go_wp2
  have HB : Hid _ := Kept.made w #[.int .i64 seen.v0, .int .i64 seen.v1, .int .i64 seen.v2, .int .i64 seen.v3, .int .i64 seen.v4, .int .i64 seen.v5, .int .i64 seen.v6, .int .i64 seen.v7] 26
  have HP : Hid _ := (Picked.start w).on HB.out.below
  generalize w.alloc (.cells #[.int .i64 seen.v0, .int .i64 seen.v1, .int .i64 seen.v2, .int .i64 seen.v3, .int .i64 seen.v4, .int .i64 seen.v5, .int .i64 seen.v6, .int .i64 seen.v7] 26) = w1 at HB HP ⊢
  generalize hbs : w.heap.size = bs at HB ⊢
  have HX : Hid _ := hbs
  clear hbs
  go_loopg [7, 12] l.length (fun g s7 s12 wr => ∃ (j : Nat), s12 = .int .i64 j ∧ j ≤ l.length ∧ l.length - j ≤ g ∧ Hid (Picked w wr s7 (knownL (l.take j) vol seen) ∧ Kept w wr bs #[.int .i64 seen.v0, .int .i64 seen.v1, .int .i64 seen.v2, .int .i64 seen.v3, .int .i64 seen.v4, .int .i64 seen.v5, .int .i64 seen.v6, .int .i64 seen.v7] 26))
  case atStart => exact ⟨0, rfl, by omega, by omega, HP.out, HB.out⟩
  case round => as_aux_lemma =>
    clear HP HB
    obtain ⟨j, rfl, hj, hg, HK⟩ := hrel
    by_cases hlt : j < l.length
    · obtain ⟨b, o, cs, ha, hp, ⟨vn, vl, hcs, hst⟩, hload0⟩ := row_at H.out j hlt
      subst ha hcs
      have htk := take_next l j hlt
      have hln := known_len l vol seen j hlt
      obtain ⟨an, cn, rfl, _⟩ := slice_form hst.nodes
      obtain ⟨al, cl, rfl, _⟩ := slice_form hst.links
      have hload := rangeAt_below hload0 HK.out.1.below hp
      have hone := event_cells l[j] (.slice an l[j].delta.nodes.length cn) (.slice al l[j].delta.links.length cl) ⟨_, _, _, rfl⟩ ⟨_, _, _, rfl⟩
      generalize l[j] = ev at *
      have HS : Hid (StateR (· < w.heap.size) w (.slice an ev.delta.nodes.length cn) (.slice al ev.delta.links.length cl) ev.delta) := hst
      have HT : Hid (l.take (j + 1) = l.take j ++ [ev]) := htk
      have HO : Hid _ := hone
      have HL : Hid ((knownL (l.take j) vol seen).length + 1 ≤ l.length) := hln
      clear hload0 hst htk hone hln hp
      have q0 := cell_at HK.out.2.box 0
      have q1 := cell_at HK.out.2.box 1
      have q2 := cell_at HK.out.2.box 2
      have q3 := cell_at HK.out.2.box 3
      have q4 := cell_at HK.out.2.box 4
      have q5 := cell_at HK.out.2.box 5
      have q6 := cell_at HK.out.2.box 6
      have q7 := cell_at HK.out.2.box 7
      simp only [List.getElem?_toArray, List.getElem?_cons_zero, List.getElem?_cons_succ] at q0 q1 q2 q3 q4 q5 q6 q7
      have hbl : bs < wr.heap.size := heap_lt HK.out.2.box
      by_cases hv : ev.vol = vol
      · have hvb : (ev.vol == vol) = true := by simp [hv]
        go_wp2_with (first | (refine Elem.wpList_elem rfl rfl rfl 32 (.tmp 14) (.tmp 15) (.tmp 9) rfl rfl rfl rfl b (o + j * 21) rfl _ hload _ Tryz.underlying32 rfl _ Tryz.zeroValue32 rfl (by kernel_rfl) rfl rfl rfl ?_) | fail)
        have HW : Hid _ := HK.out.2.add (ev.row (.slice an ev.delta.nodes.length cn) (.slice al ev.delta.links.length cl)) 32
        have HQ : Hid _ := HK.out.1.on (below_alloc wr (.cells (ev.row (.slice an ev.delta.nodes.length cn) (.slice al ev.delta.links.length cl)) 32))
        have HZ : Hid _ := HK.out.2.on (below_alloc wr (.cells (ev.row (.slice an ev.delta.nodes.length cn) (.slice al ev.delta.links.length cl)) 32))
        generalize wr.alloc (.cells (ev.row (.slice an ev.delta.nodes.length cn) (.slice al ev.delta.links.length cl)) 32) = w1 at HW HQ HZ ⊢
        generalize wr.heap.size = bx at HW ⊢
        refine (has_any seen ev.at_ w1).mono ?_
        rintro e w2 ⟨rfl, hb2⟩
        have HW2 : Hid _ := HW.out.on hb2
        have HQ2 : Hid _ := HQ.out.on hb2
        have HZ2 : Hid _ := HZ.out.on hb2
        clear HW HQ HZ hb2 q0 q1 q2 q3 q4 q5 q6 q7 hbl HK hload
        cases hh : seen.has ev.at_ with
        | false =>
          have HF : Hid (knownL (l.take (j + 1)) vol seen = knownL (l.take j) vol seen) := by rw [HT.out]; exact known_skip (by simp [knownB, hh])
          clear hh
          go_wp2_with fail
          go_roundg (l.length - (j + 1))
          case measure => omega
          case rel => exact ⟨j + 1, by go_num, by omega, by omega, by rw [HF.out]; exact HQ2.out, HZ2.out⟩
        | true =>
          have HF : Hid (knownL (l.take (j + 1)) vol seen = knownL (l.take j) vol seen ++ [ev]) := by rw [HT.out]; exact known_take (by simp [knownB, hh, hv])
          clear hh hvb hv
          have hload := rangeAt_box HW2.out.box
          obtain ⟨hbel, K, hK1, hown, hK3⟩ := HQ2.out
          have hkl : K.length + 1 ≤ l.length := by
            have h1 := HL.out
            rw [← hK1, List.length_map] at h1
            exact h1
          have hsz := hbel.size
          have HK1 : Hid _ := hK1
          have HOW : Hid _ := hown
          have HK3 : Hid _ := hK3
          have HBE : Hid _ := hbel
          clear hK1 hown hK3 hbel
          go_wp2_with (first | (refine Elem.wpList_append_elem rfl rfl rfl 32 22 (.tmp 9) (.tmp 26) (.tmp 27) (.tmp 28) rfl rfl rfl bx 0 rfl _ hload _ Tryz.underlying32 rfl Tryz.underlying22 _ 200 evInfo rfl (Nat.succ_pos _) (show 21 ≤ 16777216 by decide) HO.out w.heap.size _ K.length _ HOW.out (by unfold maxLen; omega) (by omega) hsz rfl rfl rfl ?_; intro v' w3 hown' hgrow) | fail)
          have HP3 : Hid (Picked w w3 v' (knownL (l.take (j + 1)) vol seen)) := by
            rw [HF.out]
            exact Picked.add HBE.out HS.out HK1.out HOW.out HK3.out hown' hgrow
          have HZ3 : Hid _ := HZ2.out.grow HOW.out hgrow (owns_ne HOW.out HZ2.out.box (by decide))
          clear hown' hload hgrow
          go_roundg (l.length - (j + 1))
          case measure => omega
          case rel => exact ⟨j + 1, by go_num, by omega, by omega, HP3.out, HZ3.out⟩
      · have hvb : (ev.vol == vol) = false := by simp [hv]
        have HF : Hid (knownL (l.take (j + 1)) vol seen = knownL (l.take j) vol seen) := by rw [HT.out]; exact known_skip (by simp [knownB, hv])
        clear hv
        go_wp2_with (first | (refine Elem.wpList_elem rfl rfl rfl 32 (.tmp 14) (.tmp 15) (.tmp 9) rfl rfl rfl rfl b (o + j * 21) rfl _ hload _ Tryz.underlying32 rfl _ Tryz.zeroValue32 rfl (by kernel_rfl) rfl rfl rfl ?_) | fail)
        have HQ : Hid _ := HK.out.1.on (below_alloc wr (.cells (ev.row (.slice an ev.delta.nodes.length cn) (.slice al ev.delta.links.length cl)) 32))
        have HZ : Hid _ := HK.out.2.on (below_alloc wr (.cells (ev.row (.slice an ev.delta.nodes.length cn) (.slice al ev.delta.links.length cl)) 32))
        go_roundg (l.length - (j + 1))
        case measure => omega
        case rel => exact ⟨j + 1, by go_num, by omega, by omega, by rw [HF.out]; exact HQ.out, HZ.out⟩
    · have hjl : l.take j = l := List.take_of_length_le (by omega)
      rw [hjl] at HK
      go_wp2
      go_ret
      exact ⟨_, rfl, HK.out.1.events, HK.out.1.below⟩
set_option maxHeartbeats 8000000 in
theorem rknown_any (v : Value) (l : List Event) (vol : Int) (seen : Vec) (w : World) (h : Events (· < w.heap.size) w v l) (hr : l.length * 200 ≤ 140737488351232) :
    Calls Tryz.prog 20 #[v, .int .i64 vol, seen.val] w (GivesEvents w (knownL l vol seen)) := by
  obtain ⟨a, c, rfl, hn⟩ := slice_form h
  have H : Hid _ := h
  clear h
  go_enter Tryz.func20, Tryz.ntmps20
  go_wp2
  have HB : Hid _ := Kept.made w #[.int .i64 seen.v0, .int .i64 seen.v1, .int .i64 seen.v2, .int .i64 seen.v3, .int .i64 seen.v4, .int .i64 seen.v5, .int .i64 seen.v6, .int .i64 seen.v7] 26
  have HP : Hid _ := (Picked.start w).on HB.out.below
  generalize w.alloc (.cells #[.int .i64 seen.v0, .int .i64 seen.v1, .int .i64 seen.v2, .int .i64 seen.v3, .int .i64 seen.v4, .int .i64 seen.v5, .int .i64 seen.v6, .int .i64 seen.v7] 26) = w1 at HB HP ⊢
  generalize hbs : w.heap.size = bs at HB ⊢
  have HX : Hid _ := hbs
  clear hbs
  go_loopg [7, 12] l.length (fun g s7 s12 wr => ∃ (j : Nat), s12 = .int .i64 j ∧ j ≤ l.length ∧ l.length - j ≤ g ∧ Hid (Picked w wr s7 (knownL (l.take j) vol seen) ∧ Kept w wr bs #[.int .i64 seen.v0, .int .i64 seen.v1, .int .i64 seen.v2, .int .i64 seen.v3, .int .i64 seen.v4, .int .i64 seen.v5, .int .i64 seen.v6, .int .i64 seen.v7] 26))
  case atStart => exact ⟨0, rfl, by omega, by omega, HP.out, HB.out⟩
  case round => as_aux_lemma =>
    clear HP HB
    obtain ⟨j, rfl, hj, hg, HK⟩ := hrel
    by_cases hlt : j < l.length
    · obtain ⟨b, o, cs, ha, hp, ⟨vn, vl, hcs, hst⟩, hload0⟩ := row_at H.out j hlt
      subst ha hcs
      have htk := take_next l j hlt
      have hln := known_len l vol seen j hlt
      obtain ⟨an, cn, rfl, _⟩ := slice_form hst.nodes
      obtain ⟨al, cl, rfl, _⟩ := slice_form hst.links
      have hload := rangeAt_below hload0 HK.out.1.below hp
      have hone := event_cells l[j] (.slice an l[j].delta.nodes.length cn) (.slice al l[j].delta.links.length cl) ⟨_, _, _, rfl⟩ ⟨_, _, _, rfl⟩
      generalize l[j] = ev at *
      have HS : Hid (StateR (· < w.heap.size) w (.slice an ev.delta.nodes.length cn) (.slice al ev.delta.links.length cl) ev.delta) := hst
      have HT : Hid (l.take (j + 1) = l.take j ++ [ev]) := htk
      have HO : Hid _ := hone
      have HL : Hid ((knownL (l.take j) vol seen).length + 1 ≤ l.length) := hln
      clear hload0 hst htk hone hln hp
      have q0 := cell_at HK.out.2.box 0
      have q1 := cell_at HK.out.2.box 1
      have q2 := cell_at HK.out.2.box 2
      have q3 := cell_at HK.out.2.box 3
      have q4 := cell_at HK.out.2.box 4
      have q5 := cell_at HK.out.2.box 5
      have q6 := cell_at HK.out.2.box 6
      have q7 := cell_at HK.out.2.box 7
      simp only [List.getElem?_toArray, List.getElem?_cons_zero, List.getElem?_cons_succ] at q0 q1 q2 q3 q4 q5 q6 q7
      have hbl : bs < wr.heap.size := heap_lt HK.out.2.box
      by_cases hv : ev.vol = vol
      · have hvb : (ev.vol == vol) = true := by simp [hv]
        go_wp2_with (first | (refine Elem.wpList_elem rfl rfl rfl 32 (.tmp 14) (.tmp 15) (.tmp 9) rfl rfl rfl rfl b (o + j * 21) rfl _ hload _ Tryz.underlying32 rfl _ Tryz.zeroValue32 rfl (by kernel_rfl) rfl rfl rfl ?_) | fail)
        have HW : Hid _ := HK.out.2.add (ev.row (.slice an ev.delta.nodes.length cn) (.slice al ev.delta.links.length cl)) 32
        have HQ : Hid _ := HK.out.1.on (below_alloc wr (.cells (ev.row (.slice an ev.delta.nodes.length cn) (.slice al ev.delta.links.length cl)) 32))
        have HZ : Hid _ := HK.out.2.on (below_alloc wr (.cells (ev.row (.slice an ev.delta.nodes.length cn) (.slice al ev.delta.links.length cl)) 32))
        generalize wr.alloc (.cells (ev.row (.slice an ev.delta.nodes.length cn) (.slice al ev.delta.links.length cl)) 32) = w1 at HW HQ HZ ⊢
        generalize wr.heap.size = bx at HW ⊢
        refine (rhas_any seen ev.at_ w1).mono ?_
        rintro e w2 ⟨rfl, hb2⟩
        have HW2 : Hid _ := HW.out.on hb2
        have HQ2 : Hid _ := HQ.out.on hb2
        have HZ2 : Hid _ := HZ.out.on hb2
        clear HW HQ HZ hb2 q0 q1 q2 q3 q4 q5 q6 q7 hbl HK hload
        cases hh : seen.has ev.at_ with
        | false =>
          have HF : Hid (knownL (l.take (j + 1)) vol seen = knownL (l.take j) vol seen) := by rw [HT.out]; exact known_skip (by simp [knownB, hh])
          clear hh
          go_wp2_with fail
          go_roundg (l.length - (j + 1))
          case measure => omega
          case rel => exact ⟨j + 1, by go_num, by omega, by omega, by rw [HF.out]; exact HQ2.out, HZ2.out⟩
        | true =>
          have HF : Hid (knownL (l.take (j + 1)) vol seen = knownL (l.take j) vol seen ++ [ev]) := by rw [HT.out]; exact known_take (by simp [knownB, hh, hv])
          clear hh hvb hv
          have hload := rangeAt_box HW2.out.box
          obtain ⟨hbel, K, hK1, hown, hK3⟩ := HQ2.out
          have hkl : K.length + 1 ≤ l.length := by
            have h1 := HL.out
            rw [← hK1, List.length_map] at h1
            exact h1
          have hsz := hbel.size
          have HK1 : Hid _ := hK1
          have HOW : Hid _ := hown
          have HK3 : Hid _ := hK3
          have HBE : Hid _ := hbel
          clear hK1 hown hK3 hbel
          go_wp2_with (first | (refine Elem.wpList_append_elem rfl rfl rfl 32 22 (.tmp 9) (.tmp 26) (.tmp 27) (.tmp 28) rfl rfl rfl bx 0 rfl _ hload _ Tryz.underlying32 rfl Tryz.underlying22 _ 200 evInfo rfl (Nat.succ_pos _) (show 21 ≤ 16777216 by decide) HO.out w.heap.size _ K.length _ HOW.out (by unfold maxLen; omega) (by omega) hsz rfl rfl rfl ?_; intro v' w3 hown' hgrow) | fail)
          have HP3 : Hid (Picked w w3 v' (knownL (l.take (j + 1)) vol seen)) := by
            rw [HF.out]
            exact Picked.add HBE.out HS.out HK1.out HOW.out HK3.out hown' hgrow
          have HZ3 : Hid _ := HZ2.out.grow HOW.out hgrow (owns_ne HOW.out HZ2.out.box (by decide))
          clear hown' hload hgrow
          go_roundg (l.length - (j + 1))
          case measure => omega
          case rel => exact ⟨j + 1, by go_num, by omega, by omega, HP3.out, HZ3.out⟩
      · have hvb : (ev.vol == vol) = false := by simp [hv]
        have HF : Hid (knownL (l.take (j + 1)) vol seen = knownL (l.take j) vol seen) := by rw [HT.out]; exact known_skip (by simp [knownB, hv])
        clear hv
        go_wp2_with (first | (refine Elem.wpList_elem rfl rfl rfl 32 (.tmp 14) (.tmp 15) (.tmp 9) rfl rfl rfl rfl b (o + j * 21) rfl _ hload _ Tryz.underlying32 rfl _ Tryz.zeroValue32 rfl (by kernel_rfl) rfl rfl rfl ?_) | fail)
        have HQ : Hid _ := HK.out.1.on (below_alloc wr (.cells (ev.row (.slice an ev.delta.nodes.length cn) (.slice al ev.delta.links.length cl)) 32))
        have HZ : Hid _ := HK.out.2.on (below_alloc wr (.cells (ev.row (.slice an ev.delta.nodes.length cn) (.slice al ev.delta.links.length cl)) 32))
        go_roundg (l.length - (j + 1))
        case measure => omega
        case rel => exact ⟨j + 1, by go_num, by omega, by omega, by rw [HF.out]; exact HQ.out, HZ.out⟩
    · have hjl : l.take j = l := List.take_of_length_le (by omega)
      rw [hjl] at HK
      go_wp2
      go_ret
      exact ⟨_, rfl, HK.out.1.events, HK.out.1.below⟩
end Go.Proofs.YtehkhlmpkhnbmaaGreat.Mod
