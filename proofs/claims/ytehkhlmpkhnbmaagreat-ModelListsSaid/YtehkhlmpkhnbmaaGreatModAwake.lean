/- What the functions of layer 22 compute (9): the empty volume, and the example. -/
import Derived.Test.YtehkhlmpkhnbmaaGreatModSame
import Derived.Test.YtehkhlmpkhnbmaaGreatModLast
import Derived.WalkLawsBesides
namespace Go.Proofs.YtehkhlmpkhnbmaaGreat.Mod
set_option linter.unusedVariables false
set_option linter.unusedSimpArgs false
set_option maxRecDepth 100000
open Go.RowKit Go.Proofs.YtehkhlmpkhnbmaaGreat.Mem

/-- a new variable of many cells, and what is stored in it -/
theorem wpList_var {P : Program} {ops : Array Oper} {rest : List Oper} {o2 o3 : Oper} {a : Act} {w : World} {Q : Exit → Act → World → Prop} (g2 : o2.guard = none) (g3 : o3.guard = none)
    (ty : TypeId) (y1 y2 : Operand) (h2 : o2.op = .alloc ty) (h3 : o3.op = .store ty y2 y1) (d3 : o3.dst = none) (cs : Array Value)
    (z : Array Value) (hz : ∀ w, (zeroValue ty).run P w = .ok (.agg z) w) (hzs : z.size = cs.size) (hi : (P.info? ty).map (·.size) = some cs.size) (hone : cs.toList.all (·.oneCell') = true)
    (e1 : (a.put o2.dst (.pointer (some ⟨w.heap.size, 0, none⟩))).eval y1 = .agg cs)
    (e2 : (a.put o2.dst (.pointer (some ⟨w.heap.size, 0, none⟩))).eval y2 = .pointer (some ⟨w.heap.size, 0, none⟩))
    (h : wpList P ops Q rest (a.put o2.dst (.pointer (some ⟨w.heap.size, 0, none⟩))) (w.alloc (.cells cs ty))) :
    wpList P ops Q (o2 :: o3 :: rest) a w := by
  refine Elem.wpList_alloc_row g2 ty h2 z hz ?_
  refine wpList_store_row g3 ty y2 y1 h3 w.heap.size cs e2 e1 ty z (heap_alloc_last _ _) hi hzs (by have := all_oneCell_toArray (List.all_eq_true.1 hone); simpa using this) ?_
  rw [World.setRow_alloc_new, d3]
  exact h
def big63 : Int := 9223372036854775808
theorem of_zero (w : World) : Calls Tryz.prog 57 #[.float .f64 0] w fun e w' => e = .returned (.tuple #[.int .u64 9223372036854775808, .int .i64 0]) ∧ w = w' := by
  go_enter Tryz.func57, Tryz.ntmps57
  go_wp2
  go_ret2
  exact ⟨rfl, rfl⟩
/-- the root alone -/
def rootN : Inode := ⟨⟨0, 0⟩, 2, ⟨#[]⟩, ⟨0, 0⟩, 493, 9223372036854775808, ⟨0, 0⟩, 0, [], []⟩
def emptyS : State := ⟨⟨0, 0, 0, 0, 0, 0, 0, 0⟩, [rootN], []⟩
/-- a state, made: it lies in new memory -/
def GivesState (w : World) (s : State) (e : Ending) (w' : World) : Prop := ∃ vn vl, e = .returned (.agg (s.row vn vl)) ∧ StateR (fun k => w.heap.size ≤ k ∧ k < w'.heap.size) w' vn vl s ∧ Below w.heap.size w w'
section
variable {p : Nat → Prop} {w w' : World}
theorem SliceOf.keep {α : Type} {sz : Nat} {R R' : World → List Value → α → Prop} {v : Value} {l : List α} (h : SliceOf sz R p w v l) (hb : ∀ k, p k → w'.heap[k]? = w.heap[k]?) (hR : ∀ cs a, R w cs a → R' w' cs a) : SliceOf sz R' p w' v l := by
  rcases h with h | ⟨b, o, c, e, hp, hm, hc⟩
  · exact .inl h
  · refine .inr ⟨b, o, c, e, hp, hm, fun j hj => ?_⟩
    obtain ⟨cs, h1, h2, h3⟩ := hc j hj
    exact ⟨cs, h1, fun q hq => (World.cell?_of_block (w := w) (hb b hp)).trans (h2 q hq), hR _ _ h3⟩
theorem StateR.keep {vn vl : Value} {s : State} (h : StateR p w vn vl s) (hb : ∀ k, p k → w'.heap[k]? = w.heap[k]?) : StateR p w' vn vl s :=
  ⟨SliceOf.keep h.nodes hb (fun _ _ ⟨vp, vx, h1, h2, h3, h4⟩ => ⟨vp, vx, h1, h2, SliceOf.keep h3 hb (fun _ _ h => h), SliceOf.keep h4 hb (fun _ _ h => h)⟩), SliceOf.keep h.links hb (fun _ _ h => h)⟩
end
theorem root_state {p : Nat → Prop} {w : World} {b : Nat} (hp : p b) (h : w.heap[b]? = some (.cells (rootN.row (.slice none 0 0) (.slice none 0 0)) 60 (0, 0))) : StateR p w (.slice (some ⟨b, 0, none⟩) 1 1) (.slice none 0 0) emptyS := by
  refine ⟨.inr ⟨b, 0, 1, rfl, hp, by decide, fun j hj => ?_⟩, .inl ⟨rfl, _, _, rfl⟩⟩
  obtain rfl : j = 0 := by have : j < 1 := hj; omega
  refine ⟨rootN.list (.slice none 0 0) (.slice none 0 0), rfl, fun q hq => ?_, .slice none 0 0, .slice none 0 0, rfl, by show (⟨#[]⟩ : ByteArray).size ≤ _; decide, .inl ⟨rfl, _, _, rfl⟩, .inl ⟨rfl, _, _, rfl⟩⟩
  rw [cell_at h]
  simp
set_option maxHeartbeats 4000000 in
theorem empty_any (w : World) : Calls Tryz.prog 28 #[] w (GivesState w emptyS) := by
  go_enter Tryz.func28, Tryz.ntmps28
  go_wp2_with fail
  refine (of_zero _).mono ?_
  rintro e w1 ⟨rfl, rfl⟩
  go_wp2_with fail
  obtain ⟨w2, hw2⟩ : ∃ w2, w2 = (w.alloc (.cells (emptyS.row (.slice (some ⟨w.heap.size + 1, 0, none⟩) 1 1) (.slice none 0 0)) 30)).alloc (.cells (rootN.row (.slice none 0 0) (.slice none 0 0)) 60) := ⟨_, rfl⟩
  have hb : Below w.heap.size w w2 := by rw [hw2]; exact ((Below.refl _ _).alloc (Nat.le_refl _) _).alloc (by simp) _
  have h1 : w2.heap[w.heap.size]? = some (.cells (emptyS.row (.slice (some ⟨w.heap.size + 1, 0, none⟩) 1 1) (.slice none 0 0)) 30 (0, 0)) := by
    rw [hw2, heap_alloc_other _ (by simp)]; exact heap_alloc_last _ _
  have h2 : w2.heap[w.heap.size + 1]? = some (.cells (rootN.row (.slice none 0 0) (.slice none 0 0)) 60 (0, 0)) := by
    have := heap_alloc_last (w.alloc (.cells (emptyS.row (.slice (some ⟨w.heap.size + 1, 0, none⟩) 1 1) (.slice none 0 0)) 30)) (.cells (rootN.row (.slice none 0 0) (.slice none 0 0)) 60)
    rw [hw2]
    simpa using this
  refine bodyPost_ret (w := (w.alloc (.cells (emptyS.row (.slice (some ⟨w.heap.size + 1, 0, none⟩) 1 1) (.slice none 0 0)) 30)).alloc (.cells (rootN.row (.slice none 0 0) (.slice none 0 0)) 60)) (v := .agg (emptyS.row (.slice (some ⟨w.heap.size + 1, 0, none⟩) 1 1) (.slice none 0 0))) ?_ rfl ?_
  · rw [← hw2]
    exact results_cell_row Tryz.results28 _ w2 w.heap.size 30 (emptyS.row (.slice (some ⟨w.heap.size + 1, 0, none⟩) 1 1) (.slice none 0 0)) (0, 0) _ rfl h1 Tryz.underlying30 rfl (by kernel_rfl)
  · rw [← hw2]
    exact ⟨_, _, rfl, root_state ⟨by omega, heap_lt h2⟩ h2, hb⟩
theorem equalL_nil (a a' : Option Addr) (c c' : Nat) (w : World) : Calls Tryz.prog 52 #[.slice a 0 c, .slice a' 0 c'] w fun e w' => e = .returned (.bool true) ∧ w = w' := by
  go_enter Tryz.func52, Tryz.ntmps52
  go_wp2
  refine wp_loop_rounds 1 ?_
  rw [rounds_succ]
  go_wp2
  go_ret
  exact ⟨rfl, rfl⟩
theorem equalP_nil (a a' : Option Addr) (c c' : Nat) (w : World) : Calls Tryz.prog 55 #[.slice a 0 c, .slice a' 0 c'] w fun e w' => e = .returned (.bool true) ∧ w = w' := by
  go_enter Tryz.func55, Tryz.ntmps55
  go_wp2
  refine wp_loop_rounds 1 ?_
  rw [rounds_succ]
  go_wp2
  go_ret
  exact ⟨rfl, rfl⟩
theorem equalX_nil (a a' : Option Addr) (c c' : Nat) (w : World) : Calls Tryz.prog 56 #[.slice a 0 c, .slice a' 0 c'] w fun e w' => e = .returned (.bool true) ∧ w = w' := by
  go_enter Tryz.func56, Tryz.ntmps56
  go_wp2
  refine wp_loop_rounds 1 ?_
  rw [rounds_succ]
  go_wp2
  go_ret
  exact ⟨rfl, rfl⟩
set_option maxHeartbeats 8000000 in
theorem same1_any (n : Inode) (a1 a2 a3 a4 : Option Addr) (c1 c2 c3 c4 : Nat) (w : World) :
    Calls Tryz.prog 54 #[.agg (n.row (.slice a1 0 c1) (.slice a2 0 c2)), .agg (n.row (.slice a3 0 c3) (.slice a4 0 c4))] w fun e w' => e = .returned (.bool true) ∧ Below w.heap.size w w' := by
  have hb : Below w.heap.size w ((w.alloc (.cells (n.row (.slice a1 0 c1) (.slice a2 0 c2)) 60)).alloc (.cells (n.row (.slice a3 0 c3) (.slice a4 0 c4)) 60)) := ((Below.refl _ _).alloc (Nat.le_refl _) _).alloc (by simp) _
  have HB : Hid _ := hb
  clear hb
  go_enter Tryz.func54, Tryz.ntmps54
  go_wp2_with fail
  refine (equalP_nil _ _ _ _ _).mono ?_
  rintro e w1 ⟨rfl, rfl⟩
  go_wp2_with fail
  refine (equalX_nil _ _ _ _ _).mono ?_
  rintro e w1 ⟨rfl, rfl⟩
  go_wp2_with fail
  go_ret
  exact ⟨rfl, HB.out⟩
set_option maxHeartbeats 8000000 in
theorem equalF_any (v v' : Value) (l : List Inode) (hl : ∀ n ∈ l, n.pieces = [] ∧ n.xattrs = []) (w : World) (h1 : Nodes (· < w.heap.size) w v l) (h2 : Nodes (· < w.heap.size) w v' l) :
    Calls Tryz.prog 53 #[v, v', .func (.func 54) #[] #[]] w fun e w' => e = .returned (.bool true) ∧ Below w.heap.size w w' := by
  obtain ⟨a, c, rfl, _⟩ := slice_form h1
  obtain ⟨a', c', rfl, _⟩ := slice_form h2
  have H : Hid _ := And.intro h1 h2
  have HL : Hid _ := hl
  clear h1 h2 hl
  go_enter Tryz.func53, Tryz.ntmps53
  go_wp2
  go_loopg [17] l.length (fun g s17 wr => ∃ (q : Nat), s17 = .int .i64 q ∧ q ≤ l.length ∧ l.length - q ≤ g ∧ Hid (Below w.heap.size w wr))
  case atStart => exact ⟨0, rfl, by omega, by omega, Below.refl _ _⟩
  case round => as_aux_lemma =>
    obtain ⟨q, rfl, hq, hg, HT⟩ := hrel
    by_cases hlt : q < l.length
    · obtain ⟨b1, o1, cs, ha, hp1, ⟨vp, vx, hcs, hft, hps, hxs⟩, hl1⟩ := row_at H.out.1 q hlt
      subst ha hcs
      obtain ⟨b2, o2, cs, ha, hp2, ⟨vp', vx', hcs, hft', hps', hxs'⟩, hl2⟩ := row_at H.out.2 q hlt
      subst ha hcs
      obtain ⟨e1, e2⟩ := HL.out _ (List.getElem_mem hlt)
      generalize l[q] = nd at *
      obtain ⟨a1, c1, rfl, _⟩ := slice_form hps
      obtain ⟨a2, c2, rfl, _⟩ := slice_form hxs
      obtain ⟨a3, c3, rfl, _⟩ := slice_form hps'
      obtain ⟨a4, c4, rfl, _⟩ := slice_form hxs'
      rw [e1, e2] at hl1 hl2
      simp only [List.length_nil] at hl1 hl2
      have hla := rangeAt_below hl1 HT.out hp1
      have hlb := rangeAt_below hl2 (HT.out.trans ((below_alloc wr (.cells (nd.row (.slice a1 0 c1) (.slice a2 0 c2)) 60)).mono HT.out.size)) hp2
      clear hl1 hl2 hp1 hp2 hps hxs hps' hxs' hft hft' e1 e2
      have hq0 : (0 : Int) ≤ (q : Int) := by omega
      have hq1 : (q : Int) < (l.length : Int) := by omega
      go_wp2_with (first
        | (refine wpList_load_mid rfl 60 (.tmp 20) rfl b1 (o1 + q * 13) rfl _ _ hla Tryz.underlying60 rfl (by kernel_rfl) ?_)
        | (refine Elem.wpList_elem rfl rfl rfl 60 (.tmp 24) (.tmp 25) (.tmp 9) rfl rfl rfl rfl b2 (o2 + q * 13) rfl _ hlb _ Tryz.underlying60 rfl _ Tryz.zeroValue60 rfl (by kernel_rfl) rfl rfl rfl ?_))
      refine (same1_any nd a1 a2 a3 a4 c1 c2 c3 c4 _).mono ?_
      rintro e w2 ⟨rfl, hb2⟩
      have HB2 : Hid (Below w.heap.size w w2) := ((HT.out.trans ((below_alloc _ _).mono HT.out.size)).trans ((below_alloc _ _).mono (by have := HT.out.size; simp; omega))).trans (hb2.mono (by have := HT.out.size; simp; omega))
      clear hb2 hla hlb
      go_wp2_with fail
      go_roundg (l.length - (q + 1))
      case measure => omega
      case rel => exact ⟨q + 1, by go_num, by omega, by omega, HB2⟩
    · go_wp2
      go_ret
      exact ⟨rfl, HT.out⟩
set_option maxHeartbeats 8000000 in
theorem sameS_any (vn vl vn' vl' : Value) (w : World) (h1 : StateR (· < w.heap.size) w vn vl emptyS) (h2 : StateR (· < w.heap.size) w vn' vl' emptyS) :
    Calls Tryz.prog 27 #[.agg (emptyS.row vn vl), .agg (emptyS.row vn' vl')] w fun e w' => e = .returned (.bool true) ∧ Below w.heap.size w w' := by
  obtain ⟨al, cl, rfl, _⟩ := slice_form h1.links
  obtain ⟨al', cl', rfl, _⟩ := slice_form h2.links
  have hb : Below w.heap.size w ((w.alloc (.cells (emptyS.row vn (.slice al 0 cl)) 30)).alloc (.cells (emptyS.row vn' (.slice al' 0 cl')) 30)) := ((Below.refl _ _).alloc (Nat.le_refl _) _).alloc (by simp) _
  have HB : Hid _ := hb
  have H1 : Hid _ := h1.on hb
  have H2 : Hid _ := h2.on hb
  clear h1 h2 hb
  have hev := run_eql_vec
  have hvv := Vec.eq_refl emptyS.seen
  go_enter Tryz.func27, Tryz.ntmps27
  go_wp2_with fail
  refine (equalL_nil _ _ _ _ _).mono ?_
  rintro e w1 ⟨rfl, rfl⟩
  go_wp2_with fail
  refine (equalF_any vn vn' emptyS.nodes (fun n hn => by simp only [emptyS, List.mem_singleton] at hn; subst hn; exact ⟨rfl, rfl⟩) _ H1.out.nodes H2.out.nodes).mono ?_
  rintro e w2 ⟨rfl, hb2⟩
  have HB2 : Hid (Below w.heap.size w w2) := HB.out.trans (hb2.mono HB.out.size)
  clear hb2 HB H1 H2 hev hvv
  go_wp2_with fail
  go_ret
  exact ⟨rfl, HB2.out⟩
set_option maxHeartbeats 8000000 in
theorem fold_nil (w : World) : Calls Tryz.prog 9 #[.slice none 0 0] w (GivesState w emptyS) := by
  go_enter Tryz.func9, Tryz.ntmps9
  go_wp2_with fail
  have HK : Hid _ := Kept.made w #[.int .i64 0, .int .i64 0, .int .i64 0, .int .i64 0, .int .i64 0, .int .i64 0, .int .i64 0, .int .i64 0, .slice none 0 0, .slice none 0 0] 30
  generalize w.alloc _ = w0 at HK ⊢
  generalize hbr : w.heap.size = br at HK ⊢
  have HX : Hid _ := hbr
  clear hbr
  refine (empty_any w0).mono ?_
  rintro e w1 ⟨vn, vl, rfl, hs, hb⟩
  obtain ⟨an, cn, rfl, _⟩ := slice_form hs.nodes
  obtain ⟨al, cl, rfl, _⟩ := slice_form hs.links
  have HK1 : Hid _ := (HK.out.on hb).on (below_alloc w1 (.cells (emptyS.row (.slice an emptyS.nodes.length cn) (.slice al emptyS.links.length cl)) 30))
  have HS : Hid _ := hs.keep (w' := w1.alloc (.cells (emptyS.row (.slice an emptyS.nodes.length cn) (.slice al emptyS.links.length cl)) 30)) (fun k hk => heap_alloc_other _ hk.2)
  have HM : Hid _ := heap_alloc_last w1 (.cells (emptyS.row (.slice an emptyS.nodes.length cn) (.slice al emptyS.links.length cl)) 30)
  have HZ : Hid (br < w0.heap.size ∧ w1.heap.size < (w1.alloc (.cells (emptyS.row (.slice an emptyS.nodes.length cn) (.slice al emptyS.links.length cl)) 30)).heap.size) := ⟨heap_lt HK.out.box, by simp⟩
  have HW0 : Hid (w.heap.size ≤ w0.heap.size) := HK.out.below.size
  clear hs hb HK
  go_wp2_with (first | (refine wpList_var rfl rfl 30 (.tmp 6) (.tmp 3) rfl rfl rfl (emptyS.row (.slice an emptyS.nodes.length cn) (.slice al emptyS.links.length cl)) _ Tryz.zeroValue30 rfl (by kernel_rfl) rfl rfl rfl ?_) | fail)
  generalize w1.alloc _ = w2 at HK1 HS HM HZ ⊢
  generalize hw1 : w1.heap.size = n1 at HS HM HZ ⊢
  clear hw1
  generalize n1 = bm at HS HM HZ ⊢
  have hbox := HK1.out.box
  have hload := rangeAt_box HM.out
  refine wp_loop_rounds 1 ?_
  rw [rounds_succ]
  go_wp2_with (first
    | (refine wpList_load_mid rfl 30 (.tmp 3) rfl bm 0 rfl _ _ hload Tryz.underlying30 rfl (by kernel_rfl) ?_)
    | (refine wpList_store_row rfl 30 (.tmp 2) (.tmp 18) rfl br (emptyS.row (.slice an emptyS.nodes.length cn) (.slice al emptyS.links.length cl)) rfl rfl 30 _ hbox (by kernel_rfl) rfl (all_oneCell_toArray (List.all_eq_true.1 rfl)) ?_))
  refine bodyPost_ret (results_cell_row Tryz.results9 _ _ br 30 (emptyS.row (.slice an emptyS.nodes.length cn) (.slice al emptyS.links.length cl)) (0, 0) _ rfl (setRow_heap _ _ _ _ _ _ hbox) Tryz.underlying30 rfl (by kernel_rfl)) rfl ?_
  refine ⟨_, _, rfl, ?_, below_setRow HK1.out.below (by rw [HX.out]; exact Nat.le_refl _) _⟩
  have h1 := HZ.out
  have h2 := HW0.out
  have h3 : StateR _ (w2.setRow br (emptyS.row (.slice an emptyS.nodes.length cn) (.slice al emptyS.links.length cl))) (.slice an emptyS.nodes.length cn) (.slice al emptyS.links.length cl) emptyS :=
    HS.out.keep (fun k hk => setRow_other _ _ _ _ (by have := hk.1; omega))
  exact h3.mono (fun k hk => ⟨by have := hk.1; omega, by have := hk.2; simp; omega⟩)
def noS : State := ⟨⟨0, 0, 0, 0, 0, 0, 0, 0⟩, [], []⟩
def evA : Event := ⟨⟨1, 0⟩, 0, ⟨0, 0, 0, 0, 0, 0, 0, 0⟩, noS⟩
def evB : Event := ⟨⟨2, 1⟩, 0, ⟨1, 0, 0, 0, 0, 0, 0, 0⟩, noS⟩
theorem last_ab : lastO [evA, evB] = some evB := rfl
theorem before_ab : evA.before evB = true := rfl
theorem before_ba : evB.before evA = false := rfl
theorem noS_state (p : Nat → Prop) (w : World) : StateR p w (.slice none 0 0) (.slice none 0 0) noS := ⟨.inl ⟨rfl, _, _, rfl⟩, .inl ⟨rfl, _, _, rfl⟩⟩
theorem events_ab {w : World} {b : Nat} (h : w.heap[b]? = some (.cells (evA.list (.slice none 0 0) (.slice none 0 0) ++ evB.list (.slice none 0 0) (.slice none 0 0)).toArray 32 (0, 0))) :
    Events (· < w.heap.size) w (.slice (some ⟨b, 0, none⟩) 2 2) [evA, evB] := by
  refine .inr ⟨b, 0, 2, rfl, heap_lt h, by decide, fun j hj => ?_⟩
  have hj2 : j < 2 := hj
  rcases (by omega : j = 0 ∨ j = 1) with rfl | rfl
  · refine ⟨evA.list (.slice none 0 0) (.slice none 0 0), rfl, fun q hq => ?_, _, _, rfl, noS_state _ _⟩
    rw [cell_at h]
    simp only [Nat.zero_mul, Nat.zero_add, List.getElem?_toArray]
    exact List.getElem?_append_left (show q < 21 from hq)
  · refine ⟨evB.list (.slice none 0 0) (.slice none 0 0), rfl, fun q hq => ?_, _, _, rfl, noS_state _ _⟩
    rw [cell_at h]
    simp only [Nat.one_mul, Nat.zero_add, List.getElem?_toArray]
    rw [List.getElem?_append_right (show 21 ≤ 21 + q by omega)]
    show _[21 + q - 21]? = _
    rw [show 21 + q - 21 = q by omega]
set_option maxHeartbeats 8000000 in
theorem awake_any (w : World) : Calls Tryz.prog 7 #[] w fun e w' => e = .returned (.bool true) ∧ Below w.heap.size w w' := by
  go_enter Tryz.func7, Tryz.ntmps7
  go_wp2_with (first
    | (refine wpList_var rfl rfl 32 (.tmp 6) (.tmp 1) rfl rfl rfl (evA.row (.slice none 0 0) (.slice none 0 0)) _ Tryz.zeroValue32 rfl (by kernel_rfl) rfl rfl rfl ?_)
    | (refine wpList_var rfl rfl 32 (.tmp 9) (.tmp 2) rfl rfl rfl (evB.row (.slice none 0 0) (.slice none 0 0)) _ Tryz.zeroValue32 rfl (by kernel_rfl) rfl rfl rfl ?_)
    | (refine Elem.halt_load 32 (.tmp 1) rfl ?_))
  refine ⟨?_⟩
  have HT : Hid _ := Two.made w (evA.row (.slice none 0 0) (.slice none 0 0)) (evB.row (.slice none 0 0) (.slice none 0 0)) 32
  generalize (w.alloc (.cells (evA.row (.slice none 0 0) (.slice none 0 0)) 32)).alloc (.cells (evB.row (.slice none 0 0) (.slice none 0 0)) 32) = w1 at HT ⊢
  rw [show (w.alloc (.cells (evA.row (.slice none 0 0) (.slice none 0 0)) 32)).heap.size = w.heap.size + 1 by simp]
  generalize w.heap.size + 1 = bb at HT ⊢
  generalize hba : w.heap.size = ba at HT ⊢
  have HX : Hid _ := hba
  clear hba
  refine wpList_load_mid rfl 32 (.tmp 1) rfl ba 0 rfl _ _ (rangeAt_box HT.out.one) Tryz.underlying32 rfl (by kernel_rfl) ?_
  refine wpList_load_mid rfl 32 (.tmp 2) rfl bb 0 rfl _ _ (rangeAt_box HT.out.two) Tryz.underlying32 rfl (by kernel_rfl) ?_
  have hbs : Tryz.prog.builtSlice 32 2 [(0, .agg (evA.list (.slice none 0 0) (.slice none 0 0)).toArray), (1, .agg (evB.list (.slice none 0 0) (.slice none 0 0)).toArray)] = some (evA.list (.slice none 0 0) (.slice none 0 0) ++ evB.list (.slice none 0 0) (.slice none 0 0)).toArray := by
    have hi : (Tryz.prog.info? 32).map (fun i => (i.zero, i.size)) = some (some (.agg (noEvent.row (.slice none 0 0) (.slice none 0 0))), 21) := by kernel_rfl
    have := Elem.built_whole hi (by decide) [(evA.list (.slice none 0 0) (.slice none 0 0)).toArray, (evB.list (.slice none 0 0) (.slice none 0 0)).toArray] (by decide) (by intro c hc; simp only [List.mem_cons, List.not_mem_nil, or_false] at hc; rcases hc with rfl | rfl <;> rfl) (by decide) _ rfl
    simpa using this
  refine Great.wpList_buildSliceTo rfl 22 32 2 _ rfl w1.heap.size rfl (some 13) rfl Tryz.underlying22 (evA.list (.slice none 0 0) (.slice none 0 0) ++ evB.list (.slice none 0 0) (.slice none 0 0)).toArray (by simp only [List.map_toArray, List.map_cons, List.map_nil]; exact hbs) ?_
  clear hbs
  have HT2 : Hid _ := HT.out.on (below_alloc w1 (.cells (evA.list (.slice none 0 0) (.slice none 0 0) ++ evB.list (.slice none 0 0) (.slice none 0 0)).toArray 32))
  have HE : Hid _ := events_ab (heap_alloc_last w1 (.cells (evA.list (.slice none 0 0) (.slice none 0 0) ++ evB.list (.slice none 0 0) (.slice none 0 0)).toArray 32))
  clear HT
  generalize w1.alloc _ = w2 at HT2 HE ⊢
  generalize w1.heap.size = be at HE ⊢
  go_wp2_with fail
  refine (last_any _ _ w2 HE.out).mono ?_
  rintro e w3 ⟨vn, vl, rfl, hs, hb⟩
  have e1 : lastE [evA, evB] = evB := rfl
  have e2 : (lastO [evA, evB]).isSome = true := rfl
  rw [e1] at hs ⊢
  rw [e2]
  obtain ⟨an, cn, rfl, _⟩ := slice_form hs.nodes
  obtain ⟨al, cl, rfl, _⟩ := slice_form hs.links
  have HT3 : Hid _ := (HT2.out.on hb).on (below_alloc w3 (.cells (evB.row (.slice an evB.delta.nodes.length cn) (.slice al evB.delta.links.length cl)) 32))
  have HM : Hid _ := heap_alloc_last w3 (.cells (evB.row (.slice an evB.delta.nodes.length cn) (.slice al evB.delta.links.length cl)) 32)
  clear hs hb e1 e2 HT2 HE
  go_wp2_with (first | (refine wpList_var rfl rfl 32 (.tmp 15) (.tmp 3) rfl rfl rfl (evB.row (.slice an evB.delta.nodes.length cn) (.slice al evB.delta.links.length cl)) _ Tryz.zeroValue32 rfl (by kernel_rfl) rfl rfl rfl ?_) | fail)
  generalize w3.alloc _ = w4 at HT3 HM ⊢
  generalize w3.heap.size = bm at HM ⊢
  refine (fold_nil w4).mono ?_
  rintro e w5 ⟨vn5, vl5, rfl, hs5, hb5⟩
  go_wp2_with fail
  refine (empty_any w5).mono ?_
  rintro e w6 ⟨vn6, vl6, rfl, hs6, hb6⟩
  have HS5 : Hid _ := (hs5.mono (p' := (· < w5.heap.size)) (fun k hk => hk.2)).on hb6
  have HS6 : Hid _ := hs6.mono (p' := (· < w6.heap.size)) (fun k hk => hk.2)
  have HT6 : Hid _ := (HT3.out.on hb5).on hb6
  have HM6 : Hid _ := hb6.block bm (Nat.lt_of_lt_of_le (heap_lt HM.out) hb5.size) |>.trans ((hb5.block bm (heap_lt HM.out)).trans HM.out)
  clear hs5 hs6 hb5 hb6 HT3 HM
  go_wp2_with fail
  refine (sameS_any _ _ _ _ w6 HS5.out HS6.out).mono ?_
  rintro e w7 ⟨rfl, hb7⟩
  have HT7 : Hid _ := HT6.out.on hb7
  have HM7 : Hid _ := (hb7.block bm (heap_lt HM6.out)).trans HM6.out
  clear hb7 HT6 HM6 HS5 HS6
  have r1 := rangeAt_box HT7.out.one
  have r2 := rangeAt_box HT7.out.two
  go_wp2_with (first
    | (refine wpList_load_want rfl 32 (.tmp 1) rfl _ 0 rfl _ _ r1 Tryz.underlying32 rfl (by kernel_rfl) ?_)
    | (refine wpList_load_want rfl 32 (.tmp 2) rfl _ 0 rfl _ _ r2 Tryz.underlying32 rfl (by kernel_rfl) ?_))
  refine (before_any evA evB _ _ _ _ w7).mono ?_
  rintro e w8 ⟨rfl, hb8⟩
  have HT8 : Hid _ := HT7.out.on hb8
  have HM8 : Hid _ := (hb8.block bm (heap_lt HM7.out)).trans HM7.out
  clear hb8 HT7 HM7 r1 r2
  have r1 := rangeAt_box HT8.out.one
  have r2 := rangeAt_box HT8.out.two
  rw [before_ab]
  go_wp2_with (first
    | (refine wpList_load_want rfl 32 (.tmp 1) rfl _ 0 rfl _ _ r1 Tryz.underlying32 rfl (by kernel_rfl) ?_)
    | (refine wpList_load_want rfl 32 (.tmp 2) rfl _ 0 rfl _ _ r2 Tryz.underlying32 rfl (by kernel_rfl) ?_))
  refine (before_any evB evA _ _ _ _ w8).mono ?_
  rintro e w9 ⟨rfl, hb9⟩
  have HT9 : Hid _ := HT8.out.on hb9
  have HM9 : Hid _ := (hb9.block bm (heap_lt HM8.out)).trans HM8.out
  clear hb9 HT8 HM8 r1 r2
  rw [before_ba]
  have m0 := cell_at HM9.out 0
  have m1 := cell_at HM9.out 1
  have k0 := cell_at HT9.out.two 0
  have k1 := cell_at HT9.out.two 1
  simp only [List.getElem?_toArray, List.getElem?_cons_zero, List.getElem?_cons_succ] at m0 m1 k0 k1
  go_wp2_with fail
  go_ret
  exact ⟨rfl, HT9.out.below⟩
end Go.Proofs.YtehkhlmpkhnbmaaGreat.Mod
