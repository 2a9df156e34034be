/- What the functions of layer 22 compute (8): whether two are the same. -/
import Derived.Test.YtehkhlmpkhnbmaaGreatModWrites
namespace Go.Proofs.YtehkhlmpkhnbmaaGreat.Mod
set_option linter.unusedVariables false
set_option linter.unusedSimpArgs false
set_option maxRecDepth 100000
open Go.RowKit Go.Proofs.YtehkhlmpkhnbmaaGreat.Mem

theorem piece_cells {w : World} {b o : Nat} {a : Piece} (h : w.rangeAt b o a.list) : w.cell? ⟨b, o, none⟩ = some (.int .i64 a.index) ∧ w.cell? ⟨b, o + 1, none⟩ = some (.int .i64 a.at_.t) ∧ w.cell? ⟨b, o + 2, none⟩ = some (.int .i64 a.at_.who) ∧ w.cell? ⟨b, o + 3, none⟩ = some (.string a.data) :=
  ⟨h 0 _ rfl, h 1 _ rfl, h 2 _ rfl, h 3 _ rfl⟩
theorem xattr_cells {w : World} {b o : Nat} {a : Xattr} (h : w.rangeAt b o a.list) : w.cell? ⟨b, o, none⟩ = some (.string a.name) ∧ w.cell? ⟨b, o + 1, none⟩ = some (.int .i64 a.at_.t) ∧ w.cell? ⟨b, o + 2, none⟩ = some (.int .i64 a.at_.who) ∧ w.cell? ⟨b, o + 3, none⟩ = some (.string a.val) ∧ w.cell? ⟨b, o + 4, none⟩ = some (.bool a.gone) :=
  ⟨h 0 _ rfl, h 1 _ rfl, h 2 _ rfl, h 3 _ rfl, h 4 _ rfl⟩
theorem below_drewN (w : World) (n : Nat) : Below w.heap.size w (w.drewN n) := ⟨rfl, rfl, rfl, Nat.le_refl _, fun _ _ => rfl⟩
/-- two boxes, kept -/
structure Two (w w' : World) (b c : Nat) (x y : Array Value) (t : TypeId) : Prop where
  below : Below w.heap.size w w'
  one : w'.heap[b]? = some (.cells x t (0, 0))
  two : w'.heap[c]? = some (.cells y t (0, 0))
theorem Two.made (w : World) (x y : Array Value) (t : TypeId) : Two w ((w.alloc (.cells x t)).alloc (.cells y t)) w.heap.size (w.heap.size + 1) x y t := by
  refine ⟨((Below.refl _ _).alloc (Nat.le_refl _) _).alloc (by simp) _, ?_, ?_⟩
  · rw [heap_alloc_other _ (by simp)]; exact heap_alloc_last _ _
  · have := heap_alloc_last (w.alloc (.cells x t)) (.cells y t)
    simpa using this
theorem Two.on {w w1 w2 : World} {b c : Nat} {x y : Array Value} {t : TypeId} (h : Two w w1 b c x y t) (hb : Below w1.heap.size w1 w2) : Two w w2 b c x y t :=
  ⟨h.below.trans (hb.mono h.below.size), (hb.block _ (heap_lt h.one)).trans h.one, (hb.block _ (heap_lt h.two)).trans h.two⟩
set_option maxHeartbeats 8000000 in
theorem sameNode_any (n : Inode) (vp vx vp' vx' : Value) (w : World) (h1 : Pieces (· < w.heap.size) w vp n.pieces) (h2 : Xattrs (· < w.heap.size) w vx n.xattrs) (h3 : Pieces (· < w.heap.size) w vp' n.pieces) (h4 : Xattrs (· < w.heap.size) w vx' n.xattrs) :
    Calls Tryz.prog 29 #[.agg (n.row vp vx), .agg (n.row vp' vx')] w fun e w' => e = .returned (.bool true) ∧ Below w.heap.size w w' := by
  obtain ⟨ap, cp, rfl, hl1⟩ := slice_form h1
  obtain ⟨ax, cx, rfl, hl2⟩ := slice_form h2
  obtain ⟨ap', cp', rfl, _⟩ := slice_form h3
  obtain ⟨ax', cx', rfl, _⟩ := slice_form h4
  have H : Hid _ := And.intro h1 (And.intro h2 (And.intro h3 h4))
  clear h1 h2 h3 h4
  go_enter Tryz.func29, Tryz.ntmps29
  go_wp2
  have HT : Hid _ := Two.made w (n.row (.slice ap n.pieces.length cp) (.slice ax n.xattrs.length cx)) (n.row (.slice ap' n.pieces.length cp') (.slice ax' n.xattrs.length cx')) 60
  generalize (w.alloc (.cells (n.row (.slice ap n.pieces.length cp) (.slice ax n.xattrs.length cx)) 60)).alloc (.cells (n.row (.slice ap' n.pieces.length cp') (.slice ax' n.xattrs.length cx')) 60) = w1 at HT ⊢
  generalize w.heap.size + 1 = c at HT ⊢
  generalize hbb : w.heap.size = b at HT ⊢
  have HX : Hid _ := hbb
  clear hbb
  go_loopg [5, 61] n.pieces.length (fun g s5 s61 wr => ∃ (q : Nat), s61 = .int .i64 q ∧ q ≤ n.pieces.length ∧ n.pieces.length - q ≤ g ∧ Hid (Two w wr b c (n.row (.slice ap n.pieces.length cp) (.slice ax n.xattrs.length cx)) (n.row (.slice ap' n.pieces.length cp') (.slice ax' n.xattrs.length cx')) 60))
  case atStart => exact ⟨0, rfl, by omega, by omega, HT⟩
  case round => as_aux_lemma =>
    clear HT
    obtain ⟨q, rfl, hq, hg, HT⟩ := hrel
    by_cases hlt : q < n.pieces.length
    · obtain ⟨b1, o1, cs, ha, hp, ⟨hcs, hft⟩, hl1⟩ := row_at (H.out.1.below HT.out.below) q hlt
      subst ha hcs
      obtain ⟨b2, o2, cs, ha, hp', ⟨hcs, hft'⟩, hl2⟩ := row_at (H.out.2.2.1.below HT.out.below) q hlt
      subst ha hcs
      clear hft hft' hp hp'
      generalize n.pieces[q] = pc at *
      obtain ⟨k0, k1, k2, k3⟩ := piece_cells hl1
      obtain ⟨m0, m1, m2, m3⟩ := piece_cells hl2
      clear hl1 hl2
      have r1 := cell_at HT.out.one 11
      have r2 := cell_at HT.out.two 11
      simp only [List.getElem?_toArray, List.getElem?_cons_zero, List.getElem?_cons_succ] at r1 r2
      have hq0 : (0 : Int) ≤ (q : Int) := by omega
      have hq1 : (q : Int) < (n.pieces.length : Int) := by omega
      go_wp2_with fail
      go_quiet (fail)
      clear k0 k1 k2 k3 m0 m1 m2 m3 r1 r2
      have HT2 : Hid _ := HT.out.on (below_drewN wr nq)
      go_wp2
      go_roundg (n.pieces.length - (q + 1))
      case measure => omega
      case rel => exact ⟨q + 1, by go_num, by omega, by omega, HT2⟩
    · have r1 := cell_at HT.out.one 12
      simp only [List.getElem?_toArray, List.getElem?_cons_zero, List.getElem?_cons_succ] at r1
      go_wp2
      clear r1
      go_loopg [6, 79] n.xattrs.length (fun g s6 s79 wr => ∃ (q : Nat), s79 = .int .i64 q ∧ q ≤ n.xattrs.length ∧ n.xattrs.length - q ≤ g ∧ Hid (Two w wr b c (n.row (.slice ap n.pieces.length cp) (.slice ax n.xattrs.length cx)) (n.row (.slice ap' n.pieces.length cp') (.slice ax' n.xattrs.length cx')) 60))
      case atStart => exact ⟨0, rfl, by omega, by omega, HT⟩
      case round => as_aux_lemma =>
        clear HT
        obtain ⟨q2, rfl, hq2, hg2, HT⟩ := hrel
        by_cases hlt2 : q2 < n.xattrs.length
        · obtain ⟨b1, o1, cs, ha, hp, ⟨hcs, hft⟩, hl1⟩ := row_at (H.out.2.1.below HT.out.below) q2 hlt2
          subst ha hcs
          obtain ⟨b2, o2, cs, ha, hp', ⟨hcs, hft'⟩, hl2⟩ := row_at (H.out.2.2.2.below HT.out.below) q2 hlt2
          subst ha hcs
          clear hft hft' hp hp'
          generalize n.xattrs[q2] = pc at *
          obtain ⟨k0, k1, k2, k3, k4⟩ := xattr_cells hl1
          obtain ⟨m0, m1, m2, m3, m4⟩ := xattr_cells hl2
          clear hl1 hl2
          have r1 := cell_at HT.out.one 12
          have r2 := cell_at HT.out.two 12
          simp only [List.getElem?_toArray, List.getElem?_cons_zero, List.getElem?_cons_succ] at r1 r2
          have hq0 : (0 : Int) ≤ (q2 : Int) := by omega
          have hq1 : (q2 : Int) < (n.xattrs.length : Int) := by omega
          go_wp2_with fail
          go_quiet (fail)
          clear k0 k1 k2 k3 k4 m0 m1 m2 m3 m4 r1 r2
          have HT2 : Hid _ := HT.out.on (below_drewN wr nq)
          go_wp2
          go_roundg (n.xattrs.length - (q2 + 1))
          case measure => omega
          case rel => exact ⟨q2 + 1, by go_num, by omega, by omega, HT2⟩
        · go_wp2
          go_ret
          exact ⟨rfl, HT.out.below⟩

theorem eqItems_same (d : Nat) (w : World) (xs : Array Value) : ∀ (js : List Nat), (∀ j ∈ js, ∃ x : Int, xs[j]? = some (.int .i64 x)) → (Op.eqItems (d + 1) 3 1 xs xs js).run Tryz.prog w = .ok true w
  | [], _ => rfl
  | j :: js, h => by
    obtain ⟨x, hx⟩ := h j (by simp)
    simp only [Op.eqItems, Sem.run_bind, run_part_int w xs j _ hx, Result.andThen_ok, run_equalIn_int w d 3 .i64 .i64 x x Tryz.underlying3, beq_self_eq_true, Bool.not_true, Bool.false_eq_true, if_false]
    exact eqItems_same d w xs js (fun j hj => h j (by simp [hj]))
theorem run_equalIn_same (d : Nat) (w : World) (a0 a1 a2 a3 a4 a5 a6 a7 : Int) :
    (Op.equalIn (d + 2) 26 (.agg #[.int .i64 a0, .int .i64 a1, .int .i64 a2, .int .i64 a3, .int .i64 a4, .int .i64 a5, .int .i64 a6, .int .i64 a7])
      (.agg #[.int .i64 a0, .int .i64 a1, .int .i64 a2, .int .i64 a3, .int .i64 a4, .int .i64 a5, .int .i64 a6, .int .i64 a7])).run Tryz.prog w = .ok true w := by
  obtain ⟨i, hi⟩ := intInfo
  have hc : Tryz.prog.cellsOf 3 = 1 := by kernel_rfl
  rw [run_equalIn_array (d := d + 1) w _ _ Tryz.underlying26 hi, hc]
  have hr : List.range 8 = [0, 1, 2, 3, 4, 5, 6, 7] := by decide
  rw [hr]
  exact eqItems_same d w _ _ (by
    intro j hj
    simp only [List.mem_cons, List.not_mem_nil, or_false] at hj
    rcases hj with rfl | rfl | rfl | rfl | rfl | rfl | rfl | rfl <;> exact ⟨_, rfl⟩)
theorem run_neq_link (w : World) (a : Link) : (binOp .neq 62 (.agg a.row) (.agg a.row)).run Tryz.prog w = .ok (.bool false) w := by
  have h1 := run_equalIn_same 9997 w a.alive.v0 a.alive.v1 a.alive.v2 a.alive.v3 a.alive.v4 a.alive.v5 a.alive.v6 a.alive.v7
  have h2 := run_equalIn_same 9997 w a.dead.v0 a.dead.v1 a.dead.v2 a.dead.v3 a.dead.v4 a.dead.v5 a.dead.v6 a.dead.v7
  go_simp
theorem quietAt_load_mid {P : Program} {o : Oper} {a : Act} {C : World → Prop} {w : World} (ty : TypeId) (x : Operand) (ho : o.op = .load ty x) (b off : Nat) (hx : a.eval x = .pointer (some ⟨b, off, none⟩)) (cs : List Value) (d : TypeDesc) (hc : w.rangeAt b off cs)
    (hu : P.underlying ty = some d) (hd : d.isRow = true) (hi : (P.info? ty).map (·.size) = some cs.length) : o.quietAt P a C w (.agg cs.toArray) := by
  unfold Oper.quietAt execOp
  simp only [ho, hx, Instr.loadAt, Instr.sureAddr, Sem.run_bind, Sem.run_pure, Result.andThen_ok, run_loadVar_mid w b off ty cs d hc hu hd hi]
  exact ⟨rfl, rfl⟩

set_option maxHeartbeats 16000000 in
theorem same10_any (s : State) (vn vl vn' vl' : Value) (w : World) (h1 : StateR (· < w.heap.size) w vn vl s) (h2 : StateR (· < w.heap.size) w vn' vl' s) :
    Calls Tryz.prog 8 #[.agg (s.row vn vl), .agg (s.row vn' vl')] w fun e w' => e = .returned (.bool true) ∧ Below w.heap.size w w' := by
  obtain ⟨an, cn, rfl, _⟩ := slice_form h1.nodes
  obtain ⟨al, cl, rfl, _⟩ := slice_form h1.links
  obtain ⟨an', cn', rfl, _⟩ := slice_form h2.nodes
  obtain ⟨al', cl', rfl, _⟩ := slice_form h2.links
  have H : Hid _ := And.intro h1 h2
  clear h1 h2
  have hnv := run_neq_vec
  have hvv := Vec.eq_refl s.seen
  go_enter Tryz.func8, Tryz.ntmps8
  go_wp2
  clear hnv hvv
  have HT : Hid _ := Two.made w (s.row (.slice an s.nodes.length cn) (.slice al s.links.length cl)) (s.row (.slice an' s.nodes.length cn') (.slice al' s.links.length cl')) 30
  generalize (w.alloc (.cells (s.row (.slice an s.nodes.length cn) (.slice al s.links.length cl)) 30)).alloc (.cells (s.row (.slice an' s.nodes.length cn') (.slice al' s.links.length cl')) 30) = w1 at HT ⊢
  generalize w.heap.size + 1 = c at HT ⊢
  generalize hbb : w.heap.size = b at HT ⊢
  have HX : Hid _ := hbb
  clear hbb
  go_loopg [5, 33] s.nodes.length (fun g s5 s33 wr => ∃ (q : Nat), s33 = .int .i64 q ∧ q ≤ s.nodes.length ∧ s.nodes.length - q ≤ g ∧ Hid (Two w wr b c (s.row (.slice an s.nodes.length cn) (.slice al s.links.length cl)) (s.row (.slice an' s.nodes.length cn') (.slice al' s.links.length cl')) 30))
  case atStart => exact ⟨0, rfl, by omega, by omega, HT⟩
  case round => as_aux_lemma =>
    clear HT
    obtain ⟨q, rfl, hq, hg, HT⟩ := hrel
    by_cases hlt : q < s.nodes.length
    · obtain ⟨b1, o1, cs, ha, hp1, ⟨vp, vx, hcs, hft, hps, hxs⟩, hl1⟩ := row_at H.out.1.nodes q hlt
      subst ha hcs
      obtain ⟨b2, o2, cs, ha, hp2, ⟨vp', vx', hcs, hft', hps', hxs'⟩, hl2⟩ := row_at H.out.2.nodes q hlt
      subst ha hcs
      clear hft hft'
      generalize s.nodes[q] = nd at *
      have HP : Hid _ := And.intro hps (And.intro hxs (And.intro hps' hxs'))
      have HL : Hid _ := And.intro hl1 (And.intro hl2 (And.intro hp1 hp2))
      clear hps hxs hps' hxs' hl1 hl2 hp1 hp2
      have hq0 : (0 : Int) ≤ (q : Int) := by omega
      have hq1 : (q : Int) < (s.nodes.length : Int) := by omega
      go_wp2_with fail
      refine wp_region_class (fun w' => Two w w' b c (s.row (.slice (some ⟨b1, o1, none⟩) s.nodes.length cn) (.slice al s.links.length cl)) (s.row (.slice (some ⟨b2, o2, none⟩) s.nodes.length cn') (.slice al' s.links.length cl')) 30) (by kernel_rfl) (by kernel_rfl) (HT.out.on ((Below.refl _ _).drew)) ?_
      repeat
        first
          | (refine wpQuiet_want (by rfl) (fun K hK => ?_)
             apply Exists.intro
             refine ⟨fun w' hw' => ?_, hK _ ?_⟩
             (first
              | exact quietAt_load_mid 60 (.tmp 39) rfl b1 (o1 + q * 13) rfl _ _ (rangeAt_below HL.out.1 hw'.below HL.out.2.2.1) Tryz.underlying60 rfl (by kernel_rfl)
              | exact quietAt_load_mid 60 (.tmp 44) rfl b2 (o2 + q * 13) rfl _ _ (rangeAt_below HL.out.2.1 hw'.below HL.out.2.2.2) Tryz.underlying60 rfl (by kernel_rfl)
              | (have r1 := cell_at hw'.one 8
                 have r2 := cell_at hw'.two 8
                 simp only [List.getElem?_toArray, List.getElem?_cons_zero, List.getElem?_cons_succ] at r1 r2
                 unfold Oper.quietAt
                 first
                  | (go_simp; with_reducible exact rfl)
                  | (go_simp; refine (sameNode_any nd vp vx vp' vx' w' ((HP.out.1.below hw'.below).mono (fun k hk => Nat.lt_of_lt_of_le hk hw'.below.size)) ((HP.out.2.1.below hw'.below).mono (fun k hk => Nat.lt_of_lt_of_le hk hw'.below.size)) ((HP.out.2.2.1.below hw'.below).mono (fun k hk => Nat.lt_of_lt_of_le hk hw'.below.size)) ((HP.out.2.2.2.below hw'.below).mono (fun k hk => Nat.lt_of_lt_of_le hk hw'.below.size))).mono ?_; rintro e w2 ⟨rfl, t2⟩; exact ⟨rfl, hw'.on t2⟩)))
             clear hK K)
        simp only [Act.put, List.setIfInBounds_toArray, List.set_cons_zero, List.set_cons_succ]
      refine wpQuiet_nil ?_
      intro w' hw'
      have HW : Hid _ := hw'
      clear hw'
      go_wp2
      go_roundg (s.nodes.length - (q + 1))
      case measure => omega
      case rel => exact ⟨q + 1, by go_num, by omega, by omega, HW⟩
    · have r1 := cell_at HT.out.one 9
      simp only [List.getElem?_toArray, List.getElem?_cons_zero, List.getElem?_cons_succ] at r1
      go_wp2
      clear r1
      go_loopg [6, 52] s.links.length (fun g s6 s52 wr => ∃ (q : Nat), s52 = .int .i64 q ∧ q ≤ s.links.length ∧ s.links.length - q ≤ g ∧ Hid (Two w wr b c (s.row (.slice an s.nodes.length cn) (.slice al s.links.length cl)) (s.row (.slice an' s.nodes.length cn') (.slice al' s.links.length cl')) 30))
      case atStart => exact ⟨0, rfl, by omega, by omega, HT⟩
      case round => as_aux_lemma =>
        clear HT
        obtain ⟨q2, rfl, hq2, hg2, HT⟩ := hrel
        by_cases hlt2 : q2 < s.links.length
        · obtain ⟨b1, o1, cs, ha, hp1, ⟨hcs, hft⟩, hl1⟩ := row_at H.out.1.links q2 hlt2
          subst ha hcs
          obtain ⟨b2, o2, cs, ha, hp2, ⟨hcs, hft'⟩, hl2⟩ := row_at H.out.2.links q2 hlt2
          subst ha hcs
          clear hft hft'
          generalize s.links[q2] = lk at *
          have HL : Hid _ := And.intro hl1 (And.intro hl2 (And.intro hp1 hp2))
          clear hl1 hl2 hp1 hp2
          have hq0 : (0 : Int) ≤ (q2 : Int) := by omega
          have hq1 : (q2 : Int) < (s.links.length : Int) := by omega
          have hnl : ∀ w, (binOp .neq 62 (.agg lk.list.toArray) (.agg lk.list.toArray)).run Tryz.prog w = .ok (.bool false) w := fun w => run_neq_link w lk
          go_wp2_with fail
          refine wp_region_class (fun w' => Two w w' b c (s.row (.slice an s.nodes.length cn) (.slice (some ⟨b1, o1, none⟩) s.links.length cl)) (s.row (.slice an' s.nodes.length cn') (.slice (some ⟨b2, o2, none⟩) s.links.length cl')) 30) (by kernel_rfl) (by kernel_rfl) (HT.out.on ((Below.refl _ _).drew)) ?_
          repeat
            first
              | (refine wpQuiet_want (by rfl) (fun K hK => ?_)
                 apply Exists.intro
                 refine ⟨fun w' hw' => ?_, hK _ ?_⟩
                 (first
                  | exact quietAt_load_mid 62 (.tmp 58) rfl b1 (o1 + q2 * 25) rfl _ _ (rangeAt_below HL.out.1 hw'.below HL.out.2.2.1) Tryz.underlying62 rfl (by kernel_rfl)
                  | exact quietAt_load_mid 62 (.tmp 63) rfl b2 (o2 + q2 * 25) rfl _ _ (rangeAt_below HL.out.2.1 hw'.below HL.out.2.2.2) Tryz.underlying62 rfl (by kernel_rfl)
                  | (have r1 := cell_at hw'.one 9
                     have r2 := cell_at hw'.two 9
                     simp only [List.getElem?_toArray, List.getElem?_cons_zero, List.getElem?_cons_succ] at r1 r2
                     unfold Oper.quietAt
                     go_simp; with_reducible exact rfl))
                 clear hK K)
            simp only [Act.put, List.setIfInBounds_toArray, List.set_cons_zero, List.set_cons_succ]
          refine wpQuiet_nil ?_
          intro w' hw'
          have HW : Hid _ := hw'
          clear hw' hnl
          go_wp2
          go_roundg (s.links.length - (q2 + 1))
          case measure => omega
          case rel => exact ⟨q2 + 1, by go_num, by omega, by omega, HW⟩
        · go_wp2
          go_ret
          exact ⟨rfl, HT.out.below⟩
set_option maxHeartbeats 8000000 in
/-- two events -/
theorem same22_any (e : Event) (vn vl vn' vl' : Value) (w : World) (h1 : StateR (· < w.heap.size) w vn vl e.delta) (h2 : StateR (· < w.heap.size) w vn' vl' e.delta) :
    Calls Tryz.prog 23 #[.agg (e.row vn vl), .agg (e.row vn' vl')] w fun r w' => r = .returned (.bool true) ∧ Below w.heap.size w w' := by
  have hev := run_eql_vec
  have hvv := Vec.eq_refl e.knew
  have hb : Below w.heap.size w ((w.alloc (.cells (e.row vn vl) 32)).alloc (.cells (e.row vn' vl') 32)) := ((Below.refl _ _).alloc (Nat.le_refl _) _).alloc (by simp) _
  have HB : Hid _ := hb
  have H1 : Hid _ := h1.on hb
  have H2 : Hid _ := h2.on hb
  clear h1 h2 hb
  go_enter Tryz.func23, Tryz.ntmps23
  go_wp2_with fail
  refine (same10_any e.delta vn vl vn' vl' _ H1.out H2.out).mono ?_
  rintro r w2 ⟨rfl, hb2⟩
  have HB2 : Hid (Below w.heap.size w w2) := HB.out.trans (hb2.mono HB.out.size)
  clear hb2 hev hvv HB H1 H2
  go_wp2_with fail
  go_ret
  exact ⟨rfl, HB2.out⟩
set_option maxHeartbeats 8000000 in
/-- two lists of events -/
theorem sames_any (v v' : Value) (l : List Event) (w : World) (h1 : Events (· < w.heap.size) w v l) (h2 : Events (· < w.heap.size) w v' l) :
    Calls Tryz.prog 18 #[v, v'] w fun r w' => r = .returned (.bool true) ∧ Below w.heap.size w w' := by
  obtain ⟨a, c, rfl, _⟩ := slice_form h1
  obtain ⟨a', c', rfl, _⟩ := slice_form h2
  have H : Hid _ := And.intro h1 h2
  clear h1 h2
  go_enter Tryz.func18, Tryz.ntmps18
  go_wp2
  go_loopg [5, 13] l.length (fun g s5 s13 wr => ∃ (q : Nat), s13 = .int .i64 q ∧ q ≤ l.length ∧ l.length - q ≤ g ∧ Hid (Below w.heap.size w wr))
  case atStart => exact ⟨0, rfl, by omega, by omega, Below.refl _ _⟩
  case round => as_aux_lemma =>
    obtain ⟨q, rfl, hq, hg, HT⟩ := hrel
    by_cases hlt : q < l.length
    · obtain ⟨b1, o1, cs, ha, hp1, ⟨vn, vl, hcs, hs1⟩, hl1⟩ := row_at H.out.1 q hlt
      subst ha hcs
      obtain ⟨b2, o2, cs, ha, hp2, ⟨vn', vl', hcs, hs2⟩, hl2⟩ := row_at H.out.2 q hlt
      subst ha hcs
      generalize l[q] = ev at *
      have HP : Hid _ := And.intro hs1 hs2
      have HL : Hid _ := And.intro hl1 (And.intro hl2 (And.intro hp1 hp2))
      clear hs1 hs2 hl1 hl2 hp1 hp2
      have hq0 : (0 : Int) ≤ (q : Int) := by omega
      have hq1 : (q : Int) < (l.length : Int) := by omega
      go_wp2_with fail
      refine wp_region_class (fun w' => Below w.heap.size w w') (by kernel_rfl) (by kernel_rfl) (HT.out.drew) ?_
      repeat
        first
          | (refine wpQuiet_want (by rfl) (fun K hK => ?_)
             apply Exists.intro
             refine ⟨fun w' hw' => ?_, hK _ ?_⟩
             (first
              | exact quietAt_load_mid 32 (.tmp 18) rfl b1 (o1 + q * 21) rfl _ _ (rangeAt_below HL.out.1 hw' HL.out.2.2.1) Tryz.underlying32 rfl (by kernel_rfl)
              | exact quietAt_load_mid 32 (.tmp 22) rfl b2 (o2 + q * 21) rfl _ _ (rangeAt_below HL.out.2.1 hw' HL.out.2.2.2) Tryz.underlying32 rfl (by kernel_rfl)
              | (unfold Oper.quietAt
                 first
                  | (go_simp; with_reducible exact rfl)
                  | (go_simp; refine (same22_any ev vn vl vn' vl' w' (HP.out.1.on hw') (HP.out.2.on hw')).mono ?_; rintro r w2 ⟨rfl, t2⟩; exact ⟨rfl, hw'.trans (t2.mono hw'.size)⟩)))
             clear hK K)
        simp only [Act.put, List.setIfInBounds_toArray, List.set_cons_zero, List.set_cons_succ]
      refine wpQuiet_nil ?_
      intro w' hw'
      have HW : Hid _ := hw'
      clear hw'
      go_wp2
      go_roundg (l.length - (q + 1))
      case measure => omega
      case rel => exact ⟨q + 1, by go_num, by omega, by omega, HW⟩
    · go_wp2
      go_ret
      exact ⟨rfl, HT.out⟩
end Go.Proofs.YtehkhlmpkhnbmaaGreat.Mod
