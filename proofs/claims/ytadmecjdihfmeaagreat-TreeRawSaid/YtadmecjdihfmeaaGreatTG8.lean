/- TreWalk TreRange: several texts of one proof, laid as one file (a claim has at most 60 files). No condition. -/
import Derived.Test.YtadmecjdihfmeaaGreatTG7
import Derived.Test.YtadmecjdihfmeaaGreatTG3
import Derived.BigQuiet
import Derived.Deep.RegionLaw
import Derived.Deep.DeepCutAuto
/- Layer 7: walk. -/
namespace Go.Proofs.YtadmecjdihfmeaaGreat.Tre
set_option linter.unusedVariables false
set_option linter.unusedSimpArgs false
set_option maxRecDepth 100000
open Go.RowKit Go.Lib Go.Proofs.YtadmecjdihfmeaaGreat.Mem Go.Proofs.YtadmecjdihfmeaaGreat.Oct Go.Proofs.YtadmecjdihfmeaaGreat.Dev Go.Proofs.YtadmecjdihfmeaaGreat.Sto

theorem walk_leaf (S : StS) (D : DevS) (frm upt : ByteArray) (most : Int) (x : It) (l : List It) (out : List En) : walkF S D frm upt most 0 (x :: l) out = if stopW upt most x out = true then (0, out) else walkF S D frm upt most 0 l (if lt x.key frm = true then out else out ++ [(x.key, x.val)]) := by
  unfold walkF
  rw [leafW]
  split <;> rfl
theorem walk_node (S : StS) (D : DevS) (frm upt : ByteArray) (most : Int) (f : Nat) (x : It) (l : List It) (out : List En) : walkF S D frm upt most (f + 1) (x :: l) out = if stopW upt most x out = true then (0, out) else if skipW frm l = true then walkF S D frm upt most (f + 1) l out else
    match belowF S D (f + 1) x.kid with
    | .error e => (e, out)
    | .ok k => if (walkF S D frm upt most f k.items out).1 ≠ 0 then walkF S D frm upt most f k.items out else walkF S D frm upt most (f + 1) l (walkF S D frm upt most f k.items out).2 := by
  show nodeW _ _ _ _ _ _ _ = _
  rw [nodeW]
  rfl
theorem walk_nil (S : StS) (D : DevS) (frm upt : ByteArray) (most : Int) (f : Nat) (out : List En) : walkF S D frm upt most f [] out = (0, out) := by
  match f with
  | 0 => rfl
  | f + 1 => rfl
/-- a walk adds -/
theorem walk_grows (S : StS) (D : DevS) (frm upt : ByteArray) (most : Int) : ∀ (f : Nat) (l : List It) (out : List En), out.length ≤ (walkF S D frm upt most f l out).2.length
  | 0, [], out => by rw [walk_nil]; exact Nat.le_refl _
  | 0, x :: l, out => by
    rw [walk_leaf]
    split
    · exact Nat.le_refl _
    · refine Nat.le_trans ?_ (walk_grows S D frm upt most 0 l _)
      split
      · exact Nat.le_refl _
      · simp
  | f + 1, [], out => by rw [walk_nil]; exact Nat.le_refl _
  | f + 1, x :: l, out => by
    rw [walk_node]
    split
    · exact Nat.le_refl _
    · split
      · exact walk_grows S D frm upt most (f + 1) l out
      · split
        · exact Nat.le_refl _
        · rename_i k _
          have h1 := walk_grows S D frm upt most f k.items out
          split
          · exact h1
          · exact Nat.le_trans h1 (walk_grows S D frm upt most (f + 1) l _)
/-- behind a walk: entries in a variable -/
structure WalkR (N : Nat) (w : World) (ob : Nat) (v : Value) (w' : World) (v' : Value) (out : List En) : Prop where
  cell : w'.heap[ob]? = some (.cells #[v'] 27 (0, 0))
  own : OwnE N w' v' out
  ne : v'.ownBlock ≠ some ob
  chg : Chg (ob :: v.ownBlock.toList) w w'
  at_ : v'.ownBlock = v.ownBlock ∨ ∃ g, v'.ownBlock = some g ∧ w.heap.size ≤ g
def WalkIs (N : Nat) (w : World) (ob : Nat) (v : Value) (r : Int × List En) (e : Ending) (w' : World) : Prop := e = .returned (.int .i64 r.1) ∧ ∃ v', WalkR N w ob v w' v' r.2
theorem WalkR.refl {N : Nat} {w : World} {ob : Nat} {v : Value} {out : List En} (h1 : w.heap[ob]? = some (.cells #[v] 27 (0, 0))) (h2 : OwnE N w v out) (h3 : v.ownBlock ≠ some ob) : WalkR N w ob v w v out := ⟨h1, h2, h3, Chg.refl _ _, .inl rfl⟩
/-- what nobody turns goes on -/
theorem WalkR.on {N : Nat} {w w1 w2 : World} {ob : Nat} {v v' : Value} {out : List En} (h : WalkR N w ob v w1 v' out) (hb : Below w1.heap.size w1 w2) : WalkR N w ob v w2 v' out :=
  ⟨(hb.block _ (heap_lt h.cell)).trans h.cell, h.own.on hb, h.ne, h.chg.trans (Chg.of_below hb), h.at_⟩
theorem WalkR.trans {N : Nat} {w w1 w2 : World} {ob : Nat} {v v1 v2 : Value} {o1 o2 : List En} (h : WalkR N w ob v w1 v1 o1) (k : WalkR N w1 ob v1 w2 v2 o2) : WalkR N w ob v w2 v2 o2 := by
  refine ⟨k.cell, k.own, k.ne, h.chg.trans' k.chg (fun q hq => ?_), ?_⟩
  · rcases List.mem_cons.1 hq with rfl | hq
    · exact .inl (by simp)
    · have hq' : v1.ownBlock = some q := by simpa using hq
      rcases h.at_ with h1 | ⟨g, h1, h2⟩
      · left; rw [← h1]; exact List.mem_cons_of_mem _ hq
      · rw [h1] at hq'; cases hq'; exact .inr h2
  · rcases k.at_ with h1 | ⟨g, h1, h2⟩
    · rcases h.at_ with h3 | ⟨g, h3, h4⟩
      · exact .inl (h1.trans h3)
      · exact .inr ⟨g, h1.trans h3, h4⟩
    · exact .inr ⟨g, h1, Nat.le_trans h.chg.size h2⟩
/-- items that a walk does not turn -/
def Away (ob : Nat) (v : Value) (w : World) (q : Nat) : Prop := q ≠ ob ∧ v.ownBlock ≠ some q ∧ q < w.heap.size
theorem away_chg {N : Nat} {w w' : World} {ob : Nat} {v v' : Value} {out : List En} (h : WalkR N w ob v w' v' out) {q : Nat} (hq : Away ob v w q) : q ∉ ob :: v.ownBlock.toList ∧ Away ob v' w' q := by
  refine ⟨fun hm => ?_, hq.1, fun e => ?_, Nat.lt_of_lt_of_le hq.2.2 h.chg.size⟩
  · rcases List.mem_cons.1 hm with h1 | h1
    · exact hq.1 h1
    · exact hq.2.1 (by simpa using h1)
  · rcases h.at_ with h1 | ⟨g, h1, h2⟩
    · exact hq.2.1 (h1 ▸ e)
    · rw [h1] at e; cases e; have := hq.2.2; omega
theorem away_its {N : Nat} {w w' : World} {ob : Nat} {v v' : Value} {out : List En} (h : WalkR N w ob v w' v' out) {x : Value} {l : List It} (hI : Its (Away ob v w) w x l) : Its (Away ob v' w') w' x l :=
  (hI.chg h.chg (fun q hq => (away_chg h hq).1)).mono (fun q hq => (away_chg h hq).2)
theorem leaf_app {N : Nat} {w w2 : World} {ob : Nat} {v v2 : Value} {outr : List En} {x : It} {nc : Array Value} (hne : w.heap.size ≠ ob) (hob : N ≤ ob) (h : WalkR N w ob v w2 v2 outr) (hn : w2.heap[w.heap.size]? = some (.cells nc 79 (0, 0))) (hv : v2.ownBlock ≠ some w.heap.size) :
    OwnE N (w2.alloc (.cells #[.string x.key, .string x.val] 41)) v2 outr ∧ (N ≤ (w2.alloc (.cells #[.string x.key, .string x.val] 41)).heap.size ∧ (w2.alloc (.cells #[.string x.key, .string x.val] 41)).cell? ⟨w2.heap.size, 0, none⟩ = some (.string x.key) ∧ (w2.alloc (.cells #[.string x.key, .string x.val] 41)).cell? ⟨w2.heap.size, 1, none⟩ = some (.string x.val)) ∧
      ∀ v' w4, OwnE N w4 v' (outr ++ [(x.key, x.val)]) → (w2.alloc (.cells #[.string x.key, .string x.val] 41)).grownBy w4 v2.ownBlock → (v'.ownBlock = v2.ownBlock ∨ v'.ownBlock = some (w2.alloc (.cells #[.string x.key, .string x.val] 41)).heap.size) →
        WalkR N w ob v (w4.setCell ⟨ob, 0, none⟩ v') v' (outr ++ [(x.key, x.val)]) ∧ (w4.setCell ⟨ob, 0, none⟩ v').heap[w.heap.size]? = some (.cells nc 79 (0, 0)) ∧ v'.ownBlock ≠ some w.heap.size ∧ w4.heap[ob]? = some (.cells #[v2] 27 (0, 0)) := by
  obtain ⟨w3, hw3⟩ : ∃ w3, w3 = w2.alloc (.cells #[.string x.key, .string x.val] 41) := ⟨_, rfl⟩
  have hb3 : Below w2.heap.size w2 w3 := by rw [hw3]; exact (Below.refl _ _).alloc (Nat.le_refl _) _
  have hx3 : w3.heap[w2.heap.size]? = some (.cells #[.string x.key, .string x.val] 41 (0, 0)) := by rw [hw3]; exact heap_alloc_last _ _
  rw [← hw3]
  have h3 := h.on hb3
  have hwl := heap_lt hn
  have hol := heap_lt h.cell
  refine ⟨h3.own, ⟨by have := hb3.size; omega, cell_at hx3 0, cell_at hx3 1⟩, fun v' w4 ho hg hat => ?_⟩
  have hcg := grown_chg hg
  have hob4 : w4.heap[ob]? = some (.cells #[v2] 27 (0, 0)) := (hcg.block _ (heap_lt h3.cell) (fun hm => h.ne (by simpa using hm))).trans h3.cell
  have hn4 : w4.heap[w.heap.size]? = some (.cells nc 79 (0, 0)) := (hcg.block _ (Nat.lt_of_lt_of_le hwl hb3.size) (fun hm => hv (by simpa using hm))).trans ((hb3.block _ hwl).trans hn)
  have hc5 : Chg [ob] w4 (w4.setCell ⟨ob, 0, none⟩ v') := (Chg.refl _ _).setCell _ _ (.inl (by simp))
  have hv'ob : v'.ownBlock ≠ some ob := fun e => by
    rcases hat with h1 | h1
    · exact h.ne (h1 ▸ e)
    · rw [h1] at e; cases e; have := heap_lt h3.cell; omega
  have hv'w : v'.ownBlock ≠ some w.heap.size := fun e => by
    rcases hat with h1 | h1
    · exact hv (h1 ▸ e)
    · rw [h1] at e
      injection e with e
      have := hb3.size
      omega
  refine ⟨?_, (hc5.block _ (heap_lt hn4) (by simpa using hne)).trans hn4, hv'w, hob4⟩
  have hk : WalkR N w3 ob v2 (w4.setCell ⟨ob, 0, none⟩ v') v' (outr ++ [(x.key, x.val)]) := by
    refine ⟨heap_set_at hob4 0 v', ho.chg hc5 (fun q hq => by simp at hq; subst hq; exact hv'ob), hv'ob, ?_, ?_⟩
    · exact (hcg.mono (fun q hq => List.mem_cons_of_mem _ hq)).trans (hc5.mono (fun q hq => by simp at hq; simp [hq]))
    · rcases hat with h1 | h1
      · exact .inl h1
      · exact .inr ⟨_, h1, Nat.le_refl _⟩
  exact h3.trans hk
theorem leqs (a b : ByteArray) : (Op.bytesLess a.toList b.toList || a.toList == b.toList) = !lt b a := by
  show (lt a b || a.toList == b.toList) = !lt b a
  cases h1 : lt a b with
  | true => rw [lt_asymm h1]; rfl
  | false =>
    cases h2 : lt b a with
    | true =>
      have : (a.toList == b.toList) = false := by rw [Bool.eq_false_iff]; exact fun h => lt_ne h2 (key_eq.1 h).symm
      rw [this]; rfl
    | false => rw [lt_tri h1 h2]; simp
theorem geqs (a b : ByteArray) : (!(Op.bytesLess a.toList b.toList)) = !lt a b := rfl
set_option maxHeartbeats 16000000 in
theorem walk_any (w0 : World) (B : Blk) (S : StS) (D : DevS) (frm upt : ByteArray) (most : Int) (hst : StAt w0 B S D) : ∀ (f : Nat) (w : World) (ob : Nat) (v vn : Value) (l : List It) (out : List En), f ≤ 20 → Below w0.heap.size w0 w → w0.heap.size ≤ ob → w.heap[ob]? = some (.cells #[v] 27 (0, 0)) → OwnE w0.heap.size w v out → v.ownBlock ≠ some ob → Its (Away ob v w) w vn l → 1 ≤ l.length ∧ l.length ≤ 8 → (walkF S D frm upt most f l out).2.length ≤ 1048576 →
    Calls Tryz.prog 49 #[.pointer (some ⟨B.s, 0, none⟩), .agg #[.int .i64 f, vn], .string frm, .string upt, .int .i64 most, .pointer (some ⟨ob, 0, none⟩)] w (WalkIs w0.heap.size w ob v (walkF S D frm upt most f l out)) := by
  intro f
  induction f with
  | zero =>
    intro w ob v vn l out hf hb0 hob hcell hown hne hI hl hbd
    obtain ⟨a, c, rfl, _, _⟩ := hI.form
    obtain ⟨w1, hw1⟩ : ∃ w1, w1 = w.alloc (.cells #[.int .i64 0, .slice a l.length c] 79) := ⟨_, rfl⟩
    have hb1 : Below w.heap.size w w1 := by rw [hw1]; exact (Below.refl _ _).alloc (Nat.le_refl _) _
    have hx1 : w1.heap[w.heap.size]? = some (.cells #[.int .i64 0, .slice a l.length c] 79 (0, 0)) := by rw [hw1]; exact heap_alloc_last _ _
    have HW1 : Hid (WalkR w0.heap.size w ob v w1 v out ∧ w1.heap[w.heap.size]? = some (.cells #[.int .i64 0, .slice a l.length c] 79 (0, 0)) ∧ w.heap.size ≠ ob ∧ v.ownBlock ≠ some w.heap.size ∧ Below w0.heap.size w0 w ∧ Its (Away ob v w) w (.slice a l.length c) l ∧ w0.heap.size ≤ ob) := by
      refine ⟨(WalkR.refl hcell hown hne).on hb1, hx1, fun e => by have := heap_lt hcell; omega, fun e => by have := (World.ownsRow.lt hown _ e).2; omega, hb0, hI, hob⟩
    have y0 : w1.cell? ⟨w.heap.size, 0, none⟩ = some (.int .i64 0) := cell_at hx1 0
    have y1 : w1.cell? ⟨w.heap.size, 1, none⟩ = some (.slice a l.length c) := cell_at hx1 1
    have HBD : Hid ((walkF S D frm upt most 0 l out).2.length ≤ 1048576) := hbd
    rw [hw1] at y0 y1
    clear hcell hown hne hI hb0 hb1 hx1 hbd hob
    go_enter Tryz.func49, Tryz.ntmps49
    go_wp2_with fail
    rw [← hw1]
    clear hw1 y0 y1
    go_loopw [20] (fun v20 wr => ∃ j : Nat, j ≤ l.length ∧ v20 = .int .i64 j ∧ ∃ (vr : Value) (outr : List En), Hid (walkF S D frm upt most 0 (l.drop j) outr = walkF S D frm upt most 0 l out ∧ WalkR w0.heap.size w ob v wr vr outr ∧ wr.heap[w.heap.size]? = some (.cells #[.int .i64 0, .slice a l.length c] 79 (0, 0)) ∧ vr.ownBlock ≠ some w.heap.size)) (fun v20 _ => l.length - (intOf v20).toNat)
    case atStart => exact ⟨0, by omega, rfl, v, out, rfl, HW1.out.1, HW1.out.2.1, HW1.out.2.2.2.1⟩
    case round =>
      obtain ⟨j, hj, rfl, vr, outr, HT⟩ := hrel
      by_cases hlt : j < l.length
      · have hlt' : (j : Int) < (l.length : Int) := by omega
        have hIr := away_its HT.out.2.1 HW1.out.2.2.2.2.2.1
        obtain ⟨b, o, rfl, _, q0, q1, q2⟩ := hIr.at j hlt
        obtain ⟨x, hx⟩ : ∃ x, x = l[j] := ⟨_, rfl⟩
        rw [← hx] at q0 q1 q2
        have hdr : l.drop j = x :: l.drop (j + 1) := by rw [List.drop_eq_getElem_cons hlt, hx]
        have hgo := HT.out.1
        rw [hdr, walk_leaf] at hgo
        obtain ⟨av, cv, rfl⟩ := HT.out.2.1.own.form
        have hol : outr.length ≤ 1048576 := by
          have h1 := walk_grows S D frm upt most 0 (l.drop j) outr
          rw [HT.out.1] at h1
          exact Nat.le_trans h1 HBD.out
        obtain ⟨stp, hstp⟩ : ∃ stp, stp = stopW upt most x outr := ⟨_, rfl⟩
        have HS : Hid (stp = (decide (most ≤ outr.length) || (!upt.toList.isEmpty && !lt x.key upt))) := hstp
        rw [← hstp] at hgo
        have HG : Hid (_ = _) := hgo
        have hb2 : ∀ ob, Below wr.heap.size wr (wr.alloc ob) := fun ob => (Below.refl _ _).alloc (Nat.le_refl _) _
        obtain ⟨w2, hw2⟩ : ∃ w2, w2 = wr.alloc (.cells #[.string x.key, .string x.val, .int .i64 x.kid] 83) := ⟨_, rfl⟩
        have hbw2 : Below wr.heap.size wr w2 := by rw [hw2]; exact hb2 _
        have hx2 : w2.heap[wr.heap.size]? = some (.cells #[.string x.key, .string x.val, .int .i64 x.kid] 83 (0, 0)) := by rw [hw2]; exact heap_alloc_last _ _
        have H2 : Hid (WalkR w0.heap.size w ob v w2 (.slice av outr.length cv) outr ∧ w2.heap[w.heap.size]? = some (.cells #[.int .i64 0, .slice (some ⟨b, o, none⟩) l.length c] 79 (0, 0)) ∧ (Value.slice av outr.length cv).ownBlock ≠ some w.heap.size ∧ w2.heap[wr.heap.size]? = some (.cells #[.string x.key, .string x.val, .int .i64 x.kid] 83 (0, 0))) := ⟨HT.out.2.1.on hbw2, (hbw2.block _ (heap_lt HT.out.2.2.1)).trans HT.out.2.2.1, HT.out.2.2.2, hx2⟩
        have s0 : w2.cell? ⟨wr.heap.size, 0, none⟩ = some (.string x.key) := cell_at hx2 0
        have s1 : w2.cell? ⟨wr.heap.size, 1, none⟩ = some (.string x.val) := cell_at hx2 1
        have e0 : w2.cell? ⟨ob, 0, none⟩ = some (.slice av outr.length cv) := cell_at H2.out.1.cell 0
        have n0 : w2.cell? ⟨w.heap.size, 0, none⟩ = some (.int .i64 0) := cell_at H2.out.2.1 0
        rw [hw2] at s0 s1 e0 n0
        have hgl := geqs x.key upt
        have hgf := geqs x.key frm
        clear hgo hdr hx hIr hstp hb2 hbw2 hx2 HT
        go_upto_region 4 with fail
        go_cut [20, 40] from 20 to 96 (fun v20 v40 wx => v20 = .int .i64 j ∧ v40 = .bool stp ∧ wx = w2)
        case first =>
          by_cases hm : most ≤ (outr.length : Int)
          · have hs : stp = true := by rw [HS.out]; simp [hm]
            go_wp2_with fail
            go_meet
            exact ⟨rfl, by rw [hs], hw2.symm⟩
          · have hm' : ¬ most ≤ (outr.length : Int) := hm
            cases hue : upt.toList.isEmpty with
            | true =>
              have hs : stp = false := by rw [HS.out, hue]; simp [hm]
              go_wp2_with fail
              go_meet
              exact ⟨rfl, by rw [hs], hw2.symm⟩
            | false =>
              cases hlk : lt x.key upt with
              | true =>
                have hs : stp = false := by rw [HS.out, hue, hlk]; simp [hm]
                rw [hlk] at hgl
                go_wp2_with fail
                go_meet
                exact ⟨rfl, by rw [hs], hw2.symm⟩
              | false =>
                have hs : stp = true := by rw [HS.out, hue, hlk]; simp
                rw [hlk] at hgl
                go_wp2_with fail
                go_meet
                exact ⟨rfl, by rw [hs], hw2.symm⟩
        case rest =>
        obtain ⟨rfl, rfl, hwc⟩ := hcut
        have hwc' := hwc.symm
        clear hwc
        subst hwc'
        rw [← hw2] at s0 s1 e0 n0
        clear hw2 hgl HS
        cases stp with
        | true =>
          have HRR : Hid (walkF S D frm upt most 0 l out = (0, outr)) := by have := HG.out; rw [if_pos rfl] at this; exact this.symm
          clear HG
          go_wp2_with fail
          go_ret
          exact ⟨by rw [HRR.out]; rfl, _, by rw [HRR.out]; exact H2.out.1⟩
        | false =>
          have HG2 : Hid (walkF S D frm upt most 0 (l.drop (j + 1)) (if lt x.key frm = true then outr else outr ++ [(x.key, x.val)]) = walkF S D frm upt most 0 l out) := by have := HG.out; rw [if_neg (by decide)] at this; exact this
          clear HG
          cases hlf : lt x.key frm with
          | true =>
            have HG3 : Hid (walkF S D frm upt most 0 (l.drop (j + 1)) outr = walkF S D frm upt most 0 l out) := by have := HG2.out; rw [hlf, if_pos rfl] at this; exact this
            rw [hlf] at hgf
            clear HG2 hlf
            go_wp2_with fail
            go_roundw
            case rel => exact ⟨j + 1, by omega, by go_num, _, outr, HG3.out, H2.out.1, H2.out.2.1, H2.out.2.2.1⟩
            case measure => simp [intOf]; omega
          | false =>
            have HG3 : Hid (walkF S D frm upt most 0 (l.drop (j + 1)) (outr ++ [(x.key, x.val)]) = walkF S D frm upt most 0 l out) := by have := HG2.out; rw [hlf, if_neg (by decide)] at this; exact this
            rw [hlf] at hgf
            clear HG2 hlf
            have hbd2 : Below w2.heap.size w2 w2.drew := (Below.refl _ _).drew
            have H2d : Hid (WalkR w0.heap.size w ob v w2.drew (.slice av outr.length cv) outr) := H2.out.1.on hbd2
            obtain ⟨HA, HB, HC⟩ := leaf_app HW1.out.2.2.1 HW1.out.2.2.2.2.2.2 H2d.out (show w2.drew.heap[w.heap.size]? = _ from H2.out.2.1) H2.out.2.2.1 (x := x)
            have HA' : Hid _ := HA
            have HB' : Hid _ := HB
            have d0 : w2.drew.cell? ⟨wr.heap.size, 0, none⟩ = some (.string x.key) := s0
            have d1 : w2.drew.cell? ⟨wr.heap.size, 1, none⟩ = some (.string x.val) := s1
            have d2 : w2.drew.cell? ⟨ob, 0, none⟩ = some (.slice av outr.length cv) := e0
            have d3 : ∀ oo, (w2.drew.alloc oo).cell? ⟨ob, 0, none⟩ = some (.slice av outr.length cv) := fun oo => cell_on ((Below.refl _ _).alloc (Nat.le_refl _) oo) d2
            have d4 : ∀ oo, (w2.alloc oo).cell? ⟨ob, 0, none⟩ = some (.slice av outr.length cv) := fun oo => cell_on ((Below.refl _ _).alloc (Nat.le_refl _) oo) e0
            clear HA HB hbd2
            go_upto_region 8 with fail
            go_cut [20] from 20 to 96 (fun v20 wx => v20 = .int .i64 j ∧ ∃ v7 : Value, Hid (WalkR w0.heap.size w ob v wx v7 (outr ++ [(x.key, x.val)]) ∧ wx.heap[w.heap.size]? = some (.cells #[.int .i64 0, .slice (some ⟨b, o, none⟩) l.length c] 79 (0, 0)) ∧ v7.ownBlock ≠ some w.heap.size))
            case first =>
              go_region_law
                (refine step_append_ent rfl _ _ rfl w0.heap.size HB'.out.1 _ outr rfl HA'.out _ (x.key, x.val) rfl HB'.out.2.1 HB'.out.2.2 hol ?_; intro v7 w4 hown4 hg4 hat4; obtain ⟨a7, c7, hv7⟩ := hown4.form; rw [List.length_append, List.length_singleton] at hv7; subst hv7; have H4 := HC _ w4 hown4 hg4 hat4; have H4h : Hid _ := H4; have o0 : w4.cell? ⟨ob, 0, none⟩ = some (.slice av outr.length cv) := cell_at H4.2.2.2 0; have of : ∀ k, w4.frozen? ⟨ob, k, none⟩ = false := frozen_at H4.2.2.2; clear H4 hown4 hg4 hat4)
              all_goals go_wp2_with fail
              all_goals go_meet
              all_goals exact ⟨rfl, _, H4h.out.1, H4h.out.2.1, H4h.out.2.2.1⟩
            case rest =>
            obtain ⟨rfl, v7, hv7⟩ := hcut
            have H7 : Hid _ := hv7.out
            clear hv7
            go_wp2_with fail
            go_roundw
            case rel => exact ⟨j + 1, by omega, by go_num, v7, _, HG3.out, H7.out.1, H7.out.2.1, H7.out.2.2⟩
            case measure => simp [intOf]; omega
      · have HE : Hid (walkF S D frm upt most 0 l out = (0, outr)) := by
          have := HT.out.1
          rw [List.drop_of_length_le (by omega), walk_nil] at this
          exact this.symm
        have hlt' : ¬ (j : Int) < (l.length : Int) := by omega
        go_wp2_with fail
        go_ret
        exact ⟨by rw [HE.out]; rfl, _, by rw [HE.out]; exact HT.out.2.1⟩
  | succ f ih =>
    intro w ob v vn l out hf hb0 hob hcell hown hne hI hl hbd
    obtain ⟨a, c, rfl, _, _⟩ := hI.form
    obtain ⟨F, hF⟩ : ∃ F : Int, F = ((f + 1 : Nat) : Int) := ⟨_, rfl⟩
    have HF : Hid (F = ((f + 1 : Nat) : Int)) := hF
    have hz : ¬ F = 0 := by omega
    have hz2 : (F == 0) = false := by simpa using hz
    rw [← hF]
    clear hF
    obtain ⟨w1, hw1⟩ : ∃ w1, w1 = w.alloc (.cells #[.int .i64 F, .slice a l.length c] 79) := ⟨_, rfl⟩
    have hb1 : Below w.heap.size w w1 := by rw [hw1]; exact (Below.refl _ _).alloc (Nat.le_refl _) _
    have hx1 : w1.heap[w.heap.size]? = some (.cells #[.int .i64 F, .slice a l.length c] 79 (0, 0)) := by rw [hw1]; exact heap_alloc_last _ _
    have HW1 : Hid (WalkR w0.heap.size w ob v w1 v out ∧ w1.heap[w.heap.size]? = some (.cells #[.int .i64 F, .slice a l.length c] 79 (0, 0)) ∧ w.heap.size ≠ ob ∧ v.ownBlock ≠ some w.heap.size ∧ Below w0.heap.size w0 w ∧ Its (Away ob v w) w (.slice a l.length c) l ∧ w0.heap.size ≤ ob ∧ ∀ q, v.ownBlock = some q → w0.heap.size ≤ q) := by
      refine ⟨(WalkR.refl hcell hown hne).on hb1, hx1, fun e => by have := heap_lt hcell; omega, fun e => by have := (World.ownsRow.lt hown _ e).2; omega, hb0, hI, hob, fun q hq => (World.ownsRow.lt hown q hq).1⟩
    have y0 : w1.cell? ⟨w.heap.size, 0, none⟩ = some (.int .i64 F) := cell_at hx1 0
    have y1 : w1.cell? ⟨w.heap.size, 1, none⟩ = some (.slice a l.length c) := cell_at hx1 1
    have HBD : Hid ((walkF S D frm upt most (f + 1) l out).2.length ≤ 1048576) := hbd
    rw [hw1] at y0 y1
    clear hcell hown hne hI hb0 hb1 hx1 hbd hob
    go_enter Tryz.func49, Tryz.ntmps49
    go_wp2_with fail
    rw [← hw1]
    clear hw1 y0 y1
    go_loopw [20] (fun v20 wr => ∃ j : Nat, j ≤ l.length ∧ v20 = .int .i64 j ∧ ∃ (vr : Value) (outr : List En), Hid (walkF S D frm upt most (f + 1) (l.drop j) outr = walkF S D frm upt most (f + 1) l out ∧ WalkR w0.heap.size w ob v wr vr outr ∧ wr.heap[w.heap.size]? = some (.cells #[.int .i64 F, .slice a l.length c] 79 (0, 0)) ∧ vr.ownBlock ≠ some w.heap.size)) (fun v20 _ => l.length - (intOf v20).toNat)
    case atStart => exact ⟨0, by omega, rfl, v, out, rfl, HW1.out.1, HW1.out.2.1, HW1.out.2.2.2.1⟩
    case round =>
      obtain ⟨j, hj, rfl, vr, outr, HT⟩ := hrel
      by_cases hlt : j < l.length
      · have hlt' : (j : Int) < (l.length : Int) := by omega
        have hIr := away_its HT.out.2.1 HW1.out.2.2.2.2.2.1
        obtain ⟨b, o, rfl, _, q0, q1, q2⟩ := hIr.at j hlt
        obtain ⟨x, hx⟩ : ∃ x, x = l[j] := ⟨_, rfl⟩
        rw [← hx] at q0 q1 q2
        have hdr : l.drop j = x :: l.drop (j + 1) := by rw [List.drop_eq_getElem_cons hlt, hx]
        have hgo := HT.out.1
        rw [hdr, walk_node] at hgo
        obtain ⟨av, cv, rfl⟩ := HT.out.2.1.own.form
        have hol : outr.length ≤ 1048576 := by
          have h1 := walk_grows S D frm upt most (f + 1) (l.drop j) outr
          rw [HT.out.1] at h1
          exact Nat.le_trans h1 HBD.out
        obtain ⟨stp, hstp⟩ : ∃ stp, stp = stopW upt most x outr := ⟨_, rfl⟩
        have HS : Hid (stp = (decide (most ≤ outr.length) || (!upt.toList.isEmpty && !lt x.key upt))) := hstp
        rw [← hstp] at hgo
        have HXK : Hid (x = l[j]) := hx
        have HG : Hid (_ = _) := hgo
        have hb2 : ∀ ob, Below wr.heap.size wr (wr.alloc ob) := fun ob => (Below.refl _ _).alloc (Nat.le_refl _) _
        obtain ⟨w2, hw2⟩ : ∃ w2, w2 = wr.alloc (.cells #[.string x.key, .string x.val, .int .i64 x.kid] 83) := ⟨_, rfl⟩
        have hbw2 : Below wr.heap.size wr w2 := by rw [hw2]; exact hb2 _
        have hx2 : w2.heap[wr.heap.size]? = some (.cells #[.string x.key, .string x.val, .int .i64 x.kid] 83 (0, 0)) := by rw [hw2]; exact heap_alloc_last _ _
        have H2 : Hid (WalkR w0.heap.size w ob v w2 (.slice av outr.length cv) outr ∧ w2.heap[w.heap.size]? = some (.cells #[.int .i64 F, .slice (some ⟨b, o, none⟩) l.length c] 79 (0, 0)) ∧ (Value.slice av outr.length cv).ownBlock ≠ some w.heap.size ∧ w2.heap[wr.heap.size]? = some (.cells #[.string x.key, .string x.val, .int .i64 x.kid] 83 (0, 0))) := ⟨HT.out.2.1.on hbw2, (hbw2.block _ (heap_lt HT.out.2.2.1)).trans HT.out.2.2.1, HT.out.2.2.2, hx2⟩
        have s0 : w2.cell? ⟨wr.heap.size, 0, none⟩ = some (.string x.key) := cell_at hx2 0
        have s1 : w2.cell? ⟨wr.heap.size, 1, none⟩ = some (.string x.val) := cell_at hx2 1
        have e0 : w2.cell? ⟨ob, 0, none⟩ = some (.slice av outr.length cv) := cell_at H2.out.1.cell 0
        have n0 : w2.cell? ⟨w.heap.size, 0, none⟩ = some (.int .i64 F) := cell_at H2.out.2.1 0
        have n1 : w2.cell? ⟨w.heap.size, 1, none⟩ = some (.slice (some ⟨b, o, none⟩) l.length c) := cell_at H2.out.2.1 1
        have HI2 : Hid (Its (Away ob (.slice av outr.length cv) w2) w2 (.slice (some ⟨b, o, none⟩) l.length c) l) := away_its H2.out.1 HW1.out.2.2.2.2.2.1
        rw [hw2] at s0 s1 e0 n0 n1
        have hgl := geqs x.key upt
        clear hgo hdr hx hIr hstp hb2 hbw2 hx2 HT
        go_upto_region 4 with fail
        go_cut [20, 40] from 20 to 96 (fun v20 v40 wx => v20 = .int .i64 j ∧ v40 = .bool stp ∧ wx = w2)
        case first =>
          by_cases hm : most ≤ (outr.length : Int)
          · have hs : stp = true := by rw [HS.out]; simp [hm]
            go_wp2_with fail
            go_meet
            exact ⟨rfl, by rw [hs], hw2.symm⟩
          · have hm' : ¬ most ≤ (outr.length : Int) := hm
            cases hue : upt.toList.isEmpty with
            | true =>
              have hs : stp = false := by rw [HS.out, hue]; simp [hm]
              go_wp2_with fail
              go_meet
              exact ⟨rfl, by rw [hs], hw2.symm⟩
            | false =>
              cases hlk : lt x.key upt with
              | true =>
                have hs : stp = false := by rw [HS.out, hue, hlk]; simp [hm]
                rw [hlk] at hgl
                go_wp2_with fail
                go_meet
                exact ⟨rfl, by rw [hs], hw2.symm⟩
              | false =>
                have hs : stp = true := by rw [HS.out, hue, hlk]; simp
                rw [hlk] at hgl
                go_wp2_with fail
                go_meet
                exact ⟨rfl, by rw [hs], hw2.symm⟩
        case rest =>
        obtain ⟨rfl, rfl, hwc⟩ := hcut
        have hwc' := hwc.symm
        clear hwc
        subst hwc'
        rw [← hw2] at s0 s1 e0 n0 n1
        clear hw2 hgl HS
        cases stp with
        | true =>
          have HRR : Hid (walkF S D frm upt most (f + 1) l out = (0, outr)) := by have := HG.out; rw [if_pos rfl] at this; exact this.symm
          clear HG
          go_wp2_with fail
          go_ret
          exact ⟨by rw [HRR.out]; rfl, _, by rw [HRR.out]; exact H2.out.1⟩
        | false =>
          obtain ⟨skp, hskp⟩ : ∃ skp, skp = skipW frm (l.drop (j + 1)) := ⟨_, rfl⟩
          have HG2 : Hid ((skp = true → walkF S D frm upt most (f + 1) (l.drop (j + 1)) outr = walkF S D frm upt most (f + 1) l out) ∧ (skp = false → ∀ e, belowF S D (f + 1) x.kid = .error e → walkF S D frm upt most (f + 1) l out = (e, outr)) ∧ (skp = false → ∀ k, belowF S D (f + 1) x.kid = .ok k → (if (walkF S D frm upt most f k.items outr).1 ≠ 0 then walkF S D frm upt most f k.items outr else walkF S D frm upt most (f + 1) (l.drop (j + 1)) (walkF S D frm upt most f k.items outr).2) = walkF S D frm upt most (f + 1) l out)) := by
            have h9 := HG.out
            rw [if_neg (by decide), ← hskp] at h9
            refine ⟨fun h => ?_, fun h e he => ?_, fun h k hk => ?_⟩
            · rw [if_pos h] at h9; exact h9
            · rw [if_neg (by rw [h]; decide), he] at h9; exact h9.symm
            · rw [if_neg (by rw [h]; decide), hk] at h9; exact h9
          have HSK : Hid (skp = skipW frm (l.drop (j + 1))) := hskp
          clear HG hskp
          go_upto_region 9 with fail
          go_cut [20, 76] from 20 to 96 (fun v20 v76 wx => v20 = .int .i64 j ∧ v76 = .bool skp ∧ wx = w2)
          case first =>
            by_cases hj1 : j + 1 < l.length
            · have hj1' : (j : Int) + 1 < (l.length : Int) := by omega
              obtain ⟨bb, oo, hbo, _, r0, _, _⟩ := HI2.out.at (j + 1) hj1
              obtain ⟨rfl, rfl⟩ : b = bb ∧ o = oo := by injection hbo with h1; injection h1 with h1 h2; exact ⟨h1, h2⟩
              obtain ⟨ky, hky⟩ : ∃ ky, ky = (l[j + 1]'hj1).key := ⟨_, rfl⟩
              rw [← hky] at r0
              have hs : skp = !lt frm ky := by rw [HSK.out, List.drop_eq_getElem_cons hj1, hky]; rfl
              clear hbo hky
              go_wp2_with fail
              go_meet
              exact ⟨rfl, by rw [hs, ← leqs ky frm], rfl⟩
            · have hj1' : ¬ (j : Int) + 1 < (l.length : Int) := by omega
              have hs : skp = false := by rw [HSK.out, List.drop_of_length_le (by omega)]; rfl
              go_wp2_with fail
              go_meet
              exact ⟨rfl, by rw [hs], rfl⟩
          case rest =>
          obtain ⟨rfl, rfl, hwc2⟩ := hcut
          have hwc2' := hwc2.symm
          clear hwc2
          subst hwc2'
          cases skp with
          | true =>
            have HG3 : Hid (walkF S D frm upt most (f + 1) (l.drop (j + 1)) outr = walkF S D frm upt most (f + 1) l out) := HG2.out.1 rfl
            clear HG2 HSK
            go_wp2_with fail
            go_roundw
            case rel => exact ⟨j + 1, by omega, by go_num, _, outr, HG3.out, H2.out.1, H2.out.2.1, H2.out.2.2.1⟩
            case measure => simp [intOf]; omega
          | false =>
            have HG3 : Hid ((∀ e, belowF S D (f + 1) x.kid = .error e → walkF S D frm upt most (f + 1) l out = (e, outr)) ∧ ∀ k, belowF S D (f + 1) x.kid = .ok k → (if (walkF S D frm upt most f k.items outr).1 ≠ 0 then walkF S D frm upt most f k.items outr else walkF S D frm upt most (f + 1) (l.drop (j + 1)) (walkF S D frm upt most f k.items outr).2) = walkF S D frm upt most (f + 1) l out) := ⟨HG2.out.2.1 rfl, HG2.out.2.2 rfl⟩
            clear HG2 HSK
            have HB2 : Hid (Below w0.heap.size w0 w2) := HW1.out.2.2.2.2.1.trans (H2.out.1.chg.below HW1.out.2.2.2.2.1.size (fun q hq => by
              rcases List.mem_cons.1 hq with rfl | hq
              · exact HW1.out.2.2.2.2.2.2.1
              · exact HW1.out.2.2.2.2.2.2.2 q (by simpa using hq)))
            go_wp2_with fail
            rw [HF.out]
            refine (below_any _ w2 B S D (f + 1) _ l j hlt ⟨by omega, by omega⟩ (hst.on HB2.out) HI2.out).mono ?_
            rw [← HF.out, ← HXK.out]
            rintro e w4 ⟨v4, rfl, hI4, hb4⟩
            obtain ⟨a5, c5, rfl, _, _⟩ := hI4.form
            have H4 : Hid (WalkR w0.heap.size w ob v w4 (.slice av outr.length cv) outr ∧ w4.heap[w.heap.size]? = some (.cells #[.int .i64 F, .slice (some ⟨b, o, none⟩) l.length c] 79 (0, 0)) ∧ Below w0.heap.size w0 w4 ∧ Its (fun q => w2.heap.size ≤ q ∧ q < w4.heap.size) w4 (.slice a5 (ndOf (belowF S D (f + 1) x.kid)).items.length c5) (ndOf (belowF S D (f + 1) x.kid)).items) := ⟨H2.out.1.on hb4, (hb4.block _ (heap_lt H2.out.2.1)).trans H2.out.2.1, HB2.out.trans (hb4.mono HB2.out.size), hI4.real⟩
            clear hI4 hb4
            rcases ndOf_cases (belowF S D (f + 1) x.kid) (fun e he => belowF_ne he) with ⟨k, hk, hn, he⟩ | ⟨er, hk, hn, he, hz3⟩
            · have hok := (loadF_ok (belowF_ok hk).1).1
              have hlv : k.level = f := by have := (belowF_ok hk).2; omega
              have HG4 := HG3.out.2 k hk
              obtain ⟨r, hr⟩ : ∃ r, r = walkF S D frm upt most f k.items outr := ⟨_, rfl⟩
              rw [← hr] at HG4
              have hrl : r.2.length ≤ 1048576 := by
                have h8 := HBD.out
                rw [← HG4] at h8
                by_cases hr0 : r.1 = 0
                · rw [if_neg (by rw [hr0]; decide)] at h8
                  exact Nat.le_trans (walk_grows S D frm upt most (f + 1) (l.drop (j + 1)) r.2) h8
                · rw [if_pos hr0] at h8; exact h8
              have HG5 : Hid ((if r.1 ≠ 0 then r else walkF S D frm upt most (f + 1) (l.drop (j + 1)) r.2) = walkF S D frm upt most (f + 1) l out) := HG4
              rw [hn] at H4
              rw [hn, he, hlv]
              obtain ⟨w5, hw5⟩ : ∃ w5, w5 = w4.alloc (.cells #[.int .i64 f, .slice a5 k.items.length c5] 79) := ⟨_, rfl⟩
              have hb5 : Below w4.heap.size w4 w5 := by rw [hw5]; exact (Below.refl _ _).alloc (Nat.le_refl _) _
              have H5 : Hid (WalkR w0.heap.size w ob v w5 (.slice av outr.length cv) outr ∧ w5.heap[w.heap.size]? = some (.cells #[.int .i64 F, .slice (some ⟨b, o, none⟩) l.length c] 79 (0, 0))) := ⟨H4.out.1.on hb5, (hb5.block _ (heap_lt H4.out.2.1)).trans H4.out.2.1⟩
              have HIH : Hid (Calls Tryz.prog 49 #[.pointer (some ⟨B.s, 0, none⟩), .agg #[.int .i64 f, .slice a5 k.items.length c5], .string frm, .string upt, .int .i64 most, .pointer (some ⟨ob, 0, none⟩)] w5 (WalkIs w0.heap.size w5 ob (.slice av outr.length cv) r)) := by
                rw [hr]
                refine ih w5 ob _ _ k.items outr (by omega) (H4.out.2.2.1.trans (hb5.mono H4.out.2.2.1.size)) HW1.out.2.2.2.2.2.2.1 H5.out.1.cell H5.out.1.own H5.out.1.ne ((H4.out.2.2.2.on hb5).mono (fun q hq => ?_)) hok.len (by rw [← hr]; exact hrl)
                refine ⟨fun e => ?_, fun e => ?_, Nat.lt_of_lt_of_le hq.2 hb5.size⟩
                · have h1 := heap_lt H2.out.1.cell; have := hq.1; omega
                · have h1 := (World.ownsRow.lt H2.out.1.own q e).2; have := hq.1; omega
              clear HG4 HG3 hk hn he hok hlv hr hrl hb5
              go_wp2_with fail
              rw [← hw5]
              clear hw5
              refine Calls.mono HIH.out ?_
              rintro e w6 ⟨rfl, v6, hR6⟩
              have H6 : Hid (WalkR w0.heap.size w ob v w6 v6 r.2 ∧ w6.heap[w.heap.size]? = some (.cells #[.int .i64 F, .slice (some ⟨b, o, none⟩) l.length c] 79 (0, 0)) ∧ v6.ownBlock ≠ some w.heap.size) := by
                refine ⟨H5.out.1.trans hR6, (hR6.chg.block _ (heap_lt H5.out.2) (fun hm => ?_)).trans H5.out.2, fun e => ?_⟩
                · rcases List.mem_cons.1 hm with h1 | h1
                  · exact HW1.out.2.2.1 h1
                  · exact H2.out.2.2.1 (by simpa using h1)
                · rcases hR6.at_ with h1 | ⟨g, h1, h2⟩
                  · exact H2.out.2.2.1 (h1 ▸ e)
                  · rw [h1] at e; cases e; have := heap_lt H5.out.2; omega
              clear hR6 HIH
              by_cases hr0 : r.1 = 0
              · have hr0' : (r.1 != 0) = false := by simp [hr0]
                have HG6 : Hid (walkF S D frm upt most (f + 1) (l.drop (j + 1)) r.2 = walkF S D frm upt most (f + 1) l out) := by have := HG5.out; rw [if_neg (by rw [hr0]; decide)] at this; exact this
                clear HG5 hr0
                go_wp2_with fail
                go_roundw
                case rel => exact ⟨j + 1, by omega, by go_num, v6, _, HG6.out, H6.out.1, H6.out.2.1, H6.out.2.2⟩
                case measure => simp [intOf]; omega
              · have hr0' : (r.1 != 0) = true := by simpa using hr0
                have HG6 : Hid (walkF S D frm upt most (f + 1) l out = r) := by have := HG5.out; rw [if_pos hr0] at this; exact this.symm
                clear HG5 hr0
                go_wp2_with fail
                go_ret
                exact ⟨by rw [HG6.out]; rfl, v6, by rw [HG6.out]; exact H6.out.1⟩
            · have HRR : Hid (walkF S D frm upt most (f + 1) l out = (er, outr)) := HG3.out.1 er hk
              have hz3' : (er == 0) = false := by simpa using hz3
              have hz3'' : (er != 0) = true := by simpa using hz3
              rw [hn] at H4
              rw [hn, he]
              clear HG3 hk hn he hz3
              go_wp2_with fail
              go_ret
              have hb5 : ∀ o, Below w4.heap.size w4 (w4.alloc o) := fun o => (Below.refl _ _).alloc (Nat.le_refl _) _
              exact ⟨by rw [HRR.out]; rfl, _, by rw [HRR.out]; exact H4.out.1.on (hb5 _)⟩
      · have HE : Hid (walkF S D frm upt most (f + 1) l out = (0, outr)) := by
          have := HT.out.1
          rw [List.drop_of_length_le (by omega), walk_nil] at this
          exact this.symm
        have hlt' : ¬ (j : Int) < (l.length : Int) := by omega
        go_wp2_with fail
        go_ret
        exact ⟨by rw [HE.out]; rfl, _, by rw [HE.out]; exact HT.out.2.1⟩
end Go.Proofs.YtadmecjdihfmeaaGreat.Tre

/- Layer 7: Range. -/
namespace Go.Proofs.YtadmecjdihfmeaaGreat.Tre
set_option linter.unusedVariables false
set_option linter.unusedSimpArgs false
set_option maxRecDepth 100000
open Go.RowKit Go.Lib Go.Proofs.YtadmecjdihfmeaaGreat.Mem Go.Proofs.YtadmecjdihfmeaaGreat.Oct Go.Proofs.YtadmecjdihfmeaaGreat.Dev Go.Proofs.YtadmecjdihfmeaaGreat.Sto

def RangeIs (w : World) (r : Int × List En) (e : Ending) (w' : World) : Prop := ∃ v, e = .returned (.tuple #[v, .int .i64 r.1]) ∧ OwnE w.heap.size w' v r.2 ∧ Below w.heap.size w w'
theorem walk_le (S : StS) (D : DevS) (frm upt : ByteArray) (most : Int) {n : Nat} (hn : most ≤ n) : ∀ (f : Nat) (l : List It) (out : List En), out.length ≤ n → (walkF S D frm upt most f l out).2.length ≤ n
  | 0, [], out, h => by rw [walk_nil]; exact h
  | 0, x :: l, out, h => by
    rw [walk_leaf]
    split
    · exact h
    · rename_i hs
      refine walk_le S D frm upt most hn 0 l _ ?_
      split
      · exact h
      · have : ¬ most ≤ (out.length : Int) := fun hm => hs (by simp [stopW, hm])
        rw [List.length_append]
        simp
        omega
  | f + 1, [], out, h => by rw [walk_nil]; exact h
  | f + 1, x :: l, out, h => by
    rw [walk_node]
    split
    · exact h
    · split
      · exact walk_le S D frm upt most hn (f + 1) l out h
      · split
        · exact h
        · rename_i k _
          have h1 := walk_le S D frm upt most hn f k.items out h
          split
          · exact h1
          · exact walk_le S D frm upt most hn (f + 1) l _ h1
/-- how many a Range may hand back here -/
def RangeOk (S : StS) (D : DevS) (root : Int) (frm upt : ByteArray) (most : Int) : Prop := ∀ n, loadF S D root = .ok n → (walkF S D frm upt most n.level n.items []).2.length ≤ 1048576
set_option maxHeartbeats 8000000 in
theorem treeRange_any (w : World) (B : Blk) (S : StS) (D : DevS) (root : Int) (frm upt : ByteArray) (most : Int) (h : StAt w B S D) (hok : RangeOk S D root frm upt most) :
    Calls Tryz.prog 26 #[.pointer (some ⟨B.s, 0, none⟩), .int .i64 root, .string frm, .string upt, .int .i64 most] w (RangeIs w (RangeF S D root frm upt most)) := by
  have H : Hid (StAt w B S D ∧ RangeOk S D root frm upt most) := ⟨h, hok⟩
  clear h hok
  have hba : Below w.heap.size w (w.alloc (.cells #[.slice none 0 0] 27)) := (Below.refl _ _).alloc (Nat.le_refl _) _
  have HBA : Hid (Below w.heap.size w (w.alloc (.cells #[.slice none 0 0] 27))) := hba
  clear hba
  by_cases h0 : root = 0
  · have HR : Hid (RangeF S D root frm upt most = (0, [])) := by show _ = _; unfold RangeF; exact if_pos (.inl h0)
    have h0' : (root == 0) = true := by simpa using h0
    clear h0
    go_enter Tryz.func26, Tryz.ntmps26
    go_wp2_with fail
    go_ret2
    exact ⟨.slice none 0 0, by rw [HR.out]; rfl, by rw [HR.out]; exact OwnE.nil _ _, HBA.out⟩
  · have h0' : (root == 0) = false := by simpa using h0
    by_cases hm : most ≤ 0
    · have HR : Hid (RangeF S D root frm upt most = (0, [])) := by show _ = _; unfold RangeF; exact if_pos (.inr hm)
      clear h0
      go_enter Tryz.func26, Tryz.ntmps26
      go_wp2_with fail
      go_ret2
      exact ⟨.slice none 0 0, by rw [HR.out]; rfl, by rw [HR.out]; exact OwnE.nil _ _, HBA.out⟩
    · have HR : Hid ((∀ e, loadF S D root = .error e → RangeF S D root frm upt most = (e, [])) ∧ ∀ n, loadF S D root = .ok n → RangeF S D root frm upt most = if (walkF S D frm upt most n.level n.items []).1 ≠ 0 then ((walkF S D frm upt most n.level n.items []).1, []) else (0, (walkF S D frm upt most n.level n.items []).2)) := by
        have hne : ¬ (root = 0 ∨ most ≤ 0) := by rintro (h | h); exact h0 h; exact hm h
        constructor
        · intro e he; unfold RangeF; rw [if_neg hne, he]
        · intro n hn; unfold RangeF; rw [if_neg hne, hn]
      have hm' : ¬ most ≤ 0 := hm
      clear h0 hm
      obtain ⟨w1, hw1⟩ : ∃ w1, w1 = w.alloc (.cells #[.slice none 0 0] 27) := ⟨_, rfl⟩
      have hx1 : w1.heap[w.heap.size]? = some (.cells #[.slice none 0 0] 27 (0, 0)) := by rw [hw1]; exact heap_alloc_last _ _
      have H1 : Hid (Below w.heap.size w w1 ∧ StAt w1 B S D ∧ w1.heap[w.heap.size]? = some (.cells #[.slice none 0 0] 27 (0, 0))) := ⟨by rw [hw1]; exact HBA.out, by rw [hw1]; exact H.out.1.on HBA.out, hx1⟩
      clear HBA hx1
      go_enter Tryz.func26, Tryz.ntmps26
      go_wp2_with fail
      rw [← hw1]
      clear hw1
      refine (load_any w1 B S D root H1.out.2.1).mono ?_
      rintro e w2 ⟨v2, rfl, hI2, hb2⟩
      obtain ⟨a2, c2, rfl, _, _⟩ := hI2.form
      rcases ndOf_cases (loadF S D root) (fun e he => loadF_ne he) with ⟨n, hl, hn, he⟩ | ⟨er, hl, hn, he, hz⟩
      · have hok := (loadF_ok hl).1
        have hbd := H.out.2 n hl
        have HRN : Hid _ := HR.out.2 n hl
        rw [hn] at hI2
        rw [hn, he]
        have H2 : Hid (Below w.heap.size w w2 ∧ w2.heap[w.heap.size]? = some (.cells #[.slice none 0 0] 27 (0, 0)) ∧ Its (fun q => w1.heap.size ≤ q ∧ q < w2.heap.size) w2 (.slice a2 n.items.length c2) n.items) := ⟨H1.out.1.trans (hb2.mono H1.out.1.size), (hb2.block _ (heap_lt H1.out.2.2)).trans H1.out.2.2, hI2.real⟩
        obtain ⟨w3, hw3⟩ : ∃ w3, w3 = w2.alloc (.cells #[.int .i64 n.level, .slice a2 n.items.length c2] 79) := ⟨_, rfl⟩
        have hb3 : Below w2.heap.size w2 w3 := by rw [hw3]; exact (Below.refl _ _).alloc (Nat.le_refl _) _
        obtain ⟨r, hr⟩ : ∃ r, r = walkF S D frm upt most n.level n.items [] := ⟨_, rfl⟩
        have HWK : Hid (Calls Tryz.prog 49 #[.pointer (some ⟨B.s, 0, none⟩), .agg #[.int .i64 n.level, .slice a2 n.items.length c2], .string frm, .string upt, .int .i64 most, .pointer (some ⟨w.heap.size, 0, none⟩)] w3 (WalkIs w.heap.size w3 w.heap.size (.slice none 0 0) r)) := by
          rw [hr]
          refine walk_any w B S D frm upt most H.out.1 n.level w3 w.heap.size _ _ n.items [] hok.level (H2.out.1.trans (hb3.mono H2.out.1.size)) (Nat.le_refl _) ((hb3.block _ (heap_lt H2.out.2.1)).trans H2.out.2.1) (OwnE.nil _ _) (by simp [Value.ownBlock]) ((H2.out.2.2.on hb3).mono (fun q hq => ⟨fun e => ?_, by simp [Value.ownBlock], Nat.lt_of_lt_of_le hq.2 hb3.size⟩)) hok.len hbd
          have := heap_lt H1.out.2.2
          have := hq.1
          omega
        have HB3 : Hid (Below w.heap.size w w3) := H2.out.1.trans (hb3.mono H2.out.1.size)
        rw [← hr] at HRN
        clear HR hl hn he hok hbd hI2 hb2 hb3 hr H2
        go_wp2_with fail
        rw [← hw3]
        clear hw3
        refine Calls.mono HWK.out ?_
        rintro e w4 ⟨rfl, v4, hR⟩
        have H4 : Hid (OwnE w.heap.size w4 v4 r.2 ∧ Below w.heap.size w w4) := ⟨hR.own, HB3.out.trans (hR.chg.below HB3.out.size (fun q hq => by
          rcases List.mem_cons.1 hq with rfl | hq
          · exact Nat.le_refl _
          · simp [Value.ownBlock] at hq))⟩
        have o0 : w4.cell? ⟨w.heap.size, 0, none⟩ = some v4 := cell_at hR.cell 0
        clear hR HWK
        by_cases hr0 : r.1 = 0
        · have hr0' : (r.1 != 0) = false := by simp [hr0]
          have HRR : Hid (RangeF S D root frm upt most = (0, r.2)) := by have := HRN.out; rw [if_neg (by rw [hr0]; decide)] at this; exact this
          obtain ⟨a4, c4, hv4⟩ := H4.out.1.form
          subst hv4
          clear HRN hr0
          go_wp2_with fail
          go_ret2
          exact ⟨_, by rw [HRR.out]; rfl, by rw [HRR.out]; exact H4.out.1, H4.out.2⟩
        · have hr0' : (r.1 != 0) = true := by simpa using hr0
          have HRR : Hid (RangeF S D root frm upt most = (r.1, [])) := by have := HRN.out; rw [if_pos hr0] at this; exact this
          clear HRN hr0
          go_wp2_with fail
          go_ret2
          exact ⟨.slice none 0 0, by rw [HRR.out]; rfl, by rw [HRR.out]; exact OwnE.nil _ _, H4.out.2⟩
      · have HRR : Hid (RangeF S D root frm upt most = (er, [])) := HR.out.1 er hl
        have hz' : (er != 0) = true := by simpa using hz
        have HB2 : Hid (Below w.heap.size w w2) := H1.out.1.trans (hb2.mono H1.out.1.size)
        rw [hn, he]
        clear HR hl hn he hz hI2 hb2
        go_wp2_with fail
        go_ret2
        have hb3 : ∀ o, Below w2.heap.size w2 (w2.alloc o) := fun o => (Below.refl _ _).alloc (Nat.le_refl _) _
        exact ⟨.slice none 0 0, by rw [HRR.out]; rfl, by rw [HRR.out]; exact OwnE.nil _ _, HB2.out.trans ((hb3 _).mono HB2.out.size)⟩
end Go.Proofs.YtadmecjdihfmeaaGreat.Tre

