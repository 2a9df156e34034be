/- What the functions of layer 22 compute (2): how much there is. -/
import Derived.Test.YtehkhlmpkhnbmaaGreatModWalks
import Derived.Test.YtehkhlmpkhnbmaaGreatElem
import Derived.Lib.MinMax
namespace Go.Proofs.YtehkhlmpkhnbmaaGreat.Mod
set_option linter.unusedVariables false
set_option linter.unusedSimpArgs false
set_option maxRecDepth 100000
open Go.RowKit Go.Proofs.YtehkhlmpkhnbmaaGreat.Mem

/-- true or false, and what was there is as it was -/
def SomeB (w : World) (e : Ending) (w' : World) : Prop := ∃ x, e = .returned (.bool x) ∧ Below w.heap.size w w'
/-- what was there is as it was, and a box is -/
structure Kept (w w' : World) (b : Nat) (cs : Array Value) (t : TypeId) : Prop where
  below : Below w.heap.size w w'
  box : w'.heap[b]? = some (.cells cs t (0, 0))
theorem Kept.made (w : World) (cs : Array Value) (t : TypeId) : Kept w (w.alloc (.cells cs t)) w.heap.size cs t := ⟨(Below.refl _ _).alloc (Nat.le_refl _) _, heap_alloc_last _ _⟩
theorem Kept.on {w w1 w2 : World} {b : Nat} {cs : Array Value} {t : TypeId} (h : Kept w w1 b cs t) (hb : Below w1.heap.size w1 w2) : Kept w w2 b cs t :=
  ⟨h.below.trans (hb.mono h.below.size), (hb.block _ (heap_lt h.box)).trans h.box⟩
theorem Kept.add {w w1 : World} {b : Nat} {cs : Array Value} {t : TypeId} (h : Kept w w1 b cs t) (cs' : Array Value) (t' : TypeId) : Kept w (w1.alloc (.cells cs' t')) w1.heap.size cs' t' :=
  ⟨h.below.trans (((Below.refl _ _).alloc (Nat.le_refl _) _).mono h.below.size), heap_alloc_last _ _⟩
theorem below_alloc (w : World) (o : Obj) : Below w.heap.size w (w.alloc o) := (Below.refl _ _).alloc (Nat.le_refl _) _

set_option maxHeartbeats 8000000 in
theorem small_any (s : State) (vn vl : Value) (w : World) (h : StateR (· < w.heap.size) w vn vl s) :
    Calls Tryz.prog 26 #[.agg (s.row vn vl)] w (SomeB w) := by
  obtain ⟨an, cn, rfl, hn⟩ := slice_form h.nodes
  obtain ⟨al, cl, rfl, hl⟩ := slice_form h.links
  have H : Hid _ := h
  clear h
  by_cases h1 : 120 < s.nodes.length
  · go_enter Tryz.func26, Tryz.ntmps26
    go_wp2
    go_ret
    exact ⟨false, rfl, (Below.refl _ _).alloc (Nat.le_refl _) _⟩
  by_cases h2 : 120 < s.links.length
  · go_enter Tryz.func26, Tryz.ntmps26
    go_wp2
    go_ret
    exact ⟨false, rfl, (Below.refl _ _).alloc (Nat.le_refl _) _⟩
  have h1' : s.nodes.length ≤ 120 := by omega
  have h2' : s.links.length ≤ 120 := by omega
  clear h1 h2 hn hl
  go_enter Tryz.func26, Tryz.ntmps26
  go_wp2
  have HK : Hid _ := Kept.made w (s.row (.slice an s.nodes.length cn) (.slice al s.links.length cl)) 30
  generalize w.alloc (.cells (s.row (.slice an s.nodes.length cn) (.slice al s.links.length cl)) 30) = w1 at HK ⊢
  generalize hbx : w.heap.size = bx at HK ⊢
  have HX : Hid _ := hbx
  clear hbx
  go_loopg [3, 25] s.nodes.length (fun g s3 s25 wr => ∃ (j : Nat) (z : Int), s25 = .int .i64 j ∧ s3 = .int .i64 z ∧ j ≤ s.nodes.length ∧ s.nodes.length - j ≤ g ∧ Hid (Kept w wr bx (s.row (.slice an s.nodes.length cn) (.slice al s.links.length cl)) 30))
  case atStart => exact ⟨0, 0, rfl, rfl, by omega, by omega, HK⟩
  case round => as_aux_lemma =>
    clear HK
    obtain ⟨j, z, rfl, rfl, hj, hg, HK⟩ := hrel
    by_cases hlt : j < s.nodes.length
    · obtain ⟨b, o, cs, ha, hp, ⟨vp, vx, hcs, hft, hps, hxs⟩, hload⟩ := row_at (H.out.nodes.below HK.out.below) j hlt
      subst ha hcs
      obtain ⟨ap, cp, rfl, hpl⟩ := slice_form hps
      obtain ⟨ax, cx, rfl, hxl⟩ := slice_form hxs
      have HP : Hid (Pieces (· < w.heap.size) wr (.slice ap s.nodes[j].pieces.length cp) s.nodes[j].pieces ∧ Xattrs (· < w.heap.size) wr (.slice ax s.nodes[j].xattrs.length cx) s.nodes[j].xattrs) := ⟨hps, hxs⟩
      unfold fitsS at hft
      clear hps hxs hp
      generalize s.nodes[j] = nd at *
      by_cases hp1 : 120 < nd.pieces.length
      · go_wp2_with (refine Elem.wpList_elem rfl rfl rfl 60 (.tmp 27) (.tmp 28) (.tmp 5) rfl rfl rfl rfl b (o + j * 13) rfl _ hload _ Tryz.underlying60 rfl _ Tryz.zeroValue60 rfl (by kernel_rfl) rfl rfl rfl ?_)
        go_ret
        exact ⟨false, rfl, HK.out.below.trans ((below_alloc _ _).mono HK.out.below.size)⟩
      by_cases hp2 : 120 < nd.xattrs.length
      · go_wp2_with (refine Elem.wpList_elem rfl rfl rfl 60 (.tmp 27) (.tmp 28) (.tmp 5) rfl rfl rfl rfl b (o + j * 13) rfl _ hload _ Tryz.underlying60 rfl _ Tryz.zeroValue60 rfl (by kernel_rfl) rfl rfl rfl ?_)
        go_ret
        exact ⟨false, rfl, HK.out.below.trans ((below_alloc _ _).mono HK.out.below.size)⟩
      have hp1' : nd.pieces.length ≤ 120 := by omega
      have hp2' : nd.xattrs.length ≤ 120 := by omega
      clear hp1 hp2 hpl hxl
      go_wp2_with (refine Elem.wpList_elem rfl rfl rfl 60 (.tmp 27) (.tmp 28) (.tmp 5) rfl rfl rfl rfl b (o + j * 13) rfl _ hload _ Tryz.underlying60 rfl _ Tryz.zeroValue60 rfl (by kernel_rfl) rfl rfl rfl ?_)
      clear hload
      have HN : Hid _ := Kept.made wr (nd.row (.slice ap nd.pieces.length cp) (.slice ax nd.xattrs.length cx)) 60
      have HK2 : Hid _ := HK.out.on (below_alloc wr (.cells (nd.row (.slice ap nd.pieces.length cp) (.slice ax nd.xattrs.length cx)) 60))
      have HS : Hid (w.heap.size ≤ wr.heap.size) := HK.out.below.size
      clear HK
      generalize wr.alloc (.cells (nd.row (.slice ap nd.pieces.length cp) (.slice ax nd.xattrs.length cx)) 60) = w2 at HK2 HN ⊢
      obtain ⟨nb, hnb⟩ : ∃ nb, nb = wr.heap.size := ⟨_, rfl⟩
      rw [← hnb] at HN ⊢
      have HB : Hid (nb = wr.heap.size) := hnb
      clear hnb
      obtain ⟨wo, rfl⟩ : ∃ wo : World, wo = wr := ⟨_, rfl⟩
      go_loopg [3, 48] nd.pieces.length (fun g s3 s48 w3 => ∃ (q : Nat) (z : Int), s48 = .int .i64 q ∧ s3 = .int .i64 z ∧ q ≤ nd.pieces.length ∧ nd.pieces.length - q ≤ g ∧
        Hid (Kept w w3 bx (s.row (.slice (some ⟨b, o, none⟩) s.nodes.length cn) (.slice al s.links.length cl)) 30 ∧ Kept wo w3 nb (nd.row (.slice ap nd.pieces.length cp) (.slice ax nd.xattrs.length cx)) 60))
      case atStart => exact ⟨0, _, rfl, rfl, by omega, by omega, HK2.out, HN.out⟩
      case round => as_aux_lemma =>
        clear HN HK2
        obtain ⟨q, z1, rfl, rfl, hq, hg1, HK3⟩ := hrel
        by_cases hq1 : q < nd.pieces.length
        · obtain ⟨b2, o2, cs, ha, hp, ⟨hcs, hft2⟩, hload⟩ := row_at (HP.out.1.below (HK3.out.2.below.mono HS.out)) q hq1
          subst ha hcs
          generalize nd.pieces[q] = pc at *
          unfold fitsS at hft2
          clear hp
          go_wp2_with (refine Elem.wpList_elem rfl rfl rfl 81 (.tmp 50) (.tmp 51) (.tmp 7) rfl rfl rfl rfl b2 (o2 + q * 4) rfl _ hload _ Tryz.underlying81 rfl _ Tryz.zeroValue81 rfl (by kernel_rfl) rfl rfl rfl ?_)
          have HK4 : Hid _ := HK3.out.1.on (below_alloc wr (.cells pc.row 81))
          have HN4 : Hid _ := HK3.out.2.on (below_alloc wr (.cells pc.row 81))
          clear HK3 hload
          go_roundg (nd.pieces.length - (q + 1))
          case measure => omega
          case rel => exact ⟨q + 1, _, by go_num, rfl, by omega, by omega, HK4.out, HN4.out⟩
        · have c12 := cell_at HK3.out.2.box 12
          simp only [List.getElem?_toArray, List.getElem?_cons_zero, List.getElem?_cons_succ] at c12
          go_wp2
          clear c12
          go_loopg [3, 63] nd.xattrs.length (fun g s3 s63 w3 => ∃ (q : Nat) (z : Int), s63 = .int .i64 q ∧ s3 = .int .i64 z ∧ q ≤ nd.xattrs.length ∧ nd.xattrs.length - q ≤ g ∧
            Hid (Kept w w3 bx (s.row (.slice (some ⟨b, o, none⟩) s.nodes.length cn) (.slice al s.links.length cl)) 30 ∧ Kept wo w3 nb (nd.row (.slice ap nd.pieces.length cp) (.slice ax nd.xattrs.length cx)) 60))
          case atStart => exact ⟨0, _, rfl, rfl, by omega, by omega, HK3⟩
          case round => as_aux_lemma =>
            clear HK3
            obtain ⟨q2, z2, rfl, rfl, hq2, hg2, HK4⟩ := hrel
            by_cases hq3 : q2 < nd.xattrs.length
            · obtain ⟨b3, o3, cs, ha, hp, ⟨hcs, hft3, hft4⟩, hload⟩ := row_at (HP.out.2.below (HK4.out.2.below.mono HS.out)) q2 hq3
              subst ha hcs
              generalize nd.xattrs[q2] = xc at *
              unfold fitsS at hft3 hft4
              clear hp
              go_wp2_with (refine Elem.wpList_elem rfl rfl rfl 83 (.tmp 65) (.tmp 66) (.tmp 9) rfl rfl rfl rfl b3 (o3 + q2 * 5) rfl _ hload _ Tryz.underlying83 rfl _ Tryz.zeroValue83 rfl (by kernel_rfl) rfl rfl rfl ?_)
              have HK5 : Hid _ := HK4.out.1.on (below_alloc wr (.cells xc.row 83))
              have HN5 : Hid _ := HK4.out.2.on (below_alloc wr (.cells xc.row 83))
              clear HK4 hload
              go_roundg (nd.xattrs.length - (q2 + 1))
              case measure => omega
              case rel => exact ⟨q2 + 1, _, by go_num, rfl, by omega, by omega, HK5.out, HN5.out⟩
            · by_cases hz : 16384 < z2
              · go_wp2
                go_ret
                exact ⟨false, rfl, HK4.out.1.below⟩
              · have hz' : z2 ≤ 16384 := by omega
                clear hz
                go_wp2
                go_roundg (s.nodes.length - (j + 1))
                case measure => omega
                case rel => exact ⟨j + 1, _, by go_num, rfl, by omega, by omega, HK4.out.1⟩
    · have c9 := cell_at HK.out.box 9
      simp only [List.getElem?_toArray, List.getElem?_cons_zero, List.getElem?_cons_succ] at c9
      go_wp2
      clear c9
      go_loopg [3, 86] s.links.length (fun g s3 s86 w3 => ∃ (q : Nat) (z : Int), s86 = .int .i64 q ∧ s3 = .int .i64 z ∧ q ≤ s.links.length ∧ s.links.length - q ≤ g ∧ Hid (Below w.heap.size w w3))
      case atStart => exact ⟨0, _, rfl, rfl, by omega, by omega, HK.out.below⟩
      case round => as_aux_lemma =>
        clear HK
        obtain ⟨q, z1, rfl, rfl, hq, hg1, HK3⟩ := hrel
        by_cases hq1 : q < s.links.length
        · obtain ⟨b2, o2, cs, ha, hp, ⟨hcs, hft2⟩, hload⟩ := row_at (H.out.links.below HK3.out) q hq1
          subst ha hcs
          generalize s.links[q] = lk at *
          unfold fitsS at hft2
          clear hp
          by_cases hz : 16384 < wrap64 (z1 + min (lk.name.size : Int) 16384)
          · go_wp2_with (refine Elem.wpList_elem rfl rfl rfl 62 (.tmp 88) (.tmp 89) (.tmp 11) rfl rfl rfl rfl b2 (o2 + q * 25) rfl _ hload _ Tryz.underlying62 rfl _ Tryz.zeroValue62 rfl (by kernel_rfl) rfl rfl rfl ?_)
            go_ret
            exact ⟨false, rfl, HK3.out.trans ((below_alloc _ _).mono HK3.out.size)⟩
          · have hz' : wrap64 (z1 + min (lk.name.size : Int) 16384) ≤ 16384 := by omega
            clear hz
            go_wp2_with (refine Elem.wpList_elem rfl rfl rfl 62 (.tmp 88) (.tmp 89) (.tmp 11) rfl rfl rfl rfl b2 (o2 + q * 25) rfl _ hload _ Tryz.underlying62 rfl _ Tryz.zeroValue62 rfl (by kernel_rfl) rfl rfl rfl ?_)
            have HK4 : Hid (Below w.heap.size w (wr.alloc (.cells lk.row 62))) := HK3.out.trans ((below_alloc _ _).mono HK3.out.size)
            go_roundg (s.links.length - (q + 1))
            case measure => omega
            case rel => exact ⟨q + 1, _, by go_num, rfl, by omega, by omega, HK4⟩
        · go_wp2
          go_ret
          exact ⟨true, rfl, HK3.out⟩

/-- lists of events, as a variadic parameter has them -/
def EventLists (p : Nat → Prop) (w : World) (v : Value) (ls : List (List Event)) : Prop := SliceOf 1 (fun w cs l => ∃ v, cs = [v] ∧ Events p w v l) p w v ls
set_option maxHeartbeats 8000000 in
theorem smalls_any (v : Value) (ls : List (List Event)) (w : World) (h : EventLists (· < w.heap.size) w v ls) :
    Calls Tryz.prog 6 #[v] w (SomeB w) := by
  obtain ⟨a, c, rfl, hn⟩ := slice_form h
  have H : Hid _ := h
  clear h
  go_enter Tryz.func6, Tryz.ntmps6
  go_wp2
  go_loopg [3, 10] ls.length (fun g s3 s10 wr => ∃ (j : Nat) (z : Int), s10 = .int .i64 j ∧ s3 = .int .i64 z ∧ j ≤ ls.length ∧ ls.length - j ≤ g ∧ Hid (Below w.heap.size w wr))
  case atStart => exact ⟨0, 0, rfl, rfl, by omega, by omega, Below.refl _ _⟩
  case round => as_aux_lemma =>
    obtain ⟨j, z, rfl, rfl, hj, hg, HK⟩ := hrel
    by_cases hlt : j < ls.length
    · obtain ⟨b, o, cs, ha, hp, ⟨v, hcs, hev⟩, hload⟩ := row_at (SliceOf.below H.out HK.out (fun cs l ⟨v, h1, h2⟩ => ⟨v, h1, h2.below HK.out⟩)) j hlt
      subst ha hcs
      obtain ⟨ae, ce, rfl, hle⟩ := slice_form hev
      have hcell : wr.cell? ⟨b, o + j, none⟩ = some (.slice ae ls[j].length ce) := by
        have := hload 0 _ rfl
        rw [Nat.mul_one] at this
        exact this
      have HE : Hid (Events (· < w.heap.size) wr (.slice ae ls[j].length ce) ls[j]) := hev
      clear hload hev
      generalize ls[j] = l at *
      by_cases hz : 60 < wrap64 (z + min (l.length : Int) 61)
      · go_wp2
        go_ret
        exact ⟨false, rfl, HK.out⟩
      have hz' : wrap64 (z + min (l.length : Int) 61) ≤ 60 := by omega
      clear hz
      go_wp2
      clear hz' hcell
      have HS : Hid (w.heap.size ≤ wr.heap.size) := HK.out.size
      obtain ⟨wo, rfl⟩ : ∃ wo : World, wo = wr := ⟨_, rfl⟩
      go_loopg [23] l.length (fun g s23 w3 => ∃ (q : Nat), s23 = .int .i64 q ∧ q ≤ l.length ∧ l.length - q ≤ g ∧ Hid (Below wo.heap.size wo w3))
      case atStart => exact ⟨0, rfl, by omega, by omega, Below.refl _ _⟩
      case round => as_aux_lemma =>
        obtain ⟨q, rfl, hq, hg1, HK3⟩ := hrel
        by_cases hq1 : q < l.length
        · obtain ⟨b2, o2, cs, ha, hp, ⟨vn, vl, hcs, hst⟩, hload⟩ := row_at (HE.out.below (HK3.out.mono HS.out)) q hq1
          subst ha hcs
          generalize l[q] = ev at *
          obtain ⟨an, cn, rfl, hn⟩ := slice_form hst.nodes
          obtain ⟨al, cl, rfl, hl⟩ := slice_form hst.links
          have HV : Hid (StateR (· < w.heap.size) wr (.slice an ev.delta.nodes.length cn) (.slice al ev.delta.links.length cl) ev.delta) := hst
          clear hst hp hn hl
          go_wp2_with (first
            | (refine Elem.wpList_elem rfl rfl rfl 32 (.tmp 25) (.tmp 26) (.tmp 7) rfl rfl rfl rfl b2 (o2 + q * 21) rfl _ hload _ Tryz.underlying32 rfl _ Tryz.zeroValue32 rfl (by kernel_rfl) rfl rfl rfl ?_)
            | fail)
          have HW : Hid (Kept wo (wr.alloc (.cells (ev.row (.slice an ev.delta.nodes.length cn) (.slice al ev.delta.links.length cl)) 32)) wr.heap.size (ev.row (.slice an ev.delta.nodes.length cn) (.slice al ev.delta.links.length cl)) 32) :=
            ⟨HK3.out.trans ((below_alloc _ _).mono HK3.out.size), heap_alloc_last _ _⟩
          have HT : Hid _ := (HV.out.mono (p' := (· < wr.heap.size)) (fun k hk => Nat.lt_of_lt_of_le hk (Nat.le_trans HS.out HK3.out.size))).on (below_alloc wr (.cells (ev.row (.slice an ev.delta.nodes.length cn) (.slice al ev.delta.links.length cl)) 32))
          generalize wr.alloc (.cells (ev.row (.slice an ev.delta.nodes.length cn) (.slice al ev.delta.links.length cl)) 32) = w1 at HW HT ⊢
          generalize wr.heap.size = bx at HW ⊢
          refine (small_any ev.delta _ _ w1 HT.out).mono ?_
          rintro e w2 ⟨x, rfl, hb2⟩
          have HW2 : Hid _ := HW.out.on hb2
          clear hb2 HT HW HV hload HK3
          cases x with
          | false =>
            go_wp2_with fail
            go_ret
            exact ⟨false, rfl, HK.out.trans (HW2.out.below.mono HS.out)⟩
          | true =>
            have c19 := cell_at HW2.out.box 19
            have c20 := cell_at HW2.out.box 20
            simp only [List.getElem?_toArray, List.getElem?_cons_zero, List.getElem?_cons_succ] at c19 c20
            by_cases h10 : 10 < ev.delta.nodes.length
            · go_wp2_with fail
              go_ret
              exact ⟨false, rfl, HK.out.trans (HW2.out.below.mono HS.out)⟩
            by_cases h20 : 20 < ev.delta.links.length
            · go_wp2_with fail
              go_ret
              exact ⟨false, rfl, HK.out.trans (HW2.out.below.mono HS.out)⟩
            have h10' : ev.delta.nodes.length ≤ 10 := by omega
            have h20' : ev.delta.links.length ≤ 20 := by omega
            clear h10 h20
            go_wp2_with fail
            clear c19 c20
            go_roundg (l.length - (q + 1))
            case measure => omega
            case rel => exact ⟨q + 1, by go_num, by omega, by omega, HW2.out.below⟩
        · go_wp2
          go_roundg (ls.length - (j + 1))
          case measure => omega
          case rel => exact ⟨j + 1, _, by go_num, rfl, by omega, by omega, HK.out.trans (HK3.out.mono HS.out)⟩
    · go_wp2
      go_ret
      exact ⟨true, rfl, HK.out⟩
end Go.Proofs.YtehkhlmpkhnbmaaGreat.Mod
