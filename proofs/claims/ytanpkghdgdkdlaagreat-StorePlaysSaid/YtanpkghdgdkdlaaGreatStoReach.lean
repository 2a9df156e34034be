/- Layer 6: reach. -/
import Derived.Test.YtanpkghdgdkdlaaGreatStoGrow
import Derived.Test.YtanpkghdgdkdlaaGreatStoFormat
import Derived.Lib.MinMax
namespace Go.Proofs.YtanpkghdgdkdlaaGreat.Sto
set_option linter.unusedVariables false
set_option linter.unusedSimpArgs false
set_option maxRecDepth 100000
open Go.RowKit Go.Lib Go.Proofs.YtanpkghdgdkdlaaGreat.Mem Go.Proofs.YtanpkghdgdkdlaaGreat.Oct Go.Proofs.YtanpkghdgdkdlaaGreat.Dev

/-- the set of those above -/
def AboveAt (w : World) (g : Nat) (A : Int → Bool) : Prop := IsI keptV w g (fun i => if A i = true then some () else none)
theorem AboveAt.look {w : World} {g : Nat} {A : Int → Bool} (h : AboveAt w g A) (i : Int) : (Instr.lookup 99 (.map (some g)) (.int .i64 i) false).run Tryz.prog w = .ok (.bool (A i)) w := by
  have hl := IsI.look1 h (P := Tryz.prog) Tryz.underlying99 Tryz.underlying3 (zero_bool w) i
  rw [hl]
  cases hk : A i <;> simp [hk]
theorem AboveAt.put {w : World} {g : Nat} {A : Int → Bool} (h : AboveAt w g A) (i : Int) : ∃ w', (Instr.mapUpdate 99 (.map (some g)) (.int .i64 i) (.bool true)).run Tryz.prog w = .ok () w' ∧ AboveAt w' g (fun j => if j = i then true else A j) ∧ Chg [g] w w' := by
  obtain ⟨w1, hrun, hm1, hc1⟩ := IsI.put h (P := Tryz.prog) Tryz.underlying99 Tryz.underlying3 i ()
  refine ⟨w1, hrun, hm1.congr (fun j => ?_), hc1⟩
  by_cases hj : j = i
  · subst hj; rw [upd_same]; simp
  · rw [upd_other _ _ _ hj]; simp [hj]
theorem AboveAt.del {w : World} {g : Nat} {A : Int → Bool} {i : Int} (h : AboveAt w g (fun j => if j = i then true else A j)) (hi : A i = false) : ∃ w', (∀ ty, (Builtin.delete_ #[99, 3] ty #[.map (some g), .int .i64 i]).run Tryz.prog w = .ok (.tuple #[]) w') ∧ AboveAt w' g A ∧ Chg [g] w w' := by
  obtain ⟨w1, hrun, hm1, hc1⟩ := IsI.del h (P := Tryz.prog) Tryz.underlying99 Tryz.underlying3 i 0 3
  refine ⟨w1, fun ty => hrun, hm1.congr (fun j => ?_), hc1⟩
  by_cases hj : j = i
  · subst hj; rw [upd_same, hi]; simp
  · rw [upd_other _ _ _ hj]; simp [hj]
theorem AboveAt.chg {w w' : World} {g : Nat} {A : Int → Bool} {T : List Nat} (h : AboveAt w g A) (hc : Chg T w w') (hT : g ∉ T) : AboveAt w' g A := IsI.touch h hc hT
/-- a map that is none of a store's turns -/
theorem StAt.off {w w' : World} {B : Blk} {S : StS} {D : DevS} {g : Nat} {A : Int → Bool} (h : StAt w B S D) (hg : AboveAt w g A) (hng : g ∉ B.all) (hc : Chg [g] w w') : StAt w' B S D := by
  simp only [Blk.all, List.mem_cons, List.mem_nil_iff, or_false, not_or] at hng
  obtain ⟨n1, n2, n3, n4, n5, n6⟩ := hng
  obtain ⟨mm, hm⟩ := h.cells
  refine ⟨(hc.block _ (heap_lt h.box) (by simpa using Ne.symm n1)).trans h.box, h.dev.of_touch hc (by simpa using Ne.symm n2) (by simpa using Ne.symm n3) (by simpa using Ne.symm n4), ⟨mm, hm.is.touch hc (by simpa using Ne.symm n5), hm.eq, fun i c a k hi => ?_⟩, h.kept.touch hc (by simpa using Ne.symm n6), h.nd, h.small, fun q hq => Nat.lt_of_lt_of_le (h.low q hq) hc.size⟩
  obtain ⟨es, clock, hb, _⟩ := hg
  rcases hm.kids i c a k hi with hk | ⟨b, o, q, e, hp, hl, hcell⟩
  · exact .inl hk
  · by_cases hz : c.kids.length = 0
    · exact .inl ⟨List.length_eq_zero_iff.1 hz, a, k, by rw [hz]⟩
    · have hbg : b ≠ g := by
        rintro rfl
        have := hcell 0 (by omega)
        simp [World.cell?, hb] at this
      exact .inr ⟨b, o, q, e, hp, hl, fun j hj => by rw [hc.cell (by simpa using hbg) (hcell j hj)]⟩
def ReachPost (w : World) (B : Blk) (g : Nat) (D : DevS) (A : Int → Bool) (r : Except Int (Int × StS)) (e : Ending) (w' : World) : Prop := match r with
  | .ok (h, S') => e = .returned (.tuple #[.int .i64 h, .int .i64 0]) ∧ StAt w' B S' D ∧ AboveAt w' g A ∧ Chg (g :: B.all) w w'
  | .error x => e = .returned (.tuple #[.int .i64 0, .int .i64 x]) ∧ (∃ S', StAt w' B S' D) ∧ Chg (g :: B.all) w w'
theorem reach_above (w : World) (B : Blk) (g : Nat) (S : StS) (D : DevS) (A : Int → Bool) (i : Int) (f : Nat) (h : StAt w B S D) (hg : AboveAt w g A) (ha : A i = true) :
    Calls Tryz.prog 48 #[.pointer (some ⟨B.s, 0, none⟩), .int .i64 i, .map (some g)] w (ReachPost w B g D A (reachF D f S A i)) := by
  have hr : reachF D f S A i = .error 5 := by cases f <;> (rw [reachF, reachK, if_pos ha])
  rw [hr]
  have hl := hg.look i
  rw [ha] at hl
  have H : Hid (StAt w B S D) := h
  clear h hg ha hr
  go_enter Tryz.func48, Tryz.ntmps48
  go_wp2
  go_ret2
  exact ⟨rfl, ⟨S, H.out⟩, Chg.refl _ _⟩
theorem unk_none {K : Int → Bool} {n : Nat} {i : Int} (h : unk K n = 0) (hi : 0 ≤ i ∧ i < n) : K i = true := by
  cases hk : K i with
  | true => rfl
  | false =>
    obtain ⟨q, rfl⟩ := Int.eq_ofNat_of_zero_le hi.1
    have := unk_pos n q (by omega) hk
    omega
abbrev above1 (A : Int → Bool) (i : Int) : Int → Bool := fun j => if j = i then true else A j
set_option maxHeartbeats 16000000 in
theorem reach_any (D : DevS) (B : Blk) (g n : Nat) (hD : D.n = n) (hn : n ≤ 4096) (hng : g ∉ B.all) : ∀ (f : Nat) (w : World) (S : StS) (A : Int → Bool) (pd : List Int) (i : Int), StAt w B S D → AboveAt w g A → WF n S pd → unk A n ≤ f → pd.length + 16 * f ≤ 1000000 → (2 ≤ i ∧ i < n) →
    Calls Tryz.prog 48 #[.pointer (some ⟨B.s, 0, none⟩), .int .i64 i, .map (some g)] w (ReachPost w B g D A (reachF D f S A i)) := by
  intro f
  induction f with
  | zero =>
    intro w S A pd i h hg hw hu hp hi
    exact reach_above w B g S D A i 0 h hg (unk_none (by omega) ⟨by omega, hi.2⟩)
  | succ f ih =>
    intro w S A pd i h hg hw hu hp hi
    cases ha : A i with
    | true => exact reach_above w B g S D A i _ h hg ha
    | false =>
      obtain ⟨R, hR⟩ : ∃ R, R = reachF D (f + 1) S A i := ⟨_, rfl⟩
      rw [← hR]
      rw [reachF, reachK, if_neg (by simp [ha])] at hR
      have hl := hg.look i
      rw [ha] at hl
      obtain ⟨c0, c1, c2, c3, c4, c5, cf⟩ := h.cell
      obtain ⟨mm, hm⟩ := h.cells
      have HLX : Hid (∀ q ∈ B.x, q < w.heap.size) := h.low
      cases hc : S.cells i with
      | some c =>
        rw [hc] at hR
        dsimp only at hR
        obtain ⟨a, k, hlk, hk⟩ := hm.get2 i hc
        have H : Hid (StAt w B S D ∧ AboveAt w g A) := ⟨h, hg⟩
        clear h hg hm hk ih c0 c1 c2 c3 c5 hw hu
        go_enter Tryz.func48, Tryz.ntmps48
        go_wp2
        go_ret2
        rw [hR]
        have hb := (Below.refl w.heap.size w).alloc (Nat.le_refl _) (.cells #[.int .i64 c.named, .int .i64 c.held, .int .i64 c.high, .slice a c.kids.length k] 123)
        exact ⟨rfl, H.out.1.on hb, H.out.2.chg (T := []) (Chg.of_below hb) (by simp), Chg.of_below hb⟩
      | none =>
        rw [hc] at hR
        dsimp only at hR
        have hlk : (Instr.lookup 98 (.map (some B.c)) (.int .i64 i) true).run Tryz.prog w = .ok (.tuple #[.agg #[.int .i64 0, .int .i64 0, .int .i64 0, .slice none 0 0], .bool false]) w := hm.get2n i hc
        have HR : Hid (R = _) := hR
        have HI : Hid (∀ (w : World) (S : StS) (A : Int → Bool) (pd : List Int) (i : Int), StAt w B S D → AboveAt w g A → WF n S pd → unk A n ≤ f → pd.length + 16 * f ≤ 1000000 → (2 ≤ i ∧ i < n) →
          Calls Tryz.prog 48 #[.pointer (some ⟨B.s, 0, none⟩), .int .i64 i, .map (some g)] w (ReachPost w B g D A (reachF D f S A i))) := ih
        have H : Hid (StAt w B S D ∧ AboveAt w g A) := ⟨h, hg⟩
        have HW : Hid (WF n S pd ∧ unk A n ≤ f + 1 ∧ pd.length + 16 * (f + 1) ≤ 1000000 ∧ (2 ≤ i ∧ i < n) ∧ A i = false ∧ S.cells i = none) := ⟨hw, hu, hp, hi, ha, hc⟩
        clear h hg hm ih c0 c1 c2 c3 c5 hw hu hp hi hR ha hc
        go_enter Tryz.func48, Tryz.ntmps48
        go_wp2_with fail
        have hb0 := (Below.refl w.heap.size w).alloc (Nat.le_refl _) (.cells #[.int .i64 0, .int .i64 0, .int .i64 0, .slice none 0 0] 123)
        have H0 : Hid (Below w.heap.size w (w.alloc (.cells #[.int .i64 0, .int .i64 0, .int .i64 0, .slice none 0 0] 123))) := hb0
        generalize w.alloc (.cells #[.int .i64 0, .int .i64 0, .int .i64 0, .slice none 0 0] 123) = w1 at H0 ⊢
        clear hb0 hl hlk c4 cf
        refine (read_any w1 B S D i (H.out.1.on H0.out)).mono ?_
        rintro e w2 ⟨a, m, c, d, rfl, his, hb⟩
        have H2 : Hid (Below w.heap.size w w2 ∧ w.heap.size ≤ w1.heap.size) := ⟨H0.out.trans (hb.mono H0.out.size), H0.out.size⟩
        clear hb H0
        cases hrd : (readP D i).2 with
        | none =>
          have he := readP_err hrd
          have HR2 : Hid (R = .error (readP D i).1) := by rw [HR.out, hrd]; exact rfl
          obtain ⟨x, hx⟩ : ∃ x, x = (readP D i).1 := ⟨_, rfl⟩
          rw [← hx] at he HR2 ⊢
          have hb : (x != 0) = true := by simp [he]
          clear hrd his HR HI he hx
          go_wp2
          go_ret2
          have hbb := H2.out.1.alloc H2.out.1.size (.cells #[.slice a m c, .string d] 58)
          rw [HR2.out]
          exact ⟨rfl, ⟨S, H.out.1.on hbb⟩, Chg.of_below hbb⟩
        | some q =>
          obtain ⟨l, d'⟩ := q
          rw [hrd] at his
          obtain ⟨rfl, hown⟩ : d = d' ∧ OwnI w1.heap.size w2 (.slice a m c) l := his
          have hin := readP_in hrd
          have hm : m = l.length := by obtain ⟨a', c', e'⟩ := hown.form; injection e'
          subst hm
          rw [hin.2.1]
          have HR2 : Hid (R = endF i l (kidsF (fun T k => reachF D f T (above1 A i) k) l 0 S)) := by rw [HR.out, hrd]; exact rfl
          have hl16 := hin.1.1
          have hints := hown.ints (by omega)
          obtain ⟨w3, hw3⟩ : ∃ w3, w3 = w2.alloc (.cells #[.slice a l.length c, .string d] 58) := ⟨_, rfl⟩
          have hbb : Below w.heap.size w w3 := by rw [hw3]; exact H2.out.1.alloc H2.out.1.size _
          have hbox : w3.heap[w2.heap.size]? = some (.cells #[.slice a l.length c, .string d] 58 (0, 0)) := by rw [hw3]; exact heap_alloc_last _ _
          have hi3 : Ints (fun k => w1.heap.size ≤ k ∧ k < w2.heap.size) w3 (.slice a l.length c) l := by rw [hw3]; exact hints.chg (T := []) ((Chg.refl _ _).alloc _) (by simp)
          have hs3 : StAt w3 B S D := H.out.1.on hbb
          have hg3 : AboveAt w3 g A := H.out.2.chg (T := []) (Chg.of_below hbb) (by simp)
          obtain ⟨w4, hrun, hg4, hc4⟩ := hg3.put i
          have hglt : g < w.heap.size := IsI.lt H.out.2
          have hz : w.heap.size ≤ w2.heap.size := H2.out.1.size
          have H4 : Hid (StAt w4 B S D ∧ AboveAt w4 g (above1 A i) ∧ Chg (g :: B.all) w w4) := ⟨hs3.off hg3 hng hc4, hg4, (Chg.of_below hbb).trans (hc4.mono (by simp))⟩
          have hbox4 : w4.heap[w2.heap.size]? = some (.cells #[.slice a l.length c, .string d] 58 (0, 0)) := (hc4.block _ (heap_lt hbox) (by simp; omega)).trans hbox
          have HX4 : Hid (w4.heap[w2.heap.size]? = some (.cells #[.slice a l.length c, .string d] 58 (0, 0)) ∧ w.heap.size ≤ w2.heap.size) := ⟨hbox4, hz⟩
          have hi4 : Ints (fun k => w.heap.size ≤ k) w4 (.slice a l.length c) l := (hi3.chg hc4 (fun q hq => by have := H2.out.2; simp; omega)).mono (fun q hq => by have := H2.out.2; omega)
          have HI4 : Hid (Ints (fun k => w.heap.size ≤ k) w4 (.slice a l.length c) l) := hi4
          have x0 : w4.cell? ⟨w2.heap.size, 0, none⟩ = some (.slice a l.length c) := cell_at hbox4 0
          have HIN : Hid (∀ x ∈ l, 2 ≤ x ∧ x < n) := fun x hx => by have := hin.1.2 x hx; rw [hD] at this; exact this
          rw [hw3] at hrun
          clear hrd HR hown hin hints hw3 hbb hbox hi3 hs3 hg3 hg4 hc4 hglt hz hbox4 hi4
          go_wp2_with fail
          clear hrun x0
          have HLT : Hid (∀ q ∈ g :: B.all, q < w.heap.size) := fun q hq => by
            rcases List.mem_cons.1 hq with rfl | hq
            · exact IsI.lt H.out.2
            · exact H.out.1.lt q hq
          obtain ⟨rr, hrr⟩ : ∃ rr : StS → Int → Except Int (Int × StS), rr = fun T k => reachF D f T (above1 A i) k := ⟨_, rfl⟩
          rw [← hrr] at HR2
          have HRR : Hid (∀ T k, rr T k = reachF D f T (above1 A i) k) := fun T k => by rw [hrr]
          have HU : Hid (unk (above1 A i) n ≤ f) := by
            have := unk_set (K := A) (i := i) HW.out.2.2.2.2.1 n (by have := HW.out.2.2.2.1; omega) HW.out.2.2.2.1.2
            have h2 := HW.out.2.1
            show unk (fun j => if j = i then true else A j) n ≤ f
            omega
          clear hrr
          go_loopw [12, 46] (fun v12 v46 wr => ∃ (j : Nat) (T : StS) (h : Int), j ≤ l.length ∧ v12 = .int .i64 h ∧ v46 = .int .i64 j ∧ 0 ≤ h ∧ h ≤ 64 ∧ Hid (StAt wr B T D ∧ AboveAt wr g (above1 A i) ∧ WF n T ((l.take j).reverse ++ pd) ∧ Chg (g :: B.all) w wr ∧ Chg (g :: B.all) w4 wr ∧ kidsF rr (l.drop j) h T = kidsF rr l 0 S)) (fun _ v46 _ => l.length - (intOf v46).toNat)
          case atStart => exact ⟨0, S, 0, by omega, rfl, rfl, by omega, by omega, H4.out.1, H4.out.2.1, HW.out.1, H4.out.2.2, Chg.refl _ _, rfl⟩
          case round =>
            obtain ⟨j, T, h, hj, rfl, rfl, hh0, hh1, HT⟩ := hrel
            by_cases hlt : j < l.length
            · have hdr : l.drop j = l[j] :: l.drop (j + 1) := List.drop_eq_getElem_cons hlt
              obtain ⟨a', k', e', _, hcell⟩ := (Ints.chg HI4.out HT.out.2.2.2.2.1 (fun q hq hm => by have := HLT.out q hm; omega)).form
              obtain ⟨b, o, ha, hcj⟩ := hcell j hlt
              have haa : a = a' := by injection e'
              subst haa
              subst ha
              have htk : (l.take (j + 1)).reverse = l[j] :: (l.take j).reverse := by rw [List.take_add_one, List.getElem?_eq_getElem hlt]; simp
              obtain ⟨kj, hkj⟩ : ∃ kj, kj = l[j] := ⟨_, rfl⟩
              have hkin := HIN.out kj (by rw [hkj]; exact List.getElem_mem hlt)
              rw [← hkj] at hcj hdr htk
              have hfold := HT.out.2.2.2.2.2
              rw [hdr, kidsF, HRR.out] at hfold
              have hplen : ((l.take j).reverse ++ pd).length + 16 * f ≤ 1000000 := by
                have := HW.out.2.2.1
                simp [List.length_take]
                omega
              have hcall := HI.out wr T (above1 A i) _ kj HT.out.1 HT.out.2.1 HT.out.2.2.1 HU.out hplen hkin
              have HTK : Hid ((l.take (j + 1)).reverse = kj :: (l.take j).reverse) := htk
              cases hk : reachF D f T (above1 A i) kj with
              | error x =>
                rw [hk] at hcall hfold
                have HR3 : Hid (R = .error x) := by rw [HR2.out, ← hfold]; exact rfl
                have hx := reach_err f T (above1 A i) kj x hk
                have hb : (x != 0) = true := by simp [hx]
                clear e' hcell hdr hfold hkj hkin hplen htk hk hx HI HR2
                go_wp2_with (first
                  | (go_at_call 48; refine hcall.mono ?_; rintro e w5 ⟨rfl, hs5, hc5⟩; have H5 : Hid ((∃ S', StAt w5 B S' D) ∧ Chg (g :: B.all) w w5) := ⟨hs5, HT.out.2.2.2.1.trans hc5⟩; clear hs5 hc5 hcall)
                  | fail)
                go_ret2
                rw [HR3.out]
                exact ⟨rfl, H5.out⟩
              | ok p =>
                obtain ⟨h', T'⟩ := p
                rw [hk] at hcall hfold
                have hre := reach_ok hD hn f T (above1 A i) kj _ h' T' HT.out.2.2.1 hplen hkin hk
                have hcel := has_iff.1 hre.has
                obtain ⟨ck, hck⟩ := hcel
                have hh' : 1 ≤ h' ∧ h' ≤ 64 := by
                  have h1 := hre.high
                  rw [cel_some hck] at h1
                  have h2 := hre.wf.high kj ck hck
                  rw [h1] at h2
                  exact h2
                have hrange : Hid (-9223372036854775808 ≤ (T'.cel kj).named + 1 ∧ (T'.cel kj).named + 1 ≤ 9223372036854775807) := by
                  rw [cel_some hck]
                  have h1 := hre.wf.named kj ck hck
                  have h2 := hre.wf.top kj ck hck
                  exact ⟨by omega, by omega⟩
                have HN : Hid (WF n (T'.name kj 1) ((l.take (j + 1)).reverse ++ pd) ∧ kidsF rr (l.drop (j + 1)) (max h h') (T'.name kj 1) = kidsF rr l 0 S) := by
                  refine ⟨?_, hfold⟩
                  rw [HTK.out]
                  exact hre.wf.more hre.has hn (by omega)
                obtain ⟨hh2, hh3⟩ := hh'
                clear e' hcell hdr hfold hkj hkin hplen htk hk HI hre hck
                go_wp2_with (first
                  | (go_at_call 48; refine hcall.mono ?_; rintro e w5 ⟨rfl, hs5, hg5, hc5⟩; have H5 : Hid (StAt w5 B T' D ∧ AboveAt w5 g (above1 A i) ∧ Chg (g :: B.all) w w5 ∧ Chg (g :: B.all) w4 w5) := ⟨hs5, hg5, HT.out.2.2.2.1.trans hc5, HT.out.2.2.2.2.1.trans hc5⟩; clear hs5 hg5 hc5 hcall)
                  | (go_at_call 85; refine (name_any _ B T' D kj 1 H5.out.1 hrange.out).mono ?_; rintro e w6 ⟨rfl, hs6, hc6⟩; have H6 : Hid (StAt w6 B (T'.name kj 1) D ∧ AboveAt w6 g (above1 A i) ∧ Chg (g :: B.all) w w6 ∧ Chg (g :: B.all) w4 w6) := ⟨hs6, H5.out.2.1.chg hc6 hng, H5.out.2.2.1.trans (hc6.mono (fun t ht => List.mem_cons_of_mem _ ht)), H5.out.2.2.2.trans (hc6.mono (fun t ht => List.mem_cons_of_mem _ ht))⟩; clear hs6 hc6)
                  | fail)
                go_roundw
                case rel => exact ⟨j + 1, _, max h h', by omega, rfl, by go_num, by omega, by omega, H6.out.1, H6.out.2.1, HN.out.1, H6.out.2.2.1, H6.out.2.2.2, HN.out.2⟩
                case measure => simp [intOf]; omega
            · have hjl : j = l.length := by omega
              subst hjl
              have HK : Hid (kidsF rr l 0 S = .ok (h, T)) := by
                have := HT.out.2.2.2.2.2
                rw [List.drop_length] at this
                exact this.symm
              by_cases h64 : 64 ≤ h
              · have HR3 : Hid (R = .error 5) := by rw [HR2.out, HK.out, endF, if_pos h64]; exact rfl
                have HT2 : Hid (StAt wr B T D ∧ Chg (g :: B.all) w wr) := ⟨HT.out.1, HT.out.2.2.2.1⟩
                clear HT HR2 HI
                go_wp2
                go_ret2
                rw [HR3.out]
                exact ⟨rfl, ⟨T, HT2.out.1⟩, HT2.out.2⟩
              · have HR3 : Hid (R = .ok (h + 1, T.setC i (some ⟨0, 0, h + 1, l⟩))) := by rw [HR2.out, HK.out, endF, if_neg h64]; exact rfl
                obtain ⟨w5, hdel, hg5, hc5⟩ := AboveAt.del HT.out.2.1 HW.out.2.2.2.2.1
                have hs5 := HT.out.1.off HT.out.2.1 hng hc5
                have hcw : Chg (g :: B.all) w w5 := HT.out.2.2.2.1.trans (hc5.mono (by simp))
                have hc45 : Chg (g :: B.all) w4 w5 := HT.out.2.2.2.2.1.trans (hc5.mono (by simp))
                have hi5 : Ints (fun k => w.heap.size ≤ k) w5 (.slice a l.length c) l := Ints.chg HI4.out hc45 (fun q hq hm => by have := HLT.out q hm; omega)
                have hx5 : w5.heap[w2.heap.size]? = some (.cells #[.slice a l.length c, .string d] 58 (0, 0)) := (hc45.block _ (heap_lt HX4.out.1) (fun hm => by have h1 := HLT.out _ hm; have h2 := HX4.out.2; omega)).trans HX4.out.1
                obtain ⟨mm5, hm5⟩ := hs5.cells
                obtain ⟨w6, hrun0, hm6, ht6⟩ := hm5.is.drew.put (P := Tryz.prog) Tryz.underlying98 Tryz.underlying3 i ((⟨0, 0, h + 1, l⟩ : Cel), a, c)
                have hwr : IntKind.i64.wrap (h + 1) = h + 1 := by rw [IntKind.wrap_i64]; omega
                have hrun : (Instr.mapUpdate 98 (.map (some B.c)) (.int .i64 i) (.agg #[.int .i64 0, .int .i64 0, .int .i64 (h + 1), .slice a l.length c])).run Tryz.prog w5.drew = .ok () w6 := hrun0
                have hmD : CellsAt w5.drew B T.cells mm5 := hm5.chg (T := []) (Chg.refl _ _).drew (by simp)
                have hout : ∀ q, w.heap.size ≤ q → B.out q := fun q hq => ⟨fun hm => by have := HLT.out q (List.mem_cons_of_mem _ hm); omega, fun hm => by have := HLX.out q hm; omega⟩
                have hkD : Ints B.out w5.drew (.slice a l.length c) l := (hi5.mono hout).chg (T := []) (Chg.refl _ _).drew (by simp)
                have hcc := hmD.put (c := ⟨0, 0, h + 1, l⟩) hm6 ht6 hkD
                have hs6 : StAt w6 B (T.setC i (some ⟨0, 0, h + 1, l⟩)) D := hs5.drew.setCells ht6 hcc rfl rfl
                have hne : w2.heap.size ≠ B.c := fun e => by have h1 := HLT.out B.c (List.mem_cons_of_mem _ (by simp [Blk.all])); have h2 := HX4.out.2; omega
                have hbc : B.s ≠ B.c := by
                  have := hs5.nd
                  simp [Blk.all] at this
                  exact this.1.2.2.2.1
                have hgc : g ∉ [B.c] := fun hm => hng (B.c_mem g hm)
                have H6 : Hid (StAt w6 B (T.setC i (some ⟨0, 0, h + 1, l⟩)) D ∧ AboveAt w6 g A ∧ Chg (g :: B.all) w w6) := ⟨hs6, AboveAt.chg (hg5.chg (T := []) (Chg.refl _ _).drew (by simp)) ht6 hgc, hcw.drew.trans (ht6.mono (fun t ht => List.mem_cons_of_mem _ (B.c_mem t ht)))⟩
                have d0 : w5.drew.cell? ⟨w2.heap.size, 0, none⟩ = some (.slice a l.length c) ∧ w5.drew.cell? ⟨B.s, 4, none⟩ = some (.map (some B.c)) := ⟨cell_at hx5 0, hs5.cell.2.2.2.2.1⟩
                have d2 : w6.cell? ⟨w2.heap.size, 0, none⟩ = some (.slice a l.length c) ∧ w6.cell? ⟨B.s, 4, none⟩ = some (.map (some B.c)) := ⟨ht6.cell (by simpa using hne) d0.1, ht6.cell (by simpa using hbc) d0.2⟩
                clear HT HR2 HI hg5 hc5 hs5 hcw hc45 hi5 hx5 hm5 hrun0 hm6 ht6 hmD hout hkD hcc hs6 hne hbc hgc
                obtain ⟨bx, hbx⟩ : ∃ bx, bx = w2.heap.size := ⟨_, rfl⟩
                rw [← hbx] at d0 d2 ⊢
                clear hbx
                go_wp2_with fail
                go_region_held3 (fun w' => w'.cell? ⟨bx, 0, none⟩ = some (.slice a l.length c) ∧ w'.cell? ⟨B.s, 4, none⟩ = some (.map (some B.c)))
                  (first | exact d0 | exact d2)
                  (first | fail)
                go_wp2
                go_ret2
                rw [HR3.out]
                exact ⟨rfl, H6.out⟩
end Go.Proofs.YtanpkghdgdkdlaaGreat.Sto
