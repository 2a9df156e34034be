/- StoLawPlays StoLawsPlays: several texts of one proof, laid as one file (a claim has at most 60 files). No condition. -/
import Derived.Test.YtanpkghdgdkdlaaGreatPlG7
import Derived.Test.YtanpkghdgdkdlaaGreatPlG4
import Derived.Test.YtanpkghdgdkdlaaGreatStoAwake
import Derived.Test.YtanpkghdgdkdlaaGreatStoBfs
import Derived.Test.YtanpkghdgdkdlaaGreatRows
import Derived.Test.YtanpkghdgdkdlaaGreatLaw
import Derived.Test.YtanpkghdgdkdlaaGreatRead
import Derived.ChangeSame
/- StorePlays, walked. -/
namespace Go.Proofs.YtanpkghdgdkdlaaGreat.Sto
set_option linter.unusedVariables false
set_option linter.unusedSimpArgs false
set_option maxRecDepth 100000
open Go.RowKit Go.Lib Go.Proofs.YtanpkghdgdkdlaaGreat.Mem Go.Proofs.YtanpkghdgdkdlaaGreat.Oct Go.Proofs.YtanpkghdgdkdlaaGreat.Dev

theorem format_made {D D' : DevS} {note : ByteArray} (h : formatOut D note = (0, D', true)) : D' = made D note := by
  unfold formatOut at h
  split at h
  · injection h with _ h; injection h with _ h; cases h
  · split at h
    · injection h with _ h; injection h with _ h; cases h
    · split at h
      · injection h with _ h; injection h with _ h; cases h
      · split at h
        · injection h with _ h; injection h with _ h; cases h
        · split at h
          · injection h with _ h; injection h with _ h; cases h
          · injection h with _ h
            injection h with h _
            exact h.symm
theorem format_long {D : DevS} {note : ByteArray} (h : 3900 < note.size) : formatOut D note = (22, D, false) := by
  unfold formatOut
  rw [if_pos h]
/-- a store with nothing in it guards what one likes -/
theorem StAt.free {w : World} {B : Blk} {S : StS} {D : DevS} {L : List Nat} (h : StAt w B S D) (hno : ∀ i, S.cells i = none) (hL : ∀ q ∈ L, q < w.heap.size) : StAt w { B with x := L } S D := by
  obtain ⟨mm, hcl⟩ := h.cells
  refine ⟨h.box, h.dev, ⟨mm, ⟨hcl.is, hcl.eq, fun i c a k hi => ?_⟩⟩, h.kept, h.nd, h.small, hL⟩
  have := hcl.eq i
  rw [hi, hno] at this
  cases this
/-- slices.Clone at whole numbers: a row of one's own -/
theorem clone_own (p : Nat → Prop) (w : World) (v : Value) (l : List Int) (h : Ints p w v l) (hl : l.length * 8 ≤ 140737488351232) :
    Calls Tryz.prog 24 #[v] w fun e w' => ∃ v', e = .returned v' ∧ OwnI w.heap.size w' v' l ∧ Below w.heap.size w w' := by
  obtain ⟨a, c, rfl, hlen, hc⟩ := h.form
  obtain ⟨i0, hi, hz0, hz1, hz2⟩ := info_parts info_int
  have hq := fun (w : World) (r : Option Addr) (n c : Nat) => Lib.run_eql_slice_nil w _ _ r n c 0 0 Tryz.underlying23
  cases a with
  | none =>
    have hl0 : l = [] := by
      cases l with
      | nil => rfl
      | cons y l => obtain ⟨_, _, h1, _⟩ := hc 0 (by simp); cases h1
    subst hl0
    go_enter Tryz.func24, Tryz.ntmps24
    go_wp2
    go_ret
    exact ⟨_, rfl, OwnI.nil _ _, Below.refl _ _⟩
  | some ad =>
    have HC : Hid (∀ j (h : j < l.length), w.cell? (ad.add j) = some (.int .i64 l[j])) := by
      intro j hj
      obtain ⟨b, o, h1, h2⟩ := hc j hj
      injection h1 with h1
      subst h1
      have e : (⟨b, o, none⟩ : Addr).add j = ⟨b, o + j, none⟩ := by unfold Addr.add; simp
      rw [e]
      exact h2
    clear hc h
    go_enter Tryz.func24, Tryz.ntmps24
    go_wp2_with (first
      | (at_builtin; refine wpList_append_own _ rfl _ _ 23 rfl w.heap.size 3 i0 (.int .i64 0) 1 8 Tryz.underlying23 hi hz0 hz1 hz2 rfl (by decide) _ 0 [] rfl (World.ownsRow_made w #[] 0 (Nat.le_refl _) (by decide) rfl) ad l.length c (l.map (Value.int .i64)) rfl (by simp) ?c1 ?c2 ?c3 ?c4 ?c5 ?_)
      | fail)
    case c1 =>
      intro j u hj
      rw [List.getElem?_map] at hj
      have hb : Below w.heap.size w (w.alloc (.cells #[] 3)) := (Below.refl _ _).alloc (Nat.le_refl _) _
      by_cases hlt : j < l.length
      · rw [List.getElem?_eq_getElem hlt] at hj
        have hu : u = .int .i64 l[j] := (Option.some.inj hj).symm
        rw [hu]
        exact cell_on hb (HC.out j hlt)
      · rw [List.getElem?_eq_none (by omega)] at hj
        cases hj
    case c2 =>
      intro u hu
      obtain ⟨z, _, rfl⟩ := List.mem_map.1 hu
      rfl
    case c3 => unfold maxLen; omega
    case c4 => omega
    case c5 => simp
    · intro v' w' hown hgrow _
      have hI : OwnI w.heap.size w' v' l := by
        unfold OwnI
        simpa using hown
      have hB : Below w.heap.size w w' := ((Below.refl _ _).alloc (Nat.le_refl _) (.cells #[] 3)).trans (Oct.below_of_grown' hgrow (fun k hk => by simp [Value.ownBlock] at hk; omega) (by simp))
      have HI : Hid _ := hI
      have HB : Hid _ := hB
      clear hown hgrow hI hB
      go_wp2
      go_ret
      exact ⟨_, rfl, HI.out, HB.out⟩
/-- where both stand while a script is played -/
def Plays (w wr : World) (N b bk bd x xk xd xi j : Nat) (v1 v2 : Value) : Prop := (v1 = .pointer none ∧ v2 = .pointer none ∧ Below w.heap.size w wr) ∨
  ∃ (B : Blk) (RB : RBlk) (S : StS) (D : DevS), v1 = .pointer (some ⟨B.s, 0, none⟩) ∧ v2 = .pointer (some ⟨RB.s, 0, none⟩) ∧ Pr w wr b bk bd x xk xd xi B RB S D S D ∧ Inv N (j + 1) S ∧ ExactH S ∧ D.n = N
theorem Plays.below {w wr : World} {N b bk bd x xk xd xi j : Nat} {v1 v2 : Value} (h : Plays w wr N b bk bd x xk xd xi j v1 v2) : Below w.heap.size w wr := by
  rcases h with ⟨_, _, hb⟩ | ⟨B, RB, S, D, _, _, hp, _⟩
  · exact hb
  · exact hp.below
/-- what stands while both devices are turned -/
structure Cr (w w' : World) (b bk bd x xk xd xi bx : Nat) (D1 D2 : DevS) (k : DoT) (ka : Option Addr) (kc : Nat) : Prop where
  dev : At w' b bk bd D1
  ref : RefAt w' x xk xd xi D2
  below : Below w.heap.size w w'
  box : w'.heap[bx]? = some (.cells #[.int .i64 k.op, .int .i64 k.i, .slice ka k.kids.length kc, .string k.s] 51 (0, 0))
  kids : Ints (· < w.heap.size) w' (.slice ka k.kids.length kc) k.kids
/-- which block lies where -/
structure Aps (w : World) (b bk bd x xk xd xi bx : Nat) : Prop where
  d : ∀ p ∈ [b, bk, bd], w.heap.size ≤ p ∧ p < bx ∧ p ∉ [x, xk, xd, xi]
  r : ∀ p ∈ [x, xk, xd, xi], w.heap.size ≤ p ∧ p < bx ∧ p ∉ [b, bk, bd]
section
variable {w w' w'' : World} {b bk bd x xk xd xi bx : Nat} {D1 D2 D : DevS} {k : DoT} {ka : Option Addr} {kc : Nat}
theorem Cr.write (h : Cr w w' b bk bd x xk xd xi bx D1 D2 k ka kc) (hx : Aps w b bk bd x xk xd xi bx) (hd : At w'' b bk bd D) (hc : Chg [b, bk, bd] w' w'') : Cr w w'' b bk bd x xk xd xi bx D D2 k ka kc :=
  ⟨hd, h.ref.chg hc (hx.r x (by simp)).2.2 (hx.r xk (by simp)).2.2 (hx.r xd (by simp)).2.2 (hx.r xi (by simp)).2.2, h.below.trans (hc.below h.below.size (fun q hq => (hx.d q hq).1)), (hc.block _ (heap_lt h.box) (fun hm => Nat.lt_irrefl _ (hx.d _ hm).2.1)).trans h.box, Ints.chg h.kids hc (fun q hq hm => by have := (hx.d q hm).1; omega)⟩
theorem Cr.rwrite (h : Cr w w' b bk bd x xk xd xi bx D1 D2 k ka kc) (hx : Aps w b bk bd x xk xd xi bx) (hd : RefAt w'' x xk xd xi D) (hc : Chg [x, xk, xd, xi] w' w'') : Cr w w'' b bk bd x xk xd xi bx D1 D k ka kc :=
  ⟨h.dev.of_touch hc (hx.d b (by simp)).2.2 (hx.d bk (by simp)).2.2 (hx.d bd (by simp)).2.2, hd, h.below.trans (hc.below h.below.size (fun q hq => (hx.r q hq).1)), (hc.block _ (heap_lt h.box) (fun hm => Nat.lt_irrefl _ (hx.r _ hm).2.1)).trans h.box, Ints.chg h.kids hc (fun q hq hm => by have := (hx.r q hm).1; omega)⟩
end
theorem crash_start_n (D : DevS) (l : List Int) : (D.crash l).start.n = D.n := by simp [DevS.crash, DevS.start]
theorem crash_start_burns (D : DevS) (l : List Int) : (D.crash l).start.burns = false := by simp [DevS.crash, DevS.start]
/-- a reference device that is fresh holds no number of a block -/
theorem ref_few {w : World} {x xk xd xi : Nat} {D : DevS} (h : RefAt w x xk xd xi D) (hb : D.burns = false) : ∀ q ∈ [x, xk, xd, xi], q < w.heap.size ∧ ∀ o z, w.cell? ⟨q, o, none⟩ = some (.int .i64 z) → z < 2 := by
  have hl := h.lt
  obtain ⟨g, hg, _⟩ := h.dirt
  have hfu : D.fused = -1 := by unfold DevS.fused; rw [hb]; rfl
  intro q hq
  simp only [List.mem_cons, List.mem_nil_iff, or_false] at hq
  rcases hq with rfl | rfl | rfl | rfl
  · refine ⟨hl.1, fun o z ho => ?_⟩
    rw [cell_at h.heap] at ho
    unfold DevS.rcells at ho
    rw [hfu] at ho
    match o, ho with
    | 0, ho => simp at ho
    | 1, ho => simp at ho
    | 2, ho => simp at ho
    | 3, ho => simp at ho
    | 4, ho => simp at ho; omega
    | o + 5, ho => simp at ho
  · refine ⟨hl.2.1, fun o z ho => ?_⟩
    rw [cell_at h.kept] at ho
    simp at ho
  · refine ⟨hl.2.2.1, fun o z ho => ?_⟩
    rw [cell_at hg] at ho
    simp at ho
  · refine ⟨hl.2.2.2, fun o z ho => ?_⟩
    rw [cell_at h.is] at ho
    simp at ho
set_option maxHeartbeats 16000000 in
/-- StorePlays -/
theorem storePlays_any (w : World) (n : Int) (v : Value) (note : ByteArray) (l : List DoT) (h : Dos (· < w.heap.size) w v l) :
    Calls Tryz.prog 4 #[.int .i64 n, .string note, v] w fun e w' => e = .returned (.bool true) ∧ Below w.heap.size w w' := by
  obtain ⟨a, c, rfl, hlen⟩ := h.len
  have H : Hid (Dos (· < w.heap.size) w (.slice a l.length c) l) := h
  clear h
  go_enter Tryz.func4, Tryz.ntmps4
  go_wp2_with fail
  refine (short_one _ w a c l H.out).mono ?_
  rintro e w1 ⟨x0, rfl, hx, hb1⟩
  have HB1 : Hid (Below w.heap.size w w1) := hb1
  clear hb1
  have hgo : x0 = false ∨ (x0 = true ∧ 8192 < note.size) ∨ (x0 = true ∧ note.size ≤ 8192 ∧ l.length ≤ 60) := by
    cases x0
    · exact .inl rfl
    · have := hx rfl
      by_cases q2 : 8192 < note.size
      · exact .inr (.inl ⟨rfl, q2⟩)
      · exact .inr (.inr ⟨rfl, by omega, this⟩)
  clear hx
  rcases hgo with rfl | ⟨rfl, hgo⟩ | ⟨rfl, hg1, hl2⟩
  · go_wp2_with fail
    refine (awake_any w1).mono ?_
    rintro e w9 ⟨rfl, hb9⟩
    have H9 : Hid (Below w.heap.size w w9) := HB1.out.trans (hb9.mono HB1.out.size)
    clear hb9
    go_wp2_with fail
    go_ret
    exact ⟨rfl, H9.out⟩
  · go_wp2_with fail
    refine (awake_any w1).mono ?_
    rintro e w9 ⟨rfl, hb9⟩
    have H9 : Hid (Below w.heap.size w w9) := HB1.out.trans (hb9.mono HB1.out.size)
    clear hb9
    go_wp2_with fail
    go_ret
    exact ⟨rfl, H9.out⟩
  · go_wp2_with fail
    refine (size_fn n w1).mono ?_
    rintro e w2 ⟨rfl, rfl⟩
    obtain ⟨N, hN, hN8, hN40⟩ := size_nat n
    rw [hN]
    go_wp2_with fail
    refine (new_yes w1 N (by omega)).mono ?_
    rintro e w3 ⟨b, bk, bd, rfl, hA, hb, hb1, hb2, hb3⟩
    have HA : Hid (At w3 b bk bd (DevS.new N) ∧ Below w.heap.size w w3 ∧ w.heap.size ≤ b ∧ w.heap.size ≤ bk ∧ w.heap.size ≤ bd) := by
      have := HB1.out.size
      exact ⟨hA, HB1.out.trans (hb.mono this), by omega, by omega, by omega⟩
    clear hA hb hb1 hb2 hb3
    go_wp2_with fail
    refine (size_fn n w3).mono ?_
    rintro e w4 ⟨rfl, rfl⟩
    rw [hN]
    go_wp2_with fail
    refine (rnew_yes w3 N (by omega)).mono ?_
    rintro e w4 ⟨x, xk, xd, xi, rfl, hR, hb, hb1, hb2, hb3, hb4⟩
    have HR : Hid (At w4 b bk bd (DevS.new N) ∧ RefAt w4 x xk xd xi (DevS.new N) ∧ Below w.heap.size w w4) := ⟨HA.out.1.on6 hb, hR, HA.out.2.1.trans (hb.mono HA.out.2.1.size)⟩
    have HG : Hid ((w.heap.size ≤ b ∧ w.heap.size ≤ bk ∧ w.heap.size ≤ bd) ∧ (b < w3.heap.size ∧ bk < w3.heap.size ∧ bd < w3.heap.size) ∧ (w3.heap.size ≤ x ∧ w3.heap.size ≤ xk ∧ w3.heap.size ≤ xd ∧ w3.heap.size ≤ xi) ∧ w.heap.size ≤ w3.heap.size) :=
      ⟨HA.out.2.2, ⟨heap_lt HA.out.1.heap, HA.out.1.kept.lt, HA.out.1.dirty.lt⟩, ⟨hb1, hb2, hb3, hb4⟩, HA.out.2.1.size⟩
    clear hR hb hb1 hb2 hb3 hb4 HA HB1
    have HD : Hid ((∀ q ∈ [b, bk, bd], w.heap.size ≤ q ∧ q ∉ [x, xk, xd, xi]) ∧ ∀ q ∈ [x, xk, xd, xi], w.heap.size ≤ q ∧ q ∉ [b, bk, bd]) := by
      obtain ⟨g1, g2, g3, g4⟩ := HG.out
      refine ⟨fun q hq => ?_, fun q hq => ?_⟩
      · simp only [List.mem_cons, List.mem_nil_iff, or_false, not_or] at hq ⊢
        rcases hq with rfl | rfl | rfl
        · exact ⟨by omega, by omega, by omega, by omega, by omega⟩
        · exact ⟨by omega, by omega, by omega, by omega, by omega⟩
        · exact ⟨by omega, by omega, by omega, by omega, by omega⟩
      · simp only [List.mem_cons, List.mem_nil_iff, or_false, not_or] at hq ⊢
        rcases hq with rfl | rfl | rfl | rfl
        · exact ⟨by omega, by omega, by omega, by omega⟩
        · exact ⟨by omega, by omega, by omega, by omega⟩
        · exact ⟨by omega, by omega, by omega, by omega⟩
        · exact ⟨by omega, by omega, by omega, by omega⟩
    go_wp2_with fail
    have hfa := format_any w4 b bk bd (DevS.new N) note HR.out.1 (new_small _)
    by_cases hnt : 3900 < note.size
    · rw [format_long hnt] at hfa
      refine hfa.mono ?_
      rintro e w5 ⟨rfl, _, _, hc⟩
      have H5 : Hid (Below w.heap.size w w5) := HR.out.2.2.trans (hc.below HR.out.2.2.size (fun q hq => (HD.out.1 q hq).1))
      clear hc hfa
      go_wp2_with fail
      refine (rformat_long w5 x note hnt).mono ?_
      rintro e w6 ⟨rfl, rfl⟩
      go_wp2_with fail
      refine (tells_nil w5).mono ?_
      rintro e w6 ⟨rfl, rfl⟩
      go_wp2_with fail
      go_loopw [11, 13, 71] (fun v11 v13 v71 wr => ∃ j : Nat, j ≤ l.length ∧ v11 = .pointer none ∧ v13 = .pointer none ∧ v71 = .int .i64 j ∧ Hid (Below w.heap.size w wr)) (fun _ _ v71 _ => l.length - (intOf v71).toNat)
      case atStart => exact ⟨0, by omega, rfl, rfl, rfl, H5.out⟩
      case round =>
        obtain ⟨j, hj, rfl, rfl, rfl, HT⟩ := hrel
        by_cases hlt : j < l.length
        · obtain ⟨k, bb, o, kv, _, _, rfl, q0, q1, q2, q3, hf, hkv⟩ := (H.out.below HT.out).item j hlt
          obtain ⟨ka, kc, rfl, hkl, hkc⟩ := hkv.form
          have HX : Hid (Below w.heap.size w (wr.alloc (.cells #[.int .i64 k.op, .int .i64 k.i, .slice ka k.kids.length kc, .string k.s] 51))) := HT.out.alloc HT.out.size _
          clear hf hkv hkl hkc
          go_wp2_with fail
          refine (awake_any _).mono ?_
          rintro e w9 ⟨rfl, hb9⟩
          have H9 : Hid (Below w.heap.size w w9) := HX.out.trans (hb9.mono HX.out.size)
          clear hb9
          go_wp2_with fail
          go_ret
          exact ⟨rfl, H9.out⟩
        · have hl0 : j = l.length := by omega
          go_wp2_with fail
          refine (awake_any wr).mono ?_
          rintro e w9 ⟨rfl, hb9⟩
          have H9 : Hid (Below w.heap.size w w9) := HT.out.trans (hb9.mono HT.out.size)
          clear hb9
          go_wp2_with fail
          go_ret
          exact ⟨rfl, H9.out⟩
    · obtain ⟨D0, hf0, hrun⟩ := format_run N (by omega) (note := note) (by omega)
      have hmd := format_made hf0
      rw [hf0] at hfa
      refine hfa.mono ?_
      rintro e w5 ⟨B, hov, rfl, hst, hc⟩
      have H5 : Hid (StAt w5 B (StS.fresh note) D0 ∧ Blk.Over w4 b bk bd B ∧ RefAt w5 x xk xd xi (DevS.new N) ∧ Below w.heap.size w w5 ∧ Chg [b, bk, bd] w4 w5) :=
        ⟨hst, hov, HR.out.2.1.chg hc (HD.out.2 x (by simp)).2 (HD.out.2 xk (by simp)).2 (HD.out.2 xd (by simp)).2 (HD.out.2 xi (by simp)).2, HR.out.2.2.trans (hc.below HR.out.2.2.size (fun q hq => (HD.out.1 q hq).1)), hc⟩
      have HRUN : Hid (Run N 0 (StS.fresh note) D0 ∧ D0 = made (DevS.new N) note) := ⟨hrun, hmd⟩
      clear hc hfa hov hst hrun hmd hf0
      go_wp2_with fail
      refine (rformat_any w5 x xk xd xi N (DevS.new N) note H5.out.2.2.1 (new_small _) (Pow.new _) rfl (by omega) (by omega)).mono ?_
      rintro e w6 ⟨s, c', p, rfl, hrs, hc, hs1, hs2, hs3⟩
      rw [← HRUN.out.2] at hrs
      have hpr : Pr w w6 b bk bd x xk xd xi { B with x := ({ s := s, c := c', p := p, x := x, xk := xk, xd := xd, xi := xi, f := [] } : RBlk).all } { s := s, c := c', p := p, x := x, xk := xk, xd := xd, xi := xi, f := B.all } (StS.fresh note) D0 (StS.fresh note) D0 := by
        have hov := H5.out.2.1
        have hlt := H5.out.1.lt
        have hdis : ∀ t ∈ [x, xk, xd, xi], t ∉ B.all := fun t ht hm => by
          rcases hov.dev_mem t hm with h1 | h1
          · exact (HD.out.2 t ht).2 h1
          · have hl := HR.out.2.1.lt
            simp only [List.mem_cons, List.mem_nil_iff, or_false] at ht
            rcases ht with rfl | rfl | rfl | rfl <;> omega
        have hst6 : StAt w6 B (StS.fresh note) D0 := by
          have h1 := H5.out.1.free (L := [x, xk, xd, xi]) (fun i => rfl) (fun q hq => by
            have hl := H5.out.2.2.1.lt
            simp only [List.mem_cons, List.mem_nil_iff, or_false] at hq
            rcases hq with rfl | rfl | rfl | rfl
            · exact hl.1
            · exact hl.2.1
            · exact hl.2.2.1
            · exact hl.2.2.2)
          have h2 := h1.guard (L := []) hc (fun t ht => ⟨hdis t ht, ht⟩) (fun q hq => by cases hq)
          have h3 := h2.free (L := []) (fun i => rfl) (fun q hq => by cases hq)
          have h4 := h3.free (L := B.x) (fun i => rfl) (fun q hq => Nat.lt_of_lt_of_le (H5.out.1.low q hq) hc.size)
          exact h4
        have hrlt := hrs.lt
        have hz := H5.out.2.2.2.1.size
        refine ⟨hst6.free (fun i => rfl) hrlt, hrs.free (fun i => rfl) (fun q hq => Nat.lt_of_lt_of_le (hlt q hq) hc.size), H5.out.2.2.2.1.trans (hc.below hz (fun q hq => (HD.out.2 q hq).1)), ⟨hov.d, hov.k, hov.y⟩, ⟨rfl, rfl, rfl, rfl⟩, fun q hq => ?_, fun q hq => ?_, fun q hq => ⟨hq, fun hm => ?_⟩, fun q hq => hq⟩
        · rcases hov.dev_mem q hq with h1 | h1
          · exact (HD.out.1 q h1).1
          · have := HR.out.2.2.size; omega
        · simp only [RBlk.all, List.mem_cons, List.mem_nil_iff, or_false] at hq
          rcases hq with rfl | rfl | rfl | hq
          · omega
          · omega
          · omega
          · exact (HD.out.2 q (by simpa using hq)).1
        · simp only [RBlk.all, List.mem_cons, List.mem_nil_iff, or_false] at hq
          have hlq := hlt q hm
          rcases hq with rfl | rfl | rfl | hq
          · omega
          · omega
          · omega
          · exact hdis q (by simpa using hq) hm
      have HP : Hid (Plays w w6 N b bk bd x xk xd xi 0 (.pointer (some ⟨B.s, 0, none⟩)) (.pointer (some ⟨s, 0, none⟩)) ∧ Below w.heap.size w w6) :=
        ⟨.inr ⟨{ B with x := ({ s := s, c := c', p := p, x := x, xk := xk, xd := xd, xi := xi, f := [] } : RBlk).all }, { s := s, c := c', p := p, x := x, xk := xk, xd := xd, xi := xi, f := B.all }, _, _, rfl, rfl, hpr, HRUN.out.1.inv.more (by omega), exact_none (fun i => rfl), HRUN.out.1.good.dn⟩, hpr.below⟩
      have HTL : Hid (StAt w6 B (StS.fresh note) D0 ∧ RSt w6 { s := s, c := c', p := p, x := x, xk := xk, xd := xd, xi := xi, f := B.all } (StS.fresh note) D0 ∧ D0.n = N ∧ WF N (StS.fresh note) []) :=
        ⟨hpr.st.free (L := B.x) (fun i => rfl) (fun q hq => Nat.lt_of_lt_of_le (H5.out.1.low q hq) hc.size), hpr.rs, HRUN.out.1.good.dn, HRUN.out.1.inv.wf⟩
      clear hrs hc hs1 hs2 hs3 hpr H5 HR
      go_wp2_with fail
      refine (tells_any w6 B _ (StS.fresh note) D0 D0 N HTL.out.1 HTL.out.2.1 HTL.out.2.2.1 HTL.out.2.2.1 HTL.out.2.2.2 (fun i hi => by cases hi)).mono ?_
      rintro e w7 ⟨rfl, hb7⟩
      have H7 : Hid (Plays w w7 N b bk bd x xk xd xi 0 (.pointer (some ⟨B.s, 0, none⟩)) (.pointer (some ⟨s, 0, none⟩)) ∧ Below w.heap.size w w7) := by
        refine ⟨?_, HP.out.2.trans (hb7.mono HP.out.2.size)⟩
        rcases HP.out.1 with ⟨h1, _⟩ | ⟨B1, RB1, S1, D1, h1, h2, h3, h4⟩
        · cases h1
        · exact .inr ⟨B1, RB1, S1, D1, h1, h2, h3.on hb7, h4⟩
      clear hb7 HTL HP HRUN
      go_wp2_with fail
      go_loopw [11, 13, 71] (fun v11 v13 v71 wr => ∃ j : Nat, j ≤ l.length ∧ v71 = .int .i64 j ∧ Hid (Plays w wr N b bk bd x xk xd xi j v11 v13)) (fun _ _ v71 _ => l.length - (intOf v71).toNat)
      case atStart => exact ⟨0, by omega, rfl, H7.out.1⟩
      case round =>
        obtain ⟨j, hj, rfl, HT⟩ := hrel
        have HTB : Hid (Below w.heap.size w wr) := HT.out.below
        by_cases hlt : j < l.length
        rotate_left 1
        · have hl0 : j = l.length := by omega
          go_wp2_with fail
          refine (awake_any wr).mono ?_
          rintro e w9 ⟨rfl, hb9⟩
          have H9 : Hid (Below w.heap.size w w9) := HTB.out.trans (hb9.mono HTB.out.size)
          clear hb9
          go_wp2_with fail
          go_ret
          exact ⟨rfl, H9.out⟩
        · obtain ⟨k, bb, o, kv, _, _, rfl, q0, q1, q2, q3, hf, hkv⟩ := (H.out.below HTB.out).item j hlt
          obtain ⟨ka, kc, rfl, hkl, hkc⟩ := hkv.form
          have HF : Hid (k.fits ∧ Ints (· < w.heap.size) wr (.slice ka k.kids.length kc) k.kids) := ⟨hf, hkv⟩
          obtain ⟨w1, hw1⟩ : ∃ w1, w1 = wr.alloc (.cells #[.int .i64 k.op, .int .i64 k.i, .slice ka k.kids.length kc, .string k.s] 51) := ⟨_, rfl⟩
          have hb1 : Below wr.heap.size wr w1 := by rw [hw1]; exact (Below.refl _ _).alloc (Nat.le_refl _) _
          have hx1 : w1.heap[wr.heap.size]? = some (.cells #[.int .i64 k.op, .int .i64 k.i, .slice ka k.kids.length kc, .string k.s] 51 (0, 0)) := by rw [hw1]; exact heap_alloc_last _ _
          obtain ⟨bx, hbx⟩ : ∃ bx, bx = wr.heap.size := ⟨_, rfl⟩
          have hzw : wr.heap.size < w1.heap.size := heap_lt hx1
          rw [← hbx] at hx1
          have HBX : Hid (bx = wr.heap.size ∧ Below wr.heap.size wr w1 ∧ w1.heap[bx]? = some (.cells #[.int .i64 k.op, .int .i64 k.i, .slice ka k.kids.length kc, .string k.s] 51 (0, 0)) ∧ wr.heap.size < w1.heap.size) := ⟨hbx, hb1, hx1, hzw⟩
          clear hf hkv hkl hkc hb1 hx1 hzw
          rcases HT.out with ⟨rfl, rfl, hb⟩ | ⟨B, RB, S, D, rfl, rfl, hpr, hinv, hex, hdn⟩
          · clear hb
            go_wp2_with fail
            rw [← hw1]
            refine (awake_any _).mono ?_
            rintro e w9 ⟨rfl, hb9⟩
            have H9 : Hid (Below w.heap.size w w9) := (HTB.out.trans (HBX.out.2.1.mono HTB.out.size)).trans (hb9.mono (HTB.out.trans (HBX.out.2.1.mono HTB.out.size)).size)
            clear hb9
            go_wp2_with fail
            go_ret
            exact ⟨rfl, H9.out⟩
          · have HM : Hid (Pr w wr b bk bd x xk xd xi B RB S D S D ∧ Inv N (j + 1) S ∧ ExactH S ∧ D.n = N) := ⟨hpr, hinv, hex, hdn⟩
            have HSM : Hid (D.small ∧ ∀ q ∈ B.all, q < bx) := ⟨hpr.st.small, by rw [hbx]; exact hpr.st.lt⟩
            have HSR : Hid (∀ q ∈ RB.all, q < bx) := by rw [hbx]; exact hpr.rs.lt
            obtain ⟨s, hs⟩ : ∃ s, s = B.s := ⟨_, rfl⟩
            obtain ⟨t, ht⟩ : ∃ t, t = RB.s := ⟨_, rfl⟩
            rw [← hs, ← ht]
            have HST : Hid (s = B.s ∧ t = RB.s) := ⟨hs, ht⟩
            clear hpr hinv hex hdn HT hs ht
            go_wp2_with fail
            rw [← hw1, ← hbx]
            clear hw1 q0 q1 q2 q3 hbx
            refine (op_fn' k _ _).mono ?_
            rintro e w5 ⟨rfl, hb5⟩
            have H5 : Hid (Below wr.heap.size wr w5 ∧ w5.heap[bx]? = some (.cells #[.int .i64 k.op, .int .i64 k.i, .slice ka k.kids.length kc, .string k.s] 51 (0, 0)) ∧ bx < w5.heap.size) :=
              ⟨HBX.out.2.1.trans (hb5.mono HBX.out.2.1.size), (hb5.block _ (heap_lt HBX.out.2.2.1)).trans HBX.out.2.2.1, Nat.lt_of_lt_of_le (heap_lt HBX.out.2.2.1) hb5.size⟩
            clear hb5
            have q0 : w5.cell? ⟨bx, 0, none⟩ = some (.int .i64 k.op) := cell_at H5.out.2.1 0
            have q1 : w5.cell? ⟨bx, 1, none⟩ = some (.int .i64 k.i) := cell_at H5.out.2.1 1
            have q2 : w5.cell? ⟨bx, 2, none⟩ = some (.slice ka k.kids.length kc) := cell_at H5.out.2.1 2
            have q3 : w5.cell? ⟨bx, 3, none⟩ = some (.string k.s) := cell_at H5.out.2.1 3
            by_cases h12 : k.opn = 12
            · rw [h12]
              have hap : Aps w b bk bd x xk xd xi bx := by
                have hp := HM.out.1
                have e1 := hp.bd
                have e2 := hp.rd
                refine ⟨fun p hp1 => ?_, fun p hp1 => ?_⟩
                · have hm : p ∈ B.all := by
                    rw [← e1.1, ← e1.2.1, ← e1.2.2] at hp1
                    simp only [List.mem_cons, List.mem_nil_iff, or_false] at hp1
                    rcases hp1 with rfl | rfl | rfl <;> simp [Blk.all]
                  exact ⟨hp.b0 p hm, HSM.out.2 p hm, (HD.out.1 p hp1).2⟩
                · have hm : p ∈ RB.all := RB.dev_mem p (by rw [e2.1, e2.2.1, e2.2.2.1, e2.2.2.2]; exact hp1)
                  exact ⟨hp.r0 p hm, HSR.out p hm, (HD.out.2 p hp1).2⟩
              have HAP : Hid (Aps w b bk bd x xk xd xi bx) := hap
              have hcr : Cr w w5 b bk bd x xk xd xi bx D D k ka kc := by
                have hp := HM.out.1.on H5.out.1
                obtain ⟨e1, e2, e3⟩ := hp.bd
                obtain ⟨f1, f2, f3, f4⟩ := hp.rd
                have hA := hp.st.dev
                rw [e1, e2, e3] at hA
                have hR := hp.rs.dev
                rw [f1, f2, f3, f4] at hR
                exact ⟨hA, hR, hp.below, H5.out.2.1, Ints.on HF.out.2 H5.out.1⟩
              have C5 : Hid (Cr w w5 b bk bd x xk xd xi bx D D k ka kc) := hcr
              have HDN : Hid (D.n = N ∧ D.small ∧ Inv N (j + 1) S) := ⟨HM.out.2.2.2, HSM.out.1, HM.out.2.1⟩
              clear hap hcr HM HSM HSR HST H5
              have hne1 : ∀ q : Nat, q < w.heap.size → q ≠ b ∧ q ≠ bk ∧ q ≠ bd := fun q hq => by
                have h1 := (HAP.out.d b (by simp)).1
                have h2 := (HAP.out.d bk (by simp)).1
                have h3 := (HAP.out.d bd (by simp)).1
                omega
              have hne2 : ∀ q : Nat, q < w.heap.size → q ≠ x ∧ q ≠ xk ∧ q ≠ xd ∧ q ≠ xi := fun q hq => by
                have h1 := (HAP.out.r x (by simp)).1
                have h2 := (HAP.out.r xk (by simp)).1
                have h3 := (HAP.out.r xd (by simp)).1
                have h4 := (HAP.out.r xi (by simp)).1
                omega
              have HNE : Hid ((∀ q : Nat, q < w.heap.size → q ≠ b ∧ q ≠ bk ∧ q ≠ bd) ∧ ∀ q : Nat, q < w.heap.size → q ≠ x ∧ q ≠ xk ∧ q ≠ xd ∧ q ≠ xi) := ⟨hne1, hne2⟩
              clear hne1 hne2
              go_wp2_with fail
              refine (crash_any w5 b bk bd D _ k.kids C5.out.dev (C5.out.kids.mono HNE.out.1)).mono ?_
              rintro e w6 ⟨rfl, h6, c6⟩
              have C6 : Hid (Cr w w6 b bk bd x xk xd xi bx (D.crash k.kids) D k ka kc) := C5.out.write HAP.out h6 c6
              clear h6 c6 q0 q1 q2 q3 C5
              have q2 : w6.cell? ⟨bx, 2, none⟩ = some (.slice ka k.kids.length kc) := cell_at C6.out.box 2
              go_wp2_with fail
              refine (rcrash_any w6 x xk xd xi D _ k.kids C6.out.ref (C6.out.kids.mono HNE.out.2)).mono ?_
              rintro e w7 ⟨rfl, h6, c6⟩
              have C7 : Hid (Cr w w7 b bk bd x xk xd xi bx (D.crash k.kids) (D.crash k.kids) k ka kc) := C6.out.rwrite HAP.out h6 c6
              clear h6 c6 q2 C6
              go_wp2_with fail
              refine (start_any w7 b bk bd _ C7.out.dev).mono ?_
              rintro e w8 ⟨rfl, h6, c6⟩
              have C8 : Hid (Cr w w8 b bk bd x xk xd xi bx (D.crash k.kids).start (D.crash k.kids) k ka kc) := C7.out.write HAP.out h6 c6
              clear h6 c6 C7
              go_wp2_with fail
              refine (rstart_any w8 x xk xd xi _ C8.out.ref).mono ?_
              rintro e w9 ⟨rfl, h6, c6⟩
              have hD2 : ((D.crash k.kids).start).n = N ∧ ((D.crash k.kids).start).small ∧ ((D.crash k.kids).start).burns = false := ⟨(crash_start_n D k.kids).trans HDN.out.1, crash_small HDN.out.2.1 k.kids, crash_start_burns D k.kids⟩
              have C9' : Cr w w9 b bk bd x xk xd xi bx (D.crash k.kids).start (D.crash k.kids).start k ka kc := C8.out.rwrite HAP.out h6 c6
              obtain ⟨D2, hDD⟩ : ∃ D2, D2 = (D.crash k.kids).start := ⟨_, rfl⟩
              rw [← hDD] at hD2 C9'
              have C9 : Hid (Cr w w9 b bk bd x xk xd xi bx D2 D2 k ka kc ∧ D2.n = N ∧ D2.small ∧ D2.burns = false) := ⟨C9', hD2⟩
              clear h6 c6 C8 hD2 C9' hDD HDN
              go_wp2_with fail
              have hop := open_any w9 b bk bd D2 C9.out.1.dev C9.out.2.2.1
              have hrp : ∀ w' F, Chg [b, bk, bd] w9 w' → (∀ q ∈ F, q < w'.heap.size) → Calls Tryz.prog 14 #[.pointer (some ⟨x, 0, none⟩)] w' (ROpenPost w' x xk xd xi F D2 (openOut D2)) := fun w' F hc hF =>
                ropen_any w' x xk xd xi F D2 (C9.out.1.ref.chg hc (HAP.out.r x (by simp)).2.2 (HAP.out.r xk (by simp)).2.2 (HAP.out.r xd (by simp)).2.2 (HAP.out.r xi (by simp)).2.2) C9.out.2.2.1 hF
              cases ho : openOut D2 with
              | error z =>
                rw [ho] at hop hrp
                have HRP : Hid (∀ w' F, Chg [b, bk, bd] w9 w' → (∀ q ∈ F, q < w'.heap.size) → Calls Tryz.prog 14 #[.pointer (some ⟨x, 0, none⟩)] w' (ROpenPost w' x xk xd xi F D2 (.error z))) := hrp
                have hzz : (z != z) = false := by simp
                clear hrp ho
                refine hop.mono ?_
                rintro e w10 ⟨rfl, _, _, hc⟩
                have H3 : Hid (Chg [b, bk, bd] w9 w10 ∧ Below w.heap.size w w10) := ⟨hc, C9.out.1.below.trans (hc.below C9.out.1.below.size (fun q hq => (HAP.out.d q hq).1))⟩
                clear hc hop
                go_wp2_with fail
                refine (HRP.out w10 [] H3.out.1 (fun q hq => by cases hq)).mono ?_
                rintro e w11 ⟨rfl, hb⟩
                have H4 : Hid (Below w.heap.size w w11) := H3.out.2.trans (hb.mono H3.out.2.size)
                clear hb HRP
                go_wp2_with fail
                refine (tells_nil w11).mono ?_
                rintro e w12 ⟨rfl, rfl⟩
                go_wp2_with fail
                go_roundw
                case rel => exact ⟨j + 1, by omega, by go_num, .inl ⟨rfl, rfl, H4.out⟩⟩
                case measure => simp [intOf]; omega
              | ok S' =>
                have hoi := open_inv (D := D2) (n := N) C9.out.2.1 (by omega) ho
                have HOI : Hid (Inv N 1 S' ∧ ExactH S') := hoi
                rw [ho] at hop hrp
                have HRP : Hid (∀ w' F, Chg [b, bk, bd] w9 w' → (∀ q ∈ F, q < w'.heap.size) → Calls Tryz.prog 14 #[.pointer (some ⟨x, 0, none⟩)] w' (ROpenPost w' x xk xd xi F D2 (.ok S'))) := hrp
                clear hrp ho hoi
                refine hop.mono ?_
                rintro e w10 ⟨B2, hov, rfl, hst, hc⟩
                have H10 : Hid (Chg [b, bk, bd] w9 w10 ∧ Below w.heap.size w w10 ∧ StAt w10 B2 S' D2 ∧ Blk.Over w9 b bk bd B2 ∧ RefAt w10 x xk xd xi D2) :=
                  ⟨hc, C9.out.1.below.trans (hc.below C9.out.1.below.size (fun q hq => (HAP.out.d q hq).1)), hst, hov, C9.out.1.ref.chg hc (HAP.out.r x (by simp)).2.2 (HAP.out.r xk (by simp)).2.2 (HAP.out.r xd (by simp)).2.2 (HAP.out.r xi (by simp)).2.2⟩
                clear hc hop hov hst
                go_wp2_with fail
                refine (HRP.out w10 B2.all H10.out.1 H10.out.2.2.1.lt).mono ?_
                rintro e w11 ⟨s2, c2, p2, rfl, hrs, hb, g1, g2, g3⟩
                have hpr : Pr w w11 b bk bd x xk xd xi { { B2 with x := [x, xk, xd, xi] ++ B2.x } with x := [s2, c2, p2] ++ ([x, xk, xd, xi] ++ B2.x) } { s := s2, c := c2, p := p2, x := x, xk := xk, xd := xd, xi := xi, f := B2.all } S' D2 S' D2 := by
                  obtain ⟨hch, hbl, hst, hov, hrf⟩ := H10.out
                  have hlt := hst.lt
                  have hrl := hrs.lt
                  have hst1 := hst.avoid HOI.out.1.wf (ref_few hrf C9.out.2.2.2)
                  have hst2 := hst1.guard (L := [s2, c2, p2]) (T := []) (Chg.of_below hb) (by simp) (fun q hq => by
                    simp only [List.mem_cons, List.mem_nil_iff, or_false] at hq
                    rcases hq with rfl | rfl | rfl
                    · exact ⟨g1, hrl _ (by simp [RBlk.all])⟩
                    · exact ⟨g2, hrl _ (by simp [RBlk.all])⟩
                    · exact ⟨g3, hrl _ (by simp [RBlk.all])⟩)
                  have hxl := C9.out.1.ref.lt
                  have hz9 := C9.out.1.below.size
                  have hz10 := hbl.size
                  refine ⟨hst2, hrs, hbl.trans (hb.mono hz10), ⟨hov.d, hov.k, hov.y⟩, ⟨rfl, rfl, rfl, rfl⟩, fun q hq => ?_, fun q hq => ?_, fun q hq => ⟨?_, fun hm => ?_⟩, fun q hq => hq⟩
                  · rcases hov.dev_mem q hq with h1 | h1
                    · exact (HAP.out.d q h1).1
                    · omega
                  · simp only [RBlk.all, List.mem_cons, List.mem_nil_iff, or_false] at hq
                    rcases hq with rfl | rfl | rfl | hq
                    · omega
                    · omega
                    · omega
                    · exact (HAP.out.r q (by simpa using hq)).1
                  · simp only [RBlk.all, List.mem_cons, List.mem_nil_iff, or_false] at hq
                    show q ∈ [s2, c2, p2] ++ ([x, xk, xd, xi] ++ B2.x)
                    simp only [List.mem_append, List.mem_cons, List.mem_nil_iff, or_false]
                    rcases hq with h1 | h1 | h1 | h1
                    · exact .inl (.inl h1)
                    · exact .inl (.inr (.inl h1))
                    · exact .inl (.inr (.inr h1))
                    · exact .inr (.inl h1)
                  · have hlq := hlt q hm
                    simp only [RBlk.all, List.mem_cons, List.mem_nil_iff, or_false] at hq
                    rcases hq with rfl | rfl | rfl | hq
                    · omega
                    · omega
                    · omega
                    · rcases hov.dev_mem q hm with h1 | h1
                      · exact (HAP.out.r q (by simpa using hq)).2.2 h1
                      · rcases hq with rfl | rfl | rfl | rfl <;> omega
                have HP : Hid (Pr w w11 b bk bd x xk xd xi { { B2 with x := [x, xk, xd, xi] ++ B2.x } with x := [s2, c2, p2] ++ ([x, xk, xd, xi] ++ B2.x) } { s := s2, c := c2, p := p2, x := x, xk := xk, xd := xd, xi := xi, f := B2.all } S' D2 S' D2) := hpr
                have HTL : Hid (StAt w11 B2 S' D2) := H10.out.2.2.1.on hb
                clear hrs hb g1 g2 g3 hpr HRP H10
                go_wp2_with fail
                refine (tells_any w11 B2 _ S' D2 D2 N HTL.out HP.out.rs C9.out.2.1 C9.out.2.1 HOI.out.1.wf HOI.out.1.kept).mono ?_
                rintro e w12 ⟨rfl, hb12⟩
                have H12 : Hid (Plays w w12 N b bk bd x xk xd xi (j + 1) (.pointer (some ⟨B2.s, 0, none⟩)) (.pointer (some ⟨s2, 0, none⟩))) :=
                  .inr ⟨{ { B2 with x := [x, xk, xd, xi] ++ B2.x } with x := [s2, c2, p2] ++ ([x, xk, xd, xi] ++ B2.x) }, { s := s2, c := c2, p := p2, x := x, xk := xk, xd := xd, xi := xi, f := B2.all }, S', D2, rfl, rfl, HP.out.on hb12, HOI.out.1.more (by omega), HOI.out.2, C9.out.2.1⟩
                clear hb12 HP HTL
                go_wp2_with fail
                go_roundw
                case rel => exact ⟨j + 1, by omega, by go_num, H12.out⟩
                case measure => simp [intOf]; omega
            · have hop : k.opn < 12 := by have := opn_range k; omega
              have hb12 : (k.opn == 12) = false := by simpa using h12
              obtain ⟨on, hon⟩ : ∃ on, on = k.opn := ⟨_, rfl⟩
              have HOP : Hid (k.opn < 12) := hop
              rw [← hon] at hb12 ⊢
              have hg5 := HM.out.1.guard (L := [bx]) H5.out.1 (fun q hq => by have h1 := HBX.out.1; have h2 := H5.out.2.2; simp at hq; omega)
              obtain ⟨B1, RB1, hp1, es1, et1, hk1⟩ : ∃ B1 RB1, Pr w w5 b bk bd x xk xd xi B1 RB1 S D S D ∧ B1.s = s ∧ RB1.s = t ∧ Kept [bx] w B1 RB1 := by
                refine ⟨_, _, hg5, HST.out.1.symm, HST.out.2.symm, fun q hq => ?_⟩
                have hqb : q = bx := by simpa using hq
                subst hqb
                have h1 := HBX.out.1
                have h2 := HTB.out.size
                exact ⟨by omega, by simp, by simp, fun hm => Nat.lt_irrefl _ (HSM.out.2 _ hm), fun hm => Nat.lt_irrefl _ (HSR.out _ hm)⟩
              have HJ : Hid (Inv N (j + 1) S ∧ ExactH S ∧ D.n = N) := HM.out.2
              have P1 : Hid (Pr w w5 b bk bd x xk xd xi B1 RB1 S D S D ∧ B1.s = s ∧ RB1.s = t ∧ Kept [bx] w B1 RB1) := ⟨hp1, es1, et1, hk1⟩
              have HB5 : Hid (w5.heap[bx]? = some (.cells #[.int .i64 k.op, .int .i64 k.i, .slice ka k.kids.length kc, .string k.s] 51 (0, 0)) ∧ bx < w5.heap.size ∧ Ints (· < w.heap.size) w5 (.slice ka k.kids.length kc) k.kids) := ⟨H5.out.2.1, H5.out.2.2, Ints.on HF.out.2 H5.out.1⟩
              have HFT : Hid k.fits := HF.out.1
              clear hg5 hp1 es1 et1 hk1 HM HSM HSR HST H5 HBX hop hon HF
              go_wp2_with fail
              refine (clone_own _ w5 _ k.kids HB5.out.2.2 HFT.out.2.2.2).mono ?_
              rintro e w6 ⟨vc, rfl, hown, hb6⟩
              obtain ⟨va, vcap, rfl⟩ := hown.form
              have hbl := OwnI.blk hown
              have hg6 := P1.out.1.guard (L := ownB va) hb6 hbl
              have hpl : (∀ q ∈ B1.all, q < w5.heap.size) ∧ ∀ q ∈ RB1.all, q < w5.heap.size := ⟨P1.out.1.st.lt, P1.out.1.rs.lt⟩
              obtain ⟨B2, RB2, hp2, es2, et2, hk2, hl2a⟩ : ∃ B2 RB2, Pr w w6 b bk bd x xk xd xi B2 RB2 S D S D ∧ B2.s = s ∧ RB2.s = t ∧ Kept (bx :: ownB va) w B2 RB2 ∧ (∀ q ∈ B2.all, q < w5.heap.size) ∧ ∀ q ∈ RB2.all, q < w5.heap.size := by
                refine ⟨_, _, hg6, P1.out.2.1, P1.out.2.2.1, fun q hq => ?_, hpl⟩
                rcases List.mem_cons.1 hq with rfl | hq
                · obtain ⟨k1, k2, k3, k4, k5⟩ := P1.out.2.2.2 q (by simp)
                  exact ⟨k1, List.mem_append_right _ k2, List.mem_append_right _ k3, k4, k5⟩
                · have h1 := (hbl q hq).1
                  have h2 := P1.out.1.below.size
                  exact ⟨by omega, List.mem_append_left _ hq, List.mem_append_left _ hq, fun hm => by have := hpl.1 _ hm; omega, fun hm => by have := hpl.2 _ hm; omega⟩
              have hl9 : k.kids.length ≤ 9223372036854775807 := by have := HFT.out.2.2.2; omega
              have P2 : Hid (Pr w w6 b bk bd x xk xd xi B2 RB2 S D S D ∧ B2.s = s ∧ RB2.s = t ∧ Kept (bx :: ownB va) w B2 RB2 ∧ RowW w6 va k.kids.length ∧ Ints (fun q => w5.heap.size ≤ q ∧ q < w6.heap.size) w6 (.slice va k.kids.length vcap) k.kids ∧ (∀ q ∈ B2.all, q < w5.heap.size) ∧ ∀ q ∈ ownB va, q < w6.heap.size) := ⟨hp2, es2, et2, hk2, OwnI.row hown hl9, hown.ints hl9, hl2a.1, fun q hq => (hbl q hq).2⟩
              have HL6 : Hid ((∀ q ∈ RB2.all, q < w5.heap.size) ∧ w5.heap.size ≤ w6.heap.size) := ⟨hl2a.2, hb6.size⟩
              have HB6 : Hid (w6.heap[bx]? = some (.cells #[.int .i64 k.op, .int .i64 k.i, .slice ka k.kids.length kc, .string k.s] 51 (0, 0)) ∧ bx < w6.heap.size ∧ Ints (· < w.heap.size) w6 (.slice ka k.kids.length kc) k.kids) :=
                ⟨(hb6.block _ HB5.out.2.1).trans HB5.out.1, Nat.lt_of_lt_of_le HB5.out.2.1 hb6.size, Ints.on HB5.out.2.2 hb6⟩
              have hdo := pr_does P2.out.1 HJ.out.1 HJ.out.2.2 (by omega) (by omega) HFT.out (kv := .slice va k.kids.length vcap) (P2.out.2.2.2.2.2.1.mono (fun q hq hm => by have := P2.out.2.2.2.2.2.2.1 q hm; omega)) HOP.out
              rw [P2.out.2.1, P2.out.1.bd.1] at hdo
              have q0' : w6.cell? ⟨bx, 0, none⟩ = some (.int .i64 k.op) := cell_at HB6.out.1 0
              have q1' : w6.cell? ⟨bx, 1, none⟩ = some (.int .i64 k.i) := cell_at HB6.out.1 1
              have q3' : w6.cell? ⟨bx, 3, none⟩ = some (.string k.s) := cell_at HB6.out.1 3
              clear hown hb6 hbl hg6 hp2 es2 et2 hk2 hl2a hpl P1 HB5 q0 q1 q2 q3
              go_wp2_with fail
              refine hdo.mono ?_
              rintro e w7 ⟨B3, RB3, a3, m3, c3, d3, rfl, his, hp3, es3, et3, hw3, hx3, hf3, hc3, hra, hba⟩
              obtain ⟨hd3, hm3, hi3, hr3⟩ := his.parts blk_len
              have hk3 : Kept (bx :: (ownB va ++ ownB a3)) w B3 RB3 := fun q hq => by
                have hold : ∀ q ∈ bx :: ownB va, w.heap.size ≤ q ∧ q ∈ B3.x ∧ q ∈ RB3.f ∧ q ∉ B3.all ∧ q ∉ RB3.all := fun q hq => by
                  obtain ⟨k1, k2, k3, k4, k5⟩ := P2.out.2.2.2.1 q hq
                  have hq6 : q < w6.heap.size := by
                    rcases List.mem_cons.1 hq with rfl | hq
                    · exact HB6.out.2.1
                    · exact P2.out.2.2.2.2.2.2.2 q hq
                  refine ⟨k1, hx3 q k2, hf3 q k3, fun hm => ?_, by rw [hra]; exact k5⟩
                  rcases hba q hm with h1 | h1
                  · exact k4 h1
                  · omega
                rcases List.mem_cons.1 hq with rfl | hq
                · exact hold q (by simp)
                · rcases List.mem_append.1 hq with hq | hq
                  · exact hold q (List.mem_cons_of_mem _ hq)
                  · obtain ⟨k1, k2, k3, k4, k5⟩ := hw3 q hq
                    have hz := P2.out.1.below.size
                    exact ⟨by omega, k1, k2, k3, fun hm => by rw [hra] at hm; have := P2.out.1.rs.lt q hm; omega⟩
              have hoff : ∀ q, w5.heap.size ≤ q → q ∉ B2.all := fun q hq hm => by have := P2.out.2.2.2.2.2.2.1 q hm; omega
              have P3 : Hid (Pr w w7 b bk bd x xk xd xi B3 RB3 (doesOut S D k).st (doesOut S D k).dv S D ∧ B3.s = s ∧ RB3.s = t ∧ Kept (bx :: (ownB va ++ ownB a3)) w B3 RB3) := ⟨hp3, es3.trans P2.out.2.1, et3.trans P2.out.2.2.1, hk3⟩
              have R3 : Hid (RowW w7 va k.kids.length ∧ RowW w7 a3 m3 ∧ Ints (w5.heap.size ≤ ·) w7 (.slice va k.kids.length vcap) k.kids ∧ Ints (w6.heap.size ≤ ·) w7 (.slice a3 m3 c3) (kidsOf (doesOut S D k).blk)) :=
                ⟨P2.out.2.2.2.2.1.chg hc3 (fun q hq hm => (P2.out.2.2.2.1 q (List.mem_cons_of_mem _ hq)).2.2.2.1 hm), hr3, (Ints.chg P2.out.2.2.2.2.2.1 hc3 (fun q hq => hoff q hq.1)).mono (fun q hq => hq.1), hi3⟩
              have HB7 : Hid (w7.heap[bx]? = some (.cells #[.int .i64 k.op, .int .i64 k.i, .slice ka k.kids.length kc, .string k.s] 51 (0, 0)) ∧ Ints (· < w.heap.size) w7 (.slice ka k.kids.length kc) k.kids ∧ bx < w7.heap.size ∧ (∀ q ∈ ownB va, q < w7.heap.size) ∧ (∀ q ∈ ownB a3, q < w7.heap.size)) :=
                ⟨(hc3.block _ HB6.out.2.1 (P2.out.2.2.2.1 bx (by simp)).2.2.2.1).trans HB6.out.1, Ints.chg HB6.out.2.2 hc3 (fun q hq hm => by have := P2.out.1.b0 q hm; omega), Nat.lt_of_lt_of_le HB6.out.2.1 hc3.size, fun q hq => Nat.lt_of_lt_of_le (P2.out.2.2.2.2.2.2.2 q hq) hc3.size, fun q hq => (hw3 q hq).2.2.2.2⟩
              have HL : Hid ((∀ q ∈ RB3.all, q < w5.heap.size) ∧ w5.heap.size ≤ w6.heap.size) := ⟨fun q hq => HL6.out.1 q (by rw [← hra]; exact hq), HL6.out.2⟩
              clear HL6
              have HD3 : Hid (d3 = dataOf (doesOut S D k).blk ∧ m3 = (kidsOf (doesOut S D k).blk).length) := ⟨hd3, hm3⟩
              clear his hp3 es3 et3 hw3 hx3 hf3 hc3 hra hba hd3 hm3 hi3 hr3 hk3 hoff P2 HB6 hdo q0' q1' q3'
              obtain ⟨w8, hw8⟩ : ∃ w8, w8 = w7.alloc (.cells #[.slice a3 m3 c3, .string d3] 58) := ⟨_, rfl⟩
              have hb8 : Below w7.heap.size w7 w8 := by rw [hw8]; exact (Below.refl _ _).alloc (Nat.le_refl _) _
              have hx8 : w8.heap[w7.heap.size]? = some (.cells #[.slice a3 m3 c3, .string d3] 58 (0, 0)) := by rw [hw8]; exact heap_alloc_last _ _
              obtain ⟨b19, hb19⟩ : ∃ b19, b19 = w7.heap.size := ⟨_, rfl⟩
              have hbox8 : w8.heap[bx]? = some (.cells #[.int .i64 k.op, .int .i64 k.i, .slice ka k.kids.length kc, .string k.s] 51 (0, 0)) := (hb8.block _ HB7.out.2.2.1).trans HB7.out.1
              have q0 : w8.cell? ⟨bx, 0, none⟩ = some (.int .i64 k.op) := cell_at hbox8 0
              have q1 : w8.cell? ⟨bx, 1, none⟩ = some (.int .i64 k.i) := cell_at hbox8 1
              have q2 : w8.cell? ⟨bx, 2, none⟩ = some (.slice ka k.kids.length kc) := cell_at hbox8 2
              have q3 : w8.cell? ⟨bx, 3, none⟩ = some (.string k.s) := cell_at hbox8 3
              rw [hw8] at q0 q1 q2 q3
              rw [← hb19] at hx8
              have hal := pr_also (P3.out.1.on hb8) HJ.out.1 HJ.out.2.1 HJ.out.2.2 (by omega) (by omega) HFT.out (kv := .slice ka k.kids.length kc) ((Ints.on HB7.out.2.1 hb8).mono (fun q hq hm => by have := P3.out.1.r0 q hm; omega)) HOP.out
              rw [P3.out.2.2.1] at hal
              have P8 : Hid (Pr w w8 b bk bd x xk xd xi B3 RB3 (doesOut S D k).st (doesOut S D k).dv S D ∧ B3.s = s ∧ RB3.s = t ∧ Kept (bx :: (ownB va ++ ownB a3)) w B3 RB3) := ⟨P3.out.1.on hb8, P3.out.2⟩
              have R8 : Hid (RowW w8 va k.kids.length ∧ RowW w8 a3 m3 ∧ Ints (w5.heap.size ≤ ·) w8 (.slice va k.kids.length vcap) k.kids ∧ Ints (w6.heap.size ≤ ·) w8 (.slice a3 m3 c3) (kidsOf (doesOut S D k).blk)) :=
                ⟨R3.out.1.on hb8, R3.out.2.1.on hb8, Ints.on R3.out.2.2.1 hb8, Ints.on R3.out.2.2.2 hb8⟩
              have HB8 : Hid (w8.heap[bx]? = some (.cells #[.int .i64 k.op, .int .i64 k.i, .slice ka k.kids.length kc, .string k.s] 51 (0, 0)) ∧ Ints (· < w.heap.size) w8 (.slice ka k.kids.length kc) k.kids ∧ w8.heap[b19]? = some (.cells #[.slice a3 m3 c3, .string d3] 58 (0, 0)) ∧ bx < b19 ∧ (∀ q ∈ ownB va, q < b19) ∧ (∀ q ∈ ownB a3, q < b19) ∧ b19 < w8.heap.size ∧ ∀ q ∈ RB3.all, q < b19) :=
                ⟨hbox8, Ints.on HB7.out.2.1 hb8, hx8, by rw [hb19]; exact HB7.out.2.2.1, by rw [hb19]; exact HB7.out.2.2.2.1, by rw [hb19]; exact HB7.out.2.2.2.2, heap_lt hx8, by rw [hb19]; exact P3.out.1.rs.lt⟩
              clear P3 R3 HB7 hb8 hx8 hbox8
              go_wp2_with fail
              rw [← hw8, ← hb19]
              clear hw8 hb19 q0 q1 q2 q3
              refine hal.mono ?_
              rintro e w9 ⟨B4, RB4, a4, m4, c4, d4, rfl, his, hp4, es4, et4, hx4, hf4, hc4, hba, hra⟩
              obtain ⟨hd4, hm4, hi4, hr4⟩ := his.parts blk_len
              have hoff : ∀ q, w5.heap.size ≤ q → q ∉ RB3.all := fun q hq hm => by have := HL.out.1 q hm; omega
              have hk4 : Kept (bx :: (ownB va ++ ownB a3)) w B4 RB4 := fun q hq => by
                obtain ⟨k1, k2, k3, k4, k5⟩ := P8.out.2.2.2 q hq
                have hq19 : q < b19 := by
                  rcases List.mem_cons.1 hq with rfl | hq
                  · exact HB8.out.2.2.2.1
                  · rcases List.mem_append.1 hq with hq | hq
                    · exact HB8.out.2.2.2.2.1 q hq
                    · exact HB8.out.2.2.2.2.2.1 q hq
                refine ⟨k1, hx4 q k2, hf4 q k3, by rw [hba]; exact k4, fun hm => ?_⟩
                rcases hra q hm with h1 | h1
                · exact k5 h1
                · have := HB8.out.2.2.2.2.2.2.1
                  omega
              have hva : ∀ q ∈ ownB va, q ∉ RB3.all := fun q hq => (P8.out.2.2.2 q (List.mem_cons_of_mem _ (List.mem_append_left _ hq))).2.2.2.2
              have ha3 : ∀ q ∈ ownB a3, q ∉ RB3.all := fun q hq => (P8.out.2.2.2 q (List.mem_cons_of_mem _ (List.mem_append_right _ hq))).2.2.2.2
              have P9 : Hid (Pr w w9 b bk bd x xk xd xi B4 RB4 (doesOut S D k).st (doesOut S D k).dv (doesOut S D k).st (doesOut S D k).dv ∧ B4.s = s ∧ RB4.s = t ∧ Kept (bx :: (ownB va ++ ownB a3)) w B4 RB4) := ⟨hp4, es4.trans P8.out.2.1, et4.trans P8.out.2.2.1, hk4⟩
              have R9 : Hid (RowW w9 va k.kids.length ∧ RowW w9 a3 m3 ∧ Ints (fun _ => True) w9 (.slice va k.kids.length vcap) k.kids ∧ Ints (fun _ => True) w9 (.slice a3 m3 c3) (kidsOf (doesOut S D k).blk) ∧ Ints (fun _ => True) w9 (.slice a4 m4 c4) (kidsOf (doesOut S D k).blk)) :=
                ⟨R8.out.1.chg hc4 hva, R8.out.2.1.chg hc4 ha3, (Ints.chg R8.out.2.2.1 hc4 (fun q hq => hoff q hq)).mono (fun _ _ => trivial), (Ints.chg R8.out.2.2.2 hc4 (fun q hq => hoff q (Nat.le_trans HL.out.2 hq))).mono (fun _ _ => trivial), hi4.mono (fun _ _ => trivial)⟩
              have HB9 : Hid (w9.heap[bx]? = some (.cells #[.int .i64 k.op, .int .i64 k.i, .slice ka k.kids.length kc, .string k.s] 51 (0, 0)) ∧ Ints (fun _ => True) w9 (.slice ka k.kids.length kc) k.kids ∧ w9.heap[b19]? = some (.cells #[.slice a3 m3 c3, .string d3] 58 (0, 0))) :=
                ⟨(hc4.block _ (heap_lt HB8.out.1) (P8.out.2.2.2 bx (by simp)).2.2.2.2).trans HB8.out.1, (Ints.chg HB8.out.2.1 hc4 (fun q hq hm => by have := P8.out.1.r0 q hm; omega)).mono (fun _ _ => trivial), (hc4.block _ (heap_lt HB8.out.2.2.1) (fun hm => Nat.lt_irrefl _ (HB8.out.2.2.2.2.2.2.2 _ hm))).trans HB8.out.2.2.1⟩
              have HN19 : Hid (∀ q ∈ ownB a3, q < b19) := HB8.out.2.2.2.2.2.1
              obtain ⟨hd3, hm3⟩ := HD3.out
              have hdd : d4 = d3 := hd4.trans hd3.symm
              subst hdd
              have hm16 : m3 ≤ 16 := by rw [hm3]; exact blk_len
              have hji := HJ.out.1.does HJ.out.2.2 (by omega) (by omega) k
              have HJ9 : Hid (Inv N (j + 1 + 1) (doesOut S D k).st ∧ ExactH (doesOut S D k).st ∧ (doesOut S D k).dv.n = N) := ⟨hji.1, exact_does HJ.out.1 HJ.out.2.2 (by omega) (by omega) k HJ.out.2.1, hji.2.trans HJ.out.2.2⟩
              clear his hp4 es4 et4 hx4 hf4 hc4 hba hra hk4 hva ha3 hoff hi4 hr4 hd4 hm4 hd3 hm3 HD3 HL P8 R8 HB8 hal HJ hji
              obtain ⟨w10, hw10⟩ : ∃ w10, w10 = w9.alloc (.cells #[.slice a4 m4 c4, .string d4] 58) := ⟨_, rfl⟩
              have hb10 : Below w9.heap.size w9 w10 := by rw [hw10]; exact (Below.refl _ _).alloc (Nat.le_refl _) _
              have hx10 : w10.heap[w9.heap.size]? = some (.cells #[.slice a4 m4 c4, .string d4] 58 (0, 0)) := by rw [hw10]; exact heap_alloc_last _ _
              obtain ⟨b22, hb22⟩ : ∃ b22, b22 = w9.heap.size := ⟨_, rfl⟩
              rw [← hb22] at hx10
              have hbox10 : w10.heap[bx]? = some (.cells #[.int .i64 k.op, .int .i64 k.i, .slice ka k.kids.length kc, .string k.s] 51 (0, 0)) := (hb10.block _ (heap_lt HB9.out.1)).trans HB9.out.1
              have hbox19 : w10.heap[b19]? = some (.cells #[.slice a3 m3 c3, .string d4] 58 (0, 0)) := (hb10.block _ (heap_lt HB9.out.2.2)).trans HB9.out.2.2
              have q0 : w10.cell? ⟨b19, 0, none⟩ = some (.slice a3 m3 c3) := cell_at hbox19 0
              have q1 : w10.cell? ⟨b19, 1, none⟩ = some (.string d4) := cell_at hbox19 1
              have q2 : w10.cell? ⟨b22, 0, none⟩ = some (.slice a4 m4 c4) := cell_at hx10 0
              have q3 : w10.cell? ⟨b22, 1, none⟩ = some (.string d4) := cell_at hx10 1
              have q4 : w10.cell? ⟨bx, 2, none⟩ = some (.slice ka k.kids.length kc) := cell_at hbox10 2
              rw [hw10] at q0 q1 q2 q3 q4
              rw [hb22] at q2 q3
              have P10 : Hid (Pr w w10 b bk bd x xk xd xi B4 RB4 (doesOut S D k).st (doesOut S D k).dv (doesOut S D k).st (doesOut S D k).dv ∧ B4.s = s ∧ RB4.s = t ∧ Kept (bx :: (ownB va ++ ownB a3)) w B4 RB4) := ⟨P9.out.1.on hb10, P9.out.2⟩
              have R10 : Hid (RowW w10 va k.kids.length ∧ RowW w10 a3 m3 ∧ Ints (fun _ => True) w10 (.slice va k.kids.length vcap) k.kids ∧ Ints (fun _ => True) w10 (.slice a3 m3 c3) (kidsOf (doesOut S D k).blk) ∧ Ints (fun _ => True) w10 (.slice a4 m4 c4) (kidsOf (doesOut S D k).blk)) :=
                ⟨R9.out.1.on hb10, R9.out.2.1.on hb10, Ints.on R9.out.2.2.1 hb10, Ints.on R9.out.2.2.2.1 hb10, Ints.on R9.out.2.2.2.2 hb10⟩
              have HB10 : Hid (w10.heap[bx]? = some (.cells #[.int .i64 k.op, .int .i64 k.i, .slice ka k.kids.length kc, .string k.s] 51 (0, 0)) ∧ Ints (fun _ => True) w10 (.slice ka k.kids.length kc) k.kids ∧ w10.heap[b19]? = some (.cells #[.slice a3 m3 c3, .string d4] 58 (0, 0))) :=
                ⟨hbox10, Ints.on HB9.out.2.1 hb10, hbox19⟩
              obtain ⟨nn, hnn⟩ : ∃ nn, nn = (doesOut S D k).num := ⟨_, rfl⟩
              obtain ⟨ee, hee⟩ : ∃ ee, ee = (doesOut S D k).err := ⟨_, rfl⟩
              rw [← hnn, ← hee]
              have hn1 : (nn != nn) = false := by simp
              have he1 : (ee != ee) = false := by simp
              clear P9 R9 HB9 hb10 hx10 hbox10 hbox19 hnn hee
              go_wp2_with fail
              rw [← hw10]
              clear hw10 hb22 q0 q1 q2 q3 q4
              obtain ⟨kk, hkk⟩ : ∃ kk, kk = kidsOf (doesOut S D k).blk := ⟨_, rfl⟩
              have hd1 : decide (kk = kk) = true := by simp
              refine (equal_ints _ _ _ _ _ kk kk (by rw [hkk]; exact R10.out.2.2.2.1) (by rw [hkk]; exact R10.out.2.2.2.2)).mono ?_
              rintro e w11 ⟨rfl, hb11⟩
              rw [hd1]
              have P11 : Hid (Pr w w11 b bk bd x xk xd xi B4 RB4 (doesOut S D k).st (doesOut S D k).dv (doesOut S D k).st (doesOut S D k).dv ∧ B4.s = s ∧ RB4.s = t ∧ Kept (bx :: (ownB va ++ ownB a3)) w B4 RB4) := ⟨P10.out.1.on hb11, P10.out.2⟩
              have R11 : Hid (RowW w11 va k.kids.length ∧ RowW w11 a3 m3 ∧ Ints (fun _ => True) w11 (.slice va k.kids.length vcap) k.kids) := ⟨R10.out.1.on hb11, R10.out.2.1.on hb11, Ints.on R10.out.2.2.1 hb11⟩
              have HB11 : Hid (w11.heap[bx]? = some (.cells #[.int .i64 k.op, .int .i64 k.i, .slice ka k.kids.length kc, .string k.s] 51 (0, 0)) ∧ Ints (fun _ => True) w11 (.slice ka k.kids.length kc) k.kids ∧ w11.heap[b19]? = some (.cells #[.slice a3 m3 c3, .string d4] 58 (0, 0))) :=
                ⟨(hb11.block _ (heap_lt HB10.out.1)).trans HB10.out.1, Ints.on HB10.out.2.1 hb11, (hb11.block _ (heap_lt HB10.out.2.2)).trans HB10.out.2.2⟩
              clear P10 R10 HB10 hb11 hkk hd1
              have q4 : w11.cell? ⟨bx, 2, none⟩ = some (.slice ka k.kids.length kc) := cell_at HB11.out.1 2
              go_wp2_with fail
              refine (equal_ints _ _ _ _ _ k.kids k.kids R11.out.2.2 HB11.out.2.1).mono ?_
              rintro e w12 ⟨rfl, hb12'⟩
              rw [show decide (k.kids = k.kids) = true from by simp]
              have P12 : Hid (Pr w w12 b bk bd x xk xd xi B4 RB4 (doesOut S D k).st (doesOut S D k).dv (doesOut S D k).st (doesOut S D k).dv ∧ B4.s = s ∧ RB4.s = t ∧ Kept (bx :: (ownB va ++ ownB a3)) w B4 RB4) := ⟨P11.out.1.on hb12', P11.out.2⟩
              have R12 : Hid (RowW w12 va k.kids.length ∧ RowW w12 a3 m3) := ⟨R11.out.1.on hb12', R11.out.2.1.on hb12'⟩
              have HB12 : Hid (w12.heap[b19]? = some (.cells #[.slice a3 m3 c3, .string d4] 58 (0, 0))) := (hb12'.block _ (heap_lt HB11.out.2.2)).trans HB11.out.2.2
              clear P11 R11 HB11 hb12' q4
              have htl := tells_any w12 B4 RB4 _ _ _ N P12.out.1.st P12.out.1.rs HJ9.out.2.2 HJ9.out.2.2 HJ9.out.1.wf HJ9.out.1.kept
              rw [P12.out.2.1, P12.out.2.2.1] at htl
              go_wp2_with fail
              refine htl.mono ?_
              rintro e w13 ⟨rfl, hb13⟩
              have P13 : Hid (Pr w w13 b bk bd x xk xd xi B4 RB4 (doesOut S D k).st (doesOut S D k).dv (doesOut S D k).st (doesOut S D k).dv ∧ B4.s = s ∧ RB4.s = t ∧ Kept (bx :: (ownB va ++ ownB a3)) w B4 RB4) := ⟨P12.out.1.on hb13, P12.out.2⟩
              have R13 : Hid (RowW w13 va k.kids.length ∧ RowW w13 a3 m3) := ⟨R12.out.1.on hb13, R12.out.2.on hb13⟩
              have HB13 : Hid (w13.heap[b19]? = some (.cells #[.slice a3 m3 c3, .string d4] 58 (0, 0))) := (hb13.block _ (heap_lt HB12.out)).trans HB12.out
              clear P12 R12 HB12 hb13 htl
              have q0 : w13.cell? ⟨b19, 0, none⟩ = some (.slice a3 m3 c3) := cell_at HB13.out 0
              go_wp2_with fail
              have HM3 : Hid (m3 ≤ 16) := hm16
              go_loopw [176] (fun v176 wr2 => ∃ q : Nat, q ≤ m3 ∧ v176 = .int .i64 q ∧ Hid (Pr w wr2 b bk bd x xk xd xi B4 RB4 (doesOut S D k).st (doesOut S D k).dv (doesOut S D k).st (doesOut S D k).dv ∧ RowW wr2 va k.kids.length ∧ RowW wr2 a3 m3 ∧ ∃ a : Option Addr, a = a3 ∧ wr2.heap[b19]? = some (.cells #[.slice a m3 c3, .string d4] 58 (0, 0)))) (fun v176 _ => m3 - (intOf v176).toNat)
              case atStart => exact ⟨0, by omega, rfl, P13.out.1, R13.out.1, R13.out.2, a3, rfl, HB13.out⟩
              case round =>
                obtain ⟨q, hq, rfl, HQ⟩ := hrel
                by_cases hql : q < m3
                · obtain ⟨g, v, ha, hcell, hfr⟩ := HQ.out.2.2.1.at q hql
                  have qb : wr.cell? ⟨b19, 0, none⟩ = some (.slice (some ⟨g, 0, none⟩) m3 c3) := by
                    obtain ⟨a, h1, h2⟩ := HQ.out.2.2.2
                    rw [h1, ha] at h2
                    exact cell_at h2 0
                  have hin : g ∈ bx :: (ownB va ++ ownB a3) := by rw [ha]; simp [ownB]
                  have hne : b19 ≠ g := by have := HN19.out g (by rw [ha]; simp [ownB]); omega
                  have hch : Chg [g] wr (wr.setCell ⟨g, q, none⟩ (.int .i64 (-1))) := (Chg.refl _ _).setCell _ _ (.inl (by simp))
                  have H2 : Hid (Pr w (wr.setCell ⟨g, q, none⟩ (.int .i64 (-1))) b bk bd x xk xd xi B4 RB4 (doesOut S D k).st (doesOut S D k).dv (doesOut S D k).st (doesOut S D k).dv ∧ RowW (wr.setCell ⟨g, q, none⟩ (.int .i64 (-1))) va k.kids.length ∧ RowW (wr.setCell ⟨g, q, none⟩ (.int .i64 (-1))) a3 m3 ∧ ∃ a : Option Addr, a = a3 ∧ (wr.setCell ⟨g, q, none⟩ (.int .i64 (-1))).heap[b19]? = some (.cells #[.slice a m3 c3, .string d4] 58 (0, 0))) := by
                    obtain ⟨a, h1, h2⟩ := HQ.out.2.2.2
                    refine ⟨HQ.out.1.off hch (fun z hz => ?_), HQ.out.2.1.set, HQ.out.2.2.1.set, a, h1, (heap_set_other _ _ hne).trans h2⟩
                    have hzg : z = g := by simpa using hz
                    rw [hzg]
                    exact P13.out.2.2.2 g hin
                  clear hch hne hin HQ
                  go_wp2_with fail
                  go_roundw
                  case rel => exact ⟨q + 1, by omega, by go_num, H2.out⟩
                  case measure => simp [intOf]; omega
                · have hqe : q = m3 := by omega
                  clear R13 HB13 q0
                  go_wp2_with fail
                  have HK9 : Hid (k.kids.length ≤ 9223372036854775807) := hl9
                  go_loopw [186] (fun v186 wr2 => ∃ q : Nat, q ≤ k.kids.length ∧ v186 = .int .i64 q ∧ Hid (Pr w wr2 b bk bd x xk xd xi B4 RB4 (doesOut S D k).st (doesOut S D k).dv (doesOut S D k).st (doesOut S D k).dv ∧ RowW wr2 va k.kids.length)) (fun v186 _ => k.kids.length - (intOf v186).toNat)
                  case atStart => exact ⟨0, by omega, rfl, HQ.out.1, HQ.out.2.1⟩
                  case round =>
                    obtain ⟨q', hq', rfl, HQ'⟩ := hrel
                    by_cases hql' : q' < k.kids.length
                    · obtain ⟨g, v, ha, hcell, hfr⟩ := HQ'.out.2.at q' hql'
                      have hin : g ∈ bx :: (ownB va ++ ownB a3) := by rw [ha]; simp [ownB]
                      have hch : Chg [g] wr (wr.setCell ⟨g, q', none⟩ (.int .i64 99)) := (Chg.refl _ _).setCell _ _ (.inl (by simp))
                      have H2 : Hid (Pr w (wr.setCell ⟨g, q', none⟩ (.int .i64 99)) b bk bd x xk xd xi B4 RB4 (doesOut S D k).st (doesOut S D k).dv (doesOut S D k).st (doesOut S D k).dv ∧ RowW (wr.setCell ⟨g, q', none⟩ (.int .i64 99)) va k.kids.length) := by
                        refine ⟨HQ'.out.1.off hch (fun z hz => ?_), HQ'.out.2.set⟩
                        have hzg : z = g := by simpa using hz
                        rw [hzg]
                        exact P13.out.2.2.2 g hin
                      clear hch hin HQ' HQ
                      subst ha
                      go_wp2_with fail
                      go_roundw
                      case rel => exact ⟨q' + 1, by omega, by go_num, H2.out⟩
                      case measure => simp [intOf]; omega
                    · have hqe' : q' = k.kids.length := by omega
                      have H12 : Hid (Plays w wr N b bk bd x xk xd xi (j + 1) (.pointer (some ⟨s, 0, none⟩)) (.pointer (some ⟨t, 0, none⟩))) :=
                        .inr ⟨B4, RB4, _, _, by rw [P13.out.2.1], by rw [P13.out.2.2.1], HQ'.out.1, HJ9.out⟩
                      clear HQ' HQ P13
                      go_wp2_with fail
                      go_roundw
                      case rel => exact ⟨j + 1, by omega, by go_num, H12.out⟩
                      case measure => simp [intOf]; omega
end Go.Proofs.YtanpkghdgdkdlaaGreat.Sto

/- Statements of layer 6: for every input the law returns true. No condition. (Printed by wip/tools/storelaws.py.) -/
namespace Go.Proofs.YtanpkghdgdkdlaaGreat.Sto
set_option maxRecDepth 100000
set_option linter.unusedVariables false
set_option linter.unusedSimpArgs false
open Go.ChangeShapes Go.WideShapes Go.ChangeAt Go.RowKit Go.WideMaps Go.WideElems Go.Proofs.YtanpkghdgdkdlaaGreat.Mem
open Go.ChangeMaps (open_string shut_string)

theorem own : ownKnob Tryz.prog.godebug = none := by kernel_rfl
theorem laidOut : laidOutB Tryz.prog = true := by kernel_rfl

instance : Inhabited DoT := ⟨⟨0, 0, [], ⟨#[]⟩⟩⟩
theorem do_of {H : Type} {enc : TypeId × Value → H} {p : Nat → Prop} {W : World} {n0 n1 n2 n3 : Nat} {c0 c1 c2 c3 : Value} {y0 y1 y2 y3 : DataW H × List MemPlace}
    (h0 : DataW.trod enc Tryz.prog W 0 (fun _ => true) true n0 3 [c0] = some y0) (h1 : DataW.trod enc Tryz.prog W 0 (fun _ => true) true n1 3 [c1] = some y1)
    (h2 : DataW.trod enc Tryz.prog W 0 (fun _ => true) true n2 23 [c2] = some y2) (h3 : DataW.trod enc Tryz.prog W 0 (fun _ => true) true n3 9 [c3] = some y3) (hp : ∀ z ∈ y2.2, p z.block)
    (hw : Mem.Reached ((DataW.agg [y0.1, y1.1, y2.1, y3.1]).weights Tryz.prog 51)) : ∃ k, DoIs p W [c0, c1, c2, c3] k := by
  obtain ⟨x0, q0, _, w0⟩ := DataW.trod_int Tryz.underlying3 h0
  obtain ⟨x1, q1, _, w1⟩ := DataW.trod_int Tryz.underlying3 h1
  obtain ⟨x3, q3, r3, w3⟩ := DataW.trod_string Tryz.underlying9 h3
  rw [r3] at hw
  simp only [DataW.weights, Tryz.underlying51] at hw
  obtain ⟨v2, l2, q2, hi, _, hb⟩ := open_ints_w Tryz.underlying23 Tryz.underlying3 (by kernel_rfl) h2 hp (fun n hn => hw n (by simp [DataW.weightsEach, hn]))
  have hs := open_str_w (t := 9) (P := Tryz.prog) (H := H) (s := x3) (fun n hn => hw n (by simp [DataW.weightsEach, hn]))
  have e8 : Tryz.prog.bytesOf 3 = 8 := by kernel_rfl
  rw [e8] at hb
  simp only [List.cons.injEq, and_true] at q0 q1 q2 q3
  subst q0 q1 q2 q3
  exact ⟨⟨x0, x1, l2, x3⟩, _, rfl, ⟨w0, w1, hs, by simpa [reachBytes] using hb⟩, hi⟩
/-- A []Do that came in. -/
theorem open_dos {H : Type} {enc : TypeId × Value → H} {W : World} {base : Nat} {v : Value} {d : DataW H} {ps : List MemPlace} (hval : Value.okWide Tryz.prog W .any base 46 v)
    (h : DataW.Trod enc Tryz.prog W 0 (fun _ => true) true 46 v d ps) (hp : ∀ x ∈ ps, x.block < W.heap.size) (hw : Mem.Reached (d.weights Tryz.prog 46)) : ∃ l, Dos (· < W.heap.size) W v l := by
  obtain ⟨a, len, cap, rfl⟩ := okWide_slice Tryz.underlying46 hval
  obtain ⟨fuel, hf⟩ := h
  obtain ⟨v', l, hv, hs, _⟩ := open_slice_w (α := DoT) (sz := 4) (R := DoIs (· < W.heap.size)) (p := (· < W.heap.size)) Tryz.underlying46 (by kernel_rfl) (by omega) hf hp hw (fun n cs' y htr hz hr => by
    obtain ⟨y0, y1, y2, y3, m, rfl, hl, h0, h1, h2, h3⟩ := Joins.trod_struct4 (f0 := _) (f1 := _) (f2 := _) (f3 := _) Tryz.underlying51 htr
    have hl4 : cs'.length = 4 := hl
    match cs', hl4 with
    | [c0, c1, c2, c3], _ => exact do_of h0 h1 h2 h3 (fun z hzz => hz z (by simp [hzz])) hr)
  have e : v' = .slice a len cap := by simpa [Value.cells] using hv.symm
  subst e
  exact ⟨l, hs⟩
/-- A []int that came in. -/
theorem open_keep {H : Type} {enc : TypeId × Value → H} {W : World} {base : Nat} {v : Value} {d : DataW H} {ps : List MemPlace} (hval : Value.okWide Tryz.prog W .any base 23 v)
    (h : DataW.Trod enc Tryz.prog W 0 (fun _ => true) true 23 v d ps) (hp : ∀ x ∈ ps, x.block < W.heap.size) : ∃ l, Ints (· < W.heap.size) W v l := by
  obtain ⟨a, len, cap, rfl⟩ := okWide_slice Tryz.underlying23 hval
  obtain ⟨fuel, hf⟩ := h
  obtain ⟨v', l, hv, hs, _⟩ := open_ints_of (p := (· < W.heap.size)) Tryz.underlying23 Tryz.underlying3 (by kernel_rfl) hf hp
  have e : v' = .slice a len cap := by simpa [Value.cells] using hv.symm
  subst e
  exact ⟨l, hs⟩
/-- A Do that came in. -/
theorem open_do {H : Type} {enc : TypeId × Value → H} {W : World} {base : Nat} {v : Value} {d : DataW H} {ps : List MemPlace} (hval : Value.okWide Tryz.prog W .any base 51 v)
    (h : DataW.Trod enc Tryz.prog W 0 (fun _ => true) true 51 v d ps) (hp : ∀ x ∈ ps, x.block < W.heap.size) (hw : Mem.Reached (d.weights Tryz.prog 51)) :
    ∃ (k : DoT) (kv : Value), v = .agg #[.int .i64 k.op, .int .i64 k.i, kv, .string k.s] ∧ k.fits ∧ Ints (· < W.heap.size) W kv k.kids := by
  obtain ⟨c0, c1, c2, c3, y0, y1, y2, y3, m, rfl, rfl, rfl, h0, h1, h2, h3⟩ := Joins.open_agg4 Tryz.underlying51 (by kernel_rfl) (by kernel_rfl) hval h
  obtain ⟨k, kv, hcs, hf, hi⟩ := do_of (p := (· < W.heap.size)) h0 h1 h2 h3 (fun z hz => hp z (by simp [hz])) hw
  simp only [List.cons.injEq, and_true] at hcs
  obtain ⟨rfl, rfl, rfl, rfl⟩ := hcs
  exact ⟨k, _, rfl, hf, hi⟩
theorem wf_range {i : Int} (h : (Lit.int .i64 i).wf = true) : -9223372036854775808 ≤ i ∧ i ≤ 9223372036854775807 := by
  simp only [Lit.wf, IntKind.min, IntKind.max, IntKind.signed, IntKind.bits, Bool.and_eq_true] at h
  simp at h
  omega

set_option maxRecDepth 100000 in
theorem storePlays_lifted (os : Os) (started : os.Started) (H : Type) (enc : TypeId × Value → H) :
    ReturnsInHanded {} Tryz.checked os 4 .any (Rows.storePlaysSpec.pre6 enc Tryz.prog Tryz.f4 Rows.storePlaysRow.domain false) (Rows.storePlaysSpec.post enc Tryz.prog Tryz.f4 false true false false) := by
  refine LawFrame.lifted (C := Tryz.checked) (tb := 4) own started (by kernel_rfl) Tryz.func4
    (ChangeSpec.witness6 (enc := enc) (C := Tryz.checked) false ⟨#[], #[.int .i64 0, .string ⟨#[]⟩, .slice none 0 0], []⟩ 8 (by kernel_rfl) (by kernel_rfl) (by kernel_rfl) (by kernel_rfl))
    laidOut (by kernel_rfl) ⟨rfl, fun H ds hd => by match ds, hd with | [d0, d1, d2], _ => exact ⟨rfl, rfl, rfl⟩⟩ rfl Tryz.underlying4 ?_
  intro W base args ds p hval0 hA0 hlt hfz hsz0
  have hval : ∀ (j : Nat) t v, Tryz.f4.params[j]? = some t → args[j]? = some v → Value.okWide Tryz.prog W .any base t v := hval0
  have hA : DataW.TrodAll enc Tryz.prog W 0 (fun _ => true) true Tryz.f4.params.toList args.toList ds p := hA0
  have hsz : (DataW.weightsEach Tryz.prog Tryz.f4.params.toList ds).all (· ≤ reachBytes) = true := hsz0
  rw [Tryz.params4] at hA hval hsz
  obtain ⟨v0, v1, v2, d0, d1, d2, p0, p1, p2, rfl, rfl, rfl, h0, h1, h2⟩ := trodAll_three hA
  obtain ⟨n, rfl, rfl, rfl, wn⟩ := open_int Tryz.underlying3 (hval 0 3 v0 rfl rfl) h0
  obtain ⟨s, rfl, rfl, rfl, ws⟩ := open_string Tryz.underlying9 (hval 1 9 v1 rfl rfl) h1
  obtain ⟨l, Hl⟩ := open_dos (hval 2 46 v2 rfl rfl) h2 (fun x hx => hlt x (by simp [hx])) (fun n hn => of_decide_eq_true (List.all_eq_true.1 hsz n (by simp [DataW.weightsEach, hn])))
  exact storePlays_any W n v2 s l Hl
theorem storePlays_holds : Rows.StorePlaysSaid :=
  OpenClaim.holds_of_wide 4 Tryz.f4 rfl rfl rfl rfl rfl rfl rfl ⟨rfl, rfl, rfl, rfl, rfl⟩ rfl rfl rfl rfl rfl (by kernel_rfl) Tryz.func4 (by kernel_rfl)
    (of_decide_eq_true (by kernel_rfl)) (by unfold Func.isWrapper; rw [if_neg (of_decide_eq_false (by kernel_rfl))]; exact ⟨rfl, rfl⟩)
    (fun os started H enc _ => storePlays_lifted os started H enc)

end Go.Proofs.YtanpkghdgdkdlaaGreat.Sto

