/- Layer 6 in plain Lean: what a block, and all below it, hold, here and behind a crash. -/
import Derived.Test.YtadmecjdihfmeaaGreatStoGood
namespace Go.Proofs.YtadmecjdihfmeaaGreat.Sto
set_option linter.unusedVariables false
set_option linter.unusedSimpArgs false
open Go.RowKit Go.Proofs.YtadmecjdihfmeaaGreat.Mem Go.Proofs.YtadmecjdihfmeaaGreat.Oct Go.Proofs.YtadmecjdihfmeaaGreat.Dev

abbrev BlkT := List Int × ByteArray
/-- what is come to -/
def bfs (g : Int → Option BlkT) : Nat → Nat → List Int → List BlkT
  | 0, _, _ => []
  | f + 1, room, todo => match room, todo with
    | 0, _ => []
    | _, [] => []
    | room + 1, t :: todo => match g t with
      | none => bfs g f (room + 1) todo
      | some x => x :: bfs g f room (todo ++ x.1)
theorem bfs_congr {g g' : Int → Option BlkT} {P : Int → Prop} (h1 : ∀ i, P i → g i = g' i) (h2 : ∀ i x, P i → g i = some x → ∀ k ∈ x.1, P k) : ∀ (f room : Nat) (todo : List Int), (∀ i ∈ todo, P i) → bfs g f room todo = bfs g' f room todo
  | 0, _, _, _ => rfl
  | f + 1, 0, _, _ => rfl
  | f + 1, room + 1, [], _ => rfl
  | f + 1, room + 1, t :: todo, h => by
    have ht := h t (by simp)
    rw [bfs, bfs, ← h1 t ht]
    cases hg : g t with
    | none => exact bfs_congr h1 h2 f (room + 1) todo (fun i hi => h i (by simp [hi]))
    | some x =>
      have := bfs_congr h1 h2 f room (todo ++ x.1) (fun i hi => by
        rcases List.mem_append.1 hi with hi | hi
        · exact h i (by simp [hi])
        · exact h2 t x ht hg i hi)
      dsimp only
      rw [this]
/-- what Get tells -/
def getF (S : StS) (D : DevS) (i : Int) : Option BlkT := (S.getR D i).2
def fuelB : Nat := 3500
def belowF (S : StS) (D : DevS) (i : Int) : List BlkT := bfs (getF S D) fuelB 200 [i]
theorem getF_in {S : StS} {D : DevS} {i : Int} {x : BlkT} (h : getF S D i = some x) : x.1.length ≤ 16 := by
  unfold getF StS.getR at h
  split at h
  · exact (readP_in h).1.1
  · cases h
/-- what is there is got -/
theorem Good.get {n m : Nat} {S : StS} {D : DevS} (h : Good n S D) (hi : Inv n m S) (ho : D.off = false) {i : Int} {c : Cel} (hc : S.cells i = some c) : ∃ d, getP (vw D i) n = some (c.kids, d) ∧ S.getR D i = (0, some (c.kids, d)) := by
  obtain ⟨d, hd⟩ := h.live i c hc
  have hdm := hi.wf.dom i c hc
  have hr := readP_vw ho (D := D) (i := i) ⟨by omega, by rw [h.dn]; omega⟩
  rw [h.dn, hd] at hr
  have h2 := (readP_in hr).2.1
  refine ⟨d, hd, ?_⟩
  unfold StS.getR
  rw [if_pos (has_iff.2 ⟨c, hc⟩)]
  exact Prod.ext h2 hr
theorem getF_none {S : StS} {D : DevS} {i : Int} (h : S.has i = false) : getF S D i = none := by
  unfold getF StS.getR
  rw [h, if_neg (by decide)]
/-- what a commit keeps, as it is come to -/
def keptG (n : Nat) (S : StS) (K : Int → ByteArray) (i : Int) : Option BlkT := if S.kept i = true then getP (K i) n else none
def allOf (n : Nat) (S : StS) (K : Int → ByteArray) : List BlkT := bfs (keptG n S K) fuelB 200 [S.root]
theorem root_in {n : Nat} {S : StS} {K : Int → ByteArray} (h : Lasts n S K) : S.root = 0 ∨ S.kept S.root = true := by
  by_cases h0 : S.root = 0
  · exact .inl h0
  · exact .inr (h.lies.top h0)
theorem kept0 {n : Nat} {S : StS} {K : Int → ByteArray} (h : Lasts n S K) : S.kept 0 = false := by
  cases hk : S.kept 0 with
  | false => rfl
  | true => have := h.lies.dom 0 hk; omega
theorem keptG_kids {n : Nat} {S : StS} {K : Int → ByteArray} (h : Lasts n S K) (i : Int) (x : BlkT) (hx : keptG n S K i = some x) : ∀ k ∈ x.1, S.kept k = true := by
  unfold keptG at hx
  split at hx
  · rename_i hk
    obtain ⟨hh, hb⟩ := h.lies.blk
    obtain ⟨_, l, d, hg, hl⟩ := hb i hk
    rw [hg] at hx
    cases hx
    exact fun k hk => (hl k hk).1
  · cases hx
theorem allOf_turn {n : Nat} {S S' : StS} {K K' : Int → ByteArray} (h : Lasts n S K) (hk : ∀ i, S.kept i = true → K' i = K i) (h1 : S'.kept = S.kept) (h2 : S'.root = S.root) : allOf n S' K' = allOf n S K := by
  unfold allOf
  rw [h2]
  have e : keptG n S' K' = keptG n S K := by
    funext i
    unfold keptG
    rw [h1]
    by_cases hi : S.kept i = true
    · rw [if_pos hi, if_pos hi, hk i hi]
    · rw [if_neg hi, if_neg hi]
  rw [e]
/-- what a store, opened, tells of its root -/
theorem Opened.below {n : Nat} {S S' : StS} {K : Int → ByteArray} {D : DevS} (h : Opened n S K S') (hl : Lasts n S K) (ho : D.off = false) (hD : D.n = n) (hK : ∀ i, S.kept i = true → vw D i = K i) : belowF S' D S.root = allOf n S K := by
  unfold belowF allOf
  refine bfs_congr (P := fun i => i = 0 ∨ S.kept i = true) (fun i hi => ?_) (fun i x hi hx k hk => ?_) _ _ _ (fun i hi => ?_)
  · by_cases hk : S.kept i = true
    · have hd := hl.lies.dom i hk
      unfold getF StS.getR keptG
      rw [if_pos hk, if_pos (by rw [h.has]; exact hk), readP_vw ho ⟨by omega, by rw [hD]; omega⟩, hK i hk, hD]
    · rw [getF_none (by rw [h.has]; simpa using hk)]
      unfold keptG
      rw [if_neg hk]
  · right
    unfold getF StS.getR at hx
    split at hx
    · rename_i hh
      obtain ⟨c, hc⟩ := has_iff.1 hh
      obtain ⟨d, hd⟩ := h.kids i c hc
      rw [h.has] at hh
      have hdm := hl.lies.dom i hh
      rw [readP_vw ho ⟨by omega, by rw [hD]; omega⟩, hK i hh, hD, hd] at hx
      cases hx
      rw [← h.has]
      exact h.inv.wf.kids i c hc k hk
    · cases hx
  · simp at hi
    subst hi
    exact root_in hl
/-! ### behind a crash -/
theorem crash_off (D : DevS) (l : List Int) : (D.crash l).start.off = false := rfl
theorem crash_n (D : DevS) (l : List Int) : (D.crash l).start.n = D.n := rfl
theorem crash_dirty (D : DevS) (l : List Int) : (D.crash l).start.dirty = fun _ => none := rfl
theorem crash_kept (D : DevS) (l : List Int) : (D.crash l).start.kept = saved l D.dirty D.kept := rfl
theorem crash_small {D : DevS} (h : D.small) (l : List Int) : (D.crash l).start.small := by
  refine ⟨fun i s hs => ?_, fun i s hs => by cases hs⟩
  have hs' : saved l D.dirty D.kept i = some s := hs
  unfold saved at hs'
  split at hs'
  · unfold over at hs'
    split at hs'
    · rename_i t ht; cases hs'; exact h.2 i _ ht
    · exact h.1 i _ hs'
  · exact h.1 i _ hs'
theorem vw_crash (D : DevS) (l : List Int) (i : Int) : vw (D.crash l).start i = if i ∈ l then vw D i else kp D i := by
  unfold vw kp
  rw [crash_kept, crash_dirty]
  unfold saved over
  dsimp only
  split <;> rfl
/-- a device on which a store can be opened: its root, its note, and all below -/
def Tells (n : Nat) (D : DevS) (root : Int) (note : ByteArray) (all : List BlkT) : Prop := ∃ S', openOut D = .ok S' ∧ S'.root = root ∧ S'.note = note ∧ belowF S' D root = all ∧ Inv n 1 S'
theorem Good.crash {n m : Nat} {S : StS} {D : DevS} (h : Good n S D) (hi : Inv n m S) (hn : 8 ≤ n ∧ n ≤ 4096) (l : List Int) : ∃ S', openOut (D.crash l).start = .ok S' ∧ Opened n S (vw (D.crash l).start) S' ∧ belowF S' (D.crash l).start S.root = allOf n S (kp D) := by
  have he : ∀ i, (S.kept i = true ∨ i = 0 ∨ i = 1) → vw (D.crash l).start i = kp D i := fun i hi => by
    rw [vw_crash]
    split
    · exact vw_clean (h.clean i hi)
    · rfl
  have hl : Lasts n S (vw (D.crash l).start) := h.last.turn (fun i hi => he i (.inl hi)) (he 0 (.inr (.inl rfl))) (he 1 (.inr (.inr rfl)))
  obtain ⟨S', e, ho⟩ := open_lasts (crash_off D l) (by rw [crash_n]; exact h.dn) hn hl hi.root
  refine ⟨S', e, ho, ?_⟩
  rw [ho.below hl (crash_off D l) (by rw [crash_n]; exact h.dn) (fun _ _ => rfl)]
  exact allOf_turn h.last (fun i hi => he i (.inl hi)) rfl rfl
theorem Good.tells {n m : Nat} {S : StS} {D : DevS} (h : Good n S D) (hi : Inv n m S) (hn : 8 ≤ n ∧ n ≤ 4096) (l : List Int) : Tells n (D.crash l).start S.root S.note (allOf n S (kp D)) := by
  obtain ⟨S', e, ho, hb⟩ := h.crash hi hn l
  exact ⟨S', e, ho.root, ho.note, hb, ho.inv⟩
/-- what a commit would keep is what is there below its root -/
theorem allOf_after {n m : Nat} {S : StS} {D : DevS} (h : Good n S D) (hi : Inv n m S) (ho : D.off = false) {root : Int} (hr : root = 0 ∨ S.has root = true) {note : ByteArray} {K : Int → ByteArray} (hl : Lasts n (S.after n root note) K) (hK : ∀ i, 2 ≤ i → K i = vw D i) : allOf n (S.after n root note) K = belowF S D root := by
  obtain ⟨e1, e2, e3, e4⟩ := after_same S n root note
  unfold allOf belowF
  rw [e3]
  have hhas : ∀ i, (S.after n root note).kept i = true → S.has i = true := by
    have hw : WF n (S.ahead root note) [] := hi.wf.same rfl
    exact fun i hk => ((keepF_new n (S.ahead root note) root hw (unk_all n) hr).2.2 i hk rfl).1
  refine bfs_congr (P := fun i => i = 0 ∨ (S.after n root note).kept i = true) (fun i hp => ?_) (fun i x hp hx k hk => .inr (keptG_kids hl i x hx k hk)) _ _ _ (fun i hm => ?_)
  · by_cases hk : (S.after n root note).kept i = true
    · obtain ⟨c, hc⟩ := has_iff.1 (hhas i hk)
      obtain ⟨d, hd, hg⟩ := h.get hi ho hc
      have hdm := hi.wf.dom i c hc
      unfold keptG getF
      rw [if_pos hk, hg, hK i hdm.1, hd]
    · have h0 : i = 0 := by
        rcases hp with h0 | h0
        · exact h0
        · exact absurd h0 hk
      subst h0
      unfold keptG
      rw [if_neg hk, getF_none]
      cases hh : S.has 0 with
      | false => rfl
      | true => have := has_dom hi hh; omega
  · simp at hm
    subst hm
    have := root_in hl
    rw [e3] at this
    exact this
/-- what a commit leaves, and what is there behind a crash in it -/
theorem CommitD.torn_tells {n m : Nat} {S : StS} {D : DevS} {root e : Int} {note : ByteArray} {S' : StS} {D' : DevS} (hc : CommitD n S D root note e S' D') (h : Good n S D) (hi : Inv n m S) (hn : 8 ≤ n ∧ n ≤ 4096) (ho : D.off = false) (he : e = 5) (l : List Int) :
    Tells n (D'.crash l).start S.root S.note (allOf n S (kp D)) ∨ Tells n (D'.crash l).start root note (belowF S D root) := by
  have hv : ∀ i, S.kept i = true → vw D i = kp D i := fun i hi => vw_clean (h.clean i (.inl hi))
  cases hc with
  | stays e D' he2 hg hvv hne =>
    left
    have := hg.tells hi hn l
    have e2 : allOf n S (kp D') = allOf n S (kp D) := allOf_turn h.last (fun i hk => by
      rw [← vw_clean (hg.clean i (.inl hk)), hvv, hv i hk]) rfl rfl
    rw [e2] at this
    exact this
  | torn D' hr hnt hg hDn hk hd =>
    have hkp : kp D' = vw D := by funext i; unfold kp vw; rw [hk]
    have hvw : ∀ i, vw D' i = if i = (S.gen + 1).tmod 2 then superOf S D root note else vw D i := by
      intro i
      unfold vw
      rw [hd, hk]
      by_cases hs : i = (S.gen + 1).tmod 2
      · subst hs; rw [if_pos rfl]; unfold over; rw [upd_same]; rfl
      · rw [if_neg hs]; unfold over; rw [upd_other _ _ _ hs]
    have hgen := hi.gen
    have hs01 : (S.gen + 1).tmod 2 = 0 ∨ (S.gen + 1).tmod 2 = 1 := by rw [Int.tmod_eq_emod_of_nonneg (by omega)]; omega
    obtain ⟨e1, e2, e3, e4⟩ := after_same S n root note
    by_cases hin : (S.gen + 1).tmod 2 ∈ l
    · right
      have hK : ∀ i, vw (D'.crash l).start i = if i = (S.gen + 1).tmod 2 then superOf S D root note else vw D i := by
        intro i
        rw [vw_crash, hvw, hkp]
        by_cases hs : i = (S.gen + 1).tmod 2
        · rw [if_pos hs, if_pos (by rw [hs]; exact hin)]
        · rw [if_neg hs]; split <;> rfl
      have hl : Lasts n (S.after n root note) (vw (D'.crash l).start) := lasts_after h hi hn hr hnt hg (by rw [hK, if_pos rfl]) (fun i hi => by rw [hK, if_neg hi])
      have hroot : (S.after n root note).root = 0 ∨ (2 ≤ (S.after n root note).root ∧ (S.after n root note).root < n) := by
        rw [e3]
        rcases hr with h0 | h0
        · exact .inl h0
        · exact .inr (has_dom hi h0)
      obtain ⟨S'', e5, hop⟩ := open_lasts (crash_off D' l) (by rw [crash_n]; exact hDn) hn hl hroot
      refine ⟨S'', e5, hop.root.trans e3, hop.note.trans e4, ?_, hop.inv⟩
      have hb := hop.below hl (crash_off D' l) (by rw [crash_n]; exact hDn) (fun _ _ => rfl)
      rw [e3] at hb
      rw [hb]
      exact allOf_after h hi ho hr hl (fun i h2 => by rw [hK, if_neg (by omega)])
    · left
      have hK : ∀ i, vw (D'.crash l).start i = vw D i := by
        intro i
        rw [vw_crash, hvw, hkp]
        by_cases hs : i = (S.gen + 1).tmod 2
        · rw [if_neg (by rw [hs]; exact hin)]
        · rw [if_neg hs]; split <;> rfl
      have hl : Lasts n S (vw (D'.crash l).start) := h.view.turn (fun i _ => hK i) (hK 0) (hK 1)
      obtain ⟨S'', e5, hop⟩ := open_lasts (crash_off D' l) (by rw [crash_n]; exact hDn) hn hl hi.root
      refine ⟨S'', e5, hop.root, hop.note, ?_, hop.inv⟩
      rw [hop.below hl (crash_off D' l) (by rw [crash_n]; exact hDn) (fun _ _ => rfl)]
      exact allOf_turn h.last (fun i hk => by rw [hK, hv i hk]) rfl rfl
  | done D' => exact absurd he (by decide)
theorem CommitD.done_all {n m : Nat} {S : StS} {D : DevS} {root e : Int} {note : ByteArray} {S' : StS} {D' : DevS} (hc : CommitD n S D root note e S' D') (h : Good n S D) (hi : Inv n m S) (hn : 8 ≤ n ∧ n ≤ 4096) (ho : D.off = false) (he : e ≠ 5) :
    (e ≠ 0 ∧ S' = S ∧ allOf n S' (kp D') = allOf n S (kp D)) ∨ (e = 0 ∧ S'.root = root ∧ S'.note = note ∧ allOf n S' (kp D') = belowF S D root) := by
  have hg2 := hc.good h hi hn he
  cases hc with
  | stays e D' he2 hg hvv hne =>
    exact .inl ⟨he2, rfl, allOf_turn h.last (fun i hk => by
      rw [← vw_clean (hg.clean i (.inl hk)), hvv, vw_clean (h.clean i (.inl hk))]) rfl rfl⟩
  | torn D' => exact absurd rfl he
  | done D' hr hnt hg hDn hk hd =>
    obtain ⟨e1, e2, e3, e4⟩ := after_same S n root note
    refine .inr ⟨rfl, e3, e4, ?_⟩
    have hgen := hi.gen
    have hs01 : (S.gen + 1).tmod 2 = 0 ∨ (S.gen + 1).tmod 2 = 1 := by rw [Int.tmod_eq_emod_of_nonneg (by omega)]; omega
    exact allOf_after h hi ho hr hg2.last (fun i h2 => by rw [hk, if_neg (by omega)])
/-- whatever else is done keeps what the last commit keeps -/
theorem doesOut_last {n m : Nat} {S : StS} {D : DevS} (h : Good n S D) (hi : Inv n m S) (hn : 8 ≤ n ∧ n ≤ 4096) (k : DoT) (hk : k.opn ≠ 9) : (doesOut S D k).st.root = S.root ∧ (doesOut S D k).st.note = S.note ∧ (doesOut S D k).st.kept = S.kept ∧ kp (doesOut S D k).dv = kp D := by
  have hDn : D.n.toNat = n := by have := h.dn; omega
  unfold doesOut
  rw [hDn]
  split
  · show (S.holds k.i).root = _ ∧ _
    unfold StS.holds
    split <;> exact ⟨rfl, rfl, rfl, rfl⟩
  · split
    · show (S.drop n k.i).root = _ ∧ _
      unfold StS.drop
      split
      · exact ⟨rfl, rfl, rfl, rfl⟩
      · rename_i hge
        have hh : S.has k.i = true := by
          cases hh : S.cells k.i with
          | some d => rw [StS.has, hh]; rfl
          | none =>
            have : S.cel k.i = noCel := by rw [StS.cel, hh]; rfl
            rw [this] at hge
            exact absurd (by decide) hge
        obtain ⟨c, hc⟩ := has_iff.1 hh
        rw [cel_some hc] at hge
        have h0 := hi.wf.held _ c hc
        have hw := hi.wf.hold hh (by_ := -1) (by rw [cel_some hc]; omega)
        have hf := gone_fade n _ k.i [] hw (num_le _ _)
        exact ⟨hf.root, hf.note, hf.kept, rfl⟩
    · split
      · have hf := sweep_fade (S.live n) S hi.wf
        exact ⟨hf.root, hf.note, hf.kept, rfl⟩
      · skip
        split
        · exact ⟨rfl, rfl, rfl, rfl⟩
        · split
          · refine ⟨rfl, rfl, rfl, ?_⟩
            show kp (D.fuse k.i) = _
            unfold DevS.fuse
            split <;> rfl
          · skip
            · rcases putOut_cases S D k.kids k.s with ⟨e, he, ⟨_, e2, e3⟩, _⟩ | ⟨hp, e2, e3⟩
              · have := putOut_dev S D k.kids k.s (by rw [e2]; exact he)
                refine ⟨by rw [e3], by rw [e3], by rw [e3], ?_⟩
                show kp (putOut S D k.kids k.s).2.2.2 = _
                unfold kp
                rw [this.2.1]
              · have hf := fade_names k.kids S (fun q hq => (hp.good q hq).1)
                refine ⟨by rw [hp.st]; exact hf.root, by rw [hp.st]; exact hf.note, by rw [hp.st]; exact hf.kept, ?_⟩
                show kp (putOut S D k.kids k.s).2.2.2 = _
                rw [e3, kp_write]
/-- the power is on, unless it has just gone -/
theorem doesOut_off {S : StS} {D : DevS} (ho : D.off = false) (k : DoT) (hk : (doesOut S D k).err ≠ 5) : (doesOut S D k).dv.off = false := by
  have hsp : ∀ D : DevS, D.off = false → D.spent = true → D.spend.off = false := by
    intro D h1 h2
    unfold DevS.spend
    rw [h1, if_neg (by decide)]
    split
    · rename_i hb
      split
      · rename_i hl
        simp [DevS.spent, hb, hl] at h2
      · first | exact h1 | rfl
    · first | exact h1 | rfl
  have hwr : ∀ (D : DevS) (i : Int) (s : ByteArray), D.off = false → D.writeE i s ≠ 5 → (D.write i s).off = false := by
    intro D i s h1 h2
    unfold DevS.writeE at h2
    unfold DevS.write
    rw [h1, if_neg (by decide)] at h2 ⊢
    split
    · rename_i hin
      rw [if_pos hin] at h2
      split
      · rename_i hs; exact hsp D h1 hs
      · rename_i hs; rw [if_neg hs] at h2; exact absurd rfl h2
    · exact h1
  have hfl : ∀ (D : DevS), D.off = false → D.flushE ≠ 5 → D.flush.off = false := by
    intro D h1 h2
    unfold DevS.flushE at h2
    unfold DevS.flush
    split
    · rename_i hs; exact hsp D h1 hs
    · rename_i hs; rw [if_neg hs] at h2; exact absurd rfl h2
  have hfl0 : ∀ (D : DevS), D.off = false → ¬ D.flushE ≠ 0 → D.flush.off = false := fun D h1 h2 => hfl D h1 (by simp only [ne_eq, Decidable.not_not] at h2; rw [h2]; decide)
  have hwr0 : ∀ (D : DevS) (i : Int) (s : ByteArray), D.off = false → ¬ D.writeE i s ≠ 0 → (D.write i s).off = false := fun D i s h1 h2 => hwr D i s h1 (by simp only [ne_eq, Decidable.not_not] at h2; rw [h2]; decide)
  unfold doesOut at hk ⊢
  split
  · exact ho
  · rename_i h1
    rw [if_neg h1] at hk
    split
    · exact ho
    · rename_i h2
      rw [if_neg h2] at hk
      split
      · exact ho
      · rename_i h3
        rw [if_neg h3] at hk
        split
        · rename_i h4
          rw [if_pos h4] at hk
          have hk' : (commitOut S D k.i k.s).1 ≠ 5 := hk
          show (commitOut S D k.i k.s).2.2.off = false
          unfold commitOut at hk' ⊢
          split
          · exact ho
          · rename_i g1
            rw [if_neg g1] at hk'
            split
            · exact ho
            · rename_i g2
              rw [if_neg g2] at hk'
              split
              · rename_i g3; rw [if_pos g3] at hk'; exact hfl D ho hk'
              · rename_i g3
                rw [if_neg g3] at hk'
                have o1 := hfl0 D ho g3
                split
                · rename_i g4; rw [if_pos g4] at hk'; exact hwr _ _ _ o1 hk'
                · rename_i g4
                  rw [if_neg g4] at hk'
                  have o2 := hwr0 _ _ _ o1 g4
                  split
                  · rename_i g5; rw [if_pos g5] at hk'; exact hfl _ o2 hk'
                  · rename_i g5; exact hfl0 _ o2 g5
        · rename_i h4
          rw [if_neg h4] at hk
          split
          · exact ho
          · rename_i h5
            rw [if_neg h5] at hk
            split
            · show (D.fuse k.i).off = false
              unfold DevS.fuse
              split <;> exact ho
            · rename_i h6
              rw [if_neg h6] at hk
              have hk' : (putOut S D k.kids k.s).2.1 ≠ 5 := hk
              show (putOut S D k.kids k.s).2.2.2.off = false
              unfold putOut at hk' ⊢
              split
              · exact ho
              · rename_i g1
                rw [if_neg g1] at hk'
                split
                · exact ho
                · rename_i g2
                  rw [if_neg g2] at hk'
                  split
                  · rename_i g3; rw [if_pos g3] at hk'; exact hwr _ _ _ ho hk'
                  · rename_i g3; exact hwr0 _ _ _ ho g3
end Go.Proofs.YtadmecjdihfmeaaGreat.Sto
