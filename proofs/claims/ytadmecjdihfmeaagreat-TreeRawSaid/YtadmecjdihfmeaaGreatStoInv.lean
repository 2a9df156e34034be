/- Layer 6 in plain Lean: what holds of a store whatever befalls it. -/
import Derived.Test.YtadmecjdihfmeaaGreatStoGrow
import Derived.Test.YtadmecjdihfmeaaGreatStoFree
import Derived.Test.YtadmecjdihfmeaaGreatStoTrip
namespace Go.Proofs.YtadmecjdihfmeaaGreat.Sto
set_option linter.unusedVariables false
set_option linter.unusedSimpArgs false
open Go.RowKit Go.Proofs.YtadmecjdihfmeaaGreat.Mem Go.Proofs.YtadmecjdihfmeaaGreat.Oct Go.Proofs.YtadmecjdihfmeaaGreat.Dev

/-- perhaps fewer blocks; they may be named less often -/
structure Fade (S S' : StS) : Prop where
  cells : ∀ j c', S'.cells j = some c' → ∃ c, S.cells j = some c ∧ c'.high = c.high ∧ c'.kids = c.kids ∧ c'.held = c.held
  gen : S'.gen = S.gen
  root : S'.root = S.root
  note : S'.note = S.note
  kept : S'.kept = S.kept
theorem Fade.refl (S : StS) : Fade S S := ⟨fun j c h => ⟨c, h, rfl, rfl, rfl⟩, rfl, rfl, rfl, rfl⟩
theorem Fade.trans {A B C : StS} (h : Fade A B) (k : Fade B C) : Fade A C :=
  ⟨fun j c hj => by
    obtain ⟨c1, h1, e1, e2, e3⟩ := k.cells j c hj
    obtain ⟨c2, h2, f1, f2, f3⟩ := h.cells j c1 h1
    exact ⟨c2, h2, e1.trans f1, e2.trans f2, e3.trans f3⟩, k.gen.trans h.gen, k.root.trans h.root, k.note.trans h.note, k.kept.trans h.kept⟩
theorem fade_name {S : StS} {k : Int} (hk : S.has k = true) (by_ : Int) : Fade S (S.name k by_) := by
  obtain ⟨c, hc⟩ := has_iff.1 hk
  refine ⟨fun j d hj => ?_, rfl, rfl, rfl, rfl⟩
  rw [name_cells hc] at hj
  by_cases hjk : j = k
  · subst hjk
    rw [upd_same] at hj; cases hj
    exact ⟨c, hc, rfl, rfl, rfl⟩
  · rw [upd_other _ _ _ hjk] at hj
    exact ⟨d, hj, rfl, rfl, rfl⟩
theorem fade_none (S : StS) (i : Int) : Fade S (S.setC i none) := by
  refine ⟨fun j d hj => ?_, rfl, rfl, rfl, rfl⟩
  have hj' : upd S.cells i none j = some d := hj
  by_cases hji : j = i
  · subst hji; rw [upd_same] at hj'; cases hj'
  · rw [upd_other _ _ _ hji] at hj'; exact ⟨d, hj', rfl, rfl, rfl⟩
theorem name_num {n : Nat} {T : StS} {k by_ : Int} (hk : T.has k = true) : num (T.name k by_).cells n = num T.cells n := by
  obtain ⟨ck, hck⟩ := has_iff.1 hk
  rw [name_cells hck]
  exact num_same hck n
theorem gone_fade {n : Nat} : ∀ (f : Nat) (S : StS) (i : Int) (pend : List Int), WF n S pend → num S.cells n ≤ f → Fade S (S.goneF f i)
  | 0, S, i, pend, h, hf => Fade.refl S
  | f + 1, S, i, pend, h, hf => by
    unfold StS.goneF
    cases hc : S.cells i with
    | none => exact Fade.refl S
    | some c =>
      dsimp only
      by_cases hl : c.named + c.held = 0
      · rw [if_pos hl]
        have h1 := h.gone hc hl
        have hd := h.dom i c hc
        have hnum : num (S.setC i none).cells n + 1 = num S.cells n := by
          have := num_upd (f := S.cells) (j := i) (o := none) n (by omega) hd.2
          rw [hc] at this
          simpa [StS.setC] using this
        have key : ∀ (ks : List Int) (T : StS), WF n T (ks ++ pend) → num T.cells n ≤ f → Fade T (ks.foldl (fun T k => T.name k (-1) |>.goneF f k) T) := by
          intro ks
          induction ks with
          | nil => intro T hT hn; exact Fade.refl T
          | cons k ks ih =>
            intro T hT hn
            have hk := hT.pend k (by simp)
            have h2 := WF.name (k := k) (pend := ks ++ pend) hT
            have hnn : num (T.name k (-1)).cells n = num T.cells n := name_num hk
            have h3 := gone_wf f (T.name k (-1)) k (ks ++ pend) h2 (by omega)
            have h4 := gone_fade f (T.name k (-1)) k (ks ++ pend) h2 (by omega)
            exact ((fade_name hk _).trans h4).trans (ih _ h3.1 (by omega))
        exact (fade_none S i).trans (key c.kids (S.setC i none) h1 (by omega))
      · rw [if_neg hl]
        exact Fade.refl S
theorem sweep_fade {n : Nat} : ∀ (l : List Int) (T : StS), WF n T [] → Fade T (l.foldl (fun T i => StS.goneF n T i) T)
  | [], T, h => Fade.refl T
  | i :: l, T, h => (gone_fade n T i [] h (num_le _ _)).trans (sweep_fade l (T.goneF n i) (gone_wf n T i [] h (num_le _ _)).1)
/-- what is kept was kept, or is there -/
theorem keepF_kept {P : Int → Prop} : ∀ (f : Nat) (S : StS) (i : Int), (∀ j, S.kept j = true → P j) → (∀ j c, S.cells j = some c → P j ∧ ∀ k ∈ c.kids, S.has k = true) → (i = 0 ∨ S.has i = true) → ∀ j, (S.keepF f i).kept j = true → P j
  | 0, S, i, hk, hc, hi => hk
  | f + 1, S, i, hk, hc, hi => by
    unfold StS.keepF
    split
    · exact hk
    · rename_i hne
      have hi' : S.has i = true := by
        rcases hi with h | h
        · exact absurd (.inl h) hne
        · exact h
      obtain ⟨c, hci⟩ := has_iff.1 hi'
      have key : ∀ (ks : List Int) (T : StS), T.cells = S.cells → (∀ j, T.kept j = true → P j) → (∀ k ∈ ks, S.has k = true) → ∀ j, (ks.foldl (fun T k => StS.keepF f T k) T).kept j = true → P j := by
        intro ks
        induction ks with
        | nil => intro T _ hT _; exact hT
        | cons k ks ih =>
          intro T hTc hT hks
          have hcc := keepF_cells f T k
          refine ih (T.keepF f k) (hcc.1.trans hTc) (keepF_kept f T k hT (fun j c hj => ?_) (.inr ?_)) (fun q hq => hks q (by simp [hq]))
          · rw [hTc] at hj
            have h2 := hc j c hj
            refine ⟨h2.1, fun q hq => ?_⟩
            have := h2.2 q hq
            unfold StS.has at this ⊢
            rw [hTc]; exact this
          · have := hks k (by simp)
            unfold StS.has at this ⊢
            rw [hTc]; exact this
      refine key _ _ rfl (fun j hj => ?_) (fun k hkk => ?_)
      · by_cases hji : j = i
        · subst hji; exact (hc _ c hci).1
        · have hj2 : (if j = i then true else S.kept j) = true := hj
          rw [if_neg hji] at hj2
          exact hk j hj2
      · rw [cel_some hci] at hkk
        exact (hc i c hci).2 k hkk
/-- what holds of a store of n blocks, m acts on -/
structure Inv (n m : Nat) (S : StS) : Prop where
  wf : WF n S []
  gen : 1 ≤ S.gen ∧ S.gen ≤ 1099511627776
  held : ∀ i c, S.cells i = some c → c.held ≤ m
  kept : ∀ i, S.kept i = true → 2 ≤ i ∧ i < n
  root : S.root = 0 ∨ (2 ≤ S.root ∧ S.root < n)
  note : S.note.size ≤ 3900
theorem Inv.more {n m m' : Nat} {S : StS} (h : Inv n m S) (hm : m ≤ m') : Inv n m' S := ⟨h.wf, h.gen, fun i c hc => by have := h.held i c hc; omega, h.kept, h.root, h.note⟩
theorem Inv.fade {n m : Nat} {S S' : StS} (h : Inv n m S) (hf : Fade S S') (hw : WF n S' []) : Inv n m S' :=
  ⟨hw, by rw [hf.gen]; exact h.gen, fun i c hc => by
    obtain ⟨c0, h0, _, _, e⟩ := hf.cells i c hc
    rw [e]; exact h.held i c0 h0, by rw [hf.kept]; exact h.kept, by rw [hf.root]; exact h.root, by rw [hf.note]; exact h.note⟩
theorem free_ok {S : StS} {n : Int} (h : S.free n ≠ 0) : 2 ≤ S.free n ∧ S.free n < n ∧ S.has (S.free n) = false ∧ S.kept (S.free n) = false := by
  rcases free_range (S := S) (n := n) n.toNat 2 (by omega) with h0 | ⟨h1, h2, h3⟩
  · exact absurd h0 h
  · have h4 : S.freeAt (S.free n) = true := h3
    unfold StS.freeAt at h4
    simp at h4
    exact ⟨h1, h2, h4.1, h4.2⟩
theorem not_bad {S : StS} {kids : List Int} {data : ByteArray} (h : ¬ putBad S kids data) : kids.length ≤ 16 ∧ data.size ≤ 3900 ∧ ∀ k ∈ kids, S.has k = true ∧ (S.cel k).high < 64 := by
  unfold putBad at h
  simp only [not_or] at h
  refine ⟨by omega, by omega, fun k hk => ?_⟩
  have h3 : ∀ k ∈ kids, ¬ S.badKid k = true := fun k hk hb => h.2.2 (List.any_eq_true.2 ⟨k, hk, hb⟩)
  have := h3 k hk
  unfold StS.badKid at this
  simp at this
  exact ⟨this.1, by omega⟩
theorem grow_names : ∀ (l : List Int) (S : StS), (∀ k ∈ l, S.has k = true) → Grow S (S.names l)
  | [], S, _ => Grow.refl S
  | k :: l, S, h => (grow_name (h k (by simp)) 1).trans (grow_names l (S.name k 1) (fun q hq => has_upd (h q (by simp [hq]))))
theorem fade_names : ∀ (l : List Int) (S : StS), (∀ k ∈ l, S.has k = true) → Fade S (S.names l)
  | [], S, _ => Fade.refl S
  | k :: l, S, h => (fade_name (h k (by simp)) 1).trans (fade_names l (S.name k 1) (fun q hq => has_upd (h q (by simp [hq]))))
theorem names_has : ∀ (l : List Int) (S : StS), (∀ k ∈ l, S.has k = true) → ∀ x, (S.names l).has x = S.has x
  | [], S, _, x => rfl
  | k :: l, S, h, x => (names_has l (S.name k 1) (fun q hq => has_upd (h q (by simp [hq]))) x).trans (name_has (h k (by simp)))
theorem highOf_mem {S : StS} : ∀ {l : List Int} {k : Int}, k ∈ l → (S.cel k).high ≤ S.highOf l := by
  intro l
  induction l using list_snoc_ind with
  | nil => intro k h; simp at h
  | snoc l q ih =>
    intro k h
    rw [highOf_snoc]
    rcases List.mem_append.1 h with h | h
    · have := ih h; omega
    · simp at h; subst h; omega
/-- a block that was put -/
structure PutOk (S : StS) (D : DevS) (kids : List Int) (data : ByteArray) (id : Int) (S' : StS) : Prop where
  place : id = S.free D.n
  pos : 2 ≤ id ∧ id < D.n
  non : S.has id = false
  unk : S.kept id = false
  len : kids.length ≤ 16
  size : data.size ≤ 3900
  good : ∀ k ∈ kids, S.has k = true ∧ (S.cel k).high < 64
  wrote : D.writeE id (blockB kids data) = 0
  st : S' = (S.names kids).setC id (some ⟨0, 0, S.highOf kids + 1, kids⟩)
theorem putOut_cases (S : StS) (D : DevS) (kids : List Int) (data : ByteArray) : (∃ e, e ≠ 0 ∧ ((putOut S D kids data).1 = 0 ∧ (putOut S D kids data).2.1 = e ∧ (putOut S D kids data).2.2.1 = S) ∧ (e = 28 → S.free D.n = 0) ∧ ((putOut S D kids data).2.2.2 = D ∨ (putOut S D kids data).2.2.2 = D.write (S.free D.n) (blockB kids data))) ∨
    (PutOk S D kids data (putOut S D kids data).1 (putOut S D kids data).2.2.1 ∧ (putOut S D kids data).2.1 = 0 ∧ (putOut S D kids data).2.2.2 = D.write (putOut S D kids data).1 (blockB kids data)) := by
  by_cases hb : putBad S kids data
  · left
    rw [putOut, if_pos hb]
    exact ⟨22, by decide, ⟨rfl, rfl, rfl⟩, fun h => absurd h (by decide), .inl rfl⟩
  · by_cases hf : S.free D.n = 0
    · left
      rw [putOut, if_neg hb, if_pos hf]
      exact ⟨28, by decide, ⟨rfl, rfl, rfl⟩, fun _ => hf, .inl rfl⟩
    · by_cases hw : D.writeE (S.free D.n) (blockB kids data) = 0
      · right
        rw [putOut, if_neg hb, if_neg hf, if_neg (by simpa using hw)]
        have h1 := free_ok hf
        have h2 := not_bad hb
        exact ⟨⟨rfl, ⟨h1.1, h1.2.1⟩, h1.2.2.1, h1.2.2.2, h2.1, h2.2.1, h2.2.2, hw, rfl⟩, rfl, rfl⟩
      · left
        rw [putOut, if_neg hb, if_neg hf, if_pos hw]
        refine ⟨_, hw, ⟨rfl, rfl, rfl⟩, fun h => ?_, .inr rfl⟩
        exfalso
        unfold DevS.writeE at h
        split at h
        · omega
        · split at h
          · split at h <;> omega
          · omega
theorem PutOk.wf {n : Nat} {S S' : StS} {D : DevS} {kids : List Int} {data : ByteArray} {id : Int} (h : PutOk S D kids data id S') (hw : WF n S []) (hD : D.n = n) (hn : n ≤ 4096) : WF n S' [] := by
  have h1 := names_wf hn kids S [] hw (fun k hk => (h.good k hk).1) (by have := h.len; simp; omega)
  have hh := highOf_lt (S := S) (l := kids) (fun k hk => (h.good k hk).2)
  have hno : (S.names kids).has id = false := by rw [names_has kids S (fun k hk => (h.good k hk).1)]; exact h.non
  have hp := h.pos
  rw [h.st]
  refine h1.fresh hno ⟨hp.1, by omega⟩ h.len (show 1 ≤ S.highOf kids + 1 ∧ S.highOf kids + 1 ≤ 64 by omega) (fun k hk => ?_)
  rw [(names_cel S k kids).2.1]
  have := highOf_mem (S := S) hk
  omega
theorem PutOk.inv {n m : Nat} {S S' : StS} {D : DevS} {kids : List Int} {data : ByteArray} {id : Int} (h : PutOk S D kids data id S') (hi : Inv n m S) (hD : D.n = n) (hn : n ≤ 4096) : Inv n m S' := by
  have hw := h.wf hi.wf hD hn
  have hf := fade_names kids S (fun k hk => (h.good k hk).1)
  have hst := h.st
  subst hst
  refine ⟨hw, by show _ ∧ _; rw [show ((S.names kids).setC id (some ⟨0, 0, S.highOf kids + 1, kids⟩)).gen = S.gen from hf.gen]; exact hi.gen, fun i c hc => ?_, by rw [show ((S.names kids).setC id (some ⟨0, 0, S.highOf kids + 1, kids⟩)).kept = S.kept from hf.kept]; exact hi.kept, by rw [show ((S.names kids).setC id (some ⟨0, 0, S.highOf kids + 1, kids⟩)).root = S.root from hf.root]; exact hi.root,
    by rw [show ((S.names kids).setC id (some ⟨0, 0, S.highOf kids + 1, kids⟩)).note = S.note from hf.note]; exact hi.note⟩
  have hc' : upd (S.names kids).cells id (some ⟨0, 0, S.highOf kids + 1, kids⟩) i = some c := hc
  by_cases hii : i = id
  · subst hii; rw [upd_same] at hc'; cases hc'; show (0 : Int) ≤ _; omega
  · rw [upd_other _ _ _ hii] at hc'
    obtain ⟨c0, h0, _, _, e⟩ := hf.cells i c hc'
    rw [e]; exact hi.held i c0 h0
theorem Inv.holds {n m : Nat} {S : StS} (h : Inv n m S) (hm : m < 1099511627776) (i : Int) : Inv n (m + 1) (S.holds i) := by
  unfold StS.holds
  split
  · rename_i hi
    obtain ⟨c, hc⟩ := has_iff.1 hi
    have hh := h.held i c hc
    have h0 := h.wf.held i c hc
    have hw := h.wf.hold hi (by_ := 1) (by rw [cel_some hc]; omega)
    refine ⟨hw, h.gen, fun j d hd => ?_, h.kept, h.root, h.note⟩
    have hd' : upd S.cells i (some { S.cel i with held := (S.cel i).held + 1 }) j = some d := hd
    by_cases hj : j = i
    · subst hj
      rw [upd_same] at hd'; cases hd'
      show (S.cel j).held + 1 ≤ _
      rw [cel_some hc]; omega
    · rw [upd_other _ _ _ hj] at hd'
      have := h.held j d hd'; omega
  · exact h.more (by omega)
theorem Inv.drop {n m : Nat} {S : StS} (h : Inv n m S) (i : Int) : Inv n m (S.drop n i) := by
  unfold StS.drop
  split
  · exact h
  · rename_i hge
    have hi : S.has i = true := by
      cases hh : S.cells i with
      | some d => rw [StS.has, hh]; rfl
      | none =>
        have : S.cel i = noCel := by rw [StS.cel, hh]; rfl
        rw [this] at hge
        exact absurd (by decide) hge
    obtain ⟨c, hc⟩ := has_iff.1 hi
    have h0 := h.wf.held i c hc
    have hh := h.held i c hc
    rw [cel_some hc] at hge
    have hw := h.wf.hold hi (by_ := -1) (by rw [cel_some hc]; omega)
    have h1 : Inv n m (S.hold i (-1)) := by
      refine ⟨hw, h.gen, fun j d hd => ?_, h.kept, h.root, h.note⟩
      have hd' : upd S.cells i (some { S.cel i with held := (S.cel i).held + -1 }) j = some d := hd
      by_cases hj : j = i
      · subst hj
        rw [upd_same] at hd'; cases hd'
        show (S.cel j).held + -1 ≤ _
        rw [cel_some hc]; omega
      · rw [upd_other _ _ _ hj] at hd'
        exact h.held j d hd'
    exact h1.fade (gone_fade n _ i [] hw (num_le _ _)) (gone_wf n _ i [] hw (num_le _ _)).1
theorem Inv.sweep {n m : Nat} {S : StS} (h : Inv n m S) : Inv n m (S.sweep n) := h.fade (sweep_fade _ S h.wf) (sweep_wf _ S h.wf).1
theorem WF.same {n : Nat} {S S' : StS} {pd : List Int} (h : WF n S pd) (hc : S'.cells = S.cells) : WF n S' pd := by
  have hh : ∀ k, S'.has k = S.has k := fun k => by unfold StS.has; rw [hc]
  exact ⟨by rw [hc]; exact h.dom, fun i c hi k hk => by rw [hh]; rw [hc] at hi; exact h.kids i c hi k hk, fun k hk => by rw [hh]; exact h.pend k hk, by rw [hc]; exact h.named, by rw [hc]; exact h.top, by rw [hc]; exact h.held, by rw [hc]; exact h.len, by rw [hc]; exact h.high, by rw [hc]; exact h.below⟩
/-- a commit's beginning -/
def StS.ahead (S : StS) (root : Int) (note : ByteArray) : StS := { gen := S.gen + 1, root := root, note := note, cells := S.cells, kept := fun _ => false }
def superOf (S : StS) (D : DevS) (root : Int) (note : ByteArray) : ByteArray := superB (S.gen + 1).toNat root.toNat D.n.toNat note
theorem commit_cases (S : StS) (D : DevS) (root : Int) (note : ByteArray) : (∃ e, e ≠ 0 ∧ (commitOut S D root note).1 = e ∧ (commitOut S D root note).2.1 = S) ∨
    ((root = 0 ∨ S.has root = true) ∧ note.size ≤ 3900 ∧ S.gen < 1099511627776 ∧ (commitOut S D root note).1 = 0 ∧ (commitOut S D root note).2.1 = (S.ahead root note).keepF D.n.toNat root ∧ D.flushE = 0 ∧ D.flush.writeE ((S.gen + 1).tmod 2) (superOf S D root note) = 0 ∧ (D.flush.write ((S.gen + 1).tmod 2) (superOf S D root note)).flushE = 0 ∧
      (commitOut S D root note).2.2 = (D.flush.write ((S.gen + 1).tmod 2) (superOf S D root note)).flush) := by
  unfold commitOut superOf
  by_cases h1 : (root ≠ 0 ∧ S.has root = false) ∨ 3900 < note.size
  · left; rw [if_pos h1]; exact ⟨22, by decide, rfl, rfl⟩
  · rw [if_neg h1]
    by_cases h2 : 1099511627776 ≤ S.gen
    · left; rw [if_pos h2]; exact ⟨75, by decide, rfl, rfl⟩
    · rw [if_neg h2]
      by_cases h3 : D.flushE ≠ 0
      · left; rw [if_pos h3]; exact ⟨_, h3, rfl, rfl⟩
      · rw [if_neg h3]
        by_cases h4 : D.flush.writeE ((S.gen + 1).tmod 2) (superB (S.gen + 1).toNat root.toNat D.n.toNat note) ≠ 0
        · left; rw [if_pos h4]; exact ⟨_, h4, rfl, rfl⟩
        · rw [if_neg h4]
          by_cases h5 : (D.flush.write ((S.gen + 1).tmod 2) (superB (S.gen + 1).toNat root.toNat D.n.toNat note)).flushE ≠ 0
          · left; rw [if_pos h5]; exact ⟨_, h5, rfl, rfl⟩
          · right
            rw [if_neg h5]
            simp only [ne_eq, Decidable.not_not] at h3 h4 h5
            refine ⟨?_, ?_, by omega, rfl, rfl, h3, h4, h5, rfl⟩
            · by_cases h0 : root = 0
              · exact .inl h0
              · right
                cases hh : S.has root with
                | true => rfl
                | false => exact absurd (.inl ⟨h0, hh⟩) h1
            · rcases Nat.lt_or_ge 3900 note.size with h | h
              · exact absurd (.inr h) h1
              · exact h
theorem Inv.commit {n m : Nat} {S : StS} {D : DevS} (h : Inv n m S) (hD : D.n = n) (root : Int) (note : ByteArray) : Inv n m (commitOut S D root note).2.1 := by
  rcases commit_cases S D root note with ⟨e, _, _, hs⟩ | ⟨hr, hn, hg, _, hs, _⟩
  · rw [hs]; exact h
  · rw [hs]
    have hcc := keepF_cells D.n.toNat (S.ahead root note) root
    have hroot : root = 0 ∨ (2 ≤ root ∧ root < n) := by
      rcases hr with h0 | h0
      · exact .inl h0
      · obtain ⟨c, hc⟩ := has_iff.1 h0
        exact .inr (h.wf.dom root c hc)
    have hgen := h.gen
    refine ⟨h.wf.same hcc.1, by rw [hcc.2.1]; show 1 ≤ S.gen + 1 ∧ S.gen + 1 ≤ _; omega, by rw [hcc.1]; exact h.held, ?_, by rw [hcc.2.2.1]; exact hroot, by rw [hcc.2.2.2]; exact hn⟩
    refine keepF_kept (P := fun i => 2 ≤ i ∧ i < n) D.n.toNat (S.ahead root note) root (fun j hj => by cases hj) (fun j c hj => ⟨h.wf.dom j c hj, fun k hk => h.wf.kids j c hj k hk⟩) hr
/-! ### what befalls a store -/
structure DoT where
  op : Int
  i : Int
  kids : List Int
  s : ByteArray
structure DoesR where
  num : Int
  blk : Option (List Int × ByteArray)
  err : Int
  st : StS
  dv : DevS
def DoT.opn (k : DoT) : Int := IntKind.u64.wrap k.op % 13
def doesOut (S : StS) (D : DevS) (k : DoT) : DoesR :=
  if k.opn = 5 ∨ k.opn = 6 then ⟨0, none, S.holdE k.i, S.holds k.i, D⟩
  else if k.opn = 7 then ⟨0, none, S.dropE k.i, S.drop D.n.toNat k.i, D⟩
  else if k.opn = 8 then ⟨(Sto.num S.cells D.n.toNat : Int) - Sto.num (S.sweep D.n.toNat).cells D.n.toNat, none, 0, S.sweep D.n.toNat, D⟩
  else if k.opn = 9 then ⟨0, none, (commitOut S D k.i k.s).1, (commitOut S D k.i k.s).2.1, (commitOut S D k.i k.s).2.2⟩
  else if k.opn = 10 then ⟨0, (S.getR D k.i).2, (S.getR D k.i).1, S, D⟩
  else if k.opn = 11 then ⟨0, none, D.fuseE, S, D.fuse k.i⟩
  else ⟨(putOut S D k.kids k.s).1, none, (putOut S D k.kids k.s).2.1, (putOut S D k.kids k.s).2.2.1, (putOut S D k.kids k.s).2.2.2⟩
theorem fuse_n (D : DevS) (i : Int) : (D.fuse i).n = D.n := by unfold DevS.fuse; split <;> rfl
theorem fuse_small {D : DevS} (h : D.small) (i : Int) : (D.fuse i).small := by unfold DevS.fuse; split <;> exact h
theorem putOut_n (S : StS) (D : DevS) (kids : List Int) (s : ByteArray) : (putOut S D kids s).2.2.2.n = D.n := by
  unfold putOut
  split
  · rfl
  · split
    · rfl
    · split <;> exact write_n _ _ _
theorem commitOut_n (S : StS) (D : DevS) (root : Int) (note : ByteArray) : (commitOut S D root note).2.2.n = D.n := by
  unfold commitOut
  split
  · rfl
  · split
    · rfl
    · split
      · exact flush_n _
      · split
        · exact (write_n _ _ _).trans (flush_n _)
        · split
          · exact (flush_n _).trans ((write_n _ _ _).trans (flush_n _))
          · exact (flush_n _).trans ((write_n _ _ _).trans (flush_n _))
theorem Inv.does {n m : Nat} {S : StS} {D : DevS} (h : Inv n m S) (hD : D.n = n) (hn : n ≤ 4096) (hm : m < 1099511627776) (k : DoT) : Inv n (m + 1) (doesOut S D k).st ∧ (doesOut S D k).dv.n = D.n := by
  have hDn : D.n.toNat = n := by omega
  unfold doesOut
  rw [hDn]
  split
  · exact ⟨h.holds hm k.i, rfl⟩
  · split
    · exact ⟨(h.drop k.i).more (by omega), rfl⟩
    · split
      · exact ⟨h.sweep.more (by omega), rfl⟩
      · split
        · exact ⟨(h.commit hD k.i k.s).more (by omega), commitOut_n _ _ _ _⟩
        · split
          · exact ⟨h.more (by omega), rfl⟩
          · split
            · exact ⟨h.more (by omega), fuse_n _ _⟩
            · refine ⟨?_, putOut_n _ _ _ _⟩
              rcases putOut_cases S D k.kids k.s with ⟨e, _, ⟨_, _, hs⟩, _⟩ | ⟨hp, _⟩
              · rw [hs]; exact h.more (by omega)
              · exact (hp.inv h hD hn).more (by omega)
theorem fresh_inv (n : Nat) {note : ByteArray} (hn : note.size ≤ 3900) : Inv n 0 ⟨1, 0, note, fun _ => none, fun _ => false⟩ := by
  refine ⟨?_, ⟨?_, ?_⟩, ?_, ?_, ?_, hn⟩
  · refine ⟨?_, ?_, ?_, ?_, ?_, ?_, ?_, ?_, ?_⟩ <;> intros <;> simp_all
  · show (1 : Int) ≤ 1; omega
  · show (1 : Int) ≤ _; omega
  · intro i c h; cases h
  · intro i h; cases h
  · exact .inl rfl
/-! ### a script -/
def runD (l : List DoT) (p : StS × DevS) : StS × DevS := l.foldl (fun p k => if k.opn < 11 then ((doesOut p.1 p.2 k).st, (doesOut p.1 p.2 k).dv) else p) p
end Go.Proofs.YtadmecjdihfmeaaGreat.Sto
