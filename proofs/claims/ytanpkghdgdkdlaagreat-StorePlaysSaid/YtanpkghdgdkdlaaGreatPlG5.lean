/- RefGoneP RefGoes RefDrop RefCommit: several texts of one proof, laid as one file (a claim has at most 60 files). No condition. -/
import Derived.Test.YtanpkghdgdkdlaaGreatStoInv
import Derived.Test.YtanpkghdgdkdlaaGreatPlG3
import Derived.Handy
import Derived.Test.YtanpkghdgdkdlaaGreatStoLive
import Derived.Test.YtanpkghdgdkdlaaGreatPlG1
import Derived.Test.YtanpkghdgdkdlaaGreatStoCommit
import Derived.Deep.RegionHeld3
/- Layer 6 in plain Lean: what goes, told by what it leaves; so both ways of going leave the same. -/
namespace Go.Proofs.YtanpkghdgdkdlaaGreat.Sto
set_option linter.unusedVariables false
set_option linter.unusedSimpArgs false
open Go.RowKit Go.Proofs.YtanpkghdgdkdlaaGreat.Mem Go.Proofs.YtanpkghdgdkdlaaGreat.Oct Go.Proofs.YtanpkghdgdkdlaaGreat.Dev

theorem Fade.has {S S' : StS} (h : Fade S S') {j : Int} (hj : S'.has j = true) : S.has j = true := by
  obtain ⟨c, hc⟩ := has_iff.1 hj
  obtain ⟨d, hd, _⟩ := h.cells j c hc
  exact has_iff.2 ⟨d, hd⟩
theorem Fade.hasn {S S' : StS} (h : Fade S S') {j : Int} (hj : S.has j = false) : S'.has j = false := by
  cases hh : S'.has j with
  | false => rfl
  | true => rw [h.has hh] at hj; cases hj
theorem hasn_iff {S : StS} {j : Int} : S.has j = false ↔ S.cells j = none := by
  unfold StS.has
  cases S.cells j <;> simp
/-- named by one that has gone -/
def ByGone (S S' : StS) (j : Int) : Prop := ∃ q d, S.cells q = some d ∧ S'.has q = false ∧ j ∈ d.kids
/-- named by one that is there -/
def ByOne (S : StS) (j : Int) : Prop := ∃ q d, S.cells q = some d ∧ j ∈ d.kids
theorem Fade.byOne {S S' : StS} (h : Fade S S') {j : Int} (hj : ByOne S' j) : ByOne S j := by
  obtain ⟨q, d, h1, h2⟩ := hj
  obtain ⟨d0, h3, _, h4, _⟩ := h.cells q d h1
  exact ⟨q, d0, h3, by rw [← h4]; exact h2⟩
/-- what goes: those of L were asked; those of pd are named from outside -/
structure GoneP (pd : List Int) (S : StS) (L : List Int) (S' : StS) : Prop where
  fade : Fade S S'
  out : ∀ j c, S.cells j = some c → S'.has j = false → c.held = 0 ∧ j ∉ pd ∧ ¬ ByOne S' j ∧ (j ∈ L ∨ ByGone S S' j)
  stay : ∀ j c, S'.cells j = some c → (j ∈ L ∨ ByGone S S' j) → c.held ≠ 0 ∨ ByOne S' j ∨ j ∈ pd
theorem GoneP.comp {p1 pd : List Int} {S T E : StS} {L1 L2 : List Int} (h : GoneP p1 S L1 T) (k : GoneP pd T L2 E) (h1 : ∀ j ∈ p1, j ∈ L2 ∨ j ∈ pd) (h2 : ∀ j ∈ pd, j ∈ p1) : GoneP pd S (L1 ++ L2) E := by
  have F := h.fade.trans k.fade
  have key : ∀ j c, E.cells j = some c → (j ∈ L1 ∨ ByGone S T j) → c.held ≠ 0 ∨ ByOne E j ∨ j ∈ pd := by
    intro j c hc hj
    obtain ⟨c1, hc1, _, _, e3⟩ := k.fade.cells j c hc
    rcases h.stay j c1 hc1 hj with hh | hh | hh
    · exact .inl (by rw [e3]; exact hh)
    · obtain ⟨q, d, hq, hjd⟩ := hh
      cases hE : E.has q with
      | true =>
        obtain ⟨d', hd'⟩ := has_iff.1 hE
        obtain ⟨d0, hd0, _, e5, _⟩ := k.fade.cells q d' hd'
        rw [hq] at hd0; cases hd0
        exact .inr (.inl ⟨q, d', hd', by rw [e5]; exact hjd⟩)
      | false => exact k.stay j c hc (.inr ⟨q, d, hq, hE, hjd⟩)
    · rcases h1 j hh with hm | hm
      · exact k.stay j c hc (.inl hm)
      · exact .inr (.inr hm)
  refine ⟨F, fun j c hc hn => ?_, fun j c hc hj => ?_⟩
  · cases hT : T.has j with
    | true =>
      obtain ⟨c1, hc1⟩ := has_iff.1 hT
      obtain ⟨c0, hc0, _, _, e3⟩ := h.fade.cells j c1 hc1
      rw [hc] at hc0; cases hc0
      obtain ⟨a1, a2, a3, a4⟩ := k.out j c1 hc1 hn
      refine ⟨by rw [← e3]; exact a1, a2, a3, ?_⟩
      rcases a4 with hm | ⟨q, d, hq, hg, hjd⟩
      · exact .inl (List.mem_append_right _ hm)
      · obtain ⟨d0, hd0, _, e5, _⟩ := h.fade.cells q d hq
        exact .inr ⟨q, d0, hd0, hg, by rw [← e5]; exact hjd⟩
    | false =>
      obtain ⟨a1, a2, a3, a4⟩ := h.out j c hc hT
      refine ⟨a1, fun hm => a2 (h2 j hm), fun hb => a3 (k.fade.byOne hb), ?_⟩
      rcases a4 with hm | ⟨q, d, hq, hg, hjd⟩
      · exact .inl (List.mem_append_left _ hm)
      · exact .inr ⟨q, d, hq, k.fade.hasn hg, hjd⟩
  · rcases hj with hm | ⟨q, d, hq, hg, hjd⟩
    · rcases List.mem_append.1 hm with hm | hm
      · exact key j c hc (.inl hm)
      · exact k.stay j c hc (.inl hm)
    · cases hT : T.has q with
      | true =>
        obtain ⟨d1, hd1⟩ := has_iff.1 hT
        obtain ⟨d0, hd0, _, e5, _⟩ := h.fade.cells q d1 hd1
        rw [hq] at hd0; cases hd0
        exact k.stay j c hc (.inr ⟨q, d1, hd1, hg, by rw [e5]; exact hjd⟩)
      | false => exact key j c hc (.inr ⟨q, d, hq, hT, hjd⟩)
/-- nothing goes -/
theorem GoneP.none {pd L : List Int} {S : StS} (h : ∀ j ∈ L, ∀ c, S.cells j = some c → c.held ≠ 0 ∨ ByOne S j ∨ j ∈ pd) : GoneP pd S L S := by
  refine ⟨Fade.refl S, fun j c hc hn => ?_, fun j c hc hj => ?_⟩
  · rw [has_iff.2 ⟨c, hc⟩] at hn; cases hn
  · rcases hj with hm | ⟨q, d, hq, hg, _⟩
    · exact h j hm c hc
    · rw [has_iff.2 ⟨d, hq⟩] at hg; cases hg
/-- told of a store that is told otherwise -/
theorem GoneP.turn {pd L : List Int} {S S1 E : StS} (h : GoneP pd S1 L E) (f : Fade S S1) (g : Fade S1 S) (hf : Fade S E) : GoneP pd S L E := by
  have hh : ∀ j c, S.cells j = some c → ∃ c1, S1.cells j = some c1 ∧ c.kids = c1.kids ∧ c.held = c1.held := fun j c hc => by
    obtain ⟨c1, h1, _, e2, e3⟩ := g.cells j c hc
    exact ⟨c1, h1, e2, e3⟩
  have hb : ∀ j, ByGone S E j → ByGone S1 E j := fun j ⟨q, d, hq, hg, hj⟩ => by
    obtain ⟨d1, h1, e1, _⟩ := hh q d hq
    exact ⟨q, d1, h1, hg, by rw [← e1]; exact hj⟩
  have hb2 : ∀ j, ByGone S1 E j → ByGone S E j := fun j ⟨q, d, hq, hg, hj⟩ => by
    obtain ⟨d1, h1, _, e1, _⟩ := f.cells q d hq
    exact ⟨q, d1, h1, hg, by rw [← e1]; exact hj⟩
  refine ⟨hf, fun j c hc hn => ?_, fun j c hc hj => h.stay j c hc (hj.imp id (hb j))⟩
  obtain ⟨c1, h1, e1, e2⟩ := hh j c hc
  obtain ⟨a1, a2, a3, a4⟩ := h.out j c1 h1 hn
  exact ⟨by rw [e2]; exact a1, a2, a3, a4.imp id (hb2 j)⟩
/-- one that is loose goes, and then those that it named -/
theorem GoneP.go {pd : List Int} {S E : StS} {i : Int} {c : Cel} (hc : S.cells i = some c) (hh : c.held = 0) (hp : i ∉ pd) (hb : ¬ ByOne S i) (h : GoneP pd (S.setC i Option.none) c.kids E) : GoneP pd S [i] E := by
  have F : Fade S E := (fade_none S i).trans h.fade
  have hi : E.has i = false := h.fade.hasn (by rw [hasn_iff]; exact upd_same _ _ _)
  have old : ∀ j, j ≠ i → (S.setC i Option.none).cells j = S.cells j := fun j hj => upd_other _ _ _ hj
  refine ⟨F, fun j d hd hn => ?_, fun j d hd hj => ?_⟩
  · by_cases hji : j = i
    · subst hji
      rw [hc] at hd; cases hd
      exact ⟨hh, hp, fun hb2 => hb (F.byOne hb2), .inl (by simp)⟩
    · obtain ⟨a1, a2, a3, a4⟩ := h.out j d (by rw [old j hji]; exact hd) hn
      refine ⟨a1, a2, a3, .inr ?_⟩
      rcases a4 with hm | ⟨q, d1, hq, hg, hjd⟩
      · exact ⟨i, c, hc, hi, hm⟩
      · have hqi : q ≠ i := fun e => by subst e; rw [show (S.setC q Option.none).cells q = Option.none from upd_same _ _ _] at hq; cases hq
        exact ⟨q, d1, by rw [← old q hqi]; exact hq, hg, hjd⟩
  · rcases hj with hm | ⟨q, d1, hq, hg, hjd⟩
    · have : j = i := by simpa using hm
      subst this
      rw [has_iff.2 ⟨d, hd⟩] at hi; cases hi
    · by_cases hqi : q = i
      · subst hqi
        rw [hc] at hq; cases hq
        exact h.stay j d hd (.inl hjd)
      · exact h.stay j d hd (.inr ⟨q, d1, by rw [old q hqi]; exact hq, hg, hjd⟩)
theorem cnt_some {f : Int → Option Cel} {i : Int} : ∀ n : Nat, 0 < cnt f i n → ∃ (q : Nat) (c : Cel), f (q : Int) = some c ∧ i ∈ c.kids
  | 0, h => by simp [cnt] at h
  | n + 1, h => by
    rw [cnt] at h
    by_cases h0 : 0 < cnt f i n
    · exact cnt_some n h0
    · cases hc : f (n : Int) with
      | none => rw [hc] at h; simp [kc] at h; omega
      | some c =>
        rw [hc] at h
        simp only [kc] at h
        exact ⟨n, c, hc, List.count_pos_iff.1 (by omega)⟩
/-- the program's going -/
theorem gone_p {n : Nat} : ∀ (f : Nat) (S : StS) (i : Int) (pd : List Int), WF n S pd → num S.cells n ≤ f → GoneP pd S [i] (S.goneF f i)
  | 0, S, i, pd, h, hf => by
    refine GoneP.none (fun j hj c hc => ?_)
    have hd := h.dom j c hc
    obtain ⟨q, rfl⟩ := Int.eq_ofNat_of_zero_le (show 0 ≤ j by omega)
    have := num_pos n q (by omega) (f := S.cells) (by rw [hc]; rfl)
    omega
  | f + 1, S, i, pd, h, hf => by
    cases hc : S.cells i with
    | none =>
      rw [goneF_none hc]
      exact GoneP.none (fun j hj c hc2 => by
        have : j = i := by simpa using hj
        subst this; rw [hc] at hc2; cases hc2)
    | some c =>
      have hnm := h.named i c hc
      have hhe := (h.held i c hc).1
      by_cases hl : c.named + c.held = 0
      · rw [goneF_go hc hl]
        have h1 := h.gone hc hl
        have hd := h.dom i c hc
        have hnum : num (S.setC i Option.none).cells n + 1 = num S.cells n := by
          have := num_upd (f := S.cells) (j := i) (o := Option.none) n (by omega) hd.2
          rw [hc] at this
          simpa [StS.setC] using this
        have key : ∀ (ks : List Int) (T : StS), WF n T (ks ++ pd) → num T.cells n ≤ f → GoneP pd T ks (ks.foldl (fun T k => StS.goneF f (T.name k (-1)) k) T) := by
          intro ks
          induction ks with
          | nil => intro T hT hn; exact GoneP.none (fun j hj => by simp at hj)
          | cons k ks ih =>
            intro T hT hn
            have hk := hT.pend k (by simp)
            have h2 := WF.name (k := k) (pend := ks ++ pd) hT
            obtain ⟨ck, hck⟩ := has_iff.1 hk
            have hnn : num (T.name k (-1)).cells n = num T.cells n := by
              rw [name_cells hck]
              exact num_same hck n
            have h3 := gone_wf f (T.name k (-1)) k (ks ++ pd) h2 (by omega)
            have g1 := gone_p f (T.name k (-1)) k (ks ++ pd) h2 (by omega)
            have fa := fade_name hk (-1)
            have fb : Fade (T.name k (-1)) T := by
              refine ⟨fun j d hj => ?_, rfl, rfl, rfl, rfl⟩
              rw [name_cells hck]
              by_cases hjk : j = k
              · subst hjk
                rw [hck] at hj; cases hj
                exact ⟨_, upd_same _ _ _, rfl, rfl, rfl⟩
              · exact ⟨d, by rw [upd_other _ _ _ hjk]; exact hj, rfl, rfl, rfl⟩
            have g2 : GoneP (ks ++ pd) T [k] (StS.goneF f (T.name k (-1)) k) := g1.turn fa fb (fa.trans g1.fade)
            exact g2.comp (ih _ h3.1 (by omega)) (fun j hj => List.mem_append.1 hj) (fun j hj => List.mem_append_right _ hj)
        refine GoneP.go hc (by omega) (fun hm => ?_) (fun ⟨q, d, hq, hm⟩ => ?_) (key c.kids (S.setC i Option.none) h1 (by omega))
        · have := List.count_pos_iff.2 hm; omega
        · have hdq := h.dom q d hq
          obtain ⟨q', rfl⟩ := Int.eq_ofNat_of_zero_le (show 0 ≤ q by omega)
          exact cnt_zero n (by omega) q' d (by omega) hq hm
      · rw [goneF_stay hc hl]
        refine GoneP.none (fun j hj c2 hc2 => ?_)
        have : j = i := by simpa using hj
        subst this
        rw [hc] at hc2; cases hc2
        by_cases hz : c.held = 0
        · right
          by_cases h0 : 0 < cnt S.cells j n
          · obtain ⟨q, d, hq, hm⟩ := cnt_some n h0
            exact .inl ⟨q, d, hq, hm⟩
          · exact .inr (List.count_pos_iff.1 (by omega))
        · exact .inl hz
/-- the reference's going -/
def rgoF (n : Nat) : Nat → StS → Int → StS
  | 0, S, _ => S
  | f + 1, S, i => match S.cells i with
    | none => S
    | some c => if 0 < c.held ∨ 0 < cnt S.cells i n then S else c.kids.foldl (fun T k => rgoF n f T k) (S.setC i none)
theorem num_fade {S S' : StS} (h : Fade S S') : ∀ n, num S'.cells n ≤ num S.cells n
  | 0 => Nat.le_refl _
  | n + 1 => by
    have ih := num_fade h n
    rw [num, num]
    cases hc : S'.cells (n : Int) with
    | none => simp; omega
    | some c =>
      obtain ⟨d, hd, _⟩ := h.cells _ c hc
      rw [hd]; simp; exact ih
theorem rgo_p {n : Nat} : ∀ (f : Nat) (S : StS) (i : Int), (∀ j c, S.cells j = some c → 0 ≤ j ∧ j < n) → (∀ j c, S.cells j = some c → 0 ≤ c.held) → num S.cells n ≤ f → GoneP [] S [i] (rgoF n f S i)
  | 0, S, i, hd, hh, hf => by
    refine GoneP.none (fun j hj c hc => ?_)
    have := hd j c hc
    obtain ⟨q, rfl⟩ := Int.eq_ofNat_of_zero_le this.1
    have := num_pos n q (by omega) (f := S.cells) (by rw [hc]; rfl)
    omega
  | f + 1, S, i, hd, hh, hf => by
    rw [rgoF]
    cases hc : S.cells i with
    | none =>
      exact GoneP.none (fun j hj c hc2 => by
        have : j = i := by simpa using hj
        subst this; rw [hc] at hc2; cases hc2)
    | some c =>
      dsimp only
      have h0 := hh i c hc
      by_cases hl : 0 < c.held ∨ 0 < cnt S.cells i n
      · rw [if_pos hl]
        refine GoneP.none (fun j hj c2 hc2 => ?_)
        have : j = i := by simpa using hj
        subst this
        rw [hc] at hc2; cases hc2
        rcases hl with hl | hl
        · exact .inl (by omega)
        · obtain ⟨q, d, hq, hm⟩ := cnt_some n hl
          exact .inr (.inl ⟨q, d, hq, hm⟩)
      · rw [if_neg hl]
        have hdi := hd i c hc
        have hnum : num (S.setC i Option.none).cells n + 1 = num S.cells n := by
          have := num_upd (f := S.cells) (j := i) (o := Option.none) n (by omega) hdi.2
          rw [hc] at this
          simpa [StS.setC] using this
        have F1 := fade_none S i
        have key : ∀ (ks : List Int) (T : StS), Fade S T → num T.cells n ≤ f → GoneP [] T ks (ks.foldl (fun T k => rgoF n f T k) T) := by
          intro ks
          induction ks with
          | nil => intro T hT hn; exact GoneP.none (fun j hj => by simp at hj)
          | cons k ks ih =>
            intro T hT hn
            have g1 := rgo_p f T k (fun j c hj => by obtain ⟨d, h1, _⟩ := hT.cells j c hj; exact hd j d h1) (fun j c hj => by obtain ⟨d, h1, _, _, e⟩ := hT.cells j c hj; rw [e]; exact hh j d h1) hn
            exact g1.comp (ih _ (hT.trans g1.fade) (Nat.le_trans (num_fade g1.fade n) hn)) (fun j hj => by simp at hj) (fun j hj => by simp at hj)
        refine GoneP.go hc (by omega) (by simp) (fun ⟨q, d, hq, hm⟩ => ?_) (key c.kids (S.setC i Option.none) F1 (by omega))
        have hdq := hd q d hq
        obtain ⟨q', rfl⟩ := Int.eq_ofNat_of_zero_le hdq.1
        exact cnt_zero n (by omega) q' d (by omega) hq hm
/-- BOTH LEAVE THE SAME -/
theorem gone_same {n : Nat} {S A B : StS} {L1 L2 pd : List Int} (hw : WF n S pd) (ha : GoneP [] S L1 A) (hb : GoneP [] S L2 B) (hl : ∀ j, S.has j = true → (j ∈ L1 ↔ j ∈ L2)) : ∀ j, A.has j = B.has j := by
  have half : ∀ {A B : StS} {L1 L2 : List Int}, GoneP [] S L1 A → GoneP [] S L2 B → (∀ j, S.has j = true → (j ∈ L1 → j ∈ L2)) → ∀ j c, S.cells j = some c → (∀ q d, S.cells q = some d → j ∈ d.kids → A.has q = B.has q) → A.has j = false → B.has j = false := by
    intro A B L1 L2 ha hb hl j c hc ih hA
    cases hB : B.has j with
    | false => rfl
    | true =>
      exfalso
      obtain ⟨cb, hcb⟩ := has_iff.1 hB
      obtain ⟨c0, hc0, _, _, e3⟩ := hb.fade.cells j cb hcb
      rw [hc] at hc0; cases hc0
      obtain ⟨a1, _, a3, a4⟩ := ha.out j c hc hA
      have : j ∈ L2 ∨ ByGone S B j := by
        rcases a4 with hm | ⟨q, d, hq, hg, hjd⟩
        · exact .inl (hl j (has_iff.2 ⟨c, hc⟩) hm)
        · exact .inr ⟨q, d, hq, by rw [← ih q d hq hjd]; exact hg, hjd⟩
      rcases hb.stay j cb hcb this with h | ⟨q, d, hq, hjd⟩ | h
      · exact h (by rw [e3]; exact a1)
      · obtain ⟨d0, hd0, _, e5, _⟩ := hb.fade.cells q d hq
        have hAq : A.has q = true := by rw [ih q d0 hd0 (by rw [← e5]; exact hjd)]; exact has_iff.2 ⟨d, hq⟩
        obtain ⟨dA, hdA⟩ := has_iff.1 hAq
        obtain ⟨d1, hd1, _, e6, _⟩ := ha.fade.cells q dA hdA
        rw [hd0] at hd1; cases hd1
        exact a3 ⟨q, dA, hdA, by rw [e6, ← e5]; exact hjd⟩
      · simp at h
  have main : ∀ (m : Nat) (j : Int) (c : Cel), S.cells j = some c → 64 - c.high < m → A.has j = B.has j := by
    intro m
    induction m with
    | zero => intro j c hc hm; have := (hw.high j c hc).2; omega
    | succ m ih =>
      intro j c hc hm
      have ihq : ∀ q d, S.cells q = some d → j ∈ d.kids → A.has q = B.has q := fun q d hq hjd => ih q d hq (by have := hw.below q d j c hq hjd hc; omega)
      cases hA : A.has j with
      | false => exact (half ha hb (fun j hj => (hl j hj).1) j c hc ihq hA).symm
      | true =>
        cases hB : B.has j with
        | true => rfl
        | false =>
          have := half hb ha (fun j hj => (hl j hj).2) j c hc (fun q d hq hjd => (ihq q d hq hjd).symm) hB
          rw [hA] at this; cases this
  intro j
  cases hc : S.cells j with
  | none =>
    have h0 : S.has j = false := hasn_iff.2 hc
    rw [ha.fade.hasn h0, hb.fade.hasn h0]
  | some c => exact main 65 j c hc (by have := (hw.high j c hc).1; omega)
/-- how a store is told by the reference -/
structure View (A B : StS) : Prop where
  gen : B.gen = A.gen
  root : B.root = A.root
  note : B.note = A.note
  kept : ∀ i, B.kept i = A.kept i
  has : ∀ i, B.has i = A.has i
  kids : ∀ i, (B.cel i).kids = (A.cel i).kids
  held : ∀ i, (B.cel i).held = (A.cel i).held
theorem view_of {S A B : StS} (fa : Fade S A) (fb : Fade S B) (h : ∀ j, A.has j = B.has j) : View A B := by
  have hk : ∀ i, (B.cel i).kids = (A.cel i).kids ∧ (B.cel i).held = (A.cel i).held := fun i => by
    cases hA : A.has i with
    | false =>
      have hB : B.has i = false := by rw [← h, hA]
      unfold StS.cel
      rw [hasn_iff.1 hA, hasn_iff.1 hB]
      exact ⟨rfl, rfl⟩
    | true =>
      have hB : B.has i = true := by rw [← h, hA]
      obtain ⟨a, ha⟩ := has_iff.1 hA
      obtain ⟨b, hb⟩ := has_iff.1 hB
      obtain ⟨c, hc, _, e1, e2⟩ := fa.cells i a ha
      obtain ⟨c', hc', _, e3, e4⟩ := fb.cells i b hb
      rw [hc] at hc'; cases hc'
      rw [cel_some ha, cel_some hb, e1, e2, e3, e4]
      exact ⟨rfl, rfl⟩
  exact ⟨by rw [fa.gen, fb.gen], by rw [fa.root, fb.root], by rw [fa.note, fb.note], fun i => by rw [fa.kept, fb.kept], fun i => (h i).symm, fun i => (hk i).1, fun i => (hk i).2⟩
end Go.Proofs.YtanpkghdgdkdlaaGreat.Sto

/- Layer 6: the reference's goes, Drop, Hold, Sweep. -/
namespace Go.Proofs.YtanpkghdgdkdlaaGreat.Sto
set_option linter.unusedVariables false
set_option linter.unusedSimpArgs false
set_option maxRecDepth 100000
open Go.RowKit Go.Lib Go.Proofs.YtanpkghdgdkdlaaGreat.Mem Go.Proofs.YtanpkghdgdkdlaaGreat.Oct Go.Proofs.YtanpkghdgdkdlaaGreat.Dev

/-- what a walk asks of a store -/
def Tame (n : Nat) (S : StS) : Prop := ∀ j c, S.cells j = some c → (0 ≤ j ∧ j < n) ∧ c.kids.length ≤ 16 ∧ (∀ k ∈ c.kids, 0 ≤ k ∧ k < (n : Int)) ∧ 0 ≤ c.held ∧ c.held ≤ 4611686018427387904
theorem Tame.fade {n : Nat} {S T : StS} (h : Tame n S) (f : Fade S T) : Tame n T := by
  intro j c hc
  obtain ⟨d, hd, _, e1, e2⟩ := f.cells j c hc
  rw [e1, e2]
  exact h j d hd
theorem WF.tame {n : Nat} {S : StS} {pd : List Int} (h : WF n S pd) : Tame n S := fun j c hc => by
  have h1 := h.dom j c hc
  exact ⟨by omega, h.len j c hc, fun k hk => by
    obtain ⟨d, hd⟩ := has_iff.1 (h.kids j c hc k hk)
    have := h.dom k d hd; omega, h.held j c hc⟩
theorem rgo_none {n f : Nat} {S : StS} {i : Int} (h : S.cells i = none) : rgoF n f S i = S := by
  cases f with
  | zero => rfl
  | succ f => rw [rgoF, h]
set_option maxHeartbeats 8000000 in
theorem rgoes_any (D : DevS) (B : RBlk) (n : Nat) (hn : D.n.toNat = n) : ∀ (f : Nat) (w : World) (S : StS) (i : Nat), RSt w B S D → Tame n S → num S.cells n ≤ f → i < n →
    Calls Tryz.prog 107 #[.pointer (some ⟨B.s, 0, none⟩), .int .i64 i] w fun e w' => e = .returned (.tuple #[]) ∧ RSt w' B (rgoF n f S i) D ∧ Chg [B.c] w w' := by
  intro f
  induction f with
  | zero =>
    intro w S i h ht hf hi
    have hno : S.cells (i : Int) = none := by
      cases hc : S.cells (i : Int) with
      | none => rfl
      | some c => have := num_pos n i hi (f := S.cells) (by rw [hc]; rfl); omega
    have H : Hid (RSt w B S D) := h
    obtain ⟨a, k, d0, d1, d2, _, _⟩ := h.at i (by omega)
    obtain ⟨_, _, _, _, c4, _, _⟩ := h.cell
    rw [hasn_iff.2 hno] at d0
    rw [hn] at c4
    have h8 := h.nat
    rw [hn] at h8
    have h82 := h8.2
    have HG : Hid (rgoF n 0 S i = S) := rfl
    clear h hno ht hf h8
    obtain ⟨kl, hkl⟩ : ∃ kl, kl = (S.cel (i : Int)).kids.length := ⟨_, rfl⟩
    obtain ⟨hd, hhd⟩ : ∃ v, v = (S.cel (i : Int)).held := ⟨_, rfl⟩
    rw [← hkl] at d1
    rw [← hhd] at d2
    clear hkl hhd
    go_enter Tryz.func107, Tryz.ntmps107
    go_wp2_with fail
    first | go_end0 | refine bodyPost_ret (results_none rfl _ _ _) rfl ?_
    have hb := (Below.refl w.heap.size w).alloc (Nat.le_refl _) (.cells #[.bool false, .slice a kl k, .int .i64 hd] 111)
    exact ⟨rfl, by rw [HG.out]; exact H.out.on hb, Chg.of_below hb⟩
  | succ f ih =>
    intro w S i h ht hf hi
    have H : Hid (RSt w B S D) := h
    have HI : Hid (∀ (w : World) (S : StS) (i : Nat), RSt w B S D → Tame n S → num S.cells n ≤ f → i < n →
      Calls Tryz.prog 107 #[.pointer (some ⟨B.s, 0, none⟩), .int .i64 i] w fun e w' => e = .returned (.tuple #[]) ∧ RSt w' B (rgoF n f S i) D ∧ Chg [B.c] w w') := ih
    obtain ⟨a, k, d0, d1, d2, hki, _⟩ := h.at i (by omega)
    obtain ⟨_, _, _, _, c4, _, _⟩ := h.cell
    rw [hn] at c4
    have h8 := h.nat
    rw [hn] at h8
    have h82 := h8.2
    clear ih h8
    cases hc : S.cells (i : Int) with
    | none =>
      have HG : Hid (rgoF n (f + 1) S i = S) := rgo_none hc
      rw [hasn_iff.2 hc] at d0
      clear h hc ht hf hki
      obtain ⟨kl, hkl⟩ : ∃ kl, kl = (S.cel (i : Int)).kids.length := ⟨_, rfl⟩
      obtain ⟨hd, hhd⟩ : ∃ v, v = (S.cel (i : Int)).held := ⟨_, rfl⟩
      rw [← hkl] at d1
      rw [← hhd] at d2
      clear hkl hhd
      go_enter Tryz.func107, Tryz.ntmps107
      go_wp2_with fail
      first | go_end0 | refine bodyPost_ret (results_none rfl _ _ _) rfl ?_
      have hb := (Below.refl w.heap.size w).alloc (Nat.le_refl _) (.cells #[.bool false, .slice a kl k, .int .i64 hd] 111)
      exact ⟨rfl, by rw [HG.out]; exact H.out.on hb, Chg.of_below hb⟩
    | some c =>
      rw [has_iff.2 ⟨c, hc⟩] at d0
      rw [cel_some hc] at d1 d2 hki
      obtain ⟨l, hd⟩ : ∃ l : List Int, l = c.kids := ⟨_, rfl⟩
      obtain ⟨q, hq⟩ : ∃ q : Int, q = c.held := ⟨_, rfl⟩
      have HC : Hid (S.cells (i : Int) = some c ∧ l = c.kids ∧ q = c.held ∧ Tame n S ∧ num S.cells n ≤ f + 1) := ⟨hc, hd, hq, ht, hf⟩
      have hq0 : 0 ≤ q := by rw [hq]; exact (ht _ c hc).2.2.2.1
      have hl16 : l.length ≤ 16 := by rw [hd]; exact (ht _ c hc).2.1
      rw [← hd] at d1 hki
      rw [← hq] at d2
      have HK : Hid (Ints B.out w (.slice a l.length k) l) := hki
      clear h hc ht hf hki hd hq
      obtain ⟨w1, hw1⟩ : ∃ w1, w1 = w.alloc (.cells #[.bool true, .slice a l.length k, .int .i64 q] 111) := ⟨_, rfl⟩
      have hb1 : Below w.heap.size w w1 := by rw [hw1]; exact (Below.refl _ _).alloc (Nat.le_refl _) _
      have hx1 : w1.heap[w.heap.size]? = some (.cells #[.bool true, .slice a l.length k, .int .i64 q] 111 (0, 0)) := by rw [hw1]; exact heap_alloc_last _ _
      have H1 : Hid (RSt w1 B S D ∧ Below w.heap.size w w1 ∧ w1.heap[w.heap.size]? = some (.cells #[.bool true, .slice a l.length k, .int .i64 q] 111 (0, 0))) := ⟨H.out.on hb1, hb1, hx1⟩
      clear hb1 hx1
      by_cases hqp : 0 < q
      · have HG : Hid (rgoF n (f + 1) S i = S) := by rw [rgoF, HC.out.1]; exact if_pos (.inl (by rw [← HC.out.2.2.1]; exact hqp))
        go_enter Tryz.func107, Tryz.ntmps107
        go_wp2_with fail
        first | go_end0 | refine bodyPost_ret (results_none rfl _ _ _) rfl ?_
        rw [← hw1]
        exact ⟨rfl, by rw [HG.out]; exact H1.out.1, Chg.of_below H1.out.2.1⟩
      · have hq1 : q = 0 := by omega
        subst hq1
        clear hqp hq0
        have hnm := fun w' (hb : Below w.heap.size w w') => rnamed_any w' B S D i (H.out.on hb) (fun j c hc => (HC.out.2.2.2.1 j c hc).2.1)
        rw [hn] at hnm
        have HNM : Hid (∀ w', Below w.heap.size w w' → Calls Tryz.prog 58 #[.pointer (some ⟨B.s, 0, none⟩), .int .i64 i] w' fun e w'' => e = .returned (.int .i64 (cnt S.cells i n)) ∧ Below w'.heap.size w' w'') := hnm
        obtain ⟨N, hN⟩ : ∃ N, N = cnt S.cells i n := ⟨_, rfl⟩
        rw [← hN] at HNM
        have HN : Hid (N = cnt S.cells i n) := hN
        clear hnm hN
        by_cases hNp : 0 < N
        · have HG : Hid (rgoF n (f + 1) S i = S) := by rw [rgoF, HC.out.1]; exact if_pos (.inr (by rw [← HN.out]; exact hNp))
          have hNd : decide ((0 : Int) < (N : Int)) = true := by simp; omega
          go_enter Tryz.func107, Tryz.ntmps107
          go_wp2_with fail
          rw [← hw1]
          clear hw1
          refine Calls.mono (HNM.out w1 H1.out.2.1) ?_
          rintro e w2 ⟨rfl, hb2⟩
          have H2 : Hid (Below w.heap.size w w2) := H1.out.2.1.trans (hb2.mono H1.out.2.1.size)
          clear hb2 HNM
          go_wp2_with fail
          first | go_end0 | refine bodyPost_ret (results_none rfl _ _ _) rfl ?_
          exact ⟨rfl, by rw [HG.out]; exact H.out.on H2.out, Chg.of_below H2.out⟩
        · have hN0 : N = 0 := by omega
          have hNd : decide ((0 : Int) < (N : Int)) = false := by simp; omega
          have HG : Hid (rgoF n (f + 1) S i = l.foldl (fun T k => rgoF n f T k) (S.setC i none)) := by
            rw [rgoF, HC.out.1, HC.out.2.1]
            exact if_neg (fun h => by rw [← HC.out.2.2.1, ← HN.out] at h; omega)
          go_enter Tryz.func107, Tryz.ntmps107
          go_wp2_with fail
          rw [← hw1]
          clear hw1
          refine Calls.mono (HNM.out w1 H1.out.2.1) ?_
          rintro e w2 ⟨rfl, hb2⟩
          have hb02 : Below w.heap.size w w2 := H1.out.2.1.trans (hb2.mono H1.out.2.1.size)
          have hx2 : w2.heap[w.heap.size]? = some (.cells #[.bool true, .slice a l.length k, .int .i64 0] 111 (0, 0)) := (hb2.block _ (heap_lt H1.out.2.2)).trans H1.out.2.2
          have hR2 := H.out.on hb02
          have hR3 := hR2.put i (by omega) none none 0 (.inl ⟨rfl, none, 0, rfl⟩)
          obtain ⟨a2, k2, f0, f1, f2, _, _⟩ := hR2.at i (by omega)
          obtain ⟨_, _, _, _, g4, _, _⟩ := hR2.cell
          rw [hn] at g4
          have qf : ∀ o, w2.frozen? ⟨B.c, o, none⟩ = false := by obtain ⟨k, hk, _⟩ := hR2.cells; exact hk.frozen
          have hne : w.heap.size ≠ B.c := by have := H.out.lt B.c B.mem_c; omega
          have x1 : (put3 w2 B.c i none none 0).cell? ⟨w.heap.size, 1, none⟩ = some (.slice a l.length k) := cell_at (((put3_chg w2 B.c i none none 0).block _ (heap_lt hx2) (one_ne hne)).trans hx2) 1
          have x1' : (((w2.setCell ⟨B.c, i * 3, none⟩ (.bool false)).setCell ⟨B.c, i * 3 + 1, none⟩ (.slice none 0 0)).setCell ⟨B.c, i * 3 + 2, none⟩ (.int .i64 0)).cell? ⟨w.heap.size, 1, none⟩ = some (.slice a l.length k) := x1
          have hc3 : Chg [B.c] w (put3 w2 B.c i none none 0) := (Chg.of_below hb02).trans (put3_chg w2 B.c i none none 0)
          have hnum : num (S.setC i none).cells n ≤ f := by
            have := num_upd (f := S.cells) (j := (i : Int)) (o := none) n (by omega) (by omega)
            rw [HC.out.1] at this
            have h2 := HC.out.2.2.2.2
            simp [StS.setC] at this ⊢
            omega
          have H3 : Hid (RSt (put3 w2 B.c i none none 0) B (S.setC i none) D ∧ Fade S (S.setC i none) ∧ num (S.setC i none).cells n ≤ f ∧ Chg [B.c] w (put3 w2 B.c i none none 0) ∧ l.foldl (fun T k => rgoF n f T k) (S.setC i none) = rgoF n (f + 1) S i) := ⟨hR3, fade_none S i, hnum, hc3, HG.out.symm⟩
          clear hb2 HNM hb02 hx2 hR2 hR3 hne hc3 hnum HG c4 d0 d1 d2
          go_wp2_with fail
          obtain ⟨w3, hw3⟩ : ∃ w3, w3 = put3 w2 B.c i none none 0 := ⟨_, rfl⟩
          have hfold : (((w2.setCell ⟨B.c, i * 3, none⟩ (.bool false)).setCell ⟨B.c, i * 3 + 1, none⟩ (.slice none 0 0)).setCell ⟨B.c, i * 3 + 2, none⟩ (.int .i64 0)) = w3 := by rw [hw3]; rfl
          rw [hfold]
          rw [← hw3] at H3
          clear hw3 hfold x1 x1' f0 f1 f2 g4 qf
          go_loopw [38] (fun v wr => ∃ (j : Nat) (T : StS), j ≤ l.length ∧ v = .int .i64 j ∧ Hid (RSt wr B T D ∧ Fade S T ∧ num T.cells n ≤ f ∧ Chg [B.c] w wr ∧ (l.drop j).foldl (fun T k => rgoF n f T k) T = rgoF n (f + 1) S i)) (fun v _ => l.length - (intOf v).toNat)
          case atStart => exact ⟨0, _, by omega, rfl, H3.out⟩
          case round =>
            obtain ⟨j, T, hj, rfl, HT⟩ := hrel
            by_cases hjl : j < l.length
            · have hdr : l.drop j = l[j] :: l.drop (j + 1) := List.drop_eq_getElem_cons hjl
              obtain ⟨b, o, ha, _, hcj⟩ := ints_item (Ints.c HK.out HT.out.2.2.2.1) j hjl
              subst ha
              have hkr : 0 ≤ l[j] ∧ l[j] < (n : Int) := by
                have h1 := (HC.out.2.2.2.1 _ c HC.out.1).2.2.1
                rw [← HC.out.2.1] at h1
                exact h1 _ (List.getElem_mem hjl)
              obtain ⟨kj, hkj⟩ : ∃ kj : Nat, l[j] = (kj : Int) := ⟨(l[j]).toNat, by omega⟩
              rw [hkj] at hcj hdr hkr
              have hfold := HT.out.2.2.2.2
              rw [hdr, List.foldl_cons] at hfold
              have hT : Tame n T := HC.out.2.2.2.1.fade HT.out.2.1
              have hgp := rgo_p (n := n) f T kj (fun j c hc => (hT j c hc).1) (fun j c hc => (hT j c hc).2.2.2.1) HT.out.2.2.1
              have HW : Hid (Tame n T ∧ Fade S (rgoF n f T kj) ∧ num (rgoF n f T kj).cells n ≤ f ∧ (l.drop (j + 1)).foldl (fun T k => rgoF n f T k) (rgoF n f T kj) = rgoF n (f + 1) S i) :=
                ⟨hT, HT.out.2.1.trans hgp.fade, Nat.le_trans (num_fade hgp.fade n) HT.out.2.2.1, hfold⟩
              clear hdr hkj hfold hT hgp
              go_wp2_with (first
                | (go_at_call 107; refine (HI.out wr T kj HT.out.1 HW.out.1 HT.out.2.2.1 (by omega)).mono ?_; rintro e w4 ⟨rfl, hs4, hc4⟩; have H4 : Hid (RSt w4 B (rgoF n f T kj) D ∧ Chg [B.c] w w4) := ⟨hs4, HT.out.2.2.2.1.trans hc4⟩; clear hs4 hc4)
                | fail)
              go_roundw
              case rel => exact ⟨j + 1, _, by omega, by go_num, H4.out.1, HW.out.2.1, HW.out.2.2.1, H4.out.2, HW.out.2.2.2⟩
              case measure => simp [intOf]; omega
            · have hjl2 : j = l.length := by omega
              subst hjl2
              have HT2 : Hid (RSt wr B (rgoF n (f + 1) S i) D ∧ Chg [B.c] w wr) := by
                have := HT.out.2.2.2.2
                rw [List.drop_length, List.foldl_nil] at this
                exact ⟨this ▸ HT.out.1, HT.out.2.2.2.1⟩
              clear HT
              go_wp2_with fail
              first | go_end0 | refine bodyPost_ret (results_none rfl _ _ _) rfl ?_
              exact ⟨rfl, HT2.out⟩
/-- Hold -/
theorem rhold_any (w : World) (B : RBlk) (S : StS) (D : DevS) (i : Int) (h : RSt w B S D) (hr : ∀ c, S.cells i = some c → -9223372036854775808 ≤ c.held ∧ c.held < 9223372036854775807) :
    Calls Tryz.prog 65 #[.pointer (some ⟨B.s, 0, none⟩), .int .i64 i] w fun e w' => e = .returned (.int .i64 (S.holdE i)) ∧ RSt w' B (S.holds i) D ∧ Chg [B.c] w w' := by
  have H : Hid (RSt w B S D) := h
  cases hh : S.has i with
  | false =>
    have HE : Hid (S.holdE i = 22 ∧ S.holds i = S) := by unfold StS.holdE StS.holds; rw [hh]; exact ⟨rfl, rfl⟩
    clear h hr
    go_enter Tryz.func65, Tryz.ntmps65
    go_wp2_with (first
      | (go_at_call 57; refine (rhas_any _ B S D i H.out).mono ?_; rintro e w1 ⟨rfl, rfl⟩; rw [hh])
      | fail)
    go_ret
    exact ⟨by rw [HE.out.1]; rfl, by rw [HE.out.2]; exact H.out, Chg.refl _ _⟩
  | true =>
    have HE : Hid (S.holdE i = 0 ∧ S.holds i = S.hold i 1) := by unfold StS.holdE StS.holds; rw [hh]; exact ⟨rfl, rfl⟩
    have hd := h.dom i hh
    obtain ⟨c, hc⟩ := has_iff.1 hh
    have hrr := hr c hc
    obtain ⟨j, rfl⟩ := Int.eq_ofNat_of_zero_le hd.1
    have hnat := h.nat
    obtain ⟨n, hn⟩ : ∃ n, n = D.n.toNat := ⟨_, rfl⟩
    rw [← hn] at hnat
    have hj : j < n := by omega
    have h82 := hnat.2
    obtain ⟨a, k, d0, d1, d2, _, _⟩ := h.at j (by omega)
    obtain ⟨_, _, _, _, c4, _, _⟩ := h.cell
    have qf : ∀ o, w.frozen? ⟨B.c, o, none⟩ = false := by obtain ⟨k, hk, _⟩ := h.cells; exact hk.frozen
    rw [← hn] at c4
    have hR := h.hold j (by omega) hh 1
    rw [cel_some hc] at d2 hR
    obtain ⟨v, hv⟩ : ∃ v, v = c.held := ⟨_, rfl⟩
    rw [← hv] at d2 hR hrr
    have HR : Hid (RSt (w.setCell ⟨B.c, j * 3 + 2, none⟩ (.int .i64 (v + 1))) B (S.hold j 1) D) := hR
    have hwr : IntKind.i64.wrap (v + 1) = v + 1 := by rw [IntKind.wrap_i64]; omega
    clear h hr hR d0 d1 hd hc hv hn hnat
    go_enter Tryz.func65, Tryz.ntmps65
    go_wp2_with (first
      | (go_at_call 57; refine (rhas_any _ B S D _ H.out).mono ?_; rintro e w1 ⟨rfl, rfl⟩; rw [hh])
      | fail)
    go_ret
    exact ⟨by rw [HE.out.1]; rfl, by rw [HE.out.2]; exact HR.out, (Chg.refl _ _).setCell _ _ (.inl (by simp))⟩
end Go.Proofs.YtanpkghdgdkdlaaGreat.Sto

/- Layer 6: the reference's Drop and Sweep. -/
namespace Go.Proofs.YtanpkghdgdkdlaaGreat.Sto
set_option linter.unusedVariables false
set_option linter.unusedSimpArgs false
set_option maxRecDepth 100000
open Go.RowKit Go.Lib Go.Proofs.YtanpkghdgdkdlaaGreat.Mem Go.Proofs.YtanpkghdgdkdlaaGreat.Oct Go.Proofs.YtanpkghdgdkdlaaGreat.Dev

theorem RSt.view {w : World} {B : RBlk} {S T : StS} {D : DevS} (h : RSt w B S D) (v : View S T) : RSt w B T D := h.congr v.gen v.root v.note v.kept v.has v.kids v.held
theorem num_has {A B : StS} (h : ∀ i, A.has i = B.has i) : ∀ n, num A.cells n = num B.cells n
  | 0 => rfl
  | n + 1 => by
    have h1 : (A.cells (n : Int)).isSome = (B.cells (n : Int)).isSome := h n
    rw [num, num, num_has h n, h1]
/-- Drop -/
theorem rdrop_view {n : Nat} {S : StS} {i : Int} (hw : WF n S []) (hh : 1 ≤ (S.cel i).held) (hs : S.has i = true) : View (rgoF n n (S.hold i (-1)) i) (S.drop n i) := by
  have hr : (S.drop n i) = (S.hold i (-1)).goneF n i := by unfold StS.drop; rw [if_neg (by omega)]
  rw [hr]
  obtain ⟨c, hc⟩ := has_iff.1 hs
  have hb := hw.held i c hc
  rw [cel_some hc] at hh
  have hw1 : WF n (S.hold i (-1)) [] := hw.hold hs (by rw [cel_some hc]; omega)
  have ht := hw1.tame
  have g1 := gone_p n (S.hold i (-1)) i [] hw1 (num_le _ _)
  have g2 := rgo_p (n := n) n (S.hold i (-1)) i (fun j c hc => (ht j c hc).1) (fun j c hc => (ht j c hc).2.2.2.1) (num_le _ _)
  exact view_of g2.fade g1.fade (fun j => gone_same hw1 g2 g1 (fun _ _ => Iff.rfl) j)
set_option maxHeartbeats 2000000 in
theorem rdrop_any (w : World) (B : RBlk) (S : StS) (D : DevS) (i : Int) (n : Nat) (h : RSt w B S D) (hw : WF n S []) (hn : D.n.toNat = n) :
    Calls Tryz.prog 66 #[.pointer (some ⟨B.s, 0, none⟩), .int .i64 i] w fun e w' => e = .returned (.int .i64 (S.dropE i)) ∧ RSt w' B (S.drop n i) D ∧ Chg [B.c] w w' := by
  have H : Hid (RSt w B S D) := h
  cases hh : S.has i with
  | false =>
    have hcel : S.cel i = noCel := by unfold StS.cel; rw [hasn_iff.1 hh]; rfl
    have HE : Hid (S.dropE i = 22 ∧ S.drop n i = S) := by unfold StS.dropE StS.drop; rw [hcel]; exact ⟨rfl, rfl⟩
    clear h hw hcel
    go_enter Tryz.func66, Tryz.ntmps66
    go_wp2_with (first
      | (go_at_call 57; refine (rhas_any _ B S D i H.out).mono ?_; rintro e w1 ⟨rfl, rfl⟩; rw [hh])
      | fail)
    go_ret
    exact ⟨by rw [HE.out.1]; rfl, by rw [HE.out.2]; exact H.out, Chg.refl _ _⟩
  | true =>
    have hd := h.dom i hh
    obtain ⟨c, hc⟩ := has_iff.1 hh
    have hb := hw.held i c hc
    obtain ⟨j, rfl⟩ := Int.eq_ofNat_of_zero_le hd.1
    have hnat := h.nat
    rw [hn] at hnat
    have hj : j < n := by omega
    have h82 := hnat.2
    obtain ⟨a, k, d0, d1, d2, _, _⟩ := h.at j (by omega)
    obtain ⟨_, _, _, _, c4, _, _⟩ := h.cell
    have qf : ∀ o, w.frozen? ⟨B.c, o, none⟩ = false := by obtain ⟨k, hk, _⟩ := h.cells; exact hk.frozen
    rw [hn] at c4
    rw [cel_some hc] at d2
    obtain ⟨v, hv⟩ : ∃ v, v = c.held := ⟨_, rfl⟩
    rw [← hv] at d2 hb
    by_cases hv0 : v = 0
    · have HE : Hid (S.dropE j = 22 ∧ S.drop n j = S) := by unfold StS.dropE StS.drop; rw [cel_some hc, ← hv, hv0]; exact ⟨rfl, rfl⟩
      clear h hw hd hc hn hnat d0 d1 qf
      go_enter Tryz.func66, Tryz.ntmps66
      go_wp2_with (first
        | (go_at_call 57; refine (rhas_any _ B S D _ H.out).mono ?_; rintro e w1 ⟨rfl, rfl⟩; rw [hh])
        | fail)
      go_ret
      exact ⟨by rw [HE.out.1]; rfl, by rw [HE.out.2]; exact H.out, Chg.refl _ _⟩
    · have hb0 : (v == 0) = false := by simpa using hv0
      have HE : Hid (S.dropE j = 0) := by unfold StS.dropE; rw [cel_some hc, ← hv, if_neg (by omega)]; exact rfl
      have hview := rdrop_view (n := n) (i := (j : Int)) hw (by rw [cel_some hc, ← hv]; omega) hh
      have hw1 : WF n (S.hold j (-1)) [] := hw.hold hh (by rw [cel_some hc, ← hv]; omega)
      have hR := h.hold j (by omega) hh (-1)
      rw [cel_some hc, ← hv] at hR
      have e1 : v + -1 = v - 1 := by omega
      rw [e1] at hR
      have HR : Hid (RSt (w.setCell ⟨B.c, j * 3 + 2, none⟩ (.int .i64 (v - 1))) B (S.hold j (-1)) D ∧ Tame n (S.hold j (-1)) ∧ View (rgoF n n (S.hold j (-1)) j) (S.drop n j)) := ⟨hR, hw1.tame, hview⟩
      have hwr : IntKind.i64.wrap (v - 1) = v - 1 := by rw [IntKind.wrap_i64]; omega
      have HNN : Hid (D.n.toNat = n) := hn
      clear h hw hR d0 d1 hd hc hv hn hnat hview hw1 e1
      go_enter Tryz.func66, Tryz.ntmps66
      go_wp2_with (first
        | (go_at_call 57; refine (rhas_any _ B S D _ H.out).mono ?_; rintro e w1 ⟨rfl, rfl⟩; rw [hh])
        | (go_at_call 107; refine (rgoes_any D B n HNN.out n _ _ j HR.out.1 HR.out.2.1 (num_le _ _) hj).mono ?_; rintro e w2 ⟨rfl, hs2, hc2⟩; have H2 : Hid (RSt w2 B (S.drop n j) D ∧ Chg [B.c] w w2) := ⟨hs2.view HR.out.2.2, ((Chg.refl _ _).setCell _ _ (.inl (by simp))).trans hc2⟩; clear hs2 hc2)
        | fail)
      go_ret
      exact ⟨by rw [HE.out]; rfl, H2.out⟩
/-! ### Sweep -/
def rswF (n : Nat) (S : StS) (j : Nat) : StS := (List.range j).foldl (fun T (i : Nat) => rgoF n n T (i : Int)) S
theorem rsw_succ (n : Nat) (S : StS) (j : Nat) : rswF n S (j + 1) = rgoF n n (rswF n S j) (j : Int) := by
  unfold rswF
  rw [List.range_succ, List.foldl_append]
  rfl
theorem rsw_p {n : Nat} {S : StS} (ht : Tame n S) : ∀ j, GoneP [] S ((List.range j).map fun (i : Nat) => (i : Int)) (rswF n S j)
  | 0 => GoneP.none (fun j hj => by simp at hj)
  | j + 1 => by
    have g := rsw_p ht j
    have t := ht.fade g.fade
    have g2 := rgo_p (n := n) n (rswF n S j) j (fun j c hc => (t j c hc).1) (fun j c hc => (t j c hc).2.2.2.1) (num_le _ _)
    rw [rsw_succ, List.range_succ, List.map_append]
    exact g.comp g2 (fun j hj => by simp at hj) (fun j hj => by simp at hj)
theorem sweep_p {n : Nat} : ∀ (l : List Int) (S : StS), WF n S [] → GoneP [] S l (l.foldl (fun T i => StS.goneF n T i) S)
  | [], S, h => GoneP.none (fun j hj => by simp at hj)
  | i :: l, S, h => by
    have g1 := gone_p n S i [] h (num_le _ _)
    have h1 := gone_wf n S i [] h (num_le _ _)
    exact g1.comp (sweep_p l _ h1.1) (fun j hj => by simp at hj) (fun j hj => by simp at hj)
theorem rsw_has {n : Nat} {S : StS} (hw : WF n S []) : ∀ j, (rswF n S n).has j = (S.sweep n).has j :=
  gone_same hw (rsw_p hw.tame n) (sweep_p (S.live n) S hw) (fun j hj => by
    obtain ⟨c, hc⟩ := has_iff.1 hj
    have hd := hw.dom j c hc
    rw [live_mem (wf_dom hw), hc, List.mem_map]
    exact ⟨fun _ => by simp, fun _ => ⟨j.toNat, List.mem_range.2 (by omega), by omega⟩⟩)
theorem rsw_view {n : Nat} {S : StS} (hw : WF n S []) : View (rswF n S n) (S.sweep n) := view_of (rsw_p hw.tame n).fade (sweep_p (S.live n) S hw).fade (rsw_has hw)
set_option maxHeartbeats 2000000 in
theorem rsweep_any (w : World) (B : RBlk) (S : StS) (D : DevS) (n : Nat) (h : RSt w B S D) (hw : WF n S []) (hn : D.n.toNat = n) :
    Calls Tryz.prog 67 #[.pointer (some ⟨B.s, 0, none⟩)] w fun e w' => e = .returned (.int .i64 ((num S.cells n : Int) - num (S.sweep n).cells n)) ∧ RSt w' B (S.sweep n) D ∧ Chg [B.c] w w' := by
  have hnat := h.nat
  rw [hn] at hnat
  have h82 := hnat.2
  have hlive := rlive_any w B S D h
  rw [hn] at hlive
  have HW : Hid (RSt w B S D ∧ WF n S [] ∧ D.n.toNat = n) := ⟨h, hw, hn⟩
  obtain ⟨N1, hN1⟩ : ∃ N1, N1 = num S.cells n := ⟨_, rfl⟩
  obtain ⟨N2, hN2⟩ : ∃ N2, N2 = num (S.sweep n).cells n := ⟨_, rfl⟩
  have h1 := num_le S.cells n
  have h2 := num_le (S.sweep n).cells n
  rw [← hN1] at h1 ⊢
  rw [← hN2] at h2 ⊢
  have HN : Hid ((S.live n).length = N1 ∧ ((rswF n S n).live n).length = N2) := by
    refine ⟨by rw [live_len, hN1], by rw [live_len, hN2]; exact num_has (rsw_has hw) n⟩
  clear h hw hn hnat hN1 hN2
  go_enter Tryz.func67, Tryz.ntmps67
  go_wp2_with fail
  refine hlive.mono ?_
  rintro e w1 ⟨v, rfl, hi, hb⟩
  obtain ⟨a, c, rfl, _⟩ := hi.form
  rw [HN.out.1]
  have H1 : Hid (RSt w1 B (rswF n S 0) D ∧ Chg [B.c] w w1) := ⟨HW.out.1.on hb, Chg.of_below hb⟩
  obtain ⟨_, _, _, _, c4, _, _⟩ := H1.out.1.cell
  rw [HW.out.2.2] at c4
  clear hlive hi hb
  go_wp2_with fail
  clear c4
  go_loopw [13] (fun v wr => ∃ j : Nat, j ≤ n ∧ v = .int .i64 j ∧ Hid (RSt wr B (rswF n S j) D ∧ Chg [B.c] w wr)) (fun v _ => n - (intOf v).toNat)
  case atStart => exact ⟨0, by omega, rfl, H1.out⟩
  case round =>
    obtain ⟨j, hj, rfl, HT⟩ := hrel
    by_cases hlt : j < n
    · have ht := HW.out.2.1.tame.fade (rsw_p HW.out.2.1.tame j).fade
      have HT2 : Hid (Tame n (rswF n S j) ∧ rswF n S (j + 1) = rgoF n n (rswF n S j) (j : Int)) := ⟨ht, rsw_succ n S j⟩
      clear ht
      go_wp2_with (first
        | (go_at_call 107; refine (rgoes_any D B n HW.out.2.2 n wr _ j HT.out.1 HT2.out.1 (num_le _ _) hlt).mono ?_; rintro e w4 ⟨rfl, hs4, hc4⟩; have H4 : Hid (RSt w4 B (rswF n S (j + 1)) D ∧ Chg [B.c] w w4) := ⟨by rw [HT2.out.2]; exact hs4, HT.out.2.trans hc4⟩; clear hs4 hc4)
        | fail)
      go_roundw
      case rel => exact ⟨j + 1, by omega, by go_num, H4.out⟩
      case measure => simp [intOf]; omega
    · have hjn : j = n := by omega
      subst hjn
      have hl2 := rlive_any wr B (rswF j S j) D HT.out.1
      rw [HW.out.2.2] at hl2
      have hw1 : IntKind.i64.wrap ((N1 : Int) - (N2 : Int)) = (N1 : Int) - (N2 : Int) := by rw [IntKind.wrap_i64]; omega
      go_wp2_with fail
      refine hl2.mono ?_
      rintro e w5 ⟨v5, rfl, hi, hb⟩
      obtain ⟨a5, c5, rfl, _⟩ := hi.form
      rw [HN.out.2]
      have H5 : Hid (RSt w5 B (S.sweep j) D ∧ Chg [B.c] w w5) := ⟨(HT.out.1.on hb).view (rsw_view HW.out.2.1), HT.out.2.trans (Chg.of_below hb)⟩
      clear hi hb hl2
      go_wp2_with fail
      go_ret
      exact ⟨rfl, H5.out⟩
end Go.Proofs.YtanpkghdgdkdlaaGreat.Sto

/- Layer 6: the reference's keep and Commit. -/
namespace Go.Proofs.YtanpkghdgdkdlaaGreat.Sto
set_option linter.unusedVariables false
set_option linter.unusedSimpArgs false
set_option maxRecDepth 100000
open Go.RowKit Go.Lib Go.Proofs.YtanpkghdgdkdlaaGreat.Mem Go.Proofs.YtanpkghdgdkdlaaGreat.Oct Go.Proofs.YtanpkghdgdkdlaaGreat.Dev

theorem Ints.p {w w' : World} {B : RBlk} {v : Value} {l : List Int} (h : Ints B.out w v l) (hc : Chg [B.p] w w') : Ints B.out w' v l := Ints.chg h hc (fun q hq hm => hq.1 (by simp at hm; subst hm; exact B.mem_p))
set_option maxHeartbeats 8000000 in
theorem rkeep_any (D : DevS) (B : RBlk) (n : Nat) (hn : D.n.toNat = n) : ∀ (f : Nat) (w : World) (S : StS) (i : Nat), RSt w B S D → Tame n S → unk S.kept n ≤ f → i < n →
    Calls Tryz.prog 108 #[.pointer (some ⟨B.s, 0, none⟩), .int .i64 i] w fun e w' => e = .returned (.tuple #[]) ∧ RSt w' B (S.keepF f i) D ∧ Chg [B.p] w w' := by
  intro f
  induction f with
  | zero =>
    intro w S i h ht hf hi
    have H : Hid (RSt w B S D) := h
    have HG : Hid (S.keepF 0 i = S) := rfl
    by_cases h0 : i = 0
    · subst h0
      clear h ht hf
      go_enter Tryz.func108, Tryz.ntmps108
      go_wp2_with fail
      first | go_end0 | refine bodyPost_ret (results_none rfl _ _ _) rfl ?_
      exact ⟨rfl, by rw [HG.out]; exact H.out, Chg.refl _ _⟩
    · have hk : S.kept (i : Int) = true := by
        cases hk : S.kept (i : Int) with
        | true => rfl
        | false => have := unk_pos n i hi hk; omega
      obtain ⟨_, _, _, _, _, _, d4⟩ := h.at i (by omega)
      obtain ⟨_, _, _, _, _, c5, _⟩ := h.cell
      rw [hn] at c5
      rw [hk] at d4
      have h8 := h.nat
      rw [hn] at h8
      have h82 := h8.2
      have hi0 : ((i : Int) == 0) = false := by simp; omega
      clear h ht hf hk h8
      go_enter Tryz.func108, Tryz.ntmps108
      go_wp2_with fail
      first | go_end0 | refine bodyPost_ret (results_none rfl _ _ _) rfl ?_
      exact ⟨rfl, by rw [HG.out]; exact H.out, Chg.refl _ _⟩
  | succ f ih =>
    intro w S i h ht hf hi
    have H : Hid (RSt w B S D) := h
    have HI : Hid (∀ (w : World) (S : StS) (i : Nat), RSt w B S D → Tame n S → unk S.kept n ≤ f → i < n →
      Calls Tryz.prog 108 #[.pointer (some ⟨B.s, 0, none⟩), .int .i64 i] w fun e w' => e = .returned (.tuple #[]) ∧ RSt w' B (S.keepF f i) D ∧ Chg [B.p] w w') := ih
    clear ih
    by_cases h0 : i = 0
    · subst h0
      have HG : Hid (S.keepF (f + 1) (0 : Nat) = S) := by rw [StS.keepF]; exact if_pos (.inl rfl)
      clear h ht hf
      go_enter Tryz.func108, Tryz.ntmps108
      go_wp2_with fail
      first | go_end0 | refine bodyPost_ret (results_none rfl _ _ _) rfl ?_
      exact ⟨rfl, by rw [HG.out]; exact H.out, Chg.refl _ _⟩
    · obtain ⟨_, _, _, _, _, _, d4⟩ := h.at i (by omega)
      obtain ⟨_, _, _, _, _, c5, _⟩ := h.cell
      rw [hn] at c5
      have h8 := h.nat
      rw [hn] at h8
      have h82 := h8.2
      have hi0 : ((i : Int) == 0) = false := by simp; omega
      cases hk : S.kept (i : Int) with
      | true =>
        rw [hk] at d4
        have HG : Hid (S.keepF (f + 1) i = S) := by rw [StS.keepF]; exact if_pos (.inr hk)
        clear h ht hf hk h8
        go_enter Tryz.func108, Tryz.ntmps108
        go_wp2_with fail
        first | go_end0 | refine bodyPost_ret (results_none rfl _ _ _) rfl ?_
        exact ⟨rfl, by rw [HG.out]; exact H.out, Chg.refl _ _⟩
      | false =>
        rw [hk] at d4
        have hR := h.mark i (by omega) true
        obtain ⟨S1, hS1⟩ : ∃ S1 : StS, S1 = { S with kept := fun j => if j = (i : Int) then true else S.kept j } := ⟨_, rfl⟩
        rw [← hS1] at hR
        have HG : Hid (S.keepF (f + 1) i = (S.cel i).kids.foldl (fun T k => StS.keepF f T k) S1) := by
          rw [StS.keepF, hS1]
          exact if_neg (fun h => h.elim (fun h1 => by omega) (fun h1 => by rw [hk] at h1; cases h1))
        have pf : ∀ o, w.frozen? ⟨B.p, o, none⟩ = false := fun o => Arr.frozen h.kept o
        have hcel : S1.cel i = S.cel i := by rw [hS1]; rfl
        have hu : unk S1.kept n ≤ f := by
          have := unk_set (K := S.kept) (i := (i : Int)) hk n (by omega) (by omega)
          rw [hS1]
          show unk (fun j => if j = (i : Int) then true else S.kept j) n ≤ f
          omega
        have htS : Tame n S1 := by rw [hS1]; exact ht
        obtain ⟨a, k, d0, d1, d2, hki, _⟩ := hR.at i (by omega)
        obtain ⟨_, _, _, _, g4, _, _⟩ := hR.cell
        rw [hn] at g4
        rw [hcel] at d1 hki
        have hkr : ∀ x ∈ (S.cel (i : Int)).kids, 0 ≤ x ∧ x < (n : Int) := by
          unfold StS.cel
          cases hc : S.cells (i : Int) with
          | none => intro x hx; exact absurd hx (by simp [noCel])
          | some c => exact (ht _ c hc).2.2.1
        have hk16 : (S.cel (i : Int)).kids.length ≤ 16 := by
          unfold StS.cel
          cases hc : S.cells (i : Int) with
          | none => simp [noCel]
          | some c => exact (ht _ c hc).2.1
        obtain ⟨l, hl⟩ : ∃ l, l = (S.cel (i : Int)).kids := ⟨_, rfl⟩
        rw [← hl] at HG d1 hki hkr hk16
        have HKR : Hid (∀ x ∈ l, 0 ≤ x ∧ x < (n : Int)) := hkr
        have HK : Hid (Ints B.out (w.setCell ⟨B.p, i, none⟩ (.bool true)) (.slice a l.length k) l) := hki
        have H1 : Hid (RSt (w.setCell ⟨B.p, i, none⟩ (.bool true)) B S1 D ∧ Tame n S1 ∧ unk S1.kept n ≤ f ∧ Chg [B.p] w (w.setCell ⟨B.p, i, none⟩ (.bool true))) := ⟨hR, htS, hu, (Chg.refl _ _).setCell _ _ (.inl (by simp))⟩
        clear h ht hf hk h8 hR hS1 hcel hu htS d0 d2 hkr hki hl
        go_enter Tryz.func108, Tryz.ntmps108
        go_wp2_with fail
        obtain ⟨w1, hw1⟩ : ∃ w1, w1 = w.setCell ⟨B.p, i, none⟩ (.bool true) := ⟨_, rfl⟩
        rw [← hw1] at H1 HK ⊢
        clear hw1 d1 d4 g4 pf
        go_loopw [32] (fun v wr => ∃ (j : Nat) (T : StS), j ≤ l.length ∧ v = .int .i64 j ∧ Hid (RSt wr B T D ∧ Tame n T ∧ unk T.kept n ≤ f ∧ Chg [B.p] w wr ∧ Chg [B.p] w1 wr ∧ (l.drop j).foldl (fun T k => StS.keepF f T k) T = S.keepF (f + 1) i)) (fun v _ => l.length - (intOf v).toNat)
        case atStart => exact ⟨0, S1, by omega, rfl, H1.out.1, H1.out.2.1, H1.out.2.2.1, H1.out.2.2.2, Chg.refl _ _, HG.out.symm⟩
        case round =>
          obtain ⟨j, T, hj, rfl, HT⟩ := hrel
          by_cases hjl : j < l.length
          · have hdr : l.drop j = l[j] :: l.drop (j + 1) := List.drop_eq_getElem_cons hjl
            obtain ⟨b, o, ha, _, hcj⟩ := ints_item (Ints.p HK.out HT.out.2.2.2.2.1) j hjl
            subst ha
            have hkr : 0 ≤ l[j] ∧ l[j] < (n : Int) := HKR.out _ (List.getElem_mem hjl)
            obtain ⟨kj, hkj⟩ : ∃ kj : Nat, l[j] = (kj : Int) := ⟨(l[j]).toNat, by omega⟩
            rw [hkj] at hcj hdr hkr
            have hfold := HT.out.2.2.2.2.2
            rw [hdr, List.foldl_cons] at hfold
            have hkc := keepF_cells f T kj
            have HW : Hid (Tame n (StS.keepF f T kj) ∧ unk (StS.keepF f T kj).kept n ≤ f ∧ (l.drop (j + 1)).foldl (fun T k => StS.keepF f T k) (StS.keepF f T kj) = S.keepF (f + 1) i) :=
              ⟨fun j c hc => HT.out.2.1 j c (by rw [← hkc.1]; exact hc), Nat.le_trans (keepF_unk f T kj) HT.out.2.2.1, hfold⟩
            clear hdr hkj hfold hkc
            go_wp2_with (first
              | (go_at_call 108; refine (HI.out wr T kj HT.out.1 HT.out.2.1 HT.out.2.2.1 (by omega)).mono ?_; rintro e w4 ⟨rfl, hs4, hc4⟩; have H4 : Hid (RSt w4 B (StS.keepF f T kj) D ∧ Chg [B.p] w w4 ∧ Chg [B.p] w1 w4) := ⟨hs4, HT.out.2.2.2.1.trans hc4, HT.out.2.2.2.2.1.trans hc4⟩; clear hs4 hc4)
              | fail)
            go_roundw
            case rel => exact ⟨j + 1, _, by omega, by go_num, H4.out.1, HW.out.1, HW.out.2.1, H4.out.2.1, H4.out.2.2, HW.out.2.2⟩
            case measure => simp [intOf]; omega
          · have hjl2 : j = l.length := by omega
            subst hjl2
            have HT2 : Hid (RSt wr B (S.keepF (f + 1) i) D ∧ Chg [B.p] w wr) := by
              have := HT.out.2.2.2.2.2
              rw [List.drop_length, List.foldl_nil] at this
              exact ⟨this ▸ HT.out.1, HT.out.2.2.2.1⟩
            clear HT
            go_wp2_with fail
            first | go_end0 | refine bodyPost_ret (results_none rfl _ _ _) rfl ?_
            exact ⟨rfl, HT2.out⟩
/-! ### Commit -/
/-- the store's own block is written -/
theorem RSt.box' {w w' : World} {B : RBlk} {S S' : StS} {D : DevS} (h : RSt w B S D) (hc : Chg [B.s] w w')
    (hb : w'.heap[B.s]? = some (.cells #[.int .i64 S'.gen, .int .i64 S'.root, .string S'.note, .pointer (some ⟨B.x, 0, none⟩), .slice (some ⟨B.c, 0, none⟩) D.n.toNat D.n.toNat, .slice (some ⟨B.p, 0, none⟩) D.n.toNat D.n.toNat] 114 (0, 0)))
    (h1 : S'.cells = S.cells) (h2 : S'.kept = S.kept) : RSt w' B S' D := by
  obtain ⟨⟨n1, n2, n3⟩, ⟨x1, x2, x3⟩, ⟨k1, k2, k3⟩, ⟨d1, d2, d3⟩, i1, i2, i3⟩ := h.ne
  obtain ⟨k, hk, hi⟩ := h.cells
  have hhas : ∀ i, S'.has i = S.has i := fun i => by unfold StS.has; rw [h1]
  have hcel : ∀ i, S'.cel i = S.cel i := fun i => by unfold StS.cel; rw [h1]
  refine ⟨hb, h.dev.chg hc (one_ne x1) (one_ne k1) (one_ne d1) (one_ne i1), h.small, ⟨k, (hk.chg hc (one_ne (Ne.symm n1))).congr (fun i _ => ⟨hhas i, by rw [hcel], by rw [hcel]⟩), fun j hj => ?_⟩, by rw [h2]; exact h.kept.chg hc (one_ne (Ne.symm n2)), h.nd, fun q hq => Nat.lt_of_lt_of_le (h.low q hq) hc.size, fun i hi => h.dom i (by rw [← hhas]; exact hi), by rw [h2]; exact h.kdom⟩
  rw [hcel]
  exact Ints.chg (hi j hj) hc (fun q hq hm => hq.1 (by simp at hm; subst hm; exact B.mem_s))
/-- a new row of marks -/
theorem RSt.anew {w : World} {B : RBlk} {S : StS} {D : DevS} (h : RSt w B S D) : RSt ((w.alloc (.cells (madeCells #[.bool false] D.n.toNat) 4)).setCell ⟨B.s, 5, none⟩ (.slice (some ⟨w.heap.size, 0, none⟩) D.n.toNat D.n.toNat)) { B with p := w.heap.size } { S with kept := fun _ => false } D := by
  obtain ⟨⟨n1, n2, n3⟩, ⟨x1, x2, x3⟩, ⟨k1, k2, k3⟩, ⟨d1, d2, d3⟩, i1, i2, i3⟩ := h.ne
  have hlt := h.lt
  have hb1 : Below w.heap.size w (w.alloc (.cells (madeCells #[.bool false] D.n.toNat) 4)) := (Below.refl _ _).alloc (Nat.le_refl _) _
  have h1 := h.on hb1
  have hc : Chg [B.s] (w.alloc (.cells (madeCells #[.bool false] D.n.toNat) 4)) ((w.alloc (.cells (madeCells #[.bool false] D.n.toNat) 4)).setCell ⟨B.s, 5, none⟩ (.slice (some ⟨w.heap.size, 0, none⟩) D.n.toNat D.n.toNat)) := (Chg.refl _ _).setCell _ _ (.inl (by simp))
  obtain ⟨k, hk, hi⟩ := h1.cells
  have hi0 : ∀ j : Nat, j < D.n.toNat → Ints (fun q => B.out q ∧ q < w.heap.size) w (.slice (k j).1 (S.cel j).kids.length (k j).2) (S.cel j).kids := fun j hj => by
    obtain ⟨k', hk', hi'⟩ := h.cells
    obtain ⟨_, e2, _⟩ := hk.at j hj
    obtain ⟨_, e2', _⟩ := (hk'.on hb1).at j hj
    rw [e2] at e2'
    simp only [Option.some.injEq, Value.slice.injEq] at e2'
    obtain ⟨e3, _, e4⟩ := e2'
    rw [e3, e4]
    exact Ints.real (hi' j hj)
  have hs : B.s < w.heap.size := hlt _ B.mem_s
  have hnd : [B.s, B.c, w.heap.size, B.x, B.xk, B.xd, B.xi].Nodup := by
    have := h.nd
    simp only [RBlk.all, List.nodup_cons, List.mem_cons, List.mem_nil_iff, or_false, not_or, List.nodup_nil, not_false_eq_true, and_true] at this ⊢
    obtain ⟨⟨a1, a2, a3, a4, a5, a6⟩, ⟨b1, b2, b3, b4, b5⟩, ⟨c1, c2, c3, c4⟩, r⟩ := this
    have l1 := hlt B.s (by simp [RBlk.all])
    have l2 := hlt B.c (by simp [RBlk.all])
    have l3 := hlt B.x (by simp [RBlk.all])
    have l4 := hlt B.xk (by simp [RBlk.all])
    have l5 := hlt B.xd (by simp [RBlk.all])
    have l6 := hlt B.xi (by simp [RBlk.all])
    exact ⟨⟨a1, by omega, a3, a4, a5, a6⟩, ⟨by omega, b2, b3, b4, b5⟩, ⟨by omega, by omega, by omega, by omega⟩, r⟩
  refine ⟨?_, h1.dev.chg hc (one_ne x1) (one_ne k1) (one_ne d1) (one_ne i1), h.small, ⟨k, (hk.chg hc (one_ne (Ne.symm n1))).congr (fun i _ => ⟨rfl, rfl, rfl⟩), fun j hj => ?_⟩, ?_, hnd, fun q hq => Nat.lt_of_lt_of_le (h1.low q hq) hc.size, h.dom, fun i hi => by cases hi⟩
  · exact heap_set_at h1.box 5 _
  · have h2 : Ints (fun q => B.out q ∧ q < w.heap.size) ((w.alloc (.cells (madeCells #[.bool false] D.n.toNat) 4)).setCell ⟨B.s, 5, none⟩ (.slice (some ⟨w.heap.size, 0, none⟩) D.n.toNat D.n.toNat)) (.slice (k j).1 (S.cel j).kids.length (k j).2) (S.cel j).kids :=
      Ints.chg (Ints.on (hi0 j hj) hb1) hc (fun q hq hm => hq.1.1 (by simp at hm; subst hm; exact B.mem_s))
    refine h2.mono (fun q hq => ⟨fun hm => ?_, hq.1.2⟩)
    simp only [RBlk.all, List.mem_cons, List.mem_nil_iff, or_false] at hm
    have hq1 := hq.1.1
    simp only [RBlk.all, List.mem_cons, List.mem_nil_iff, or_false, not_or] at hq1
    obtain ⟨m1, m2, m3, m4, m5, m6, m7⟩ := hq1
    rcases hm with e | e | e | e | e | e | e
    · exact m1 e
    · exact m2 e
    · have := hq.2; omega
    · exact m4 e
    · exact m5 e
    · exact m6 e
    · exact m7 e
  · have h2 : Arr Value.bool (w.alloc (.cells (madeCells #[.bool false] D.n.toNat) 4)) w.heap.size D.n.toNat 4 (fun _ => false) := made_arr (enc := Value.bool) (z := false) (heap_alloc_last _ _) (fun _ _ => rfl)
    exact h2.chg hc (one_ne (by omega))
def RCommitPost (w : World) (B : RBlk) (r : Int × StS × DevS) (e : Ending) (w' : World) : Prop := ∃ p, (p = B.p ∨ w.heap.size ≤ p) ∧ e = .returned (.int .i64 r.1) ∧ RSt w' { B with p := p } r.2.1 r.2.2 ∧ Chg B.all w w'
theorem rcommit_bad (w : World) (B : RBlk) (S : StS) (D : DevS) (root : Int) (note : ByteArray) (h : RSt w B S D) (hbad : (root ≠ 0 ∧ S.has root = false) ∨ 3900 < note.size) :
    Calls Tryz.prog 68 #[.pointer (some ⟨B.s, 0, none⟩), .int .i64 root, .string note] w (RCommitPost w B (commitOut S D root note)) := by
  have hg : commitOut S D root note = (22, S, D) := by rw [commitOut, if_pos hbad]
  rw [hg]
  clear hg
  have H : Hid (RSt w B S D) := h
  clear h
  by_cases h0 : root = 0
  · subst h0
    have hn : 3900 < note.size := by
      rcases hbad with h | h
      · exact absurd rfl h.1
      · exact h
    clear hbad
    go_enter Tryz.func68, Tryz.ntmps68
    go_wp2_with fail
    go_ret
    exact ⟨B.p, .inl rfl, rfl, H.out, Chg.refl _ _⟩
  · have hb : (root != 0) = true := by simpa using h0
    cases hh : S.has root with
    | false =>
      clear hbad
      go_enter Tryz.func68, Tryz.ntmps68
      go_wp2_with (first
        | (go_at_call 57; refine (rhas_any _ B S D root H.out).mono ?_; rintro e w1 ⟨rfl, rfl⟩; rw [hh])
        | fail)
      go_ret
      exact ⟨B.p, .inl rfl, rfl, H.out, Chg.refl _ _⟩
    | true =>
      have hn : 3900 < note.size := by
        rcases hbad with h | h
        · rw [hh] at h; exact absurd h.2 (by decide)
        · exact h
      clear hbad
      go_enter Tryz.func68, Tryz.ntmps68
      go_wp2_with (first
        | (go_at_call 57; refine (rhas_any _ B S D root H.out).mono ?_; rintro e w1 ⟨rfl, rfl⟩; rw [hh])
        | fail)
      go_ret
      exact ⟨B.p, .inl rfl, rfl, H.out, Chg.refl _ _⟩
set_option maxHeartbeats 16000000 in
theorem rcommit_any (w : World) (B : RBlk) (S : StS) (D : DevS) (root : Int) (note : ByteArray) (n : Nat) (h : RSt w B S D) (hn : D.n.toNat = n) (hw : WF n S []) (hg : 1 ≤ S.gen ∧ S.gen ≤ 1099511627776) :
    Calls Tryz.prog 68 #[.pointer (some ⟨B.s, 0, none⟩), .int .i64 root, .string note] w (RCommitPost w B (commitOut S D root note)) := by
  by_cases hbad : (root ≠ 0 ∧ S.has root = false) ∨ 3900 < note.size
  · exact rcommit_bad w B S D root note h hbad
  · have hroot : root = 0 ∨ (root ≠ 0 ∧ S.has root = true) := by
      by_cases h0 : root = 0
      · exact .inl h0
      · cases hh : S.has root with
        | true => exact .inr ⟨h0, rfl⟩
        | false => exact absurd (.inl ⟨h0, hh⟩) hbad
    have hsz : ¬ 3900 < note.size := fun h => hbad (.inr h)
    obtain ⟨R, hR⟩ : ∃ R, R = commitOut S D root note := ⟨_, rfl⟩
    rw [← hR]
    rw [commitOut, if_neg hbad] at hR
    have HR : Hid (R = _) := hR
    have hnat := h.nat
    have hDn : D.n = (n : Int) := by omega
    have hn8 : 8 ≤ n ∧ n ≤ 4096 := by omega
    have hr0 : 0 ≤ root ∧ root < (n : Int) := by
      rcases hroot with h0 | ⟨_, hh⟩
      · omega
      · have := h.dom root hh; omega
    obtain ⟨r0, rfl⟩ := Int.eq_ofNat_of_zero_le hr0.1
    have hr1 : r0 < n := by omega
    obtain ⟨c0, c1, c2, c3, c4, c5, cf⟩ := h.cell
    rw [hn] at c4 c5
    have H : Hid (RSt w B S D ∧ WF n S [] ∧ D.n = (n : Int) ∧ D.n.toNat = n) := ⟨h, hw, hDn, hn⟩
    clear h hw hbad hR hnat hDn hr0
    obtain ⟨g, hgg⟩ : ∃ g, g = S.gen := ⟨_, rfl⟩
    have HGG : Hid (g = S.gen) := hgg
    rw [← hgg] at c0 hg
    clear hgg
    by_cases hfar : g = 1099511627776
    · have HR2 : Hid (R = (75, S, D)) := by rw [HR.out, if_pos (by rw [← HGG.out]; omega)]; exact rfl
      clear HR
      rcases hroot with h0 | ⟨h0, hh⟩
      · have h00 : r0 = 0 := by omega
        subst h00
        go_enter Tryz.func68, Tryz.ntmps68
        go_wp2_with fail
        go_ret
        rw [HR2.out]
        exact ⟨B.p, .inl rfl, rfl, H.out.1, Chg.refl _ _⟩
      · have hb : ((r0 : Int) != 0) = true := by simpa using h0
        go_enter Tryz.func68, Tryz.ntmps68
        go_wp2_with (first
          | (go_at_call 57; refine (rhas_any _ B S D _ H.out.1).mono ?_; rintro e w1 ⟨rfl, rfl⟩; rw [hh])
          | fail)
        go_ret
        rw [HR2.out]
        exact ⟨B.p, .inl rfl, rfl, H.out.1, Chg.refl _ _⟩
    · have hfb : (g == 1099511627776) = false := by simpa using hfar
      have hwr : IntKind.i64.wrap (g + 1) = g + 1 := by rw [IntKind.wrap_i64]; omega
      have HR2 : Hid (R = if D.flushE ≠ 0 then (D.flushE, S, D.flush)
        else if D.flush.writeE ((S.gen + 1).tmod 2) (superB (S.gen + 1).toNat ((r0 : Int)).toNat D.n.toNat note) ≠ 0 then (D.flush.writeE ((S.gen + 1).tmod 2) (superB (S.gen + 1).toNat ((r0 : Int)).toNat D.n.toNat note), S, D.flush.write ((S.gen + 1).tmod 2) (superB (S.gen + 1).toNat ((r0 : Int)).toNat D.n.toNat note))
        else if (D.flush.write ((S.gen + 1).tmod 2) (superB (S.gen + 1).toNat ((r0 : Int)).toNat D.n.toNat note)).flushE ≠ 0 then ((D.flush.write ((S.gen + 1).tmod 2) (superB (S.gen + 1).toNat ((r0 : Int)).toNat D.n.toNat note)).flushE, S, (D.flush.write ((S.gen + 1).tmod 2) (superB (S.gen + 1).toNat ((r0 : Int)).toNat D.n.toNat note)).flush)
        else (0, ({ gen := S.gen + 1, root := (r0 : Int), note := note, cells := S.cells, kept := fun _ => false } : StS).keepF D.n.toNat (r0 : Int), (D.flush.write ((S.gen + 1).tmod 2) (superB (S.gen + 1).toNat ((r0 : Int)).toNat D.n.toNat note)).flush)) := by
          rw [HR.out, if_neg (by rw [← HGG.out]; omega)]
          exact rfl
      rw [← HGG.out] at HR2
      have hsup : superZ (g + 1) r0 n note = superB (g + 1).toNat ((r0 : Int)).toNat D.n.toNat note := by
        have e1 : g + 1 = (((g + 1).toNat : Nat) : Int) := by omega
        have e2 := superZ_nat (g + 1).toNat r0 n note (by omega) (by omega) (by omega)
        rw [← e1] at e2
        rw [e2, H.out.2.2.2]
        rfl
      obtain ⟨sb, hsb⟩ : ∃ sb, sb = superB (g + 1).toNat ((r0 : Int)).toNat D.n.toNat note := ⟨_, rfl⟩
      rw [← hsb] at HR2 hsup
      have HSUP : Hid (superZ (g + 1) r0 n note = sb) := hsup
      clear HR hsup hsb
      have hb2 : (((r0 : Int) != 0) = false) ∨ (((r0 : Int) != 0) = true ∧ S.has r0 = true) := by
        rcases hroot with h0 | ⟨h0, hh⟩
        · exact .inl (by simpa using h0)
        · exact .inr ⟨by simpa using h0, hh⟩
      have hm2 := run_make_row' (P := Tryz.prog) 85 4 (.bool false) 1 Tryz.underlying85 info_bool rfl .i64 .i64 n (by omega) (by omega)
      have HM : Hid (∀ w : World, (Instr.makeSlice 85 (.int .i64 (n : Int)) (.int .i64 (n : Int))).run Tryz.prog w = .ok (.slice (some ⟨w.heap.size, 0, none⟩) n n) (w.alloc (.cells (madeCells #[.bool false] n) 4))) := hm2
      obtain ⟨w1, hw1⟩ : ∃ w1, w1 = w.alloc (.cells #[.int .i64 (g + 1), .int .i64 r0, .string note] 89) := ⟨_, rfl⟩
      have hbw1 : Below w.heap.size w w1 := by rw [hw1]; exact (Below.refl _ _).alloc (Nat.le_refl _) _
      have hxw1 : w1.heap[w.heap.size]? = some (.cells #[.int .i64 (g + 1), .int .i64 r0, .string note] 89 (0, 0)) := by rw [hw1]; exact heap_alloc_last _ _
      obtain ⟨b7, hb7⟩ : ∃ b7, b7 = w.heap.size := ⟨_, rfl⟩
      rw [← hb7] at hxw1
      have H1 : Hid (RSt w1 B S D ∧ w1.heap[b7]? = some (.cells #[.int .i64 (g + 1), .int .i64 r0, .string note] 89 (0, 0)) ∧ Below w.heap.size w w1) := ⟨H.out.1.on hbw1, hxw1, hbw1⟩
      have HB7 : Hid (b7 = w.heap.size ∧ ∀ q ∈ B.all, q < b7) := ⟨hb7, by rw [hb7]; exact H.out.1.lt⟩
      have HDM : Hid (∀ q ∈ [B.x, B.xk, B.xd, B.xi], q ∈ B.all) := fun q hq => by
        simp only [List.mem_cons, List.mem_nil_iff, or_false] at hq
        rcases hq with rfl | rfl | rfl | rfl <;> simp [RBlk.all]
      have c3' := H1.out.1.cell.2.2.2.1
      rw [hw1] at c3'
      clear hroot hm2 hbw1 hxw1
      rcases hb2 with hb | ⟨hb, hh⟩
      all_goals
        go_enter Tryz.func68, Tryz.ntmps68
        go_wp2_with (first
          | (go_at_call 57; refine (rhas_any _ B S D _ H.out.1).mono ?_; rintro e w1 ⟨rfl, rfl⟩; rw [hh])
          | fail)
        rw [← hw1, ← hb7]
        clear hw1 hb7
        refine (rflush_any w1 B.x B.xk B.xd B.xi D H1.out.1.dev).mono ?_
        rintro e w2 ⟨rfl, hd2, hc2⟩
        have H2 : Hid (RSt w2 B S D.flush ∧ w2.heap[b7]? = some (.cells #[.int .i64 (g + 1), .int .i64 r0, .string note] 89 (0, 0)) ∧ Chg B.all w w2) :=
          ⟨H1.out.1.dev' hc2 hd2 (flush_small H1.out.1.small) (flush_n D), (hc2.block _ (heap_lt H1.out.2.1) (fun hm => Nat.lt_irrefl _ (HB7.out.2 _ (HDM.out _ hm)))).trans H1.out.2.1, (Chg.of_below H1.out.2.2).trans (hc2.mono HDM.out)⟩
        clear hd2 hc2 H1 c0 c1 c2 c3 c4 c5 cf c3'
        by_cases hf : D.flushE = 0
        rotate_left 1
        · have HR3 : Hid (R = (D.flushE, S, D.flush)) := by rw [HR2.out, if_pos hf]; exact rfl
          have hfb2 : (D.flushE != 0) = true := by simpa using hf
          clear HR2 hf
          generalize D.flushE = fe at HR3 hfb2 ⊢
          go_wp2_with fail
          go_ret
          rw [HR3.out]
          exact ⟨B.p, .inl rfl, rfl, H2.out.1, H2.out.2.2⟩
        · rw [hf]
          have HR3 : Hid (R = if D.flush.writeE ((g + 1).tmod 2) sb ≠ 0 then (D.flush.writeE ((g + 1).tmod 2) sb, S, D.flush.write ((g + 1).tmod 2) sb)
            else if (D.flush.write ((g + 1).tmod 2) sb).flushE ≠ 0 then ((D.flush.write ((g + 1).tmod 2) sb).flushE, S, (D.flush.write ((g + 1).tmod 2) sb).flush)
            else (0, ({ gen := g + 1, root := (r0 : Int), note := note, cells := S.cells, kept := fun _ => false } : StS).keepF D.n.toNat (r0 : Int), (D.flush.write ((g + 1).tmod 2) sb).flush)) := by
              rw [HR2.out]
              exact if_neg (fun h => h hf)
          clear HR2 hf
          have hn1 : D.flush.n.toNat = n := by rw [flush_n]; exact H.out.2.2.2
          have H3 : Hid (RSt w2.drew B S D.flush ∧ w2.drew.heap[b7]? = some (.cells #[.int .i64 (g + 1), .int .i64 r0, .string note] 89 (0, 0)) ∧ Chg B.all w w2.drew) :=
            ⟨H2.out.1.on ((Below.refl _ _).drew), H2.out.2.1, H2.out.2.2.drew⟩
          obtain ⟨_, _, _, e3, e4, _, _⟩ := H3.out.1.cell
          rw [hn1] at e4
          have y0 : w2.drew.cell? ⟨b7, 0, none⟩ = some (.int .i64 (g + 1)) := cell_at H3.out.2.1 0
          have y1 : w2.drew.cell? ⟨b7, 1, none⟩ = some (.int .i64 r0) := cell_at H3.out.2.1 1
          have y2 : w2.drew.cell? ⟨b7, 2, none⟩ = some (.string note) := cell_at H3.out.2.1 2
          have HF : Hid (∀ (w' : World) (D' : DevS), RSt w' B S D' → D'.n.toNat = n → w'.heap[b7]? = some (.cells #[.int .i64 (g + 1), .int .i64 r0, .string note] 89 (0, 0)) →
            w'.cell? ⟨B.s, 3, none⟩ = some (.pointer (some ⟨B.x, 0, none⟩)) ∧ w'.cell? ⟨B.s, 4, none⟩ = some (.slice (some ⟨B.c, 0, none⟩) n n) ∧ w'.cell? ⟨b7, 0, none⟩ = some (.int .i64 (g + 1)) ∧ w'.cell? ⟨b7, 1, none⟩ = some (.int .i64 r0) ∧ w'.cell? ⟨b7, 2, none⟩ = some (.string note)) := fun w' D' h1 h2 h3 => by
              obtain ⟨_, _, _, e3, e4, _, _⟩ := h1.cell
              rw [h2] at e4
              exact ⟨e3, e4, cell_at h3 0, cell_at h3 1, cell_at h3 2⟩
          have HN1 : Hid (D.flush.n.toNat = n) := hn1
          have hmod : Hid (0 ≤ (g + 1).tmod 2 ∧ (g + 1).tmod 2 ≤ 1) := by
            rw [Int.tmod_eq_emod_of_nonneg (by omega)]; exact ⟨by omega, by omega⟩
          clear H2 hn1
          go_wp2_with fail
          go_region_held3 (fun w' => w'.cell? ⟨B.s, 3, none⟩ = some (.pointer (some ⟨B.x, 0, none⟩)) ∧ w'.cell? ⟨B.s, 4, none⟩ = some (.slice (some ⟨B.c, 0, none⟩) n n) ∧ w'.cell? ⟨b7, 0, none⟩ = some (.int .i64 (g + 1)) ∧ w'.cell? ⟨b7, 1, none⟩ = some (.int .i64 r0) ∧ w'.cell? ⟨b7, 2, none⟩ = some (.string note))
            (first | exact ⟨e3, e4, y0, y1, y2⟩ | exact HF.out _ _ H5.out.1 H5.out.2.2.2 H5.out.2.1 | exact HF.out _ _ H4.out.1 HN1.out H4.out.2.1)
            (first
              | (go_at_call 42; refine (rsbytes_any (g + 1) r0 n note _ (by omega)).mono ?_; rintro e w4 ⟨rfl, hb4⟩; have H4 : Hid (RSt w4 B S D.flush ∧ w4.heap[b7]? = some (.cells #[.int .i64 (g + 1), .int .i64 r0, .string note] 89 (0, 0)) ∧ Chg B.all w w4) := ⟨H3.out.1.on hb4, (hb4.block _ (heap_lt H3.out.2.1)).trans H3.out.2.1, H3.out.2.2.trans (Chg.of_below hb4)⟩; clear hb4; rw [HSUP.out])
              | (go_at_call 12; refine (rwrite_any _ B.x B.xk B.xd B.xi D.flush ((g + 1).tmod 2) sb H4.out.1.dev).mono ?_; rintro e w5 ⟨rfl, hd5, hc5⟩; have H5 : Hid (RSt w5 B S (D.flush.write ((g + 1).tmod 2) sb) ∧ w5.heap[b7]? = some (.cells #[.int .i64 (g + 1), .int .i64 r0, .string note] 89 (0, 0)) ∧ Chg B.all w w5 ∧ (D.flush.write ((g + 1).tmod 2) sb).n.toNat = n) := ⟨H4.out.1.dev' hc5 hd5 (write_small H4.out.1.small _ _) (write_n _ _ _), (hc5.block _ (heap_lt H4.out.2.1) (fun hm => Nat.lt_irrefl _ (HB7.out.2 _ (HDM.out _ hm)))).trans H4.out.2.1, H4.out.2.2.trans (hc5.mono HDM.out), by rw [write_n]; exact HN1.out⟩; clear hd5 hc5)
              | fail)
          clear e3 e4 y0 y1 y2 H3 H4
          obtain ⟨D2, hD2⟩ : ∃ D2, D2 = D.flush.write ((g + 1).tmod 2) sb := ⟨_, rfl⟩
          obtain ⟨we, hwe⟩ : ∃ we, we = D.flush.writeE ((g + 1).tmod 2) sb := ⟨_, rfl⟩
          rw [← hD2, ← hwe] at HR3
          rw [← hD2] at H5
          rw [← hwe]
          clear hD2 hwe
          by_cases hw0 : we = 0
          rotate_left 1
          · have HR4 : Hid (R = (we, S, D2)) := by rw [HR3.out, if_pos hw0]; exact rfl
            have hfb2 : (we != 0) = true := by simpa using hw0
            clear HR3 hw0
            go_wp2_with fail
            go_ret
            rw [HR4.out]
            exact ⟨B.p, .inl rfl, rfl, H5.out.1, H5.out.2.2.1⟩
          · have HR4 : Hid (R = if D2.flushE ≠ 0 then (D2.flushE, S, D2.flush)
              else (0, ({ gen := g + 1, root := (r0 : Int), note := note, cells := S.cells, kept := fun _ => false } : StS).keepF D.n.toNat (r0 : Int), D2.flush)) := by
                rw [HR3.out]
                exact if_neg (fun h => h hw0)
            subst hw0
            clear HR3
            obtain ⟨_, _, _, e3, _, _, _⟩ := H5.out.1.cell
            go_wp2_with fail
            clear e3
            refine (rflush_any w5 B.x B.xk B.xd B.xi D2 H5.out.1.dev).mono ?_
            rintro e w6 ⟨rfl, hd6, hc6⟩
            have H6 : Hid (RSt w6 B S D2.flush ∧ w6.heap[b7]? = some (.cells #[.int .i64 (g + 1), .int .i64 r0, .string note] 89 (0, 0)) ∧ Chg B.all w w6 ∧ D2.flush.n.toNat = n) :=
              ⟨H5.out.1.dev' hc6 hd6 (flush_small H5.out.1.small) (flush_n D2), (hc6.block _ (heap_lt H5.out.2.1) (fun hm => Nat.lt_irrefl _ (HB7.out.2 _ (HDM.out _ hm)))).trans H5.out.2.1, H5.out.2.2.1.trans (hc6.mono HDM.out), by rw [flush_n]; exact H5.out.2.2.2⟩
            clear hd6 hc6 H5
            by_cases hf2 : D2.flushE = 0
            rotate_left 1
            · have HR5 : Hid (R = (D2.flushE, S, D2.flush)) := by rw [HR4.out, if_pos hf2]; exact rfl
              have hfb2 : (D2.flushE != 0) = true := by simpa using hf2
              clear HR4 hf2
              generalize D2.flushE = fe at HR5 hfb2 ⊢
              go_wp2_with fail
              go_ret
              rw [HR5.out]
              exact ⟨B.p, .inl rfl, rfl, H6.out.1, H6.out.2.2.1⟩
            · have HR5 : Hid (R = (0, ({ gen := g + 1, root := (r0 : Int), note := note, cells := S.cells, kept := fun _ => false } : StS).keepF n (r0 : Int), D2.flush)) := by
                rw [HR4.out, if_neg (fun h => h hf2), H.out.2.2.2]
                exact rfl
              rw [hf2]
              clear HR4 hf2
              obtain ⟨Df, hDf⟩ : ∃ Df, Df = D2.flush := ⟨_, rfl⟩
              rw [← hDf] at H6 HR5
              clear hDf
              have y0 : w6.cell? ⟨b7, 0, none⟩ = some (.int .i64 (g + 1)) := cell_at H6.out.2.1 0
              have y1 : w6.cell? ⟨b7, 1, none⟩ = some (.int .i64 r0) := cell_at H6.out.2.1 1
              have y2 : w6.cell? ⟨b7, 2, none⟩ = some (.string note) := cell_at H6.out.2.1 2
              obtain ⟨e0, e1, e2, _, e4, _, ef⟩ := H6.out.1.cell
              rw [H6.out.2.2.2] at e4
              obtain ⟨w7, hw7⟩ : ∃ w7, w7 = ((w6.setCell ⟨B.s, 0, none⟩ (.int .i64 (g + 1))).setCell ⟨B.s, 1, none⟩ (.int .i64 r0)).setCell ⟨B.s, 2, none⟩ (.string note) := ⟨_, rfl⟩
              have hc7 : Chg [B.s] w6 w7 := by rw [hw7]; exact (((Chg.refl _ _).setCell _ _ (.inl (by simp))).setCell _ _ (.inl (by simp))).setCell _ _ (.inl (by simp))
              have h7 : RSt w7 B { S with gen := g + 1, root := (r0 : Int), note := note } Df := by
                refine H6.out.1.box' hc7 ?_ rfl rfl
                rw [hw7]
                exact heap_set_at (heap_set_at (heap_set_at H6.out.1.box 0 _) 1 _) 2 _
              have h8 := h7.anew
              rw [H6.out.2.2.2] at h8
              obtain ⟨_, _, _, _, q4, q5, qf⟩ := h7.cell
              rw [H6.out.2.2.2] at q4 q5
              have hsw : B.s < w7.heap.size := h7.lt _ B.mem_s
              have z5 : (w7.alloc (.cells (madeCells #[.bool false] n) 4)).cell? ⟨B.s, 5, none⟩ = some (.slice (some ⟨B.p, 0, none⟩) n n) := cell_on ((Below.refl w7.heap.size w7).alloc (Nat.le_refl _) _) q5
              have zf : ∀ o, (w7.alloc (.cells (madeCells #[.bool false] n) 4)).frozen? ⟨B.s, o, none⟩ = false := fun o => frozen_at ((h7.on ((Below.refl w7.heap.size w7).alloc (Nat.le_refl _) (.cells (madeCells #[.bool false] n) 4))).box) o
              have hszz : w.heap.size ≤ w7.heap.size := Nat.le_trans H6.out.2.2.1.size hc7.size
              have H8 : Hid (RSt ((w7.alloc (.cells (madeCells #[.bool false] n) 4)).setCell ⟨B.s, 5, none⟩ (.slice (some ⟨w7.heap.size, 0, none⟩) n n)) { B with p := w7.heap.size } { gen := g + 1, root := (r0 : Int), note := note, cells := S.cells, kept := fun _ => false } Df ∧
                  Chg B.all w ((w7.alloc (.cells (madeCells #[.bool false] n) 4)).setCell ⟨B.s, 5, none⟩ (.slice (some ⟨w7.heap.size, 0, none⟩) n n)) ∧ w.heap.size ≤ w7.heap.size) :=
                ⟨h8, ((H6.out.2.2.1.trans (hc7.mono (by simp [B.mem_s]))).alloc _).setCell _ _ (.inl B.mem_s), hszz⟩
              have hmk := HM.out
              have hsz7 : w7.heap.size = w6.heap.size := by rw [hw7]; simp
              have e4' : w7.cell? ⟨B.s, 4, none⟩ = some (.slice (some ⟨B.c, 0, none⟩) n n) := q4
              rw [hsz7] at H8
              rw [hw7] at z5 zf e4'
              have HL : Hid (B.s < w6.heap.size) := by rw [← hsz7]; exact hsw
              clear h7 h8 hc7 hszz q4 q5 qf hsw
              go_wp2_with fail
              rw [← hw7]
              clear z5 zf e4' e0 e1 e2 e4 ef y0 y1 y2 hmk
              refine (rkeep_any Df { B with p := w6.heap.size } n H6.out.2.2.2 n _ _ r0 H8.out.1 (show Tame n _ from H.out.2.1.tame) (unk_le _ _) hr1).mono ?_
              rintro e w9 ⟨rfl, hs9, hc9⟩
              have H9 : Hid (RSt w9 { B with p := w6.heap.size } (({ gen := g + 1, root := (r0 : Int), note := note, cells := S.cells, kept := fun _ => false } : StS).keepF n (r0 : Int)) Df ∧ Chg B.all w w9 ∧ w.heap.size ≤ w6.heap.size) :=
                ⟨hs9, H8.out.2.1.trans' hc9 (fun x hx => .inr (by simp at hx; rw [hx]; exact H8.out.2.2)), H8.out.2.2⟩
              clear hs9 hc9
              go_wp2_with fail
              go_ret
              rw [HR5.out]
              exact ⟨w6.heap.size, .inr H9.out.2.2, rfl, H9.out.1, H9.out.2.1⟩
end Go.Proofs.YtanpkghdgdkdlaaGreat.Sto

