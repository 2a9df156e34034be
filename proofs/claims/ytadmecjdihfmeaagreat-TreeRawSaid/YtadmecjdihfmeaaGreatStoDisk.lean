/- Layer 6 in plain Lean: what lies on a device for sure; what a store opened there has. -/
import Derived.Test.YtadmecjdihfmeaaGreatStoInv
import Derived.Test.YtadmecjdihfmeaaGreatStoOpen
namespace Go.Proofs.YtadmecjdihfmeaaGreat.Sto
set_option linter.unusedVariables false
set_option linter.unusedSimpArgs false
open Go.RowKit Go.Proofs.YtadmecjdihfmeaaGreat.Mem Go.Proofs.YtadmecjdihfmeaaGreat.Oct Go.Proofs.YtadmecjdihfmeaaGreat.Dev

/-- what a place of a device has, with power; what it has kept -/
def vw (D : DevS) (i : Int) : ByteArray := text (over D.dirty D.kept i)
def kp (D : DevS) (i : Int) : ByteArray := text (D.kept i)
theorem read_vw {D : DevS} {i : Int} (ho : D.off = false) (hi : 0 ≤ i ∧ i < D.n) : D.read i = vw D i ∧ D.readE i = 0 := by
  have hin : D.inside i = true := by simp [DevS.inside]; exact hi
  unfold DevS.read DevS.readE
  rw [ho, hin]
  exact ⟨rfl, rfl⟩
theorem readP_vw {D : DevS} {i : Int} (ho : D.off = false) (hi : 0 ≤ i ∧ i < D.n) : (readP D i).2 = getP (vw D i) D.n := by
  have h := read_vw ho hi
  unfold readP
  rw [h.1, h.2, if_pos rfl]
  split
  · rename_i x hx; exact hx.symm
  · rename_i hx; exact hx.symm
theorem vw_clean {D : DevS} {i : Int} (h : D.dirty i = none) : vw D i = kp D i := by unfold vw kp over; rw [h]

/-- P is just what root reaches, blocks of K; not too high -/
structure Lies (n : Nat) (K : Int → ByteArray) (root : Int) (P : Int → Prop) : Prop where
  top : root ≠ 0 → P root
  dom : ∀ i, P i → 2 ≤ i ∧ i < n
  blk : ∃ hh : Int → Nat, ∀ i, P i → hh i < 64 ∧ ∃ l d, getP (K i) n = some (l, d) ∧ ∀ k ∈ l, P k ∧ hh k < hh i
  least : ∀ Q : Int → Prop, (root ≠ 0 → Q root) → (∀ i l d, P i → Q i → getP (K i) n = some (l, d) → ∀ k ∈ l, Q k) → ∀ i, P i → Q i
theorem Lies.turn {n : Nat} {K K' : Int → ByteArray} {root : Int} {P : Int → Prop} (h : Lies n K root P) (hk : ∀ i, P i → K' i = K i) : Lies n K' root P := by
  refine ⟨h.top, h.dom, ?_, fun Q h0 hs => h.least Q h0 (fun i l d hp hq hg => hs i l d hp hq (by rw [hk i hp]; exact hg))⟩
  obtain ⟨hh, hb⟩ := h.blk
  exact ⟨hh, fun i hp => by rw [hk i hp]; exact hb i hp⟩
/-- the beginnings -/
structure Starts (n : Nat) (K : Int → ByteArray) (g r : Int) (nt : ByteArray) : Prop where
  this : beginsP (K (g.tmod 2)) n = some (g.toNat, r.toNat, nt)
  other : ∀ x, beginsP (K ((g + 1).tmod 2)) n = some x → (x.1 : Int) < g
structure Lasts (n : Nat) (S : StS) (K : Int → ByteArray) : Prop where
  starts : Starts n K S.gen S.root S.note
  lies : Lies n K S.root (fun i => S.kept i = true)
theorem Lasts.turn {n : Nat} {S : StS} {K K' : Int → ByteArray} (h : Lasts n S K) (hk : ∀ i, S.kept i = true → K' i = K i) (h0 : K' 0 = K 0) (h1 : K' 1 = K 1) : Lasts n S K' := by
  have hb : ∀ g : Int, K' (g.tmod 2) = K (g.tmod 2) ∨ g < 0 := by
    intro g
    rcases Int.lt_or_le g 0 with hg | hg
    · exact .inr hg
    · left
      have : g.tmod 2 = 0 ∨ g.tmod 2 = 1 := by
        rw [Int.tmod_eq_emod_of_nonneg hg]; omega
      rcases this with e | e <;> rw [e] <;> assumption
  have hg0 : 0 ≤ S.gen ∨ S.gen < 0 := by omega
  refine ⟨⟨?_, ?_⟩, h.lies.turn hk⟩
  · rcases hb S.gen with e | e
    · rw [e]; exact h.starts.this
    · have h2 : S.gen.tmod 2 = 0 ∨ S.gen.tmod 2 = -1 := by
        have := Int.tmod_eq_emod (a := S.gen) (b := 2)
        have h3 := Int.emod_two_eq S.gen
        have h4 := Int.neg_tmod S.gen 2
        have h5 : (-S.gen).tmod 2 = (-S.gen) % 2 := Int.tmod_eq_emod_of_nonneg (by omega)
        omega
      exact absurd h.starts.this (by
        intro hx
        have := (beginsP_in hx).1
        have h6 : (S.gen.toNat : Int) = 0 := by omega
        omega)
  · intro x hx
    rcases hb (S.gen + 1) with e | e
    · rw [e] at hx; exact h.starts.other x hx
    · exfalso
      have := (beginsP_in h.starts.this).1
      have h6 : (S.gen.toNat : Int) = 0 := by omega
      omega
theorem Lasts.pos {n : Nat} {S : StS} {K : Int → ByteArray} (h : Lasts n S K) : 1 ≤ S.gen ∧ S.gen ≤ 1099511627776 := by
  have := beginsP_in h.starts.this
  obtain ⟨h1, h2, _⟩ := this
  omega

/-! ### opening -/
theorem best_of {D : DevS} {n : Nat} {S : StS} (ho : D.off = false) (hD : D.n = n) (hn : 8 ≤ n) (h : Lasts n S (vw D)) : bestJ D 2 = some (S.gen.toNat, S.root.toNat, S.note) := by
  have hp := h.pos
  have h0 := (read_vw (D := D) (i := 0) ho ⟨by omega, by omega⟩).1
  have h1 := (read_vw (D := D) (i := 1) ho ⟨by omega, by omega⟩).1
  have e2 : bestJ D 2 = bestOf (bestOf none (beginsP (D.read ((0 : Nat) : Int)) D.n)) (beginsP (D.read ((1 : Nat) : Int)) D.n) := rfl
  rw [e2]
  rw [show ((0 : Nat) : Int) = 0 from rfl, show ((1 : Nat) : Int) = 1 from rfl, h0, h1, hD]
  have ht := h.starts.this
  have hot := h.starts.other
  rcases Int.emod_two_eq S.gen with hm | hm
  · rw [Int.tmod_eq_emod_of_nonneg (by omega), hm] at ht
    rw [Int.tmod_eq_emod_of_nonneg (by omega), show (S.gen + 1) % 2 = 1 by omega] at hot
    rw [ht]
    cases hb : beginsP (vw D 1) n with
    | none => rfl
    | some x =>
      have := hot x hb
      show bestOf (some _) (some x) = _
      unfold bestOf
      dsimp only
      rw [if_neg (by omega)]
  · rw [Int.tmod_eq_emod_of_nonneg (by omega), hm] at ht
    rw [Int.tmod_eq_emod_of_nonneg (by omega), show (S.gen + 1) % 2 = 0 by omega] at hot
    rw [ht]
    cases hb : beginsP (vw D 0) n with
    | none => rfl
    | some x =>
      have := hot x hb
      show bestOf (some x) (some _) = _
      unfold bestOf
      dsimp only
      rw [if_pos (by omega)]

/-- what is there is of P, and of K -/
def Of (n : Nat) (K : Int → ByteArray) (hh : Int → Nat) (P : Int → Prop) (S : StS) : Prop := ∀ j c, S.cells j = some c → P j ∧ c.high ≤ hh j + 1 ∧ (∃ d, getP (K j) n = some (c.kids, d)) ∧ c.held = 0
theorem Of.name {n : Nat} {K : Int → ByteArray} {hh : Int → Nat} {P : Int → Prop} {S : StS} (h : Of n K hh P S) {k : Int} (hk : S.has k = true) (b : Int) : Of n K hh P (S.name k b) := by
  intro j c hj
  obtain ⟨c0, h0, e1, e2, e3⟩ := (fade_name hk b).cells j c hj
  rw [e1, e2, e3]
  exact h j c0 h0
theorem reach_good {D : DevS} {n : Nat} (hD : D.n = n) (hn : n ≤ 4096) (ho : D.off = false) {P : Int → Prop} {hh : Int → Nat} (hdom : ∀ i, P i → 2 ≤ i ∧ i < n)
    (hb : ∀ i, P i → hh i < 64 ∧ ∃ l d, getP (vw D i) n = some (l, d) ∧ ∀ k ∈ l, P k ∧ hh k < hh i) :
    ∀ (f : Nat) (S : StS) (A : Int → Bool) (i : Int) (pd : List Int), WF n S pd → pd.length + 16 * f ≤ 1000000 → Of n (vw D) hh P S → P i → (∀ j, A j = true → hh i < hh j) → unk A n ≤ f →
      ∃ h S', reachF D f S A i = .ok (h, S') ∧ h ≤ hh i + 1 ∧ Of n (vw D) hh P S'
  | f, S, A, i, pd, hw, hl, hof, hp, hA, hu => by
    have hai : A i = false := by
      cases ha : A i with
      | false => rfl
      | true => have := hA i ha; omega
    obtain ⟨hlt, l, d, hg, hk⟩ := hb i hp
    have hdi := hdom i hp
    have hrd : (readP D i).2 = some (l, d) := by rw [readP_vw ho ⟨by omega, by omega⟩, hD]; exact hg
    have hin := (readP_in hrd).1
    match f with
    | 0 =>
      have := unk_none (K := A) (n := n) (i := i) (by omega) ⟨by omega, hdi.2⟩
      rw [hai] at this; cases this
    | f + 1 =>
      rw [reachF, reachK, hai, if_neg (by decide)]
      cases hc : S.cells i with
      | some c =>
        have := hof i c hc
        exact ⟨c.high, S, rfl, this.2.1, hof⟩
      | none =>
        dsimp only
        rw [hrd]
        dsimp only
        have hu1 : unk (fun j => if j = i then true else A j) n ≤ f := by
          have := unk_set (K := A) (i := i) hai n (by omega) hdi.2
          omega
        have key : ∀ (ks : List Int) (h : Int) (T : StS) (pd : List Int), (∀ k ∈ ks, k ∈ l) → WF n T pd → pd.length + ks.length + 16 * f ≤ 1000000 → Of n (vw D) hh P T → 0 ≤ h → h ≤ hh i →
            ∃ h' T', kidsF (fun T k => reachF D f T (fun j => if j = i then true else A j) k) ks h T = .ok (h', T') ∧ h' ≤ hh i ∧ Of n (vw D) hh P T' := by
          intro ks
          induction ks with
          | nil => intro h T pd _ _ _ ht h0 h1; exact ⟨h, T, rfl, h1, ht⟩
          | cons k ks ih =>
            intro h T pd hks hT hpd hoT h0 h1
            have hkl := hks k (by simp)
            obtain ⟨hpk, hlk⟩ := hk k hkl
            obtain ⟨h2, T2, e2, l2, o2⟩ := reach_good hD hn ho hdom hb f T (fun j => if j = i then true else A j) k pd hT (by omega) hoT hpk (fun j hj => by
              by_cases hji : j = i
              · subst hji; exact hlk
              · simp only [if_neg hji] at hj
                have := hA j hj; omega) hu1
            have R := reach_ok hD hn f T _ k pd h2 T2 hT (by omega) (hdom k hpk) e2
            rw [kidsF, e2]
            dsimp only
            refine ih (max h h2) (T2.name k 1) (k :: pd) (fun q hq => hks q (by simp [hq])) (R.wf.more R.has hn (by omega)) (by simp at hpd ⊢; omega) (o2.name R.has 1) (by omega) (by omega)
        obtain ⟨h', T', e, hle, ho'⟩ := key l 0 S pd (fun _ h => h) hw (by have := hin.1; omega) hof (by omega) (by omega)
        rw [e]
        unfold endF
        dsimp only
        rw [if_neg (by omega)]
        refine ⟨_, _, rfl, by omega, ?_⟩
        intro j c hj
        have hj' : upd T'.cells i (some ⟨0, 0, h' + 1, l⟩) j = some c := hj
        by_cases hji : j = i
        · subst hji
          rw [upd_same] at hj'; cases hj'
          exact ⟨hp, by show h' + 1 ≤ _; omega, ⟨d, hg⟩, rfl⟩
        · rw [upd_other _ _ _ hji] at hj'
          exact ho' j c hj'
/-- what is opened -/
structure Opened (n : Nat) (S : StS) (K : Int → ByteArray) (S' : StS) : Prop where
  gen : S'.gen = S.gen
  root : S'.root = S.root
  note : S'.note = S.note
  has : ∀ i, S'.has i = S.kept i
  kept : ∀ i, S'.kept i = S.kept i
  kids : ∀ i c, S'.cells i = some c → ∃ d, getP (K i) n = some (c.kids, d)
  held : ∀ i c, S'.cells i = some c → c.held = if i = S.root then 1 else 0
  inv : Inv n 1 S'
theorem reach_frame {D : DevS} {n : Nat} (hD : D.n = n) (hn : n ≤ 4096) {f : Nat} {S S' : StS} {A : Int → Bool} {i h : Int} (hw : WF n S []) (hf : f ≤ 4096) (hi : 2 ≤ i ∧ i < n) (hr : reachF D f S A i = .ok (h, S')) : Reached n S A [] i h S' :=
  reach_ok hD hn f S A i [] h S' hw (by simp; omega) hi hr
theorem open_lasts {D : DevS} {n : Nat} {S : StS} (ho : D.off = false) (hD : D.n = n) (hn : 8 ≤ n ∧ n ≤ 4096) (h : Lasts n S (vw D)) (hroot : S.root = 0 ∨ (2 ≤ S.root ∧ S.root < n)) : ∃ S', openOut D = .ok S' ∧ Opened n S (vw D) S' := by
  have hp := h.pos
  have hbest := best_of ho hD hn.1 h
  have hsup := beginsP_in h.starts.this
  have hr0 : (S.root.toNat : Int) = S.root := by omega
  have hg0 : (S.gen.toNat : Int) = S.gen := by omega
  unfold openOut
  rw [ho, hbest, if_neg (by decide)]
  dsimp only
  have hw0 := none_wf n (S.gen.toNat, S.root.toNat, S.note)
  have hgood : 1 ≤ ((S.gen.toNat : Nat) : Int) ∧ ((S.gen.toNat : Nat) : Int) ≤ 1099511627776 := by omega
  by_cases hr : S.root = 0
  · have hr' : S.root.toNat = 0 := by omega
    rw [if_pos hr']
    have hno : ∀ i, S.kept i = false := by
      intro i
      cases hk : S.kept i with
      | false => rfl
      | true => exact absurd (h.lies.least (fun _ => False) (fun h => absurd hr h) (fun _ _ _ _ h => h.elim) i hk) id
    refine ⟨_, rfl, ⟨hg0, ?_, rfl, fun i => (hno i).symm, fun i => (hno i).symm, fun i c hc => (by cases hc), fun i c hc => (by cases hc), ?_⟩⟩
    · show ((S.root.toNat : Nat) : Int) = _
      omega
    · refine ⟨hw0.same rfl, hgood, fun i c hc => (by cases hc), fun i hi => (by cases hi), .inl ?_, hsup.2.2.2⟩
      show ((S.root.toNat : Nat) : Int) = 0
      omega
  · have hr' : ¬ S.root.toNat = 0 := by omega
    rw [if_neg hr']
    obtain ⟨hh, hb⟩ := h.lies.blk
    have hDn : D.n.toNat = n := by omega
    rw [hDn, hr0]
    obtain ⟨h1, S1, e1, hle, hof⟩ := reach_good hD hn.2 ho (P := fun i => S.kept i = true) h.lies.dom hb n (openS (S.gen.toNat, S.root.toNat, S.note)) (fun _ => false) S.root [] hw0 (by simp; omega)
      (fun j c hj => by cases hj) (h.lies.top hr) (fun j hj => by cases hj) (unk_le _ _)
    have R := reach_frame hD hn.2 hw0 hn.2 (h.lies.dom _ (h.lies.top hr)) e1
    rw [e1]
    dsimp only
    have hhas : ∀ i, S1.has i = S.kept i := by
      intro i
      cases hk : S.kept i with
      | true =>
        refine h.lies.least (fun i => S1.has i = true) (fun _ => R.has) (fun i l d hp hq hg k hkl => ?_) i hk
        obtain ⟨c, hc⟩ := has_iff.1 hq
        obtain ⟨_, _, ⟨d', hg'⟩, _⟩ := hof i c hc
        rw [hg] at hg'
        cases hg'
        exact R.wf.kids i c hc k hkl
      | false =>
        cases hh : S1.has i with
        | false => rfl
        | true =>
          obtain ⟨c, hc⟩ := has_iff.1 hh
          have hx : S.kept i = true := (hof i c hc).1
          rw [hk] at hx; cases hx
    obtain ⟨cr, hcr⟩ := has_iff.1 R.has
    have hheld : (S1.cel S.root).held = 0 := by rw [cel_some hcr]; exact (hof _ cr hcr).2.2.2
    have hhas2 : ∀ i, (S1.hold S.root 1).has i = S1.has i := by
      intro i
      have := has_upd_iff (S := S1) (i := S.root) (j := i) (c := { S1.cel S.root with held := (S1.cel S.root).held + 1 }) R.has
      have e : (S1.hold S.root 1).has i = (S1.setC S.root (some { S1.cel S.root with held := (S1.cel S.root).held + 1 })).has i := rfl
      rw [e]
      cases ha : S1.has i with
      | true => exact this.2 ha
      | false =>
        cases hb2 : (S1.setC S.root (some { S1.cel S.root with held := (S1.cel S.root).held + 1 })).has i with
        | false => rfl
        | true => rw [this.1 hb2] at ha; cases ha
    have hcells : ∀ i c, (S1.hold S.root 1).cells i = some c → ∃ c0, S1.cells i = some c0 ∧ c.kids = c0.kids ∧ c.named = c0.named ∧ c.held = c0.held + (if i = S.root then 1 else 0) := by
      intro i c hc
      have hc' : upd S1.cells S.root (some { S1.cel S.root with held := (S1.cel S.root).held + 1 }) i = some c := hc
      by_cases hi : i = S.root
      · subst hi
        rw [upd_same] at hc'; cases hc'
        refine ⟨cr, hcr, ?_, ?_, ?_⟩ <;> rw [cel_some hcr]
        simp
      · rw [upd_other _ _ _ hi] at hc'
        exact ⟨c, hc', rfl, rfl, by rw [if_neg hi]; omega⟩
    refine ⟨_, rfl, ⟨?_, ?_, ?_, fun i => (hhas2 i).trans (hhas i), fun i => (hhas2 i).trans (hhas i), fun i c hc => ?_, fun i c hc => ?_, ?_⟩⟩
    · exact (R.grow.gen).trans hg0
    · exact (R.grow.root).trans hr0
    · exact R.grow.note
    · obtain ⟨c0, h0, e, _⟩ := hcells i c hc
      rw [e]
      exact (hof i c0 h0).2.2.1
    · obtain ⟨c0, h0, _, _, e⟩ := hcells i c hc
      rw [e, (hof i c0 h0).2.2.2]; omega
    · have hw2 := R.wf.hold (i := S.root) (by_ := 1) R.has (by rw [hheld]; omega)
      have hw3 : WF n (S1.hold S.root 1).keepAll [] := hw2.same rfl
      refine ⟨hw3, ?_, fun i c hc => ?_, fun i hi => ?_, ?_, ?_⟩
      · show 1 ≤ S1.gen ∧ S1.gen ≤ _
        rw [R.grow.gen]; exact hgood
      · obtain ⟨c0, h0, _, _, e⟩ := hcells i c hc
        rw [e, (hof i c0 h0).2.2.2]
        split <;> omega
      · have hi' : S.kept i = true := by rw [← hhas, ← hhas2]; exact hi
        exact h.lies.dom i hi'
      · have e3 : (S1.hold S.root 1).keepAll.root = S.root := R.grow.root.trans hr0
        rw [e3]
        exact hroot
      · show S1.note.size ≤ _
        rw [R.grow.note]; exact hsup.2.2.2
end Go.Proofs.YtadmecjdihfmeaaGreat.Sto
