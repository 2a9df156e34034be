/- Layer 6 in plain Lean: how a store grows (Put, reach). -/
import Derived.Test.YtadmecjdihfmeaaGreatStoPut
namespace Go.Proofs.YtadmecjdihfmeaaGreat.Sto
set_option linter.unusedVariables false
set_option linter.unusedSimpArgs false
open Go.RowKit Go.Proofs.YtadmecjdihfmeaaGreat.Mem Go.Proofs.YtadmecjdihfmeaaGreat.Oct Go.Proofs.YtadmecjdihfmeaaGreat.Dev

theorem name_cells {S : StS} {k by_ : Int} {c : Cel} (hc : S.cells k = some c) : (S.name k by_).cells = upd S.cells k (some { c with named := c.named + by_ }) := by
  rw [StS.name, cel_some hc]; rfl
theorem dom_nat {n : Nat} {S : StS} {pd : List Int} (h : WF n S pd) {i : Int} {c : Cel} (hc : S.cells i = some c) : ∃ q : Nat, i = (q : Int) ∧ q < n := by
  have := h.dom i c hc
  exact ⟨i.toNat, by omega, by omega⟩
/-- one that is there is named once more, by nobody that is there yet -/
theorem WF.more {n : Nat} {S : StS} {k : Int} {pd : List Int} (h : WF n S pd) (hk : S.has k = true) (hn : n ≤ 4096) (hl : pd.length < 1048576) : WF n (S.name k 1) (k :: pd) := by
  obtain ⟨c, hc⟩ := has_iff.1 hk
  have hcells : (S.name k 1).cells = upd S.cells k (some { c with named := c.named + 1 }) := name_cells hc
  have hcnt : ∀ i, cnt (S.name k 1).cells i n = cnt S.cells i n := fun i => by rw [hcells]; exact cnt_same (c' := { c with named := c.named + 1 }) hc rfl i n
  have hhas : ∀ j, S.has j = true → (S.name k 1).has j = true := fun j hj => has_upd hj
  have old : ∀ i d, (S.name k 1).cells i = some d → (i = k ∧ d = { c with named := c.named + 1 }) ∨ (i ≠ k ∧ S.cells i = some d) := by
    intro i d hd
    rw [hcells] at hd
    by_cases hi : i = k
    · subst hi; rw [upd_same] at hd; cases hd; exact .inl ⟨rfl, rfl⟩
    · rw [upd_other _ _ _ hi] at hd; exact .inr ⟨hi, hd⟩
  have back : ∀ i d, (S.name k 1).cells i = some d → ∃ d0, S.cells i = some d0 ∧ d.kids = d0.kids ∧ d.held = d0.held ∧ d.high = d0.high := by
    intro i d hd
    rcases old i d hd with ⟨rfl, rfl⟩ | ⟨_, h0⟩
    · exact ⟨c, hc, rfl, rfl, rfl⟩
    · exact ⟨d, h0, rfl, rfl, rfl⟩
  refine ⟨fun i d hd => ?_, fun i d hd q hq => ?_, fun q hq => ?_, fun i d hd => ?_, fun i d hd => ?_, fun i d hd => ?_, fun i d hd => ?_, fun i d hd => ?_, fun i d q d' hd hq hd' => ?_⟩
  · obtain ⟨d0, h0, _⟩ := back i d hd; exact h.dom i d0 h0
  · obtain ⟨d0, h0, hk, _⟩ := back i d hd; exact hhas q (h.kids i d0 h0 q (hk ▸ hq))
  · rcases List.mem_cons.1 hq with rfl | hq
    · exact hhas q hk
    · exact hhas q (h.pend q hq)
  · rw [hcnt]
    rcases old i d hd with ⟨rfl, rfl⟩ | ⟨hne, h0⟩
    · have := h.named i c hc
      rw [List.count_cons_self]
      show c.named + 1 = _
      omega
    · have := h.named i d h0
      rw [List.count_cons_of_ne (Ne.symm hne)]
      exact this
  · rcases old i d hd with ⟨rfl, rfl⟩ | ⟨hne, h0⟩
    · have h1 := h.named i c hc
      have h2 := cnt_le h.len i n
      have h3 : pd.count i ≤ pd.length := List.count_le_length
      show c.named + 1 ≤ _
      omega
    · exact h.top i d h0
  · obtain ⟨d0, h0, _, hh, _⟩ := back i d hd; rw [hh]; exact h.held i d0 h0
  · obtain ⟨d0, h0, hk, _⟩ := back i d hd; rw [hk]; exact h.len i d0 h0
  · obtain ⟨d0, h0, _, _, hh⟩ := back i d hd; rw [hh]; exact h.high i d0 h0
  · obtain ⟨d0, h0, hk, _, hh⟩ := back i d hd
    obtain ⟨d1, h1, _, _, hh1⟩ := back q d' hd'
    rw [hh, hh1]
    exact h.below i d0 q d1 h0 (hk ▸ hq) h1
/-- a new block: those that it names were named ahead -/
theorem WF.fresh {n : Nat} {S : StS} {i h : Int} {l pd : List Int} (hw : WF n S (l ++ pd)) (hi : S.has i = false) (hd : 2 ≤ i ∧ i < n) (hl : l.length ≤ 16) (h1 : 1 ≤ h ∧ h ≤ 64) (hh : ∀ k ∈ l, (S.cel k).high < h) :
    WF n (S.setC i (some ⟨0, 0, h, l⟩)) pd := by
  have hnone : S.cells i = none := by
    cases hc : S.cells i with
    | none => rfl
    | some c => exact absurd (has_iff.2 ⟨c, hc⟩) (by simp [hi])
  have hcells : (S.setC i (some ⟨0, 0, h, l⟩)).cells = upd S.cells i (some ⟨0, 0, h, l⟩) := rfl
  have hhas : ∀ j, S.has j = true → (S.setC i (some ⟨0, 0, h, l⟩)).has j = true := fun j hj => has_upd hj
  have old : ∀ j d, (S.setC i (some ⟨0, 0, h, l⟩)).cells j = some d → (j = i ∧ d = ⟨0, 0, h, l⟩) ∨ (j ≠ i ∧ S.cells j = some d) := by
    intro j d hj
    rw [hcells] at hj
    by_cases hji : j = i
    · subst hji; rw [upd_same] at hj; cases hj; exact .inl ⟨rfl, rfl⟩
    · rw [upd_other _ _ _ hji] at hj; exact .inr ⟨hji, hj⟩
  have hcnt : ∀ j, cnt (S.setC i (some ⟨0, 0, h, l⟩)).cells j n = cnt S.cells j n + l.count j := by
    intro j
    have := cnt_upd (f := S.cells) (j := i) (o := some ⟨0, 0, h, l⟩) j n (by omega) hd.2
    rw [hnone] at this
    simp only [kc] at this
    rw [hcells]; omega
  have hin : i ∉ l := fun hm => by have := hw.pend i (List.mem_append_left _ hm); rw [hi] at this; cases this
  have hip : i ∉ pd := fun hm => by have := hw.pend i (List.mem_append_right _ hm); rw [hi] at this; cases this
  have hc0 : cnt S.cells i n = 0 := by
    have key : ∀ m : Nat, m ≤ n → cnt S.cells i m = 0 := by
      intro m
      induction m with
      | zero => intro _; rfl
      | succ m ih =>
        intro hm
        simp only [cnt, ih (by omega)]
        cases hc : S.cells (m : Int) with
        | none => rfl
        | some c =>
          have : i ∉ c.kids := fun hmem => by have := hw.kids _ c hc i hmem; rw [hi] at this; cases this
          simp [kc, List.count_eq_zero.2 this]
    exact key n (Nat.le_refl _)
  refine ⟨fun j d hj => ?_, fun j d hj q hq => ?_, fun q hq => hhas q (hw.pend q (List.mem_append_right _ hq)), fun j d hj => ?_, fun j d hj => ?_, fun j d hj => ?_, fun j d hj => ?_, fun j d hj => ?_, fun j d q d' hj hq hq' => ?_⟩
  · rcases old j d hj with ⟨rfl, rfl⟩ | ⟨_, h0⟩
    · exact hd
    · exact hw.dom j d h0
  · rcases old j d hj with ⟨rfl, rfl⟩ | ⟨_, h0⟩
    · exact hhas q (hw.pend q (List.mem_append_left _ hq))
    · exact hhas q (hw.kids j d h0 q hq)
  · rw [hcnt]
    rcases old j d hj with ⟨rfl, rfl⟩ | ⟨_, h0⟩
    · rw [hc0, List.count_eq_zero.2 hin, List.count_eq_zero.2 hip]; rfl
    · have := hw.named j d h0
      rw [List.count_append] at this
      omega
  · rcases old j d hj with ⟨rfl, rfl⟩ | ⟨_, h0⟩
    · show (0 : Int) ≤ _; omega
    · exact hw.top j d h0
  · rcases old j d hj with ⟨rfl, rfl⟩ | ⟨_, h0⟩
    · exact ⟨by show (0 : Int) ≤ 0; omega, by show (0 : Int) ≤ _; omega⟩
    · exact hw.held j d h0
  · rcases old j d hj with ⟨rfl, rfl⟩ | ⟨_, h0⟩
    · exact hl
    · exact hw.len j d h0
  · rcases old j d hj with ⟨rfl, rfl⟩ | ⟨_, h0⟩
    · exact h1
    · exact hw.high j d h0
  · rcases old j d hj with ⟨rfl, rfl⟩ | ⟨_, h0⟩
    · rcases old q d' hq' with ⟨rfl, rfl⟩ | ⟨_, h2⟩
      · exact absurd hq hin
      · have := hh q hq
        rw [cel_some h2] at this
        exact this
    · rcases old q d' hq' with ⟨rfl, rfl⟩ | ⟨_, h2⟩
      · have := hw.kids j d h0 q hq
        rw [hi] at this; cases this
      · exact hw.below j d q d' h0 hq h2
/-- a Put's names -/
theorem names_wf {n : Nat} (hn : n ≤ 4096) : ∀ (l : List Int) (S : StS) (pd : List Int), WF n S pd → (∀ k ∈ l, S.has k = true) → pd.length + l.length ≤ 1048576 → WF n (S.names l) (l ++ pd)
  | [], S, pd, h, _, _ => h
  | k :: l, S, pd, h, hk, hl => by
    have h1 := h.more (hk k (by simp)) hn (by simp at hl; omega)
    have h2 := names_wf hn l (S.name k 1) (k :: pd) h1 (fun q hq => has_upd (hk q (by simp [hq]))) (by simp at hl ⊢; omega)
    exact h2.perm (fun i => by simp only [List.count_append, List.count_cons, List.cons_append]; omega)
/-- the same blocks, and perhaps more; they may be named more often -/
structure Grow (S S' : StS) : Prop where
  cells : ∀ j c, S.cells j = some c → ∃ c', S'.cells j = some c' ∧ c'.high = c.high ∧ c'.kids = c.kids ∧ c'.held = c.held
  gen : S'.gen = S.gen
  root : S'.root = S.root
  note : S'.note = S.note
  kept : S'.kept = S.kept
theorem Grow.refl (S : StS) : Grow S S := ⟨fun j c h => ⟨c, h, rfl, rfl, rfl⟩, rfl, rfl, rfl, rfl⟩
theorem Grow.trans {A B C : StS} (h : Grow A B) (k : Grow B C) : Grow A C :=
  ⟨fun j c hj => by
    obtain ⟨c1, h1, e1, e2, e3⟩ := h.cells j c hj
    obtain ⟨c2, h2, f1, f2, f3⟩ := k.cells j c1 h1
    exact ⟨c2, h2, f1.trans e1, f2.trans e2, f3.trans e3⟩, k.gen.trans h.gen, k.root.trans h.root, k.note.trans h.note, k.kept.trans h.kept⟩
theorem Grow.has {S S' : StS} (h : Grow S S') {j : Int} (hj : S.has j = true) : S'.has j = true := by
  obtain ⟨c, hc⟩ := has_iff.1 hj
  obtain ⟨c', hc', _⟩ := h.cells j c hc
  exact has_iff.2 ⟨c', hc'⟩
theorem Grow.high {S S' : StS} (h : Grow S S') {j : Int} (hj : S.has j = true) : (S'.cel j).high = (S.cel j).high := by
  obtain ⟨c, hc⟩ := has_iff.1 hj
  obtain ⟨c', hc', e, _⟩ := h.cells j c hc
  rw [cel_some hc, cel_some hc', e]
theorem grow_name {S : StS} {k : Int} (hk : S.has k = true) (by_ : Int) : Grow S (S.name k by_) := by
  obtain ⟨c, hc⟩ := has_iff.1 hk
  refine ⟨fun j d hj => ?_, rfl, rfl, rfl, rfl⟩
  rw [name_cells hc]
  by_cases hjk : j = k
  · subst hjk
    rw [hc] at hj; cases hj
    exact ⟨_, upd_same _ _ _, rfl, rfl, rfl⟩
  · exact ⟨d, by rw [upd_other _ _ _ hjk]; exact hj, rfl, rfl, rfl⟩
theorem grow_fresh {S : StS} {i : Int} {c : Cel} (hi : S.has i = false) : Grow S (S.setC i (some c)) := by
  refine ⟨fun j d hj => ?_, rfl, rfl, rfl, rfl⟩
  refine ⟨d, ?_, rfl, rfl, rfl⟩
  show upd S.cells i (some c) j = some d
  rw [upd_other _ _ _ (fun e => by subst e; rw [StS.has, hj] at hi; cases hi)]
  exact hj
/-! ### what a device's bytes may be -/
theorem kidsGo_in {n : Int} : ∀ {k : Nat} {acc : List Int} {s : ByteArray} {l : List Int} {s' : ByteArray}, kidsGo n k acc s = .ok (l, s') → (∀ x ∈ acc, 2 ≤ x ∧ x < n) → l.length = acc.length + k ∧ ∀ x ∈ l, 2 ≤ x ∧ x < n
  | 0, acc, s, l, s', h, ha => by cases h; exact ⟨rfl, ha⟩
  | k + 1, acc, s, l, s', h, ha => by
    rw [kidsGo_succ] at h
    split at h
    · cases h
    · rename_i x s1 he
      by_cases hx : (x : Int) < 2 ∨ n ≤ (x : Int)
      · rw [if_pos hx] at h; cases h
      · rw [if_neg hx] at h
        have := kidsGo_in h (fun y hy => by
          rcases List.mem_append.1 hy with hy | hy
          · exact ha y hy
          · simp at hy; subst hy; omega)
        exact ⟨by have h1 := this.1; simp at h1; omega, this.2⟩
theorem getP_in {s : ByteArray} {n : Int} {l : List Int} {d : ByteArray} (h : getP s n = some (l, d)) : l.length ≤ 16 ∧ ∀ x ∈ l, 2 ≤ x ∧ x < n := by
  unfold getP at h
  split at h
  · cases h
  · rename_i b hb
    split at h
    · rename_i x s' hr
      split at h
      · cases h
        unfold getR at hr
        split at hr
        · cases hr
        · rename_i many s1 hm
          split at hr
          · cases hr
          · rename_i hle
            split at hr
            · cases hr
            · rename_i l2 s2 hk
              split at hr
              · cases hr
              · cases hr
                have := kidsGo_in hk (by simp)
                exact ⟨by have h1 := this.1; simp at h1; omega, this.2⟩
      · cases h
    · cases h
theorem readP_in {D : DevS} {i : Int} {l : List Int} {d : ByteArray} (h : (readP D i).2 = some (l, d)) : (l.length ≤ 16 ∧ ∀ x ∈ l, 2 ≤ x ∧ x < D.n) ∧ (readP D i).1 = 0 ∧ D.readE i = 0 ∧ getP (D.read i) D.n = some (l, d) := by
  unfold readP at h ⊢
  split at h
  · rename_i he
    rw [if_pos he]
    split at h
    · rename_i x hx
      cases h
      exact ⟨getP_in hx, rfl, he, hx⟩
    · cases h
  · cases h
theorem readP_err {D : DevS} {i : Int} (h : (readP D i).2 = none) : (readP D i).1 ≠ 0 := by
  unfold readP at h ⊢
  split
  · rename_i he
    rw [if_pos he] at h
    split at h
    · cases h
    · decide
  · rename_i he; exact he
/-! ### reach -/
def reachK (D : DevS) (S : StS) (A : Int → Bool) (i : Int) (k : List Int → Except Int (Int × StS)) : Except Int (Int × StS) :=
  if A i = true then .error 5 else match S.cells i with
    | some c => .ok (c.high, S)
    | none => match (readP D i).2 with
      | none => .error (readP D i).1
      | some (l, _) => k l
def kidsF (r : StS → Int → Except Int (Int × StS)) : List Int → Int → StS → Except Int (Int × StS)
  | [], h, S => .ok (h, S)
  | k :: ks, h, S => match r S k with
    | .error e => .error e
    | .ok (h', S') => kidsF r ks (max h h') (S'.name k 1)
def endF (i : Int) (l : List Int) (r : Except Int (Int × StS)) : Except Int (Int × StS) := match r with
  | .error e => .error e
  | .ok (h, S) => if 64 ≤ h then .error 5 else .ok (h + 1, S.setC i (some ⟨0, 0, h + 1, l⟩))
def reachF (D : DevS) : Nat → StS → (Int → Bool) → Int → Except Int (Int × StS)
  | 0, S, A, i => reachK D S A i (fun _ => .error 5)
  | f + 1, S, A, i => reachK D S A i (fun l => endF i l (kidsF (fun T k => reachF D f T (fun j => if j = i then true else A j) k) l 0 S))
/-- what a reach that went well tells -/
structure Reached (n : Nat) (S : StS) (A : Int → Bool) (pd : List Int) (i h : Int) (S' : StS) : Prop where
  grow : Grow S S'
  non : ∀ j, A j = true → S.has j = false → S'.has j = false
  wf : WF n S' pd
  has : S'.has i = true
  high : (S'.cel i).high = h
  pos : 1 ≤ h
theorem reachK_ok {D : DevS} {S : StS} {A : Int → Bool} {i : Int} {k : List Int → Except Int (Int × StS)} {h : Int} {S' : StS} (hr : reachK D S A i k = .ok (h, S')) :
    A i = false ∧ ((∃ c, S.cells i = some c ∧ h = c.high ∧ S' = S) ∨ (S.cells i = none ∧ ∃ l d, (readP D i).2 = some (l, d) ∧ k l = .ok (h, S'))) := by
  unfold reachK at hr
  split at hr
  · cases hr
  · rename_i ha
    refine ⟨by simpa using ha, ?_⟩
    split at hr
    · rename_i c hc; cases hr; exact .inl ⟨c, hc, rfl, rfl⟩
    · rename_i hc
      split at hr
      · cases hr
      · rename_i l d hl; exact .inr ⟨hc, l, d, hl, hr⟩
theorem kidsF_ok {n : Nat} {A : Int → Bool} {r : StS → Int → Except Int (Int × StS)} {P : List Int → Prop}
    (hr : ∀ (S : StS) (k : Int) (pd : List Int) (h : Int) (S' : StS), WF n S pd → P pd → (2 ≤ k ∧ k < n) → r S k = .ok (h, S') → Reached n S A pd k h S')
    (hn : n ≤ 4096) (hP : ∀ pd, P pd → pd.length < 1048576) :
    ∀ (ks : List Int) (h : Int) (S : StS) (pd : List Int) (h' : Int) (S' : StS), WF n S pd → (∀ a b, a ++ b = ks.reverse → P (b ++ pd)) → (∀ k ∈ ks, 2 ≤ k ∧ k < n) → 0 ≤ h → kidsF r ks h S = .ok (h', S') →
      Grow S S' ∧ (∀ j, A j = true → S.has j = false → S'.has j = false) ∧ WF n S' (ks.reverse ++ pd) ∧ h ≤ h' ∧ (∀ k ∈ ks, S'.has k = true ∧ (S'.cel k).high ≤ h')
  | [], h, S, pd, h', S', hw, _, _, h0, he => by
    cases he
    exact ⟨Grow.refl _, fun _ _ h => h, hw, Int.le_refl _, by simp⟩
  | k :: ks, h, S, pd, h', S', hw, hp, hk, h0, he => by
    rw [kidsF] at he
    split at he
    · cases he
    · rename_i h1 S1 h2
      have hp0 : P pd := by simpa using hp (k :: ks).reverse [] (by simp)
      have R := hr S k pd h1 S1 hw hp0 (hk k (by simp)) h2
      have W := R.wf.more R.has hn (hP pd hp0)
      have I := kidsF_ok hr hn hP ks (max h h1) (S1.name k 1) (k :: pd) h' S' W (fun a b hab => by
        have := hp a (b ++ [k]) (by rw [← List.append_assoc, hab]; simp)
        simpa using this) (fun q hq => hk q (by simp [hq])) (by omega) he
      obtain ⟨i1, i2, i3, i4, i5⟩ := I
      have G := grow_name R.has 1
      refine ⟨R.grow.trans (G.trans i1), fun j hj hs => i2 j hj ?_, ?_, by omega, ?_⟩
      · rw [name_has R.has]; exact R.non j hj hs
      · simpa using i3
      · intro q hq
        rcases List.mem_cons.1 hq with rfl | hq
        · have hh := (G.trans i1).has R.has
          have h3 := (G.trans i1).high R.has
          rw [R.high] at h3
          exact ⟨hh, by rw [h3]; omega⟩
        · exact i5 q hq
theorem reach_ok {D : DevS} {n : Nat} (hD : D.n = n) (hn : n ≤ 4096) : ∀ (f : Nat) (S : StS) (A : Int → Bool) (i : Int) (pd : List Int) (h : Int) (S' : StS), WF n S pd → pd.length + 16 * f ≤ 1000000 → (2 ≤ i ∧ i < n) → reachF D f S A i = .ok (h, S') → Reached n S A pd i h S'
  | 0, S, A, i, pd, h, S', hw, hl, hi, hr => by
    rw [reachF] at hr
    obtain ⟨ha, ⟨c, hc, rfl, rfl⟩ | ⟨_, l, d, _, hk⟩⟩ := reachK_ok hr
    · exact ⟨Grow.refl _, fun _ _ h => h, hw, has_iff.2 ⟨c, hc⟩, by rw [cel_some hc], (hw.high i c hc).1⟩
    · cases hk
  | f + 1, S, A, i, pd, h, S', hw, hl, hi, hr => by
    rw [reachF] at hr
    obtain ⟨ha, ⟨c, hc, rfl, rfl⟩ | ⟨hc, l, d, hrd, hk⟩⟩ := reachK_ok hr
    · exact ⟨Grow.refl _, fun _ _ h => h, hw, has_iff.2 ⟨c, hc⟩, by rw [cel_some hc], (hw.high i c hc).1⟩
    · have hin := (readP_in hrd).1
      unfold endF at hk
      split at hk
      · cases hk
      · rename_i h1 S1 hkf
        split at hk
        · cases hk
        · rename_i hlt
          cases hk
          have I := kidsF_ok (n := n) (A := fun j => if j = i then true else A j) (P := fun p => p.length + 16 * f ≤ 1000000)
            (fun T k p h2 T' hw' hp hk he => reach_ok hD hn f T _ k p h2 T' hw' hp hk he) hn (fun p hp => by omega) l 0 S pd h1 S1 hw
            (fun a b hab => by
              have := congrArg List.length hab
              simp at this ⊢
              have := hin.1
              omega) (fun k hk => by have := hin.2 k hk; rw [hD] at this; exact this) (by omega) hkf
          obtain ⟨i1, i2, i3, i4, i5⟩ := I
          have hno : S1.has i = false := i2 i (by simp) (by rw [StS.has, hc]; rfl)
          have hw1 : WF n S1 (l ++ pd) := i3.perm (fun j => by simp [List.count_append, List.count_reverse])
          have hw2 := hw1.fresh (i := i) (h := h1 + 1) hno hi hin.1 ⟨by omega, by omega⟩ (fun k hk => by have := (i5 k hk).2; omega)
          refine ⟨i1.trans (grow_fresh hno), fun j hj hs => ?_, hw2, has_iff.2 ⟨_, upd_same _ _ _⟩, ?_, by omega⟩
          · have h2 := i2 j (by simp [hj]) hs
            have hji : j ≠ i := fun e => by subst e; rw [ha] at hj; cases hj
            show (upd S1.cells i _ j).isSome = false
            rw [upd_other _ _ _ hji]
            exact h2
          · rw [cel_some (c := ⟨0, 0, h1 + 1, l⟩) (upd_same _ _ _)]
/-- an error is no 0 -/
theorem reachK_err {D : DevS} {S : StS} {A : Int → Bool} {i : Int} {k : List Int → Except Int (Int × StS)} {e : Int} (hr : reachK D S A i k = .error e) (hk : ∀ l, k l = .error e → e ≠ 0) : e ≠ 0 := by
  unfold reachK at hr
  split at hr
  · cases hr; decide
  · split at hr
    · cases hr
    · split at hr
      · rename_i h; cases hr; exact readP_err h
      · exact hk _ hr
theorem kidsF_err {r : StS → Int → Except Int (Int × StS)} (hr : ∀ S k e, r S k = .error e → e ≠ 0) : ∀ (ks : List Int) (h : Int) (S : StS) (e : Int), kidsF r ks h S = .error e → e ≠ 0
  | [], h, S, e, he => by cases he
  | k :: ks, h, S, e, he => by
    rw [kidsF] at he
    split at he
    · rename_i e' h1; cases he; exact hr _ _ _ h1
    · exact kidsF_err hr ks _ _ e he
theorem reach_err {D : DevS} : ∀ (f : Nat) (S : StS) (A : Int → Bool) (i e : Int), reachF D f S A i = .error e → e ≠ 0
  | 0, S, A, i, e, hr => by
    rw [reachF] at hr
    exact reachK_err hr (fun l h => by cases h; decide)
  | f + 1, S, A, i, e, hr => by
    rw [reachF] at hr
    refine reachK_err hr (fun l h => ?_)
    unfold endF at h
    split at h
    · rename_i e' h1; cases h; exact kidsF_err (fun T k e he => reach_err f T _ k e he) _ _ _ _ h1
    · split at h
      · cases h; decide
      · cases h
end Go.Proofs.YtadmecjdihfmeaaGreat.Sto
