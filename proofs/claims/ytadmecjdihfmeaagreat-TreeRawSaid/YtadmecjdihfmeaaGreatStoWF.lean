/- Layer 6 in plain Lean: who names whom; what goes. -/
import Derived.Test.YtadmecjdihfmeaaGreatStoPure
namespace Go.Proofs.YtadmecjdihfmeaaGreat.Sto
set_option linter.unusedVariables false
set_option linter.unusedSimpArgs false
open Go.RowKit Go.Proofs.YtadmecjdihfmeaaGreat.Mem

/-- how often a place names another one -/
def kc (o : Option Cel) (i : Int) : Nat := match o with | some c => c.kids.count i | none => 0
/-- how often a place is named by those below n -/
def cnt (f : Int → Option Cel) (i : Int) : Nat → Nat
  | 0 => 0
  | n + 1 => cnt f i n + kc (f (n : Int)) i
/-- how many are there below n -/
def num (f : Int → Option Cel) : Nat → Nat
  | 0 => 0
  | n + 1 => num f n + (if (f (n : Int)).isSome = true then 1 else 0)
theorem cnt_ge {f : Int → Option Cel} {j : Int} {o : Option Cel} (i : Int) : ∀ n : Nat, (n : Int) ≤ j → cnt (upd f j o) i n = cnt f i n
  | 0, _ => rfl
  | n + 1, h => by
    have h1 := cnt_ge (f := f) (j := j) (o := o) i n (by omega)
    simp only [cnt, h1]
    rw [upd_other _ _ _ (by omega)]
theorem cnt_upd {f : Int → Option Cel} {j : Int} {o : Option Cel} (i : Int) : ∀ n : Nat, 0 ≤ j → j < (n : Int) → cnt (upd f j o) i n + kc (f j) i = cnt f i n + kc o i
  | 0, h0, h => by omega
  | n + 1, h0, h => by
    by_cases hj : j = (n : Int)
    · subst hj
      simp only [cnt, upd_same]
      rw [cnt_ge i n (by omega)]
      omega
    · have h1 := cnt_upd (f := f) (o := o) i n h0 (by omega)
      simp only [cnt]
      rw [upd_other _ _ _ (Ne.symm hj)]
      omega
theorem num_ge {f : Int → Option Cel} {j : Int} {o : Option Cel} : ∀ n : Nat, (n : Int) ≤ j → num (upd f j o) n = num f n
  | 0, _ => rfl
  | n + 1, h => by
    have h1 := num_ge (f := f) (j := j) (o := o) n (by omega)
    simp only [num, h1]
    rw [upd_other _ _ _ (by omega)]
theorem num_upd {f : Int → Option Cel} {j : Int} {o : Option Cel} : ∀ n : Nat, 0 ≤ j → j < (n : Int) → num (upd f j o) n + (if (f j).isSome = true then 1 else 0) = num f n + (if o.isSome = true then 1 else 0)
  | 0, h0, h => by omega
  | n + 1, h0, h => by
    by_cases hj : j = (n : Int)
    · subst hj
      simp only [num, upd_same]
      rw [num_ge n (by omega)]
      omega
    · have h1 := num_upd (f := f) (o := o) n h0 (by omega)
      simp only [num]
      rw [upd_other _ _ _ (Ne.symm hj)]
      omega
theorem cnt_le {f : Int → Option Cel} (h : ∀ i c, f i = some c → c.kids.length ≤ 16) (i : Int) : ∀ n : Nat, cnt f i n ≤ 16 * n
  | 0 => by simp [cnt]
  | n + 1 => by
    have h1 := cnt_le h i n
    have h2 : kc (f (n : Int)) i ≤ 16 := by
      unfold kc
      split
      · rename_i c hc
        exact Nat.le_trans List.count_le_length (h _ c hc)
      · omega
    simp only [cnt]
    omega
/-- nobody names what is counted by nobody -/
theorem cnt_zero {f : Int → Option Cel} {i : Int} : ∀ n : Nat, cnt f i n = 0 → ∀ (j : Nat) c, j < n → f (j : Int) = some c → i ∉ c.kids
  | 0, _, j, c, hj, _ => by omega
  | n + 1, h, j, c, hj, hc => by
    simp only [cnt] at h
    by_cases hjn : j = n
    · subst hjn
      have : kc (f (j : Int)) i = 0 := by omega
      rw [hc] at this
      exact List.count_eq_zero.1 this
    · exact cnt_zero n (by omega) j c (by omega) hc
theorem num_pos {f : Int → Option Cel} : ∀ (n : Nat) (j : Nat), j < n → (f (j : Int)).isSome = true → 0 < num f n
  | 0, j, h, _ => by omega
  | n + 1, j, h, hs => by
    simp only [num]
    by_cases hjn : j = n
    · subst hjn; rw [if_pos hs]; omega
    · have := num_pos n j (by omega) hs; omega

/-- a store that goes together; pend: who is named by nobody that is there -/
structure WF (n : Nat) (S : StS) (pd : List Int) : Prop where
  dom : ∀ i c, S.cells i = some c → 2 ≤ i ∧ i < n
  kids : ∀ i c, S.cells i = some c → ∀ k ∈ c.kids, S.has k = true
  pend : ∀ k ∈ pd, S.has k = true
  named : ∀ i c, S.cells i = some c → c.named = (cnt S.cells i n : Int) + (pd.count i : Nat)
  top : ∀ i c, S.cells i = some c → c.named ≤ 1099511627776
  held : ∀ i c, S.cells i = some c → 0 ≤ c.held ∧ c.held ≤ 4611686018427387904
  len : ∀ i c, S.cells i = some c → c.kids.length ≤ 16
  high : ∀ i c, S.cells i = some c → 1 ≤ c.high ∧ c.high ≤ 64
  below : ∀ i c k c', S.cells i = some c → k ∈ c.kids → S.cells k = some c' → c'.high < c.high

namespace StS
/-- what is there behind a going -/
def goneF : Nat → StS → Int → StS
  | 0, S, _ => S
  | f + 1, S, i => match S.cells i with
    | none => S
    | some c => if c.named + c.held = 0 then c.kids.foldl (fun T k => goneF f (T.name k (-1)) k) (S.setC i none) else S
end StS
theorem has_iff {S : StS} {i : Int} : S.has i = true ↔ ∃ c, S.cells i = some c := by
  unfold StS.has
  exact Option.isSome_iff_exists
theorem cel_some {S : StS} {i : Int} {c : Cel} (h : S.cells i = some c) : S.cel i = c := by simp [StS.cel, h]
theorem has_upd {S : StS} {i j : Int} {c : Cel} (h : S.has j = true) : (S.setC i (some c)).has j = true := by
  rw [has_iff] at h ⊢
  obtain ⟨d, hd⟩ := h
  by_cases hj : j = i
  · subst hj; exact ⟨c, upd_same _ _ _⟩
  · exact ⟨d, by rw [StS.setC]; show upd _ _ _ _ = _; rw [upd_other _ _ _ hj]; exact hd⟩
theorem has_upd_iff {S : StS} {i j : Int} {c : Cel} (hi : S.has i = true) : (S.setC i (some c)).has j = true ↔ S.has j = true := by
  refine ⟨fun h => ?_, has_upd⟩
  rw [has_iff] at h ⊢
  obtain ⟨d, hd⟩ := h
  by_cases hj : j = i
  · subst hj; exact has_iff.1 hi
  · refine ⟨d, ?_⟩
    rw [StS.setC] at hd
    change upd _ _ _ _ = _ at hd
    rw [upd_other _ _ _ hj] at hd
    exact hd
/-- a place turns, but not whom it names -/
theorem cnt_same {f : Int → Option Cel} {j : Int} {c c' : Cel} (hj : f j = some c) (hk : c'.kids = c.kids) (i : Int) : ∀ n, cnt (upd f j (some c')) i n = cnt f i n
  | 0 => rfl
  | n + 1 => by
    simp only [cnt, cnt_same hj hk i n]
    by_cases hjn : (n : Int) = j
    · rw [hjn, upd_same, hj]; simp [kc, hk]
    · rw [upd_other _ _ _ hjn]
theorem num_same {f : Int → Option Cel} {j : Int} {c c' : Cel} (hj : f j = some c) : ∀ n, num (upd f j (some c')) n = num f n
  | 0 => rfl
  | n + 1 => by
    simp only [num, num_same hj n]
    by_cases hjn : (n : Int) = j
    · rw [hjn, upd_same, hj]; rfl
    · rw [upd_other _ _ _ hjn]
/-- one that was named by nobody there is named once less -/
theorem WF.name {n : Nat} {S : StS} {k : Int} {pend : List Int} (h : WF n S (k :: pend)) : WF n (S.name k (-1)) pend := by
  obtain ⟨c, hc⟩ := has_iff.1 (h.pend k (List.mem_cons_self))
  have hcel := cel_some hc
  have hcells : (S.name k (-1)).cells = upd S.cells k (some { c with named := c.named + -1 }) := by rw [StS.name, hcel]; rfl
  have hcnt : ∀ i, cnt (S.name k (-1)).cells i n = cnt S.cells i n := fun i => by rw [hcells]; exact cnt_same (c' := { c with named := c.named + -1 }) hc rfl i n
  have hhas : ∀ j, S.has j = true → (S.name k (-1)).has j = true := fun j hj => has_upd hj
  have old : ∀ i d, (S.name k (-1)).cells i = some d → (i = k ∧ d = { c with named := c.named + -1 }) ∨ (i ≠ k ∧ S.cells i = some d) := by
    intro i d hd
    rw [hcells] at hd
    by_cases hi : i = k
    · subst hi; rw [upd_same] at hd; cases hd; exact .inl ⟨rfl, rfl⟩
    · rw [upd_other _ _ _ hi] at hd; exact .inr ⟨hi, hd⟩
  have back : ∀ i d, (S.name k (-1)).cells i = some d → ∃ d0, S.cells i = some d0 ∧ d.kids = d0.kids ∧ d.held = d0.held ∧ d.high = d0.high := by
    intro i d hd
    rcases old i d hd with ⟨rfl, rfl⟩ | ⟨_, h0⟩
    · exact ⟨c, hc, rfl, rfl, rfl⟩
    · exact ⟨d, h0, rfl, rfl, rfl⟩
  refine ⟨fun i d hd => ?_, fun i d hd q hq => ?_, fun q hq => hhas q (h.pend q (List.mem_cons_of_mem _ hq)), fun i d hd => ?_, fun i d hd => ?_, fun i d hd => ?_, fun i d hd => ?_, fun i d hd => ?_, fun i d q d' hd hq hd' => ?_⟩
  · obtain ⟨d0, h0, _⟩ := back i d hd; exact h.dom i d0 h0
  · obtain ⟨d0, h0, hk, _⟩ := back i d hd; exact hhas q (h.kids i d0 h0 q (hk ▸ hq))
  · rw [hcnt]
    rcases old i d hd with ⟨rfl, rfl⟩ | ⟨hne, h0⟩
    · have := h.named i c hc
      rw [List.count_cons_self] at this
      show c.named + -1 = _
      omega
    · have := h.named i d h0
      rw [List.count_cons_of_ne (Ne.symm hne)] at this
      exact this
  · rcases old i d hd with ⟨rfl, rfl⟩ | ⟨hne, h0⟩
    · have := h.top i c hc
      show c.named + -1 ≤ _
      omega
    · exact h.top i d h0
  · obtain ⟨d0, h0, _, hh, _⟩ := back i d hd; rw [hh]; exact h.held i d0 h0
  · obtain ⟨d0, h0, hk, _⟩ := back i d hd; rw [hk]; exact h.len i d0 h0
  · obtain ⟨d0, h0, _, _, hh⟩ := back i d hd; rw [hh]; exact h.high i d0 h0
  · obtain ⟨d0, h0, hk, _, hh⟩ := back i d hd
    obtain ⟨d1, h1, _, _, hh1⟩ := back q d' hd'
    rw [hh, hh1]
    exact h.below i d0 q d1 h0 (hk ▸ hq) h1
/-- one that nobody names goes: those that it named are named by nobody there -/
theorem WF.gone {n : Nat} {S : StS} {i : Int} {c : Cel} {pend : List Int} (h : WF n S pend) (hc : S.cells i = some c) (hl : c.named + c.held = 0) : WF n (S.setC i none) (c.kids ++ pend) := by
  have hn := h.named i c hc
  have hh := (h.held i c hc).1
  have hdom := h.dom i c hc
  have hc0 : cnt S.cells i n = 0 := by omega
  have hp0 : pend.count i = 0 := by omega
  have hcells : (S.setC i none).cells = upd S.cells i none := rfl
  have old : ∀ j d, (S.setC i none).cells j = some d → j ≠ i ∧ S.cells j = some d := by
    intro j d hd
    rw [hcells] at hd
    by_cases hj : j = i
    · subst hj; rw [upd_same] at hd; cases hd
    · rw [upd_other _ _ _ hj] at hd; exact ⟨hj, hd⟩
  have hhas : ∀ j, j ≠ i → S.has j = true → (S.setC i none).has j = true := by
    intro j hj hs
    rw [has_iff] at hs ⊢
    obtain ⟨d, hd⟩ := hs
    exact ⟨d, by rw [hcells, upd_other _ _ _ hj]; exact hd⟩
  have nokid : ∀ j d, S.cells j = some d → i ∉ d.kids := by
    intro j d hj
    have hdj := h.dom j d hj
    obtain ⟨q, rfl⟩ := Int.eq_ofNat_of_zero_le (show 0 ≤ j by omega)
    exact cnt_zero n hc0 q d (by omega) hj
  refine ⟨fun j d hd => h.dom j d (old j d hd).2, fun j d hd q hq => ?_, fun q hq => ?_, fun j d hd => ?_, fun j d hd => h.top j d (old j d hd).2, fun j d hd => h.held j d (old j d hd).2, fun j d hd => h.len j d (old j d hd).2, fun j d hd => h.high j d (old j d hd).2,
    fun j d q d' hd hq hd' => h.below j d q d' (old j d hd).2 hq (old q d' hd').2⟩
  · have h0 := (old j d hd).2
    exact hhas q (fun e => nokid j d h0 (e ▸ hq)) (h.kids j d h0 q hq)
  · rcases List.mem_append.1 hq with hq | hq
    · exact hhas q (fun e => nokid i c hc (e ▸ hq)) (h.kids i c hc q hq)
    · exact hhas q (fun e => List.count_eq_zero.1 hp0 (e ▸ hq)) (h.pend q hq)
  · have h0 := old j d hd
    have h1 := h.named j d h0.2
    have h2 := cnt_upd (f := S.cells) (j := i) (o := none) j n (by omega) hdom.2
    rw [hc] at h2
    simp only [kc] at h2
    rw [hcells, List.count_append]
    omega
theorem WF.perm {n : Nat} {S : StS} {p q : List Int} (h : WF n S p) (hp : ∀ i, p.count i = q.count i) : WF n S q :=
  ⟨h.dom, h.kids, fun k hk => h.pend k (by
    have := List.count_pos_iff.2 hk
    rw [← hp] at this
    exact List.count_pos_iff.1 this), fun i c hc => by rw [← hp]; exact h.named i c hc, h.top, h.held, h.len, h.high, h.below⟩
/-- a going leaves what goes together -/
theorem gone_wf {n : Nat} : ∀ (f : Nat) (S : StS) (i : Int) (pend : List Int), WF n S pend → num S.cells n ≤ f → WF n (S.goneF f i) pend ∧ num (S.goneF f i).cells n ≤ num S.cells n
  | 0, S, i, pend, h, hf => ⟨h, Nat.le_refl _⟩
  | f + 1, S, i, pend, h, hf => by
    unfold StS.goneF
    cases hc : S.cells i with
    | none => exact ⟨h, Nat.le_refl _⟩
    | some c =>
      dsimp only
      by_cases hl : c.named + c.held = 0
      · rw [if_pos hl]
        have h1 := h.gone hc hl
        have hd := h.dom i c hc
        have hnum : num (S.setC i none).cells n + 1 = num S.cells n := by
          have := num_upd (f := S.cells) (j := i) (o := none) n (by omega) hd.2
          rw [hc] at this
          simpa [StS.setC] using this
        have key : ∀ (ks : List Int) (T : StS), WF n T (ks ++ pend) → num T.cells n ≤ f → WF n (ks.foldl (fun T k => T.name k (-1) |>.goneF f k) T) pend ∧ num (ks.foldl (fun T k => T.name k (-1) |>.goneF f k) T).cells n ≤ num T.cells n := by
          intro ks
          induction ks with
          | nil => intro T hT hn; exact ⟨hT, Nat.le_refl _⟩
          | cons k ks ih =>
            intro T hT hn
            have h2 := WF.name (k := k) (pend := ks ++ pend) hT
            obtain ⟨ck, hck⟩ := has_iff.1 (hT.pend k (by simp))
            have hnn : num (T.name k (-1)).cells n = num T.cells n := by
              have hcel := cel_some hck
              have : (T.name k (-1)).cells = upd T.cells k (some { ck with named := ck.named + -1 }) := by rw [StS.name, hcel]; rfl
              rw [this]
              exact num_same hck n
            have h3 := gone_wf f (T.name k (-1)) k (ks ++ pend) h2 (by omega)
            have h4 := ih _ h3.1 (by omega)
            exact ⟨h4.1, Nat.le_trans h4.2 (by omega)⟩
        have h5 := key c.kids (S.setC i none) h1 (by omega)
        exact ⟨h5.1, by omega⟩
      · rw [if_neg hl]
        exact ⟨h, Nat.le_refl _⟩
end Go.Proofs.YtadmecjdihfmeaaGreat.Sto
