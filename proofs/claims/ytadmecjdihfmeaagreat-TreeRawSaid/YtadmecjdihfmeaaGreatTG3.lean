/- TreOk TreTree TreClean TreChange TreTurn TreRoot TreStep TreHeld TreSteps: several texts of one proof, laid as one file (a claim has at most 60 files). No condition. -/
import Derived.Test.YtadmecjdihfmeaaGreatTG2
import Derived.Test.YtadmecjdihfmeaaGreatStoBfs
/- Layer 7 in plain Lean: what a loaded node is; what was saved is loaded again. -/
namespace Go.Proofs.YtadmecjdihfmeaaGreat.Tre
set_option linter.unusedVariables false
set_option linter.unusedSimpArgs false
open Go.RowKit Go.Proofs.YtadmecjdihfmeaaGreat.Mem Go.Proofs.YtadmecjdihfmeaaGreat.Oct Go.Proofs.YtadmecjdihfmeaaGreat.Dev Go.Proofs.YtadmecjdihfmeaaGreat.Sto

/-- items of a loaded node -/
structure ItsOk (lv : Nat) (l : List It) : Prop where
  rise : Rise l
  fit : ∀ x ∈ l, rightK x.key = true ∧ x.val.size ≤ 300
  leaf : lv = 0 → ∀ x ∈ l, x.kid = 0
  node : 0 < lv → ∀ x ∈ l, x.val = nil8
theorem ItsOk.nil {lv : Nat} : ItsOk lv [] := ⟨List.Pairwise.nil, fun x hx => (by cases hx), fun _ x hx => (by cases hx), fun _ x hx => (by cases hx)⟩
theorem textP_size {m : Nat} {s d s' : ByteArray} (h : textP m s = .ok (d, s')) : d.size ≤ m := by
  unfold textP at h
  split at h
  · cases h
  · rename_i n s1 _
    split at h
    · cases h
    · rename_i hn
      unfold rawP at h
      split at h
      · rename_i hr
        cases h
        have : (s1.extract 0 (n : Int).toNat).size ≤ n := by
          rw [ByteArray.size_extract]
          omega
        omega
      · cases h
theorem badKey_ok {acc : List It} {key : ByteArray} (h : badKey acc key = false) (hr : Rise acc) : rightK key = true ∧ ∀ x ∈ acc, lt x.key key = true := by
  have hk : rightK key = true := by
    cases hk : rightK key with
    | true => rfl
    | false => rw [badKey_right hk] at h; cases h
  refine ⟨hk, fun x hx => ?_⟩
  obtain ⟨j, hj, rfl⟩ := List.mem_iff_getElem.1 hx
  obtain ⟨i, hi⟩ : ∃ i, i + 1 = acc.length := ⟨acc.length - 1, by omega⟩
  rw [badKey_last hi hk] at h
  have hl : lt (acc[i]'(by omega)).key key = true := by simpa using h
  by_cases hji : j = i
  · subst hji; exact hl
  · exact lt_trans (rise_at hr (by omega) (by omega)) hl
theorem ItsOk.snoc {lv : Nat} {acc : List It} {x : It} (h : ItsOk lv acc) (hb : badKey acc x.key = false) (hv : x.val.size ≤ 300) (h0 : lv = 0 → x.kid = 0) (h1 : 0 < lv → x.val = nil8) : ItsOk lv (acc ++ [x]) := by
  obtain ⟨hk, hl⟩ := badKey_ok hb h.rise
  refine ⟨?_, fun y hy => ?_, fun hz y hy => ?_, fun hz y hy => ?_⟩
  · unfold Rise
    rw [List.pairwise_append]
    exact ⟨h.rise, List.pairwise_singleton _ _, fun a ha b hb => by simp at hb; subst hb; exact hl a ha⟩
  · rcases List.mem_append.1 hy with hy | hy
    · exact h.fit y hy
    · simp at hy; subst hy; exact ⟨hk, hv⟩
  · rcases List.mem_append.1 hy with hy | hy
    · exact h.leaf hz y hy
    · simp at hy; subst hy; exact h0 hz
  · rcases List.mem_append.1 hy with hy | hy
    · exact h.node hz y hy
    · simp at hy; subst hy; exact h1 hz
theorem itemsP_ok {lv : Nat} {ks : List Int} : ∀ {k : Nat} {acc : List It} {s s' : ByteArray} {l : List It}, itemsP lv ks k acc s = .ok (l, s') → ItsOk lv acc → ItsOk lv l
  | 0, acc, s, s', l, h, ha => by cases h; exact ha
  | k + 1, acc, s, s', l, h, ha => by
    rw [itemsP_succ] at h
    split at h
    · cases h
    · rename_i key s1 _
      split at h
      · rename_i h0
        split at h
        · cases h
        · rename_i val s2 ht
          split at h
          · cases h
          · rename_i hb
            exact itemsP_ok h (ha.snoc (x := ⟨key, val, 0⟩) (by simpa using hb) (textP_size ht) (fun _ => rfl) (fun hz => absurd h0 (by omega)))
      · rename_i h0
        split at h
        · cases h
        · rename_i hb
          exact itemsP_ok h (ha.snoc (x := ⟨key, nil8, ks.getD acc.length 0⟩) (by simpa using hb) (by show (0 : Nat) ≤ 300; omega) (fun hz => absurd hz h0) (fun _ => rfl))
theorem itemsP_kids {lv : Nat} (hlv : 0 < lv) {ks : List Int} : ∀ {k : Nat} {acc : List It} {s s' : ByteArray} {l : List It}, itemsP lv ks k acc s = .ok (l, s') → acc.map (·.kid) = ks.take acc.length → acc.length + k ≤ ks.length → l.map (·.kid) = ks.take l.length
  | 0, acc, s, s', l, h, ha, _ => by cases h; exact ha
  | k + 1, acc, s, s', l, h, ha, hk => by
    rw [itemsP_node hlv] at h
    split at h
    · cases h
    · rename_i key s1 _
      split at h
      · cases h
      · refine itemsP_kids hlv h ?_ (by simp; omega)
        rw [List.map_append, ha, List.length_append]
        simp only [List.map_cons, List.map_nil, List.length_cons, List.length_nil, Nat.zero_add]
        rw [List.take_succ_eq_append_getElem (by omega), List.getD_eq_getElem?_getD, List.getElem?_eq_getElem (by omega)]
        rfl
/-- a node that may be loaded -/
structure NdOk (n : Nd) : Prop where
  level : n.level ≤ 20
  len : 1 ≤ n.items.length ∧ n.items.length ≤ 8
  its : ItsOk n.level n.items
theorem nodeP_ok {ks : List Int} {d : ByteArray} {n : Nd} (h : nodeP ks d = some n) : NdOk n ∧ n.kids = ks := by
  unfold nodeP at h
  split at h
  · cases h
  · rename_i n' r hr
    split at h
    · cases h
      unfold nodeR at hr
      split at hr
      · cases hr
      · split at hr
        · cases hr
        · rename_i many s2 _
          split at hr
          · cases hr
          · rename_i lv _ _ _ _ hb
            split at hr
            · cases hr
            · rename_i l s3 hi
              cases hr
              have hlen := itemsP_len hi
              simp only [badHead, Bool.or_eq_true, Bool.and_eq_true, decide_eq_true_eq, not_or] at hb
              simp at hlen
              refine ⟨⟨by show lv ≤ 20; omega, ⟨by show 1 ≤ l.length; omega, by show l.length ≤ 8; omega⟩, itemsP_ok hi ItsOk.nil⟩, ?_⟩
              unfold Nd.kids
              by_cases h0 : lv = 0
              · have : ks = [] := List.length_eq_zero_iff.1 (by omega)
                rw [if_pos h0, this]
              · have := itemsP_kids (by omega) hi (by simp) (by simp; omega)
                rw [if_neg h0, this, List.take_of_length_le (by omega)]
    · cases h
theorem loadF_ok {S : StS} {D : DevS} {i : Int} {n : Nd} (h : loadF S D i = .ok n) : NdOk n ∧ ∃ d, (S.getR D i).2 = some (n.kids, d) ∧ nodeP n.kids d = some n := by
  unfold loadF at h
  split at h
  · cases h
  · rename_i x hx
    split at h
    · rename_i n' hn
      cases h
      have := nodeP_ok hn
      refine ⟨this.1, x.2, ?_, ?_⟩
      · rw [hx, this.2]
      · rw [this.2]; exact hn
    · cases h
theorem belowF_ok {S : StS} {D : DevS} {lv : Nat} {i : Int} {n : Nd} (h : belowF S D lv i = .ok n) : loadF S D i = .ok n ∧ n.level + 1 = lv := by
  unfold belowF at h
  split at h
  · cases h
  · split at h
    · cases h; exact ⟨by assumption, by assumption⟩
    · cases h

/-! ### what was laid is read -/
theorem itemsP_bl {lv : Nat} {ks : List Int} : ∀ (l acc : List It) (r : List UInt8), ItsOk lv (acc ++ l) → (0 < lv → ks = (acc ++ l).map (·.kid)) → itemsP lv ks l.length acc (bl (Nd.body lv l ++ r)) = .ok (acc ++ l, bl r)
  | [], acc, r, _, _ => by simp [itemsP, Nd.body]
  | x :: l, acc, r, h, hk => by
    have hx := h.fit x (by simp)
    have hkz : x.key.size ≤ 64 := by have := hx.1; simp [rightK] at this; omega
    have hb : badKey acc x.key = false := by
      rcases Nat.eq_zero_or_pos acc.length with h0 | h0
      · rw [List.length_eq_zero_iff.1 h0]; exact badKey_nil hx.1
      · obtain ⟨i, hi⟩ : ∃ i, i + 1 = acc.length := ⟨acc.length - 1, by omega⟩
        rw [badKey_last hi hx.1]
        have := rise_at h.rise (p := i) (q := acc.length) (by simp) (by omega)
        simp only [List.getElem_append_left (show i < acc.length by omega), List.getElem_append_right (Nat.le_refl _), Nat.sub_self, List.getElem_cons_zero] at this
        rw [this]; rfl
    have happ : acc ++ x :: l = (acc ++ [x]) ++ l := by simp
    have hlen : (x :: l).length = l.length + 1 := rfl
    rw [hlen, itemsP_succ]
    by_cases h0 : lv = 0
    · have hx2 : x = ⟨x.key, x.val, 0⟩ := by
        have := h.leaf h0 x (by simp)
        cases x; simp at this; subst this; rfl
      have e : Nd.body lv (x :: l) ++ r = be 2 x.key.size ++ (x.key.data.toList ++ (be 2 x.val.size ++ (x.val.data.toList ++ (Nd.body lv l ++ r)))) := by simp [Nd.body, textL, h0]
      rw [e, textP_bl hkz (by omega)]
      dsimp only
      rw [if_pos h0, textP_bl hx.2 (by omega)]
      dsimp only
      rw [hb, if_neg (by decide), ← hx2, itemsP_bl l (acc ++ [x]) r (by rw [← happ]; exact h) (fun h1 => by omega), happ]
    · have hx2 : x = ⟨x.key, nil8, ks.getD acc.length 0⟩ := by
        have h1 := h.node (by omega) x (by simp)
        have h2 := hk (by omega)
        have h3 : ks.getD acc.length 0 = x.kid := by rw [h2]; simp
        rw [h3]
        cases x; simp at h1; subst h1; rfl
      have e : Nd.body lv (x :: l) ++ r = be 2 x.key.size ++ (x.key.data.toList ++ (Nd.body lv l ++ r)) := by simp [Nd.body, textL, h0]
      rw [e, textP_bl hkz (by omega)]
      dsimp only
      rw [if_neg h0, hb, if_neg (by decide), ← hx2, itemsP_bl l (acc ++ [x]) r (by rw [← happ]; exact h) (fun h1 => by rw [← happ]; exact hk h1), happ]
theorem nodeP_bl {n : Nd} (h : NdOk n) : nodeP n.kids (bl n.data) = some n := by
  obtain ⟨lv, l⟩ := n
  have h1 : lv ≤ 20 := h.level
  have h2 : 1 ≤ l.length ∧ l.length ≤ 8 := h.len
  have hR : nodeR (Nd.kids ⟨lv, l⟩) (bl (Nd.data ⟨lv, l⟩)) = .ok (⟨lv, l⟩, bl []) := by
    unfold nodeR Nd.data
    rw [numP_be (by show lv < _; omega)]
    dsimp only
    rw [numP_be (by omega)]
    dsimp only
    have hb : badHead lv l.length (Nd.kids ⟨lv, l⟩).length = false := by
      have hk : (0 < lv → (Nd.kids ⟨lv, l⟩).length = l.length) ∧ (lv = 0 → (Nd.kids ⟨lv, l⟩).length = 0) := by
        unfold Nd.kids
        constructor
        · intro h0
          rw [if_neg (by show ¬ lv = 0; omega)]
          simp
        · intro h0
          rw [if_pos h0]
          rfl
      generalize (Nd.kids ⟨lv, l⟩).length = m at hk
      unfold badHead
      simp only [Bool.or_eq_false_iff, Bool.and_eq_false_iff, decide_eq_false_iff_not]
      omega
    rw [hb, if_neg (by decide)]
    have := itemsP_bl (lv := lv) (ks := Nd.kids ⟨lv, l⟩) l [] [] (by simpa using h.its) (fun h0 => by unfold Nd.kids; rw [if_neg (by show ¬ lv = 0; omega)]; rfl)
    simp only [List.append_nil, List.nil_append] at this
    rw [this]
  unfold nodeP
  rw [hR]
  dsimp only
  rw [bl_toList]
  rfl
theorem data_size {n : Nd} (h : NdOk n) : (bl n.data).size ≤ 3900 := by
  rw [bl_size]
  have h1 := body_len n.level n.items (fun x hx => by
    have := h.its.fit x hx
    simp [rightK] at this
    exact ⟨by omega, this.2⟩)
  have h2 := h.len
  unfold Nd.data
  rw [List.length_append, List.length_append, be_length, be_length]
  omega
/-- what is there stays as it was -/
structure Kp (S : StS) (D : DevS) (S' : StS) (D' : DevS) : Prop where
  has : ∀ i, S.has i = true → S'.has i = true
  load : ∀ i, S.has i = true → loadF S' D' i = loadF S D i
  high : ∀ i, S.has i = true → (S'.cel i).high = (S.cel i).high
  held : ∀ i, S.has i = true → (S'.cel i).held = (S.cel i).held
  kept : S'.kept = S.kept
theorem Kp.refl (S : StS) (D : DevS) : Kp S D S D := ⟨fun _ h => h, fun _ _ => rfl, fun _ _ => rfl, fun _ _ => rfl, rfl⟩
theorem Kp.trans {A B C : StS} {D E F : DevS} (h : Kp A D B E) (k : Kp B E C F) : Kp A D C F :=
  ⟨fun i hi => k.has i (h.has i hi), fun i hi => (k.load i (h.has i hi)).trans (h.load i hi), fun i hi => (k.high i (h.has i hi)).trans (h.high i hi), fun i hi => (k.held i (h.has i hi)).trans (h.held i hi), k.kept.trans h.kept⟩
/-- a node that was saved -/
structure Saved (n m : Nat) (S : StS) (D : DevS) (lv : Nat) (l : List It) (r : Ch It) : Prop where
  err : r.err = 0
  run : Run n m r.st r.dv
  keep : Kp S D r.st r.dv
  new : S.has r.out.kid = false
  there : r.st.has r.out.kid = true
  load : loadF r.st r.dv r.out.kid = .ok ⟨lv, l⟩
  key : r.out.key = (l[0]?.getD default).key
  val : r.out.val = nil8
  high : (r.st.cel r.out.kid).high = S.highOf (Nd.kids ⟨lv, l⟩) + 1
  free : r.st.freeN n = S.freeN n - 1
  st : r.st = (S.names (Nd.kids ⟨lv, l⟩)).setC r.out.kid (some ⟨0, 0, S.highOf (Nd.kids ⟨lv, l⟩) + 1, Nd.kids ⟨lv, l⟩⟩)
theorem put_run {n m : Nat} {S : StS} {D : DevS} {kids : List Int} {data : ByteArray} (h : Run n m S D) (hn : 8 ≤ n ∧ n ≤ 4096) (hl : kids.length ≤ 16) (hd : data.size ≤ 3900) (hk : ∀ k ∈ kids, S.has k = true ∧ (S.cel k).high < 64) (hf : 0 < S.freeN n) :
    PutOk S D kids data (putOut S D kids data).1 (putOut S D kids data).2.2.1 ∧ (putOut S D kids data).2.1 = 0 ∧ (putOut S D kids data).2.2.2 = D.write (putOut S D kids data).1 (blockB kids data) ∧ Run n m (putOut S D kids data).2.2.1 (putOut S D kids data).2.2.2 := by
  have hg := h.good.put h.inv hn.2 kids data
  have hpw := (h.pow.put S kids data).1
  rcases putOut_cases S D kids data with ⟨e, he, ⟨e1, e2, e3⟩, e4, _⟩ | ⟨hp, e2, e3⟩
  · exfalso
    have hnb : ¬ putBad S kids data := by
      unfold putBad
      rintro (h1 | h1 | h1)
      · omega
      · omega
      · obtain ⟨k, hkk, hb⟩ := List.any_eq_true.1 h1
        have := hk k hkk
        simp [StS.badKid, this.1] at hb
        omega
    have hfr : S.free D.n ≠ 0 := by
      intro h0
      rw [h.good.dn] at h0
      have := free_none (fun i hi => by
        rcases hi with hi | hi
        · exact (has_dom h.inv hi).1
        · exact (h.inv.kept i hi).1) hn.1 h0
      omega
    have hdm := free_ok hfr
    have hw := h.pow.writeE (i := S.free D.n) (s := blockB kids data) ⟨by omega, hdm.2.1⟩ (block_size hl hd)
    unfold putOut at e2
    rw [if_neg hnb, if_neg hfr, if_neg (by rw [hw]; decide)] at e2
    exact he e2.symm
  · exact ⟨hp, e2, e3, hg, hp.inv h.inv h.good.dn hn.2, hpw⟩
theorem save_ok {n m : Nat} {S : StS} {D : DevS} {lv : Nat} {l : List It} (h : Run n m S D) (hn : 8 ≤ n ∧ n ≤ 4096) (hok : NdOk ⟨lv, l⟩) (hk : ∀ k ∈ Nd.kids ⟨lv, l⟩, S.has k = true ∧ (S.cel k).high < 64) (hf : 0 < S.freeN n) : Saved n m S D lv l (saveF S D lv l) := by
  have hlen : (Nd.kids ⟨lv, l⟩).length ≤ 16 := by
    have : l.length ≤ 8 := hok.len.2
    unfold Nd.kids
    split
    · simp
    · simp; omega
  obtain ⟨hp, e2, e3, hr⟩ := put_run h hn hlen (data_size hok) hk hf
  obtain ⟨id, hid⟩ : ∃ id, id = (putOut S D (Nd.kids ⟨lv, l⟩) (bl (Nd.data ⟨lv, l⟩))).1 := ⟨_, rfl⟩
  obtain ⟨S', hS⟩ : ∃ S', S' = (putOut S D (Nd.kids ⟨lv, l⟩) (bl (Nd.data ⟨lv, l⟩))).2.2.1 := ⟨_, rfl⟩
  obtain ⟨D', hD⟩ : ∃ D', D' = (putOut S D (Nd.kids ⟨lv, l⟩) (bl (Nd.data ⟨lv, l⟩))).2.2.2 := ⟨_, rfl⟩
  have hout : saveF S D lv l = ⟨0, ⟨(l[0]?.getD default).key, nil8, id⟩, S', D'⟩ := by unfold saveF; rw [e2, ← hid, ← hS, ← hD]
  rw [hout]
  rw [← hid, ← hS] at hp
  rw [← hD, ← hid] at e3
  rw [← hS, ← hD] at hr
  clear hid hS hD hout e2
  have hc : S'.cells id = some ⟨0, 0, S.highOf (Nd.kids ⟨lv, l⟩) + 1, Nd.kids ⟨lv, l⟩⟩ := by rw [hp.st]; exact upd_same _ _ _
  have hth : S'.has id = true := has_iff.2 ⟨_, hc⟩
  have hoff := h.pow.off
  have hoff' := hr.pow.off
  have hkh : ∀ k ∈ Nd.kids ⟨lv, l⟩, S.has k = true := fun k hkk => (hk k hkk).1
  have hnm : ∀ x, (S.names (Nd.kids ⟨lv, l⟩)).has x = S.has x := names_has _ S hkh
  have hgr : Grow S S' := by
    rw [hp.st]
    exact (grow_names _ S hkh).trans (grow_fresh ((hnm id).trans hp.non))
  have hld : ∀ i, S.has i = true → S'.getR D' i = S.getR D i := by
    intro i hi
    obtain ⟨c, hci⟩ := has_iff.1 hi
    obtain ⟨c', hc', _, hkk, _⟩ := hgr.cells i c hci
    obtain ⟨d, hd, hg⟩ := h.good.get h.inv hoff hci
    obtain ⟨d', hd', hg'⟩ := hr.good.get hr.inv hoff' hc'
    have hne : i ≠ id := fun e => by rw [e, hp.non] at hi; cases hi
    have hv := vw_write hp.wrote i
    rw [if_neg hne, ← e3] at hv
    rw [hv, hd] at hd'
    injection hd' with hd'
    injection hd' with q1 q2
    rw [hg, hg', hkk, q2]
  have hheld : ∀ i, S.has i = true → (S'.cel i).held = (S.cel i).held := by
    intro i hi
    obtain ⟨c, hci⟩ := has_iff.1 hi
    obtain ⟨c', hc', _, _, e⟩ := hgr.cells i c hci
    rw [cel_some hci, cel_some hc', e]
  refine ⟨rfl, hr, ⟨fun i hi => hgr.has hi, fun i hi => ?_, fun i hi => hgr.high hi, hheld, hgr.kept⟩, hp.non, hth, ?_, rfl, rfl, by show (S'.cel id).high = _; rw [cel_some hc], hp.freeN h.inv h.good.dn, hp.st⟩
  · show loadF S' D' i = _
    unfold loadF
    rw [hld i hi]
  · obtain ⟨d, hd, hgt⟩ := hr.good.get hr.inv hoff' hc
    have hdd : d = bl (Nd.data ⟨lv, l⟩) := by
      have h1 := vw_write hp.wrote id
      rw [if_pos rfl, ← e3] at h1
      rw [h1] at hd
      have h2 := getP_put (n := (n : Int)) (l := Nd.kids ⟨lv, l⟩) (d := bl (Nd.data ⟨lv, l⟩)) (by omega) hp.len (fun x hx => has_dom h.inv (hp.good x hx).1) hp.size
      rw [h2] at hd
      injection hd with hd
      injection hd with _ hd
      exact hd.symm
    show loadF S' D' id = _
    unfold loadF
    rw [hgt, hdd]
    dsimp only
    rw [nodeP_bl hok]
end Go.Proofs.YtadmecjdihfmeaaGreat.Tre

/- Layer 7 in plain Lean: the entries that stand below items; what a change does to them. -/
namespace Go.Proofs.YtadmecjdihfmeaaGreat.Tre
set_option linter.unusedVariables false
set_option linter.unusedSimpArgs false
open Go.RowKit Go.Proofs.YtadmecjdihfmeaaGreat.Mem Go.Proofs.YtadmecjdihfmeaaGreat.Oct Go.Proofs.YtadmecjdihfmeaaGreat.Dev Go.Proofs.YtadmecjdihfmeaaGreat.Sto

theorem lt_lt_of {a b c : ByteArray} (h : lt a b = true) (h' : lt c b = false) : lt a c = true := by
  cases hbc : lt b c with
  | true => exact lt_trans h hbc
  | false => rw [lt_tri h' hbc]; exact h
theorem lt_of_le {a b c : ByteArray} (h : lt b a = false) (h' : lt b c = true) : lt a c = true := by
  cases hab : lt a b with
  | true => exact lt_trans hab h'
  | false => rw [lt_tri hab h]; exact h'
theorem flatMap_same {α β : Type} {f g : α → List β} {l : List α} (h : ∀ x ∈ l, f x = g x) : l.flatMap f = l.flatMap g := by
  induction l with
  | nil => rfl
  | cons x l ih => rw [List.flatMap_cons, List.flatMap_cons, h x (by simp), ih (fun y hy => h y (by simp [hy]))]
def SortE (l : List En) : Prop := l.Pairwise fun x y => lt x.1 y.1 = true

/-! ### what stands below items -/
/-- the entries below an item of a node of a level -/
def itE (S : StS) (D : DevS) : Nat → It → List En
  | 0, x => [(x.key, x.val)]
  | f + 1, x => match loadF S D x.kid with
    | .ok n => n.items.flatMap (itE S D f)
    | .error _ => []
def entsF (S : StS) (D : DevS) (lv : Nat) (l : List It) : List En := l.flatMap (itE S D lv)
/-- the blocks below an item -/
def itI (S : StS) (D : DevS) : Nat → It → List Int
  | 0, x => []
  | f + 1, x => x.kid :: (match loadF S D x.kid with
    | .ok n => n.items.flatMap (itI S D f)
    | .error _ => [])
def idsF (S : StS) (D : DevS) (lv : Nat) (l : List It) : List Int := l.flatMap (itI S D lv)
def headK (l : List It) : ByteArray := (l[0]?.getD default).key
/-- what stands below an item is a tree -/
def OkI (S : StS) (D : DevS) : Nat → It → Prop
  | 0, x => True
  | f + 1, x => S.has x.kid = true ∧ (S.cel x.kid).high ≤ f + 1 ∧ ∃ n, loadF S D x.kid = .ok n ∧ n.level = f ∧ 4 ≤ n.items.length ∧ headK n.items = x.key ∧ ∀ y ∈ n.items, OkI S D f y
def OkF (S : StS) (D : DevS) (lv : Nat) (l : List It) : Prop := ∀ x ∈ l, OkI S D lv x
structure FitX (lv : Nat) (x : It) : Prop where
  key : rightK x.key = true
  val : x.val.size ≤ 300
  leaf : lv = 0 → x.kid = 0
  node : 0 < lv → x.val = nil8
def FitL (lv : Nat) (l : List It) : Prop := ∀ x ∈ l, FitX lv x
theorem ItsOk.fitL {lv : Nat} {l : List It} (h : ItsOk lv l) : FitL lv l := fun x hx => ⟨(h.fit x hx).1, (h.fit x hx).2, fun h0 => h.leaf h0 x hx, fun h0 => h.node h0 x hx⟩
theorem OkI.succ {S : StS} {D : DevS} {f : Nat} {x : It} (h : OkI S D (f + 1) x) : ∃ n, loadF S D x.kid = .ok n ∧ n.level = f ∧ 4 ≤ n.items.length ∧ headK n.items = x.key ∧ OkF S D f n.items ∧ NdOk n ∧ itE S D (f + 1) x = entsF S D f n.items ∧ itI S D (f + 1) x = x.kid :: idsF S D f n.items ∧ S.has x.kid = true ∧ (S.cel x.kid).high ≤ f + 1 := by
  obtain ⟨h1, h2, n, h3, h4, h5, h6, h7⟩ := h
  refine ⟨n, h3, h4, h5, h6, h7, (loadF_ok h3).1, ?_, ?_, h1, h2⟩
  · unfold itE; rw [h3]; rfl
  · unfold itI; rw [h3]; rfl
theorem entsF_append (S : StS) (D : DevS) (lv : Nat) (a b : List It) : entsF S D lv (a ++ b) = entsF S D lv a ++ entsF S D lv b := by simp [entsF]
theorem idsF_append (S : StS) (D : DevS) (lv : Nat) (a b : List It) : idsF S D lv (a ++ b) = idsF S D lv a ++ idsF S D lv b := by simp [idsF]
theorem entsF_one (S : StS) (D : DevS) (lv : Nat) (x : It) : entsF S D lv [x] = itE S D lv x := by simp [entsF]
theorem entsF_cons (S : StS) (D : DevS) (lv : Nat) (x : It) (l : List It) : entsF S D lv (x :: l) = itE S D lv x ++ entsF S D lv l := by simp [entsF]
theorem idsF_cons (S : StS) (D : DevS) (lv : Nat) (x : It) (l : List It) : idsF S D lv (x :: l) = itI S D lv x ++ idsF S D lv l := by simp [idsF]
theorem OkF.append {S : StS} {D : DevS} {lv : Nat} {a b : List It} (h : OkF S D lv a) (k : OkF S D lv b) : OkF S D lv (a ++ b) := fun x hx => by
  rcases List.mem_append.1 hx with hx | hx
  · exact h x hx
  · exact k x hx
theorem FitL.append {lv : Nat} {a b : List It} (h : FitL lv a) (k : FitL lv b) : FitL lv (a ++ b) := fun x hx => by
  rcases List.mem_append.1 hx with hx | hx
  · exact h x hx
  · exact k x hx
theorem OkF.sub {S : StS} {D : DevS} {lv : Nat} {a b : List It} (h : OkF S D lv a) (k : ∀ x ∈ b, x ∈ a) : OkF S D lv b := fun x hx => h x (k x hx)
theorem FitL.sub {lv : Nat} {a b : List It} (h : FitL lv a) (k : ∀ x ∈ b, x ∈ a) : FitL lv b := fun x hx => h x (k x hx)
/-- the first entry below an item has its key -/
theorem itE_head {S : StS} {D : DevS} : ∀ (lv : Nat) (x : It), OkI S D lv x → ∃ v t, itE S D lv x = (x.key, v) :: t
  | 0, x, _ => ⟨_, _, rfl⟩
  | f + 1, x, h => by
    obtain ⟨n, h1, h2, h3, h4, h5, h6, h7, _⟩ := h.succ
    rw [h7]
    match hn : n.items with
    | [] => rw [hn] at h3; simp at h3
    | y :: l =>
      rw [hn] at h4 h5
      obtain ⟨v, t, e⟩ := itE_head f y (h5 y (by simp))
      rw [entsF_cons, e]
      have : y.key = x.key := h4
      rw [← this]
      exact ⟨_, _, rfl⟩
theorem entsF_head {S : StS} {D : DevS} {lv : Nat} {l : List It} (h : OkF S D lv l) (hl : l ≠ []) : ∃ v t, entsF S D lv l = (headK l, v) :: t := by
  match l, hl with
  | y :: l, _ =>
    obtain ⟨v, t, e⟩ := itE_head lv y (h y (by simp))
    rw [entsF_cons, e]
    exact ⟨_, _, rfl⟩
/-- what stays as it was -/
theorem okI_keep {S S' : StS} {D D' : DevS} (hk : Kp S D S' D') : ∀ (lv : Nat) (x : It), OkI S D lv x → OkI S' D' lv x ∧ itE S' D' lv x = itE S D lv x ∧ itI S' D' lv x = itI S D lv x
  | 0, x, _ => ⟨trivial, rfl, rfl⟩
  | f + 1, x, h => by
    obtain ⟨h1, h2, n, h3, h4, h5, h6, h7⟩ := h
    have hl := (hk.load x.kid h1).trans h3
    refine ⟨⟨hk.has _ h1, by rw [hk.high _ h1]; exact h2, n, hl, h4, h5, h6, fun y hy => (okI_keep hk f y (h7 y hy)).1⟩, ?_, ?_⟩
    · unfold itE
      rw [hl, h3]
      exact flatMap_same fun y hy => (okI_keep hk f y (h7 y hy)).2.1
    · unfold itI
      rw [hl, h3]
      congr 1
      exact flatMap_same fun y hy => (okI_keep hk f y (h7 y hy)).2.2
theorem OkF.keep {S S' : StS} {D D' : DevS} {lv : Nat} {l : List It} (h : OkF S D lv l) (hk : Kp S D S' D') : OkF S' D' lv l ∧ entsF S' D' lv l = entsF S D lv l ∧ idsF S' D' lv l = idsF S D lv l :=
  ⟨fun x hx => (okI_keep hk lv x (h x hx)).1, flatMap_same fun x hx => (okI_keep hk lv x (h x hx)).2.1, flatMap_same fun x hx => (okI_keep hk lv x (h x hx)).2.2⟩
/-- keys rise, where entries do -/
theorem rise_of {S : StS} {D : DevS} {lv : Nat} {l : List It} (h : OkF S D lv l) (hs : SortE (entsF S D lv l)) : Rise l := by
  unfold SortE entsF at hs
  rw [List.pairwise_flatMap] at hs
  refine hs.2.imp_of_mem (fun {a b} ha hb hab => ?_)
  obtain ⟨v, t, e⟩ := itE_head lv a (h a ha)
  obtain ⟨v', t', e'⟩ := itE_head lv b (h b hb)
  exact hab (a.key, v) (by rw [e]; simp) (b.key, v') (by rw [e']; simp)
theorem itsOk_of {S : StS} {D : DevS} {lv : Nat} {l : List It} (h : OkF S D lv l) (hf : FitL lv l) (hs : SortE (entsF S D lv l)) : ItsOk lv l :=
  ⟨rise_of h hs, fun x hx => ⟨(hf x hx).key, (hf x hx).val⟩, fun h0 x hx => (hf x hx).leaf h0, fun h0 x hx => (hf x hx).node h0⟩
/-- how many blocks: at most a third of the entries -/
theorem itI_len {S : StS} {D : DevS} : ∀ (lv : Nat) (x : It), OkI S D lv x → 3 * (itI S D lv x).length + 1 ≤ (itE S D lv x).length
  | 0, x, _ => by simp [itI, itE]
  | f + 1, x, h => by
    obtain ⟨n, h1, h2, h3, h4, h5, h6, h7, h8, _⟩ := h.succ
    rw [h7, h8]
    have : ∀ l : List It, OkF S D f l → 3 * (idsF S D f l).length + l.length ≤ (entsF S D f l).length := by
      intro l
      induction l with
      | nil => intro _; simp [idsF, entsF]
      | cons y l ih =>
        intro hl
        have h1 := ih (fun z hz => hl z (by simp [hz]))
        have h2 := itI_len f y (hl y (by simp))
        rw [idsF_cons, entsF_cons, List.length_append, List.length_append, List.length_cons]
        omega
    have := this n.items h5
    simp only [List.length_cons]
    omega
theorem idsF_len {S : StS} {D : DevS} {lv : Nat} : ∀ {l : List It}, OkF S D lv l → 3 * (idsF S D lv l).length + l.length ≤ (entsF S D lv l).length
  | [], _ => by simp [idsF, entsF]
  | y :: l, hl => by
    have h1 := idsF_len (l := l) (fun z hz => hl z (by simp [hz]))
    have h2 := itI_len lv y (hl y (by simp))
    rw [idsF_cons, entsF_cons, List.length_append, List.length_append, List.length_cons]
    omega
/-- how many entries stand below so many levels -/
theorem itE_len {S : StS} {D : DevS} : ∀ (lv : Nat) (x : It), OkI S D lv x → 4 ^ lv ≤ (itE S D lv x).length
  | 0, x, _ => by simp [itE]
  | f + 1, x, h => by
    obtain ⟨n, h1, h2, h3, h4, h5, h6, h7, h8, _⟩ := h.succ
    rw [h7]
    have : ∀ l : List It, OkF S D f l → l.length * 4 ^ f ≤ (entsF S D f l).length := by
      intro l
      induction l with
      | nil => intro _; simp
      | cons y l ih =>
        intro hl
        have h1 := ih (fun z hz => hl z (by simp [hz]))
        have h2 := itE_len f y (hl y (by simp))
        rw [entsF_cons, List.length_append, List.length_cons, Nat.add_mul]
        omega
    have h9 := this n.items h5
    have h10 : 4 * 4 ^ f ≤ n.items.length * 4 ^ f := Nat.mul_le_mul_right _ h3
    rw [Nat.pow_succ]
    omega
theorem entsF_len {S : StS} {D : DevS} {lv : Nat} : ∀ {l : List It}, OkF S D lv l → l.length * 4 ^ lv ≤ (entsF S D lv l).length
  | [], _ => by simp
  | y :: l, hl => by
    have h1 := entsF_len (l := l) (fun z hz => hl z (by simp [hz]))
    have h2 := itE_len lv y (hl y (by simp))
    rw [entsF_cons, List.length_append, List.length_cons, Nat.add_mul]
    omega

/-! ### the list's own -/
def putE (l : List En) (key val : ByteArray) : List En := l.filter (fun x => lt x.1 key) ++ (key, val) :: l.filter (fun x => lt key x.1)
def delE (l : List En) (key : ByteArray) : List En := l.filter (fun x => lt x.1 key) ++ l.filter (fun x => lt key x.1)
def getE (l : List En) (key : ByteArray) : Option ByteArray := (l.find? (fun x => x.1.toList == key.toList)).map (·.2)
theorem key_eq {a b : ByteArray} : (a.toList == b.toList) = true ↔ a = b := by
  rw [beq_iff_eq]
  exact ⟨toList_inj, fun h => by rw [h]⟩
theorem filter_all {p : En → Bool} {l : List En} (h : ∀ x ∈ l, p x = true) : l.filter p = l := List.filter_eq_self.2 h
theorem filter_none {p : En → Bool} {l : List En} (h : ∀ x ∈ l, p x = false) : l.filter p = [] := List.filter_eq_nil_iff.2 (fun x hx => by rw [h x hx]; decide)
/-- a key's place among entries: some ahead, some behind -/
structure Apart (key : ByteArray) (a b : List En) : Prop where
  low : ∀ x ∈ a, lt x.1 key = true
  top : ∀ x ∈ b, lt key x.1 = true
theorem Apart.put {key : ByteArray} {a b : List En} (h : Apart key a b) (m : List En) (val : ByteArray) : putE (a ++ (m ++ b)) key val = a ++ (putE m key val ++ b) := by
  unfold putE
  rw [List.filter_append, List.filter_append, List.filter_append, List.filter_append, filter_all h.low, filter_all h.top, filter_none (l := b) (fun x hx => lt_asymm (h.top x hx)), filter_none (l := a) (fun x hx => lt_asymm (h.low x hx))]
  simp
theorem Apart.del {key : ByteArray} {a b : List En} (h : Apart key a b) (m : List En) : delE (a ++ (m ++ b)) key = a ++ (delE m key ++ b) := by
  unfold delE
  rw [List.filter_append, List.filter_append, List.filter_append, List.filter_append, filter_all h.low, filter_all h.top, filter_none (l := b) (fun x hx => lt_asymm (h.top x hx)), filter_none (l := a) (fun x hx => lt_asymm (h.low x hx))]
  simp
theorem Apart.get {key : ByteArray} {a b : List En} (h : Apart key a b) (m : List En) : getE (a ++ (m ++ b)) key = getE m key := by
  unfold getE
  have ha : a.find? (fun x => x.1.toList == key.toList) = none := List.find?_eq_none.2 (fun x hx he => lt_ne (h.low x hx) (key_eq.1 he))
  have hb : b.find? (fun x => x.1.toList == key.toList) = none := List.find?_eq_none.2 (fun x hx he => lt_ne (h.top x hx) (key_eq.1 he).symm)
  rw [List.find?_append, List.find?_append, ha, hb]
  simp
theorem SortE.put {l : List En} (h : SortE l) (key val : ByteArray) : SortE (putE l key val) := by
  unfold SortE putE
  rw [List.pairwise_append]
  refine ⟨h.filter _, ?_, fun a ha b hb => ?_⟩
  · rw [List.pairwise_cons]
    exact ⟨fun b hb => (List.mem_filter.1 hb).2, h.filter _⟩
  · have h1 := (List.mem_filter.1 ha).2
    rcases List.mem_cons.1 hb with rfl | hb
    · exact h1
    · exact lt_trans h1 (List.mem_filter.1 hb).2
theorem SortE.del {l : List En} (h : SortE l) (key : ByteArray) : SortE (delE l key) := by
  unfold SortE delE
  rw [List.pairwise_append]
  exact ⟨h.filter _, h.filter _, fun a ha b hb => lt_trans (List.mem_filter.1 ha).2 (List.mem_filter.1 hb).2⟩
theorem delE_len (l : List En) (key : ByteArray) : (delE l key).length ≤ l.length := by
  unfold delE
  rw [List.length_append]
  induction l with
  | nil => simp
  | cons x l ih =>
    rw [List.filter_cons, List.filter_cons]
    cases h1 : lt x.1 key with
    | true => rw [lt_asymm h1]; simp; omega
    | false => cases h2 : lt key x.1 <;> simp <;> omega
theorem putE_len (l : List En) (key val : ByteArray) : (putE l key val).length ≤ l.length + 1 := by
  have h1 := delE_len l key
  have h2 : (putE l key val).length = (delE l key).length + 1 := by
    unfold putE delE
    rw [List.length_append, List.length_append, List.length_cons, Nat.add_assoc]
  omega
theorem delE_self {l : List En} {key : ByteArray} (h : SortE l) (hn : getE l key = none) : delE l key = l := by
  induction l with
  | nil => rfl
  | cons x l ih =>
    have hx : x.1 ≠ key := fun e => by
      unfold getE at hn
      rw [List.find?_cons, key_eq.2 e] at hn
      simp at hn
    have hn' : getE l key = none := by
      unfold getE at hn ⊢
      rw [List.find?_cons] at hn
      rw [show (x.1.toList == key.toList) = false from by rw [Bool.eq_false_iff]; exact fun h => hx (key_eq.1 h)] at hn
      exact hn
    have h2 := List.pairwise_cons.1 h
    have ih := ih h2.2 hn'
    unfold delE at ih ⊢
    rw [List.filter_cons, List.filter_cons]
    cases h1 : lt x.1 key with
    | true => rw [lt_asymm h1]; simp; exact ih
    | false =>
      have h3 : lt key x.1 = true := by
        cases h3 : lt key x.1 with
        | true => rfl
        | false => exact absurd (lt_tri h1 h3) hx
      rw [h3]
      have h4 : ∀ y ∈ l, lt key y.1 = true := fun y hy => lt_trans h3 (h2.1 y hy)
      rw [filter_none (l := l) (p := fun x => lt x.1 key) (fun y hy => lt_asymm (h4 y hy)), filter_all h4]
      simp

/-! ### a key's way -/
theorem take_drop_at {α : Type} {l : List α} {i : Nat} (h : i < l.length) : l = l.take i ++ ([l[i]] ++ l.drop (i + 1)) := by
  simp
theorem placeF_low {l : List It} {key : ByteArray} {q : Nat} (hq : q < placeF l key) : ∃ h : q < l.length, lt l[q].key key = true := by
  have hle := placeF_le l key
  have hql : q < l.length := by omega
  refine ⟨hql, ?_⟩
  unfold placeF at hq
  have h1 : (l.takeWhile fun x => lt x.key key)[q] = l[q]'hql := List.IsPrefix.getElem (List.takeWhile_prefix _) hq
  have h2 : (l.takeWhile fun x => lt x.key key)[q] ∈ l.takeWhile fun x => lt x.key key := List.getElem_mem _
  have h3 := List.all_takeWhile (p := fun x : It => lt x.key key) (l := l)
  rw [List.all_eq_true] at h3
  rw [← h1]
  exact h3 _ h2
theorem placeF_stop {l : List It} {key : ByteArray} (h : placeF l key < l.length) : lt l[placeF l key].key key = false := by
  induction l with
  | nil => simp at h
  | cons x l ih =>
    cases hx : lt x.key key with
    | true =>
      have e : placeF (x :: l) key = placeF l key + 1 := by unfold placeF; rw [List.takeWhile_cons, if_pos hx]; rfl
      simp only [e, List.getElem_cons_succ]
      exact ih (by rw [e] at h; simpa using h)
    | false =>
      have e : placeF (x :: l) key = 0 := by unfold placeF; rw [List.takeWhile_cons, if_neg (by rw [hx]; decide)]; rfl
      simp only [e, List.getElem_cons_zero]
      exact hx
theorem foundF_iff {l : List It} {key : ByteArray} : foundF l key = true ↔ ∃ h : placeF l key < l.length, l[placeF l key].key = key := by
  unfold foundF
  by_cases h : placeF l key < l.length
  · rw [List.getElem?_eq_getElem h]
    dsimp only
    rw [key_eq]
    exact ⟨fun e => ⟨h, e⟩, fun ⟨_, e⟩ => e⟩
  · rw [List.getElem?_eq_none (by omega)]
    dsimp only
    exact ⟨fun e => (by cases e), fun ⟨h', _⟩ => absurd h' h⟩
theorem placeF_top {l : List It} {key : ByteArray} (hr : Rise l) {q : Nat} (hq : q < l.length) (h : placeF l key ≤ q) (hf : foundF l key = false ∨ placeF l key < q) : lt key l[q].key = true := by
  have hp : placeF l key < l.length := by omega
  have h0 := placeF_stop hp
  by_cases hpq : placeF l key = q
  · rcases hf with hf | hf
    · have hne : l[placeF l key].key ≠ key := fun e => by rw [foundF_iff.2 ⟨hp, e⟩] at hf; cases hf
      cases h1 : lt key l[placeF l key].key with
      | true => simpa [hpq] using h1
      | false => exact absurd (lt_tri h0 h1) hne
    · omega
  · have h2 := rise_at hr (p := placeF l key) hq (by omega)
    exact lt_of_le h0 h2
theorem ents_split (S : StS) (D : DevS) (lv : Nat) {l : List It} {i : Nat} (h : i < l.length) : entsF S D lv l = entsF S D lv (l.take i) ++ (itE S D lv l[i] ++ entsF S D lv (l.drop (i + 1))) := by
  have := congrArg (entsF S D lv) (take_drop_at h)
  rw [entsF_append S D lv (l.take i), entsF_append S D lv [l[i]], entsF_one] at this
  exact this
/-- where a key's way goes -/
theorem wayF_ok {l : List It} {key : ByteArray} (hr : Rise l) (hl : l ≠ []) : wayF l key < l.length ∧ (0 < wayF l key → ∃ h : wayF l key < l.length, lt key l[wayF l key].key = false) ∧ ∀ q (hq : q < l.length), wayF l key < q → lt key l[q].key = true := by
  have hpos : 0 < l.length := List.length_pos_iff.2 hl
  have hle := placeF_le l key
  unfold wayF
  cases hf : foundF l key with
  | true =>
    obtain ⟨h1, h2⟩ := foundF_iff.1 hf
    rw [if_pos rfl]
    exact ⟨h1, fun _ => ⟨h1, by rw [h2]; exact lt_irrefl _⟩, fun q hq hpq => placeF_top hr hq (by omega) (.inr hpq)⟩
  | false =>
    rw [if_neg (by decide)]
    refine ⟨by omega, fun h0 => ⟨by omega, ?_⟩, fun q hq hpq => placeF_top hr hq (by omega) (.inl hf)⟩
    obtain ⟨h1, h2⟩ := placeF_low (l := l) (key := key) (q := placeF l key - 1) (by omega)
    exact lt_asymm h2
/-- the entries ahead of a way, and behind it -/
theorem way_apart {S : StS} {D : DevS} {lv : Nat} {l : List It} {key : ByteArray} (h : OkF S D lv l) (hs : SortE (entsF S D lv l)) (hl : l ≠ []) :
    Apart key (entsF S D lv (l.take (wayF l key))) (entsF S D lv (l.drop (wayF l key + 1))) := by
  have hr := rise_of h hs
  obtain ⟨hi, h1, h2⟩ := wayF_ok hr hl (key := key)
  obtain ⟨i, hie⟩ : ∃ i, i = wayF l key := ⟨_, rfl⟩
  rw [← hie] at hi h1 h2 ⊢
  clear hie
  constructor
  · intro x hx
    have hi0 : 0 < i := by
      rcases Nat.eq_zero_or_pos i with h0 | h0
      · subst h0; simp [entsF] at hx
      · exact h0
    obtain ⟨_, h3⟩ := h1 hi0
    refine lt_lt_of ?_ h3
    rw [ents_split S D lv hi] at hs
    obtain ⟨v, t, e⟩ := itE_head lv l[i] (h _ (List.getElem_mem _))
    refine (List.pairwise_append.1 hs).2.2 x hx (l[i].key, v) ?_
    rw [e]
    simp
  · intro x hx
    obtain ⟨y, hy, hxy⟩ := List.mem_flatMap.1 hx
    obtain ⟨q, hq, rfl⟩ := List.mem_iff_getElem.1 hy
    rw [List.length_drop] at hq
    rw [List.getElem_drop] at hxy
    have h3 := h2 (i + 1 + q) (by omega) (by omega)
    obtain ⟨v, t, e⟩ := itE_head lv _ (h _ (List.getElem_mem (show i + 1 + q < l.length by omega)))
    have hs1 := (List.pairwise_flatMap.1 hs).1 _ (List.getElem_mem (show i + 1 + q < l.length by omega))
    rw [e] at hxy hs1
    rcases List.mem_cons.1 hxy with rfl | hxy
    · exact h3
    · exact lt_trans h3 ((List.pairwise_cons.1 hs1).1 x hxy)
/-- the entries of a leaf about a key's place -/
theorem place_apart {S : StS} {D : DevS} {l : List It} {key : ByteArray} (hr : Rise l) :
    Apart key (entsF S D 0 (l.take (placeF l key))) (entsF S D 0 (l.drop (placeF l key + if foundF l key = true then 1 else 0))) := by
  obtain ⟨d, hd⟩ : ∃ d, d = placeF l key + (if foundF l key = true then 1 else 0) := ⟨_, rfl⟩
  rw [← hd]
  have hrest : ∀ q (hq : q < l.length - d), lt key (l[d + q]'(by omega)).key = true := fun q hq => by
    cases hf : foundF l key with
    | true => rw [hf, if_pos rfl] at hd; exact placeF_top hr (by omega) (by omega) (.inr (by omega))
    | false => rw [hf, if_neg (by decide)] at hd; exact placeF_top hr (by omega) (by omega) (.inl hf)
  constructor
  · intro x hx
    obtain ⟨y, hy, hxy⟩ := List.mem_flatMap.1 hx
    obtain ⟨q, hq, rfl⟩ := List.mem_iff_getElem.1 hy
    rw [List.length_take] at hq
    rw [List.getElem_take] at hxy
    obtain ⟨_, h1⟩ := placeF_low (l := l) (key := key) (q := q) (by omega)
    simp [itE] at hxy
    subst hxy
    exact h1
  · intro x hx
    obtain ⟨y, hy, hxy⟩ := List.mem_flatMap.1 hx
    obtain ⟨q, hq, rfl⟩ := List.mem_iff_getElem.1 hy
    rw [List.length_drop] at hq
    rw [List.getElem_drop] at hxy
    simp [itE] at hxy
    subst hxy
    exact hrest q hq
/-- what Get finds below items -/
theorem getF_ok {S : StS} {D : DevS} (key : ByteArray) : ∀ (f : Nat) (l : List It), OkF S D f l → SortE (entsF S D f l) → l ≠ [] → getF S D key f l = .ok (getE (entsF S D f l) key)
  | 0, l, h, hs, hl => by
    unfold getF
    have hr := rise_of h hs
    have ha := place_apart (S := S) (D := D) (key := key) hr
    cases hf : foundF l key with
    | true =>
      obtain ⟨h1, h2⟩ := foundF_iff.1 hf
      rw [hf, if_pos rfl] at ha
      rw [if_pos rfl, List.getElem?_eq_getElem h1]
      have := ha.get [(l[placeF l key].key, l[placeF l key].val)]
      rw [show entsF S D 0 (l.take (placeF l key)) ++ ([(l[placeF l key].key, l[placeF l key].val)] ++ entsF S D 0 (l.drop (placeF l key + 1))) = entsF S D 0 l from (ents_split S D 0 h1).symm] at this
      rw [this]
      simp [getE, h2]
    | false =>
      rw [hf, if_neg (by decide)] at ha
      rw [if_neg (by decide)]
      have := ha.get []
      rw [Nat.add_zero, List.nil_append, ← entsF_append, List.take_append_drop] at this
      rw [this]
      rfl
  | f + 1, l, h, hs, hl => by
    have ha := way_apart h hs hl (key := key)
    have hi := (wayF_ok (rise_of h hs) hl (key := key)).1
    obtain ⟨i, hie⟩ : ∃ i, i = wayF l key := ⟨_, rfl⟩
    unfold getF
    rw [← hie] at ha hi ⊢
    rw [List.getElem?_eq_getElem hi]
    obtain ⟨n, h1, h2, h3, h4, h5, h6, h7, _⟩ := (h l[i] (List.getElem_mem _)).succ
    have hb : belowF S D (f + 1) l[i].kid = .ok n := by unfold belowF; rw [h1]; exact if_pos (by omega)
    have he : entsF S D (f + 1) l = entsF S D (f + 1) (l.take i) ++ (entsF S D f n.items ++ entsF S D (f + 1) (l.drop (i + 1))) := by
      rw [ents_split S D (f + 1) hi, h7]
    dsimp only [Option.getD_some]
    rw [hb]
    dsimp only
    rw [getF_ok key f n.items h5 (by rw [he] at hs; exact (List.pairwise_append.1 (List.pairwise_append.1 hs).2.1).1) (fun e => by rw [e] at h3; simp at h3), he, ha.get]
end Go.Proofs.YtadmecjdihfmeaaGreat.Tre

/- Layer 7 in plain Lean: no block is there for nobody. -/
namespace Go.Proofs.YtadmecjdihfmeaaGreat.Tre
set_option linter.unusedVariables false
set_option linter.unusedSimpArgs false
open Go.RowKit Go.Proofs.YtadmecjdihfmeaaGreat.Mem Go.Proofs.YtadmecjdihfmeaaGreat.Oct Go.Proofs.YtadmecjdihfmeaaGreat.Dev Go.Proofs.YtadmecjdihfmeaaGreat.Sto

/-- what nobody names and nobody holds is one of those -/
def Clean (S : StS) (X : List Int) : Prop := ∀ i, S.has i = true → (S.cel i).named = 0 → (S.cel i).held = 0 → i ∈ X
/-- what is held is one of those -/
def HeldIn (S : StS) (R : List Int) : Prop := ∀ i, S.has i = true → (S.cel i).held ≠ 0 → i ∈ R
theorem Clean.mono {S : StS} {X Y : List Int} (h : Clean S X) (k : ∀ x ∈ X, x ∈ Y) : Clean S Y := fun i h1 h2 h3 => k i (h i h1 h2 h3)
theorem HeldIn.mono {S : StS} {X Y : List Int} (h : HeldIn S X) (k : ∀ x ∈ X, x ∈ Y) : HeldIn S Y := fun i h1 h2 => k i (h i h1 h2)
theorem set_has {S : StS} {i j : Int} {c : Cel} (h : j ≠ i) : (S.setC i (some c)).has j = S.has j := by
  unfold StS.has StS.setC; dsimp only; rw [upd_other _ _ _ h]
theorem set_cel {S : StS} {i j : Int} {c : Cel} (h : j ≠ i) : (S.setC i (some c)).cel j = S.cel j := by
  unfold StS.cel StS.setC; dsimp only; rw [upd_other _ _ _ h]
/-- what is loose is such -/
def Loose (S : StS) (P : Int → Prop) : Prop := ∀ i, S.has i = true → (S.cel i).named = 0 → (S.cel i).held = 0 → P i
theorem Loose.mono {S : StS} {P Q : Int → Prop} (h : Loose S P) (k : ∀ i, P i → Q i) : Loose S Q := fun i h1 h2 h3 => k i (h i h1 h2 h3)
theorem Saved.loose {n m : Nat} {S : StS} {D : DevS} {lv : Nat} {l : List It} {r : Ch It} (h : Saved n m S D lv l r) (hw : WF n S []) {P : Int → Prop} (hk : ∀ k ∈ Nd.kids ⟨lv, l⟩, S.has k = true) (hc : Loose S (fun i => P i ∨ i ∈ Nd.kids ⟨lv, l⟩)) : Loose r.st (fun i => P i ∨ i = r.out.kid) := by
  intro i h1 h2 h3
  by_cases hi : i = r.out.kid
  · exact .inr hi
  · rw [h.st] at h1 h2 h3
    rw [set_has hi, names_has _ S hk] at h1
    rw [set_cel hi] at h2 h3
    obtain ⟨e1, _, e3, _⟩ := names_cel S i (Nd.kids ⟨lv, l⟩)
    rw [e1] at h2
    rw [e3] at h3
    obtain ⟨c, hci⟩ := has_iff.1 h1
    have hcount : (S.cel i).named = 0 ∧ (Nd.kids ⟨lv, l⟩).count i = 0 := by
      have hn := hw.named i c hci
      rw [cel_some hci] at h2 ⊢
      omega
    rcases hc i h1 hcount.1 h3 with h4 | h4
    · exact .inl h4
    · exact absurd hcount.2 (by have := List.count_pos_iff.2 h4; omega)
theorem Saved.heldIn {n m : Nat} {S : StS} {D : DevS} {lv : Nat} {l : List It} {r : Ch It} (h : Saved n m S D lv l r) {R : List Int} (hk : ∀ k ∈ Nd.kids ⟨lv, l⟩, S.has k = true) (hR : HeldIn S R) : HeldIn r.st R := by
  intro i h1 h2
  rw [h.st] at h1 h2
  by_cases hi : i = r.out.kid
  · subst hi
    exfalso
    apply h2
    unfold StS.cel StS.setC
    dsimp only
    rw [upd_same]; rfl
  · rw [set_has hi, names_has _ S hk] at h1
    rw [set_cel hi, (names_cel S i _).2.2.1] at h2
    exact hR i h1 h2
/-- what goes leaves nothing loose behind -/
theorem gone_clean {n : Nat} : ∀ (f : Nat) (S : StS) (i : Int) (pend X : List Int), WF n S pend → num S.cells n ≤ f → (∀ j, S.has j = true → (S.cel j).named = 0 → (S.cel j).held = 0 → j ∈ X ∨ j = i) → Clean (S.goneF f i) X
  | 0, S, i, pend, X, h, hf, hc => by
    intro j h1 h2 h3
    exfalso
    have h1' : S.has j = true := h1
    obtain ⟨c, hcj⟩ := has_iff.1 h1'
    obtain ⟨q, rfl, hq⟩ := dom_nat h hcj
    have := num_pos (f := S.cells) n q hq h1'
    omega
  | f + 1, S, i, pend, X, h, hf, hc => by
    unfold StS.goneF
    cases hci : S.cells i with
    | none =>
      dsimp only
      intro j h1 h2 h3
      rcases hc j h1 h2 h3 with h4 | h4
      · exact h4
      · subst h4; rw [StS.has, hci] at h1; cases h1
    | some c =>
      dsimp only
      by_cases hl : c.named + c.held = 0
      · rw [if_pos hl]
        have h1 := h.gone hci hl
        have hd := h.dom i c hci
        have hnum : num (S.setC i none).cells n + 1 = num S.cells n := by
          have := num_upd (f := S.cells) (j := i) (o := none) n (by omega) hd.2
          rw [hci] at this
          simpa [StS.setC] using this
        have key : ∀ (ks : List Int) (T : StS), WF n T (ks ++ pend) → num T.cells n ≤ f → Clean T X → Clean (ks.foldl (fun T k => T.name k (-1) |>.goneF f k) T) X := by
          intro ks
          induction ks with
          | nil => intro T hT hn hx; exact hx
          | cons k ks ih =>
            intro T hT hn hx
            have hk := hT.pend k (by simp)
            have h2 := WF.name (k := k) (pend := ks ++ pend) hT
            have hnn : num (T.name k (-1)).cells n = num T.cells n := name_num hk
            have h3 := gone_wf f (T.name k (-1)) k (ks ++ pend) h2 (by omega)
            refine ih _ h3.1 (by show num (StS.goneF f (T.name k (-1)) k).cells n ≤ f; omega) (gone_clean f (T.name k (-1)) k (ks ++ pend) X h2 (by omega) (fun j g1 g2 g3 => ?_))
            by_cases hjk : j = k
            · exact .inr hjk
            · left
              obtain ⟨e1, _, e3, _⟩ := name_cel T k j (-1)
              rw [if_neg hjk] at e1
              rw [name_has hk] at g1
              exact hx j g1 (by omega) (by omega)
        refine key c.kids (S.setC i none) h1 (by omega) (fun j g1 g2 g3 => ?_)
        have hji : j ≠ i := fun e => by subst e; simp [StS.has, StS.setC, upd_same] at g1
        have e1 : (S.setC i none).has j = S.has j := by unfold StS.has StS.setC; dsimp only; rw [upd_other _ _ _ hji]
        have e2 : (S.setC i none).cel j = S.cel j := by unfold StS.cel StS.setC; dsimp only; rw [upd_other _ _ _ hji]
        rw [e1] at g1
        rw [e2] at g2 g3
        rcases hc j g1 g2 g3 with h4 | h4
        · exact h4
        · exact absurd h4 hji
      · rw [if_neg hl]
        intro j h1 h2 h3
        rcases hc j h1 h2 h3 with h4 | h4
        · exact h4
        · subst h4
          rw [cel_some hci] at h2 h3
          omega
/-- hold: what is held more -/
theorem hold_clean {S : StS} {i : Int} {X : List Int} (hi : S.has i = true) (hh : 0 ≤ (S.cel i).held) (h : Clean S (i :: X)) : Clean (S.hold i 1) X ∧ ∀ {R : List Int}, HeldIn S R → HeldIn (S.hold i 1) (i :: R) := by
  constructor
  · intro j h1 h2 h3
    by_cases hji : j = i
    · subst hji
      have : ((S.hold j 1).cel j).held = (S.cel j).held + 1 := by unfold StS.hold StS.setC StS.cel; dsimp only; rw [upd_same]; rfl
      omega
    · unfold StS.hold at h1 h2 h3
      rw [set_has hji] at h1
      rw [set_cel hji] at h2 h3
      rcases List.mem_cons.1 (h j h1 h2 h3) with h4 | h4
      · exact absurd h4 hji
      · exact h4
  · intro R hR j h1 h2
    by_cases hji : j = i
    · subst hji; simp
    · unfold StS.hold at h1 h2
      rw [set_has hji] at h1
      rw [set_cel hji] at h2
      simp [hR j h1 h2]
theorem drop_clean {n : Nat} {S : StS} {i : Int} {X : List Int} (hw : WF n S []) (hh : 1 ≤ (S.cel i).held) (h : Clean S X) : Clean (S.drop n i) X := by
  have hi : S.has i = true := by
    cases hc : S.cells i with
    | some d => rw [StS.has, hc]; rfl
    | none =>
      have : S.cel i = noCel := by rw [StS.cel, hc]; rfl
      rw [this] at hh
      exact absurd hh (by decide)
  unfold StS.drop
  rw [if_neg (by omega)]
  have hw2 := hw.hold hi (by_ := -1) (by obtain ⟨c, hc⟩ := has_iff.1 hi; rw [cel_some hc] at hh ⊢; have := hw.held i c hc; omega)
  refine gone_clean n _ i [] X hw2 (num_le _ _) (fun j h1 h2 h3 => ?_)
  by_cases hji : j = i
  · exact .inr hji
  · left
    unfold StS.hold at h1 h2 h3
    rw [set_has hji] at h1
    rw [set_cel hji] at h2 h3
    exact h j h1 h2 h3
theorem gone_held {n : Nat} {S S' : StS} (h : Fade S S') {R : List Int} (hR : HeldIn S R) : HeldIn S' R := by
  intro j h1 h2
  obtain ⟨c', hc'⟩ := has_iff.1 h1
  obtain ⟨c, hc, _, _, e⟩ := h.cells j c' hc'
  rw [cel_some hc', e] at h2
  exact hR j (has_iff.2 ⟨c, hc⟩) (by rw [cel_some hc]; exact h2)
/-- nothing is swept where nothing is loose -/
theorem live_has {n : Nat} {S : StS} : ∀ i ∈ S.live n, S.has i = true := by
  intro i hi
  unfold StS.live at hi
  simpa using (List.mem_filter.1 hi).2
theorem sweep_clean {n : Nat} {S : StS} (hw : WF n S []) (h : Clean S []) : S.sweep n = S := by
  unfold StS.sweep
  have : ∀ l : List Int, l.foldl (fun T i => T.goneF n i) S = S := by
    intro l
    induction l with
    | nil => rfl
    | cons i l ih =>
      rw [List.foldl_cons]
      have e : S.goneF n i = S := by
        cases hc : S.cells i with
        | none => exact goneF_none hc n
        | some c =>
          refine goneF_stay hc (fun hz => ?_) n
          have h1 := hw.held i c hc
          have h2 := hw.named i c hc
          have := h i (has_iff.2 ⟨c, hc⟩) (by rw [cel_some hc]; omega) (by rw [cel_some hc]; omega)
          cases this
      rw [e]
      exact ih
  exact this _
theorem named_by {f : Int → Option Cel} {i : Int} : ∀ n : Nat, cnt f i n ≠ 0 → ∃ (j : Nat) (c : Cel), j < n ∧ f (j : Int) = some c ∧ i ∈ c.kids
  | 0, h => absurd rfl h
  | n + 1, h => by
    by_cases h0 : cnt f i n = 0
    · cases hc : f (n : Int) with
      | none => exact absurd (by simp only [cnt, h0, kc, hc]) h
      | some c =>
        refine ⟨n, c, by omega, hc, List.count_pos_iff.1 ?_⟩
        simp only [cnt, h0, kc, hc] at h
        omega
    · obtain ⟨j, c, hj, hc, hk⟩ := named_by n h0
      exact ⟨j, c, by omega, hc, hk⟩
/-- what is there is reached from what is held, or loose -/
theorem reach_all {n : Nat} {S : StS} (hw : WF n S []) {P : Int → Prop} (h1 : ∀ i, S.has i = true → (S.cel i).held ≠ 0 → P i) (h2 : ∀ i, S.has i = true → (S.cel i).named = 0 → (S.cel i).held = 0 → P i) (h3 : ∀ j, S.has j = true → P j → ∀ k ∈ (S.cel j).kids, P k) : ∀ i, S.has i = true → P i := by
  have key : ∀ (d : Nat) (i : Int), S.has i = true → 64 - (S.cel i).high ≤ d → P i := by
    intro d
    induction d with
    | zero =>
      intro i hi hd
      obtain ⟨c, hc⟩ := has_iff.1 hi
      by_cases hh : (S.cel i).held = 0
      · by_cases hn : (S.cel i).named = 0
        · exact h2 i hi hn hh
        · exfalso
          have hnm := hw.named i c hc
          rw [cel_some hc] at hn hd
          obtain ⟨j, c', hj, hcj, hik⟩ := named_by n (show cnt S.cells i n ≠ 0 by simp at hnm; omega)
          have hb := hw.below _ c' i c hcj hik hc
          have hhi := hw.high _ c' hcj
          omega
      · exact h1 i hi hh
    | succ d ih =>
      intro i hi hd
      obtain ⟨c, hc⟩ := has_iff.1 hi
      by_cases hh : (S.cel i).held = 0
      · by_cases hn : (S.cel i).named = 0
        · exact h2 i hi hn hh
        · have hnm := hw.named i c hc
          rw [cel_some hc] at hn hd
          obtain ⟨j, c', hj, hcj, hik⟩ := named_by n (show cnt S.cells i n ≠ 0 by simp at hnm; omega)
          have hb := hw.below _ c' i c hcj hik hc
          have hhi := hw.high _ c' hcj
          have hjh : S.has (j : Int) = true := has_iff.2 ⟨c', hcj⟩
          have hPj := ih (j : Int) hjh (by rw [cel_some hcj]; omega)
          exact h3 _ hjh hPj i (by rw [cel_some hcj]; exact hik)
      · exact h1 i hi hh
  intro i hi
  obtain ⟨c, hc⟩ := has_iff.1 hi
  have := hw.high i c hc
  exact key 64 i hi (by rw [cel_some hc]; omega)
theorem num_list {f : Int → Option Cel} {n : Nat} {L : List Int} (h : ∀ i : Int, (f i).isSome = true → i ∈ L) : num f n ≤ L.length := by
  have e : ∀ m : Nat, num f m = ((List.range m).filter fun (j : Nat) => (f (j : Int)).isSome).length := by
    intro m
    induction m with
    | zero => rfl
    | succ m ih =>
      simp only [num, ih]
      rw [List.range_succ, List.filter_append, List.length_append]
      cases hm : (f (m : Int)).isSome <;> simp [hm]
  rw [e]
  have h1 : (((List.range n).filter fun (j : Nat) => (f (j : Int)).isSome).map fun (j : Nat) => (j : Int)).Nodup := by
    refine List.Pairwise.map _ (fun a b hab he => hab (by omega)) ((List.nodup_range).filter _)
  have h2 := h1.length_le_of_subset (l₂ := L) (fun x hx => by
    obtain ⟨j, hj, rfl⟩ := List.mem_map.1 hx
    exact h _ (List.mem_filter.1 hj).2)
  simpa using h2
end Go.Proofs.YtadmecjdihfmeaaGreat.Tre

/- Layer 7 in plain Lean: a change of a tree changes its entries so. -/
namespace Go.Proofs.YtadmecjdihfmeaaGreat.Tre
set_option linter.unusedVariables false
set_option linter.unusedSimpArgs false
open Go.RowKit Go.Proofs.YtadmecjdihfmeaaGreat.Mem Go.Proofs.YtadmecjdihfmeaaGreat.Oct Go.Proofs.YtadmecjdihfmeaaGreat.Dev Go.Proofs.YtadmecjdihfmeaaGreat.Sto

inductive Both {α β : Type} (R : α → β → Prop) : List α → List β → Prop
  | nil : Both R [] []
  | cons {a : α} {b : β} {l : List α} {m : List β} : R a b → Both R l m → Both R (a :: l) (b :: m)
/-- a store went on: k blocks more at most, what was there stays -/
structure Went (n m : Nat) (S : StS) (D : DevS) (S' : StS) (D' : DevS) (k : Nat) : Prop where
  run : Run n m S' D'
  keep : Kp S D S' D'
  free : S.freeN n ≤ S'.freeN n + k ∧ S'.freeN n ≤ S.freeN n
  held : ∀ R, HeldIn S R → HeldIn S' R
theorem Went.refl {n m : Nat} {S : StS} {D : DevS} (h : Run n m S D) (k : Nat) : Went n m S D S D k := ⟨h, Kp.refl S D, by omega, fun _ h => h⟩
theorem Went.trans {n m : Nat} {A B C : StS} {D E F : DevS} {j k : Nat} (h : Went n m A D B E j) (g : Went n m B E C F k) : Went n m A D C F (j + k) :=
  ⟨g.run, h.keep.trans g.keep, by have := h.free; have := g.free; omega, fun R hR => g.held R (h.held R hR)⟩
theorem Went.more {n m : Nat} {A B : StS} {D E : DevS} {j k : Nat} (h : Went n m A D B E j) (hk : j ≤ k) : Went n m A D B E k := ⟨h.run, h.keep, by have := h.free; omega, h.held⟩
/-- an item that stands for a node -/
structure ItNd (S : StS) (D : DevS) (lv : Nat) (x : It) (p : List It) : Prop where
  has : S.has x.kid = true
  high : (S.cel x.kid).high ≤ lv + 1
  load : loadF S D x.kid = .ok ⟨lv, p⟩
  key : headK p = x.key
  val : x.val = nil8
theorem ItNd.keep {S S' : StS} {D D' : DevS} {lv : Nat} {x : It} {p : List It} (h : ItNd S D lv x p) (k : Kp S D S' D') : ItNd S' D' lv x p :=
  ⟨k.has _ h.has, by rw [k.high _ h.has]; exact h.high, (k.load _ h.has).trans h.load, h.key, h.val⟩
theorem ItNd.ents {S : StS} {D : DevS} {lv : Nat} {x : It} {p : List It} (h : ItNd S D lv x p) : itE S D (lv + 1) x = entsF S D lv p := by
  unfold itE; rw [h.load]; rfl
theorem ItNd.ok {S : StS} {D : DevS} {lv : Nat} {x : It} {p : List It} (h : ItNd S D lv x p) (hp : 4 ≤ p.length) (ho : OkF S D lv p) : OkI S D (lv + 1) x :=
  ⟨h.has, h.high, _, h.load, rfl, hp, h.key, ho⟩
theorem highOf_le {S : StS} {b : Int} (hb : 0 ≤ b) : ∀ {l : List Int}, (∀ k ∈ l, (S.cel k).high ≤ b) → S.highOf l ≤ b := by
  intro l
  unfold StS.highOf
  have : ∀ (l : List Int) (a : Int), a ≤ b → (∀ k ∈ l, (S.cel k).high ≤ b) → l.foldl (fun h k => max h (S.cel k).high) a ≤ b := by
    intro l
    induction l with
    | nil => intro a ha _; exact ha
    | cons k l ih => intro a ha h; exact ih _ (by show max a (S.cel k).high ≤ b; have := h k (by simp); omega) (fun q hq => h q (by simp [hq]))
  exact this l 0 hb
theorem okF_kids {S : StS} {D : DevS} {lv : Nat} {l : List It} (h : OkF S D lv l) : ∀ k ∈ Nd.kids ⟨lv, l⟩, S.has k = true ∧ (S.cel k).high ≤ lv := by
  intro k hk
  unfold Nd.kids at hk
  split at hk
  · cases hk
  · rename_i h0
    obtain ⟨x, hx, rfl⟩ := List.mem_map.1 hk
    match lv, h0 with
    | f + 1, _ =>
      obtain ⟨_, _, _, _, _, _, _, _, _, h1, h2⟩ := (h x hx).succ
      exact ⟨h1, by exact_mod_cast h2⟩
    | 0, h0 => exact absurd rfl h0
theorem save_went {n m : Nat} {S : StS} {D : DevS} {lv : Nat} {l : List It} (h : Run n m S D) (hn : 8 ≤ n ∧ n ≤ 4096) (hok : NdOk ⟨lv, l⟩) (ho : OkF S D lv l) (hf : 0 < S.freeN n) :
    (saveF S D lv l).err = 0 ∧ Went n m S D (saveF S D lv l).st (saveF S D lv l).dv 1 ∧ ItNd (saveF S D lv l).st (saveF S D lv l).dv lv (saveF S D lv l).out l ∧ (∀ P : Int → Prop, Loose S (fun i => P i ∨ i ∈ Nd.kids ⟨lv, l⟩) → Loose (saveF S D lv l).st (fun i => P i ∨ i = (saveF S D lv l).out.kid)) ∧ (saveF S D lv l).out.kid ≠ 0 := by
  have hk := okF_kids ho
  have hlv : lv ≤ 20 := hok.level
  have hs := save_ok h hn hok (fun k hkk => ⟨(hk k hkk).1, by have := (hk k hkk).2; omega⟩) hf
  refine ⟨hs.err, ⟨hs.run, hs.keep, by have := hs.free; omega, fun R hR => hs.heldIn (fun k hkk => (hk k hkk).1) hR⟩, ⟨hs.there, ?_, hs.load, hs.key.symm, hs.val⟩, fun P hP => hs.loose h.inv.wf (fun k hkk => (hk k hkk).1) hP, fun h0 => ?_⟩
  · rw [hs.high]
    have := highOf_le (S := S) (b := lv) (by omega) (fun k hkk => (hk k hkk).2)
    omega
  · obtain ⟨c, hc⟩ := has_iff.1 hs.there
    have := (hs.run.inv.wf.dom _ c hc).1
    omega
theorem saves_went {n m : Nat} (hn : 8 ≤ n ∧ n ≤ 4096) (lv : Nat) : ∀ (ps : List (List It)) (S : StS) (D : DevS) (out : List It) (P : Int → Prop), Run n m S D → (∀ p ∈ ps, NdOk ⟨lv, p⟩ ∧ OkF S D lv p) → (ps.length : Int) ≤ S.freeN n →
    Loose S (fun i => P i ∨ ∃ p ∈ ps, i ∈ Nd.kids ⟨lv, p⟩) → ∃ new : List It, (savesF lv ps S D out).err = 0 ∧ (savesF lv ps S D out).out = out ++ new ∧ Went n m S D (savesF lv ps S D out).st (savesF lv ps S D out).dv ps.length ∧ Both (ItNd (savesF lv ps S D out).st (savesF lv ps S D out).dv lv) new ps ∧ Loose (savesF lv ps S D out).st (fun i => P i ∨ i ∈ new.map (·.kid))
  | [], S, D, out, P, h, _, _, hl => ⟨[], rfl, by simp [savesF], Went.refl h 0, .nil, hl.mono (fun i hi => by
      rcases hi with hi | ⟨p, hp, _⟩
      · exact .inl hi
      · cases hp)⟩
  | p :: ps, S, D, out, P, h, hp, hf, hl => by
    have h1 := hp p (by simp)
    simp only [List.length_cons] at hf
    obtain ⟨e1, w1, i1, l1, _⟩ := save_went h hn h1.1 h1.2 (by omega)
    obtain ⟨r, hr⟩ : ∃ r, r = saveF S D lv p := ⟨_, rfl⟩
    have hu : savesF lv (p :: ps) S D out = savesF lv ps r.st r.dv (out ++ [r.out]) := by
      rw [savesF, if_neg (by rw [e1]; decide), hr]
    rw [hu]
    rw [← hr] at e1 w1 i1 l1
    have hl2 := l1 (fun i => P i ∨ ∃ q ∈ ps, i ∈ Nd.kids ⟨lv, q⟩) (hl.mono (fun i hi => by
      rcases hi with hi | ⟨q, hq, hi⟩
      · exact .inl (.inl hi)
      · rcases List.mem_cons.1 hq with rfl | hq
        · exact .inr hi
        · exact .inl (.inr ⟨q, hq, hi⟩)))
    obtain ⟨new, e2, o2, w2, a2, l3⟩ := saves_went hn lv ps r.st r.dv (out ++ [r.out]) (fun i => P i ∨ i = r.out.kid) w1.run (fun q hq => ⟨(hp q (by simp [hq])).1, ((hp q (by simp [hq])).2.keep w1.keep).1⟩) (by have := w1.free; omega) (hl2.mono (fun i hi => by
      rcases hi with (hi | hi) | hi
      · exact .inl (.inl hi)
      · exact .inr hi
      · exact .inl (.inr hi)))
    refine ⟨r.out :: new, e2, by rw [o2]; simp, (w1.trans w2).more (by simp only [List.length_cons]; omega), .cons (i1.keep w2.keep) a2, l3.mono (fun i hi => ?_)⟩
    rcases hi with (hi | hi) | hi
    · exact .inl hi
    · right; simp [hi]
    · right; simp only [List.map_cons, List.mem_cons]; exact .inr hi
theorem SortE.parts {a b : List En} (h : SortE (a ++ b)) : SortE a ∧ SortE b := ⟨(List.pairwise_append.1 h).1, (List.pairwise_append.1 h).2.1⟩
/-- items that were laid -/
structure LaidOk (n m : Nat) (S : StS) (D : DevS) (lv : Nat) (l : List It) (r : Ch (List It)) : Prop where
  err : r.err = 0
  went : Went n m S D r.st r.dv 2
  fit : FitL (lv + 1) r.out
  ents : entsF r.st r.dv (lv + 1) r.out = entsF S D lv l
  one : l.length ≤ 8 → ∃ x, r.out = [x] ∧ ItNd r.st r.dv lv x l
  two : 8 < l.length → r.out.length = 2
  ok : 4 ≤ l.length → OkF r.st r.dv (lv + 1) r.out
  loose : ∀ P : Int → Prop, Loose S (fun i => P i ∨ i ∈ Nd.kids ⟨lv, l⟩) → Loose r.st (fun i => P i ∨ i ∈ r.out.map (·.kid))
theorem kids_append (lv : Nat) (a b : List It) : Nd.kids ⟨lv, a ++ b⟩ = Nd.kids ⟨lv, a⟩ ++ Nd.kids ⟨lv, b⟩ := by
  unfold Nd.kids; dsimp only; split <;> simp
theorem fit_of {S : StS} {D : DevS} {lv : Nat} {x : It} {p : List It} (h : ItNd S D lv x p) (hp : 1 ≤ p.length) (hf : FitL lv p) : FitX (lv + 1) x := by
  match p, hp with
  | y :: p, _ =>
    have := hf y (by simp)
    have hk : y.key = x.key := h.key
    exact ⟨by rw [← hk]; exact this.key, by rw [h.val]; show (0 : Nat) ≤ 300; omega, fun h0 => (by omega), fun _ => h.val⟩
theorem laid_ok {n m : Nat} {S : StS} {D : DevS} {lv : Nat} {l : List It} (h : Run n m S D) (hn : 8 ≤ n ∧ n ≤ 4096) (ho : OkF S D lv l) (hf : FitL lv l) (hs : SortE (entsF S D lv l)) (hl : 1 ≤ l.length ∧ l.length ≤ 16) (hlv : lv ≤ 20) (hfr : 2 ≤ S.freeN n) : LaidOk n m S D lv l (laidF S D lv l) := by
  by_cases h8 : 8 < l.length
  · have hpp : partsF l = [l.take (l.length / 2), l.drop (l.length / 2)] := by unfold partsF; rw [if_pos h8]
    have hsp : l = l.take (l.length / 2) ++ l.drop (l.length / 2) := (List.take_append_drop _ _).symm
    have hlen1 : (l.take (l.length / 2)).length = l.length / 2 := by rw [List.length_take]; omega
    have hlen2 : (l.drop (l.length / 2)).length = l.length - l.length / 2 := by rw [List.length_drop]
    obtain ⟨a, ha⟩ : ∃ a, a = l.take (l.length / 2) := ⟨_, rfl⟩
    obtain ⟨b, hb⟩ : ∃ b, b = l.drop (l.length / 2) := ⟨_, rfl⟩
    rw [← ha, ← hb] at hpp hsp
    rw [← ha] at hlen1
    rw [← hb] at hlen2
    clear ha hb
    have hoa : OkF S D lv a := ho.sub (fun x hx => by rw [hsp]; simp [hx])
    have hob : OkF S D lv b := ho.sub (fun x hx => by rw [hsp]; simp [hx])
    have hfa : FitL lv a := hf.sub (fun x hx => by rw [hsp]; simp [hx])
    have hfb : FitL lv b := hf.sub (fun x hx => by rw [hsp]; simp [hx])
    have hents : entsF S D lv l = entsF S D lv a ++ entsF S D lv b := by rw [← entsF_append, ← hsp]
    rw [hents] at hs
    have hsa := hs.parts.1
    have hsb := hs.parts.2
    have hna : NdOk ⟨lv, a⟩ := ⟨hlv, by show 1 ≤ a.length ∧ a.length ≤ 8; omega, itsOk_of hoa hfa hsa⟩
    have hnb : NdOk ⟨lv, b⟩ := ⟨hlv, by show 1 ≤ b.length ∧ b.length ≤ 8; omega, itsOk_of hob hfb hsb⟩
    have key : ∀ P : Int → Prop, Loose S (fun i => P i ∨ i ∈ Nd.kids ⟨lv, l⟩) → _ := fun P hP => saves_went hn lv [a, b] S D [] P h (fun p hp => by
      simp at hp
      rcases hp with rfl | rfl
      · exact ⟨hna, hoa⟩
      · exact ⟨hnb, hob⟩) (by simp; omega) (hP.mono (fun i hi => by
      rcases hi with hi | hi
      · exact .inl hi
      · rw [hsp, kids_append] at hi
        rcases List.mem_append.1 hi with hi | hi
        · exact .inr ⟨a, by simp, hi⟩
        · exact .inr ⟨b, by simp, hi⟩))
    have hr : laidF S D lv l = savesF lv [a, b] S D [] := by unfold laidF; rw [hpp]
    rw [hr]
    obtain ⟨new, e1, o1, w1, a1, _⟩ := key (fun _ => True) (fun i _ _ _ => .inl trivial)
    have hloose : ∀ P : Int → Prop, Loose S (fun i => P i ∨ i ∈ Nd.kids ⟨lv, l⟩) → Loose (savesF lv [a, b] S D []).st (fun i => P i ∨ i ∈ (savesF lv [a, b] S D []).out.map (·.kid)) := fun P hP => by
      obtain ⟨new', _, o2, _, _, l2⟩ := key P hP
      rw [o2, List.nil_append]
      exact l2
    rw [List.nil_append] at o1
    clear key hr hpp
    obtain ⟨r, hrr⟩ : ∃ r, r = savesF lv [a, b] S D [] := ⟨_, rfl⟩
    rw [← hrr] at e1 o1 w1 a1 hloose ⊢
    clear hrr
    match new, a1 with
    | [x, y], .cons hx (.cons hy .nil) =>
      have ka := hoa.keep w1.keep
      have kb := hob.keep w1.keep
      refine ⟨e1, w1, ?_, ?_, fun h0 => by omega, fun _ => by rw [o1]; rfl, fun _ => ?_, hloose⟩
      · rw [o1]
        intro z hz
        simp at hz
        rcases hz with rfl | rfl
        · exact fit_of hx (by omega) hfa
        · exact fit_of hy (by omega) hfb
      · rw [o1, entsF_cons, entsF_one, hx.ents, hy.ents, ka.2.1, kb.2.1, hents]
      · rw [o1]
        intro z hz
        simp at hz
        rcases hz with rfl | rfl
        · exact hx.ok (by omega) ka.1
        · exact hy.ok (by omega) kb.1
  · have hpp : partsF l = [l] := by unfold partsF; rw [if_neg h8]
    have hna : NdOk ⟨lv, l⟩ := ⟨hlv, by show 1 ≤ l.length ∧ l.length ≤ 8; omega, itsOk_of ho hf hs⟩
    have key : ∀ P : Int → Prop, Loose S (fun i => P i ∨ i ∈ Nd.kids ⟨lv, l⟩) → _ := fun P hP => saves_went hn lv [l] S D [] P h (fun p hp => by
      simp at hp
      subst hp
      exact ⟨hna, ho⟩) (by simp; omega) (hP.mono (fun i hi => by
      rcases hi with hi | hi
      · exact .inl hi
      · exact .inr ⟨l, by simp, hi⟩))
    have hr : laidF S D lv l = savesF lv [l] S D [] := by unfold laidF; rw [hpp]
    rw [hr]
    obtain ⟨new, e1, o1, w1, a1, _⟩ := key (fun _ => True) (fun i _ _ _ => .inl trivial)
    have hloose : ∀ P : Int → Prop, Loose S (fun i => P i ∨ i ∈ Nd.kids ⟨lv, l⟩) → Loose (savesF lv [l] S D []).st (fun i => P i ∨ i ∈ (savesF lv [l] S D []).out.map (·.kid)) := fun P hP => by
      obtain ⟨new', _, o2, _, _, l2⟩ := key P hP
      rw [o2, List.nil_append]
      exact l2
    rw [List.nil_append] at o1
    clear key hr hpp
    obtain ⟨r, hrr⟩ : ∃ r, r = savesF lv [l] S D [] := ⟨_, rfl⟩
    rw [← hrr] at e1 o1 w1 a1 hloose ⊢
    clear hrr
    match new, a1 with
    | [x], .cons hx .nil =>
      have ka := ho.keep w1.keep
      refine ⟨e1, w1.more (by simp), ?_, ?_, fun _ => ⟨x, o1, hx⟩, fun h0 => absurd h0 h8, fun h4 => ?_, hloose⟩
      · rw [o1]
        intro z hz
        simp at hz
        subst hz
        exact fit_of hx hl.1 hf
      · rw [o1, entsF_one, hx.ents, ka.2.1]
      · rw [o1]
        intro z hz
        simp at hz
        subst hz
        exact hx.ok h4 ka.1
end Go.Proofs.YtadmecjdihfmeaaGreat.Tre

/- Layer 7 in plain Lean: put and cut, Put and Del. -/
namespace Go.Proofs.YtadmecjdihfmeaaGreat.Tre
set_option linter.unusedVariables false
set_option linter.unusedSimpArgs false
open Go.RowKit Go.Proofs.YtadmecjdihfmeaaGreat.Mem Go.Proofs.YtadmecjdihfmeaaGreat.Oct Go.Proofs.YtadmecjdihfmeaaGreat.Dev Go.Proofs.YtadmecjdihfmeaaGreat.Sto

theorem swapF_len {l m : List It} {i j : Nat} (hi : i ≤ j) (hj : j ≤ l.length) : (swapF l i j m).length = i + m.length + (l.length - j) := by
  unfold swapF
  rw [List.length_append, List.length_append, List.length_take, List.length_drop]
  omega
theorem belowF_of {S : StS} {D : DevS} {f : Nat} {x : It} {n : Nd} (h : loadF S D x.kid = .ok n) (hl : n.level = f) : belowF S D (f + 1) x.kid = .ok n := by
  unfold belowF; rw [h]; exact if_pos (by omega)
theorem mem_kids {f : Nat} {l : List It} {i : Int} (h : i ∈ l.map (·.kid)) : i ∈ Nd.kids ⟨f + 1, l⟩ := by
  unfold Nd.kids; rw [if_neg (by show ¬ f + 1 = 0; omega)]; exact h
theorem okF_take {S : StS} {D : DevS} {lv : Nat} {l : List It} (h : OkF S D lv l) (i : Nat) : OkF S D lv (l.take i) := h.sub (fun x hx => List.mem_of_mem_take hx)
theorem okF_drop {S : StS} {D : DevS} {lv : Nat} {l : List It} (h : OkF S D lv l) (i : Nat) : OkF S D lv (l.drop i) := h.sub (fun x hx => List.mem_of_mem_drop hx)
theorem fitL_take {lv : Nat} {l : List It} (h : FitL lv l) (i : Nat) : FitL lv (l.take i) := h.sub (fun x hx => List.mem_of_mem_take hx)
theorem fitL_drop {lv : Nat} {l : List It} (h : FitL lv l) (i : Nat) : FitL lv (l.drop i) := h.sub (fun x hx => List.mem_of_mem_drop hx)
/-- some items in place of others, in a store that went on -/
theorem swap_ok {S S' : StS} {D D' : DevS} {lv : Nat} {l m : List It} {i j : Nat} (h : OkF S D lv l) (hf : FitL lv l) (hk : Kp S D S' D') (hm : OkF S' D' lv m) (hfm : FitL lv m) : OkF S' D' lv (swapF l i j m) ∧ FitL lv (swapF l i j m) ∧ entsF S' D' lv (swapF l i j m) = entsF S D lv (l.take i) ++ (entsF S' D' lv m ++ entsF S D lv (l.drop j)) := by
  have h1 := (okF_take h i).keep hk
  have h2 := (okF_drop h j).keep hk
  refine ⟨h1.1.append (hm.append h2.1), (fitL_take hf i).append (hfm.append (fitL_drop hf j)), ?_⟩
  unfold swapF
  rw [entsF_append, entsF_append, h1.2.1, h2.2.1]
/-- a key's value put below items -/
structure PutR (n m : Nat) (S : StS) (D : DevS) (f : Nat) (l : List It) (key val : ByteArray) (r : Ch (List It)) : Prop where
  err : r.err = 0
  went : Went n m S D r.st r.dv (2 * (f + 1))
  fit : FitL (f + 1) r.out
  ents : entsF r.st r.dv (f + 1) r.out = putE (entsF S D f l) key val
  len : r.out.length = 1 ∨ r.out.length = 2
  ok : 4 ≤ l.length ∨ r.out.length = 2 → OkF r.st r.dv (f + 1) r.out
  one : r.out.length = 1 → ∃ x p, r.out = [x] ∧ ItNd r.st r.dv f x p ∧ OkF r.st r.dv f p ∧ l.length ≤ p.length
  loose : ∀ P : Int → Prop, Loose S P → Loose r.st (fun i => P i ∨ i ∈ r.out.map (·.kid))
theorem LaidOk.put {n m : Nat} {S A : StS} {D E : DevS} {f k : Nat} {l L : List It} {key val : ByteArray} {r : Ch (List It)} (h : LaidOk n m A E f L r) (hw : Went n m S D A E k) (hk : k + 2 ≤ 2 * (f + 1)) (he : entsF A E f L = putE (entsF S D f l) key val) (ho : OkF A E f L) (hlen : l.length ≤ L.length) (hP : ∀ P : Int → Prop, Loose S P → Loose A (fun i => P i ∨ i ∈ Nd.kids ⟨f, L⟩)) : PutR n m S D f l key val r := by
  refine ⟨h.err, (hw.trans h.went).more hk, h.fit, by rw [h.ents, he], ?_, fun h4 => ?_, fun h1 => ?_, fun P hS => h.loose P (hP P hS)⟩
  · by_cases h8 : L.length ≤ 8
    · obtain ⟨x, hx, _⟩ := h.one h8
      rw [hx]; exact .inl rfl
    · exact .inr (h.two (by omega))
  · refine h.ok ?_
    rcases h4 with h4 | h4
    · omega
    · by_cases h8 : L.length ≤ 8
      · obtain ⟨x, hx, _⟩ := h.one h8
        rw [hx] at h4; simp at h4
      · omega
  · by_cases h8 : L.length ≤ 8
    · obtain ⟨x, hx, hi⟩ := h.one h8
      exact ⟨x, L, hx, hi, (ho.keep h.went.keep).1, hlen⟩
    · have := h.two (by omega); omega
theorem putF_ok {n m : Nat} (hn : 8 ≤ n ∧ n ≤ 4096) {key val : ByteArray} (hkey : rightK key = true) (hval : val.size ≤ 300) : ∀ (f : Nat) (S : StS) (D : DevS) (l : List It), Run n m S D → f ≤ 20 → OkF S D f l → FitL f l → SortE (entsF S D f l) → 1 ≤ l.length ∧ l.length ≤ 8 → 2 * (f + 1) ≤ S.freeN n → PutR n m S D f l key val (putF key val f S D l)
  | 0, S, D, l, h, hf, ho, hfl, hs, hl, hfr => by
    have hr := rise_of ho hs
    have ha := place_apart (S := S) (D := D) (key := key) hr
    have hple := placeF_le l key
    obtain ⟨p, hp⟩ : ∃ p, p = placeF l key := ⟨_, rfl⟩
    obtain ⟨q, hq⟩ : ∃ q, q = placeF l key + (if foundF l key = true then 1 else 0) := ⟨_, rfl⟩
    have hu : putF key val 0 S D l = laidF S D 0 (swapF l p q [⟨key, val, 0⟩]) := by rw [hp, hq]; rfl
    rw [hu]
    rw [← hq, ← hp] at ha
    have hpq : p ≤ q ∧ q ≤ l.length ∧ q ≤ p + 1 := by
      rw [hq, hp]
      cases hf : foundF l key with
      | true => obtain ⟨h1, _⟩ := foundF_iff.1 hf; simp; omega
      | false => simp; omega
    have hsw := swap_ok (m := [⟨key, val, 0⟩]) (i := p) (j := q) ho hfl (Kp.refl S D) (fun _ _ => trivial) (fun x hx => by
      simp at hx; subst hx; exact ⟨hkey, hval, fun _ => rfl, fun h0 => (by omega)⟩)
    have hlen := swapF_len (m := [⟨key, val, 0⟩]) hpq.1 hpq.2.1
    simp only [List.length_cons, List.length_nil] at hlen
    have hents : entsF S D 0 (swapF l p q [⟨key, val, 0⟩]) = putE (entsF S D 0 l) key val := by
      rw [hsw.2.2]
      have hmid : ∃ M, entsF S D 0 l = entsF S D 0 (l.take p) ++ (M ++ entsF S D 0 (l.drop q)) ∧ putE M key val = [(key, val)] := by
        cases hf : foundF l key with
        | true =>
          obtain ⟨h1, h2⟩ := foundF_iff.1 hf
          rw [hf, if_pos rfl, ← hp] at hq
          subst hq
          refine ⟨itE S D 0 (l[p]'(by omega)), ents_split S D 0 (by omega), ?_⟩
          subst hp
          simp [itE, putE, h2, lt_irrefl]
        | false =>
          rw [hf, if_neg (by decide), ← hp] at hq
          subst hq
          exact ⟨[], by rw [List.nil_append, ← entsF_append, List.take_append_drop], rfl⟩
      obtain ⟨M, h1, h2⟩ := hmid
      rw [h1, ha.put, h2]
      rfl
    refine (laid_ok h hn hsw.1 hsw.2.1 (by rw [hents]; exact hs.put key val) (by omega) hf (by omega)).put (Went.refl h 0) (by omega) hents hsw.1 (by omega) (fun P hP => hP.mono (fun i hi => .inl hi))
  | f + 1, S, D, l, h, hf, ho, hfl, hs, hl, hfr => by
    have hl0 : l ≠ [] := fun e => by rw [e] at hl; simp at hl
    have ha := way_apart ho hs hl0 (key := key)
    have hi := (wayF_ok (rise_of ho hs) hl0 (key := key)).1
    obtain ⟨i, hie⟩ : ∃ i, i = wayF l key := ⟨_, rfl⟩
    have hkid : (l[wayF l key]?.getD default) = l[wayF l key] := by rw [List.getElem?_eq_getElem hi]; rfl
    rw [putF, hkid]
    simp only [← hie] at ha hi ⊢
    obtain ⟨k, h1, h2, h3, h4, h5, h6, h7, h8, h9, h10⟩ := (ho l[i] (List.getElem_mem _)).succ
    rw [belowF_of h1 h2]
    dsimp only
    have hsp := ents_split S D (f + 1) hi
    rw [h7] at hsp
    have hsk : SortE (entsF S D f k.items) := by rw [hsp] at hs; exact hs.parts.2.parts.1
    have ih := putF_ok hn hkey hval f S D k.items h (by omega) h5 (by rw [← h2]; exact h6.its.fitL) hsk (by have := h6.len; omega) (by omega)
    obtain ⟨r, hr⟩ : ∃ r, r = putF key val f S D k.items := ⟨_, rfl⟩
    rw [← hr] at ih ⊢
    rw [if_neg (by rw [ih.err]; decide)]
    have hsw := swap_ok (m := r.out) (i := i) (j := i + 1) ho hfl ih.went.keep (ih.ok (.inl h3)) ih.fit
    have hlen := swapF_len (l := l) (m := r.out) (i := i) (j := i + 1) (by omega) (by omega)
    have hol := ih.len
    have hents : entsF r.st r.dv (f + 1) (swapF l i (i + 1) r.out) = putE (entsF S D (f + 1) l) key val := by
      rw [hsw.2.2, hsp, ha.put, ih.ents]
    refine (laid_ok ih.went.run hn hsw.1 hsw.2.1 (by rw [hents]; exact hs.put key val) (by omega) hf (by have := ih.went.free; omega)).put ih.went (by omega) hents hsw.1 (by omega) (fun P hP => (ih.loose P hP).mono (fun j hj => ?_))
    rcases hj with hj | hj
    · exact .inl hj
    · right
      refine mem_kids ?_
      unfold swapF
      simp only [List.map_append, List.mem_append]
      exact .inr (.inl hj)
/-- a key cut out of items -/
structure CutR (n m : Nat) (S : StS) (D : DevS) (f : Nat) (l : List It) (key : ByteArray) (r : Ch (Option (List It))) : Prop where
  err : r.err = 0
  went : Went n m S D r.st r.dv (2 * f)
  non : r.out = none → r.st = S ∧ r.dv = D ∧ getE (entsF S D f l) key = none
  fit : ∀ o, r.out = some o → FitL f o ∧ OkF r.st r.dv f o
  ents : ∀ o, r.out = some o → entsF r.st r.dv f o = delE (entsF S D f l) key
  len : ∀ o, r.out = some o → l.length ≤ o.length + 1 ∧ o.length ≤ l.length
  loose : ∀ o, r.out = some o → ∀ P : Int → Prop, Loose S P → Loose r.st (fun i => P i ∨ (0 < f ∧ i ∈ o.map (·.kid)))
theorem mendF_ok {n m : Nat} (hn : 8 ≤ n ∧ n ≤ 4096) {S A : StS} {D E : DevS} {f : Nat} {l L o : List It} {i j : Nat} {key : ByteArray} (hw : Went n m S D A E (2 * f)) (hf : f ≤ 20) (ho : OkF S D (f + 1) l) (hfl : FitL (f + 1) l) (hs : SortE (entsF S D (f + 1) l)) (hL : OkF A E f L) (hfL : FitL f L) (hij : i ≤ j ∧ j ≤ l.length) (hLl : 4 ≤ L.length ∧ L.length ≤ 16) (h8 : 8 < L.length → i + 2 ≤ j) (hj2 : j ≤ i + 2)
    (hents : entsF S D (f + 1) (l.take i) ++ (entsF A E f L ++ entsF S D (f + 1) (l.drop j)) = delE (entsF S D (f + 1) l) key) (hoL : ∀ x ∈ o, x ∈ L) (hP : ∀ P : Int → Prop, Loose S P → Loose A (fun i => P i ∨ (0 < f ∧ i ∈ o.map (·.kid)))) (hfr : 2 ≤ A.freeN n) (h1 : i < j) :
    CutR n m S D (f + 1) l key (mendF A E f l L i j) := by
  have hsL : SortE (entsF A E f L) := by
    have := hs.del key
    rw [← hents] at this
    exact this.parts.2.parts.1
  have hld := laid_ok hw.run hn hL hfL hsL (by omega) hf hfr
  have hu : mendF A E f l L i j = ⟨0, some (swapF l i j (laidF A E f L).out), (laidF A E f L).st, (laidF A E f L).dv⟩ := by
    unfold mendF
    rw [if_neg (fun e => by rw [e] at hLl; simp at hLl), if_neg (by rw [hld.err]; decide)]
  rw [hu]
  obtain ⟨r, hr⟩ : ∃ r, r = laidF A E f L := ⟨_, rfl⟩
  rw [← hr] at hld ⊢
  have hww := hw.trans hld.went
  have hsw := swap_ok (m := r.out) (i := i) (j := j) ho hfl hww.keep (hld.ok hLl.1) hld.fit
  have hlen := swapF_len (l := l) (m := r.out) hij.1 hij.2
  have hol : (L.length ≤ 8 ∧ r.out.length = 1) ∨ (8 < L.length ∧ r.out.length = 2) := by
    by_cases h8 : L.length ≤ 8
    · obtain ⟨x, hx, _⟩ := hld.one h8
      exact .inl ⟨h8, by rw [hx]; rfl⟩
    · exact .inr ⟨by omega, hld.two (by omega)⟩
  refine ⟨rfl, hww.more (by omega), fun e => (by cases e), fun o' e => ?_, fun o' e => ?_, fun o' e => ?_, fun o' e P hS => ?_⟩ <;> (injection e with e; subst e)
  · exact ⟨hsw.2.1, hsw.1⟩
  · show entsF r.st r.dv (f + 1) (swapF l i j r.out) = _
    rw [hsw.2.2, hld.ents, hents]
  · omega
  · refine (hld.loose P ((hP P hS).mono (fun q hq => ?_))).mono (fun q hq => ?_)
    · rcases hq with hq | ⟨h0, hq⟩
      · exact .inl hq
      · right
        unfold Nd.kids
        rw [if_neg (by show ¬ f = 0; omega)]
        obtain ⟨x, hx, rfl⟩ := List.mem_map.1 hq
        exact List.mem_map.2 ⟨x, hoL x hx, rfl⟩
    · rcases hq with hq | hq
      · exact .inl hq
      · right
        refine ⟨by omega, ?_⟩
        unfold swapF
        simp only [List.map_append, List.mem_append]
        exact .inr (.inl hq)
theorem cutF_ok {n m : Nat} (hn : 8 ≤ n ∧ n ≤ 4096) {key : ByteArray} : ∀ (f : Nat) (S : StS) (D : DevS) (l : List It), Run n m S D → f ≤ 20 → OkF S D f l → FitL f l → SortE (entsF S D f l) → 1 ≤ l.length ∧ l.length ≤ 8 → (0 < f → 2 ≤ l.length) → 2 * f ≤ S.freeN n → CutR n m S D f l key (cutF key f S D l)
  | 0, S, D, l, h, hf, ho, hfl, hs, hl, hl2, hfr => by
    have hr := rise_of ho hs
    have ha := place_apart (S := S) (D := D) (key := key) hr
    unfold cutF
    cases hfo : foundF l key with
    | true =>
      obtain ⟨h1, h2⟩ := foundF_iff.1 hfo
      rw [hfo, if_pos rfl] at ha
      rw [if_pos rfl]
      have hsw := swap_ok (m := []) (i := placeF l key) (j := placeF l key + 1) ho hfl (Kp.refl S D) (fun x hx => (by cases hx)) (fun x hx => (by cases hx))
      have hlen := swapF_len (l := l) (m := []) (i := placeF l key) (j := placeF l key + 1) (by omega) (by omega)
      simp only [List.length_nil] at hlen
      refine ⟨rfl, Went.refl h _, fun e => (by cases e), fun o' e => ?_, fun o' e => ?_, fun o' e => ?_, fun o' e P hS => hS.mono (fun i hi => .inl hi)⟩ <;> (injection e with e; subst e)
      · exact ⟨hsw.2.1, hsw.1⟩
      · show entsF S D 0 _ = _
        rw [hsw.2.2, ents_split S D 0 h1, ha.del]
        congr 1
        simp [itE, delE, h2, lt_irrefl, entsF]
      · omega
    | false =>
      rw [hfo, if_neg (by decide)] at ha
      rw [if_neg (by decide)]
      refine ⟨rfl, Went.refl h _, fun _ => ⟨rfl, rfl, ?_⟩, fun o' e => (by cases e), fun o' e => (by cases e), fun o' e => (by cases e), fun o' e => (by cases e)⟩
      have := ha.get []
      rw [Nat.add_zero, List.nil_append, ← entsF_append, List.take_append_drop] at this
      rw [this]
      rfl
  | f + 1, S, D, l, h, hf, ho, hfl, hs, hl, hl2, hfr => by
    have hl0 : l ≠ [] := fun e => by rw [e] at hl; simp at hl
    have ha := way_apart ho hs hl0 (key := key)
    have hi := (wayF_ok (rise_of ho hs) hl0 (key := key)).1
    obtain ⟨i, hie⟩ : ∃ i, i = wayF l key := ⟨_, rfl⟩
    have hkid : (l[wayF l key]?.getD default) = l[wayF l key] := by rw [List.getElem?_eq_getElem hi]; rfl
    rw [cutF, hkid]
    simp only [← hie] at ha hi ⊢
    obtain ⟨k, h1, h2, h3, h4, h5, h6, h7, h8, h9, h10⟩ := (ho l[i] (List.getElem_mem _)).succ
    rw [belowF_of h1 h2]
    dsimp only
    have hsp := ents_split S D (f + 1) hi
    rw [h7] at hsp
    have hsk : SortE (entsF S D f k.items) := by rw [hsp] at hs; exact hs.parts.2.parts.1
    have ih := cutF_ok hn (key := key) f S D k.items h (by omega) h5 (by rw [← h2]; exact h6.its.fitL) hsk (by have := h6.len; omega) (fun _ => by omega) (by omega)
    obtain ⟨r, hr⟩ : ∃ r, r = cutF key f S D k.items := ⟨_, rfl⟩
    rw [← hr] at ih ⊢
    rw [if_neg (by rw [ih.err]; decide)]
    cases hro : r.out with
    | none =>
      obtain ⟨e1, e2, e3⟩ := ih.non hro
      dsimp only
      refine ⟨ih.err, by rw [e1, e2]; exact Went.refl h _, fun _ => ⟨e1, e2, by rw [hsp, ha.get]; exact e3⟩, fun o' e => ?_, fun o' e => ?_, fun o' e => ?_, fun o' e => ?_⟩ <;> (rw [hro] at e; cases e)
    | some o =>
      dsimp only
      obtain ⟨hfo, hoo⟩ := ih.fit o hro
      have heo := ih.ents o hro
      have hlo := ih.len o hro
      have hk8 := h6.len.2
      have hfree := ih.went.free
      by_cases hj : o.length < 4 ∧ 1 < l.length
      · rw [if_pos hj]
        by_cases hi1 : i + 1 < l.length
        · obtain ⟨k2, a1, a2, a3, a4, a5, a6, a7, _, a9, _⟩ := (ho (l[i + 1]'hi1) (List.getElem_mem _)).succ
          have hok2 := a5.keep ih.went.keep
          have hld2 : loadF r.st r.dv (l[i + 1]'hi1).kid = .ok k2 := (ih.went.keep.load _ a9).trans a1
          have hjo : joinedF r.st r.dv (f + 1) l i o = .ok (o ++ k2.items, i, i + 2) := by
            unfold joinedF
            rw [if_pos hi1, List.getElem?_eq_getElem hi1]
            dsimp only [Option.getD_some]
            rw [belowF_of hld2 a2]
          rw [hjo]
          dsimp only
          have hk28 := a6.len.2
          have hsp2 : entsF S D (f + 1) (l.drop (i + 1)) = entsF S D f k2.items ++ entsF S D (f + 1) (l.drop (i + 2)) := by
            have := ents_split S D (f + 1) (l := l.drop (i + 1)) (i := 0) (by simp; omega)
            rw [List.getElem_drop] at this
            simp only [Nat.add_zero] at this
            rw [a7, List.take_zero, List.drop_drop] at this
            exact this
          refine mendF_ok hn (o := o) ih.went (by omega) ho hfl hs (hoo.append hok2.1) (hfo.append (by rw [← a2]; exact a6.its.fitL)) (by omega) (by rw [List.length_append]; omega) (fun _ => by omega) (by omega) ?_ (fun x hx => by simp [hx]) (fun P hP => ih.loose o hro P hP) (by omega) (by omega)
          rw [entsF_append, heo, hok2.2.1, hsp, ha.del, hsp2]
          simp
        · have hil : i + 1 = l.length := by omega
          have him : i - 1 < l.length := by omega
          obtain ⟨k2, a1, a2, a3, a4, a5, a6, a7, _, a9, _⟩ := (ho (l[i - 1]'him) (List.getElem_mem _)).succ
          have hok2 := a5.keep ih.went.keep
          have hld2 : loadF r.st r.dv (l[i - 1]'him).kid = .ok k2 := (ih.went.keep.load _ a9).trans a1
          have hjo : joinedF r.st r.dv (f + 1) l i o = .ok (k2.items ++ o, i - 1, i + 1) := by
            unfold joinedF
            rw [if_neg hi1, List.getElem?_eq_getElem him]
            dsimp only [Option.getD_some]
            rw [belowF_of hld2 a2]
          rw [hjo]
          dsimp only
          have hk28 := a6.len.2
          have hsp2 : entsF S D (f + 1) (l.take i) = entsF S D (f + 1) (l.take (i - 1)) ++ entsF S D f k2.items := by
            have := ents_split S D (f + 1) (l := l.take i) (i := i - 1) (by rw [List.length_take]; omega)
            rw [List.getElem_take, a7, List.take_take, List.drop_of_length_le (by rw [List.length_take]; omega)] at this
            rw [show min (i - 1) i = i - 1 by omega] at this
            rw [this]
            simp [entsF]
          refine mendF_ok hn (o := o) ih.went (by omega) ho hfl hs (hok2.1.append hoo) ((by rw [← a2]; exact a6.its.fitL : FitL f k2.items).append hfo) (by omega) (by rw [List.length_append]; omega) (fun _ => by omega) (by omega) ?_ (fun x hx => by simp [hx]) (fun P hP => ih.loose o hro P hP) (by omega) (by omega)
          rw [entsF_append, heo, hok2.2.1, hsp, ha.del, hsp2]
          simp
      · rw [if_neg hj]
        have h2l := hl2 (by omega)
        refine mendF_ok hn (o := o) ih.went (by omega) ho hfl hs hoo hfo (by omega) (by omega) (fun _ => by omega) (by omega) ?_ (fun x hx => hx) (fun P hP => ih.loose o hro P hP) (by omega) (by omega)
        rw [heo, hsp, ha.del]
end Go.Proofs.YtadmecjdihfmeaaGreat.Tre

/- Layer 7 in plain Lean: a tree that stands for a list; Put, Del, Get, Height. -/
namespace Go.Proofs.YtadmecjdihfmeaaGreat.Tre
set_option linter.unusedVariables false
set_option linter.unusedSimpArgs false
open Go.RowKit Go.Proofs.YtadmecjdihfmeaaGreat.Mem Go.Proofs.YtadmecjdihfmeaaGreat.Oct Go.Proofs.YtadmecjdihfmeaaGreat.Dev Go.Proofs.YtadmecjdihfmeaaGreat.Sto

/-- a root's node -/
structure RootN (S : StS) (D : DevS) (root : Int) (es : List En) (nd : Nd) : Prop where
  has : S.has root = true
  load : loadF S D root = .ok nd
  high : (S.cel root).high ≤ nd.level + 1
  two : 0 < nd.level → 2 ≤ nd.items.length
  ok : OkF S D nd.level nd.items
  ents : entsF S D nd.level nd.items = es
/-- a tree stands for entries -/
structure Tree (S : StS) (D : DevS) (root : Int) (es : List En) : Prop where
  sort : SortE es
  node : root ≠ 0 → ∃ nd, RootN S D root es nd
  nil : root = 0 → es = []
theorem Tree.keep {S S' : StS} {D D' : DevS} {root : Int} {es : List En} (h : Tree S D root es) (k : Kp S D S' D') : Tree S' D' root es :=
  ⟨h.sort, fun h0 => by
    obtain ⟨nd, hr⟩ := h.node h0
    have hk := hr.ok.keep k
    exact ⟨nd, k.has _ hr.has, (k.load _ hr.has).trans hr.load, by rw [k.high _ hr.has]; exact hr.high, hr.two, hk.1, by rw [hk.2.1]; exact hr.ents⟩, h.nil⟩
theorem RootN.nd {S : StS} {D : DevS} {root : Int} {es : List En} {nd : Nd} (h : RootN S D root es nd) : NdOk nd := (loadF_ok h.load).1
theorem RootN.ne {S : StS} {D : DevS} {root : Int} {es : List En} {nd : Nd} (h : RootN S D root es nd) : es ≠ [] := by
  have h1 := entsF_len h.ok
  have h2 := h.nd.len
  rw [h.ents] at h1
  intro e
  rw [e] at h1
  have : 0 < 4 ^ nd.level := Nat.pow_pos (by decide)
  have : 1 * 1 ≤ nd.items.length * 4 ^ nd.level := Nat.mul_le_mul h2.1 this
  simp at h1
  omega
/-- how high a tree is -/
theorem RootN.low {S : StS} {D : DevS} {root : Int} {es : List En} {nd : Nd} (h : RootN S D root es nd) : 0 < nd.level → 2 * 4 ^ nd.level ≤ es.length := by
  intro h0
  have h1 := entsF_len h.ok
  have h2 := h.two h0
  rw [h.ents] at h1
  have : 2 * 4 ^ nd.level ≤ nd.items.length * 4 ^ nd.level := Nat.mul_le_mul_right _ h2
  omega
theorem RootN.level {S : StS} {D : DevS} {root : Int} {es : List En} {nd : Nd} (h : RootN S D root es nd) (hl : es.length ≤ 1000) : nd.level ≤ 4 := by
  by_cases h5 : 5 ≤ nd.level
  · have h1 := h.low (by omega)
    have h2 : 4 ^ 5 ≤ 4 ^ nd.level := Nat.pow_le_pow_right (by decide) h5
    have h3 : (4 : Nat) ^ 5 = 1024 := rfl
    omega
  · omega
theorem RootN.blocks {S : StS} {D : DevS} {root : Int} {es : List En} {nd : Nd} (h : RootN S D root es nd) : 3 * (idsF S D nd.level nd.items).length + 1 ≤ es.length := by
  have h1 := idsF_len h.ok
  have h2 := h.nd.len
  rw [h.ents] at h1
  omega
theorem tree_of {S : StS} {D : DevS} {root : Int} {lv : Nat} {l : List It} (h1 : S.has root = true) (h2 : loadF S D root = .ok ⟨lv, l⟩) (h3 : (S.cel root).high ≤ lv + 1) (h4 : 0 < lv → 2 ≤ l.length) (h5 : OkF S D lv l) (hs : SortE (entsF S D lv l)) (h0 : root ≠ 0) : Tree S D root (entsF S D lv l) :=
  ⟨hs, fun _ => ⟨⟨lv, l⟩, h1, h2, h3, h4, h5, rfl⟩, fun e => absurd e h0⟩
theorem rightK_of {S : StS} {D : DevS} {root : Int} {es : List En} (h : Tree S D root es) {key : ByteArray} (hk : rightK key = false) : getE es key = none := by
  by_cases h0 : root = 0
  · rw [h.nil h0]; rfl
  · obtain ⟨nd, hr⟩ := h.node h0
    have hall : ∀ (lv : Nat) (x : It), OkI S D lv x → rightK x.key = true → ∀ y ∈ itE S D lv x, rightK y.1 = true := by
      intro lv
      induction lv with
      | zero => intro x _ hx y hy; simp [itE] at hy; subst hy; exact hx
      | succ f ih =>
        intro x hx _ y hy
        obtain ⟨n, a1, a2, a3, a4, a5, a6, a7, _⟩ := hx.succ
        rw [a7] at hy
        obtain ⟨z, hz, hy⟩ := List.mem_flatMap.1 hy
        exact ih z (a5 z hz) (a6.its.fit z hz).1 y hy
    unfold getE
    rw [List.find?_eq_none.2 (fun y hy he => ?_)]
    · rfl
    · have he := key_eq.1 he
      rw [← hr.ents] at hy
      obtain ⟨z, hz, hy⟩ := List.mem_flatMap.1 hy
      have := hall _ z (hr.ok z hz) (hr.nd.its.fit z hz).1 y hy
      rw [he, hk] at this
      cases this
theorem GetF_ok {S : StS} {D : DevS} {root : Int} {es : List En} (h : Tree S D root es) (key : ByteArray) : GetF S D root key = .ok (getE es key) := by
  unfold GetF
  by_cases h0 : root = 0
  · rw [if_pos h0, h.nil h0]; rfl
  · obtain ⟨nd, hr⟩ := h.node h0
    rw [if_neg h0, hr.load]
    dsimp only
    rw [getF_ok key nd.level nd.items hr.ok (by rw [hr.ents]; exact h.sort) (fun e => by have := hr.nd.len; rw [e] at this; simp at this), hr.ents]
/-- how high a tree is, as a number -/
def heightN (S : StS) (D : DevS) (root : Int) : Nat := if root = 0 then 0 else match loadF S D root with | .ok n => n.level + 1 | .error _ => 0
theorem HeightF_ok {S : StS} {D : DevS} {root : Int} {es : List En} (h : Tree S D root es) : HeightF S D root = .ok (heightN S D root) := by
  unfold HeightF heightN
  by_cases h0 : root = 0
  · rw [if_pos h0, if_pos h0]
  · obtain ⟨nd, hr⟩ := h.node h0
    rw [if_neg h0, if_neg h0, hr.load]
/-- a tree behind a change -/
structure Turned (n m : Nat) (S : StS) (D : DevS) (root : Int) (es : List En) (r : Ch Int) : Prop where
  err : r.err = 0
  went : Went n m S D r.st r.dv (2 * heightN S D root + 1)
  tree : Tree r.st r.dv r.out es
  loose : ∀ P : Int → Prop, Loose S P → Loose r.st (fun i => P i ∨ i = r.out)
theorem PutF_ok {n m : Nat} (hn : 8 ≤ n ∧ n ≤ 4096) {S : StS} {D : DevS} {root : Int} {es : List En} {key val : ByteArray} (h : Run n m S D) (ht : Tree S D root es) (hes : es.length ≤ 1000) (hkey : rightK key = true) (hval : val.size ≤ 300) (hfr : 50 ≤ S.freeN n) : Turned n m S D root (putE es key val) (PutF S D root key val) ∧ (PutF S D root key val).out ≠ 0 := by
  unfold PutF
  rw [if_neg (by rw [hkey]; simp; omega)]
  by_cases h0 : root = 0
  · rw [if_pos h0]
    have hes0 := ht.nil h0
    have hok : NdOk ⟨0, [⟨key, val, 0⟩]⟩ := ⟨by show (0 : Nat) ≤ 20; omega, by simp, ⟨List.pairwise_singleton _ _, fun x hx => by simp at hx; subst hx; exact ⟨hkey, hval⟩, fun _ x hx => by simp at hx; subst hx; rfl, fun h1 => by simp at h1⟩⟩
    obtain ⟨e1, w1, i1, l1, z1⟩ := save_went h hn hok (fun _ _ => trivial) (by omega)
    unfold topF
    obtain ⟨r, hr⟩ : ∃ r, r = saveF S D 0 [⟨key, val, 0⟩] := ⟨_, rfl⟩
    rw [← hr] at e1 w1 i1 l1 z1 ⊢
    have hh : heightN S D root = 0 := by unfold heightN; rw [if_pos h0]
    refine ⟨⟨e1, by rw [hh]; exact w1, ?_, fun P hP => l1 P (hP.mono (fun i hi => .inl hi))⟩, z1⟩
    rw [hes0]
    exact tree_of i1.has i1.load i1.high (fun h => by omega) (fun _ _ => trivial) (by simp [entsF, itE, SortE]) z1
  · rw [if_neg h0]
    obtain ⟨nd, hr⟩ := ht.node h0
    rw [hr.load]
    dsimp only
    have hlv := hr.level hes
    have hp := putF_ok hn hkey hval nd.level S D nd.items h (by omega) hr.ok hr.nd.its.fitL (by rw [hr.ents]; exact ht.sort) hr.nd.len (by omega)
    obtain ⟨p, hpp⟩ : ∃ p, p = putF key val nd.level S D nd.items := ⟨_, rfl⟩
    rw [← hpp] at hp ⊢
    rw [if_neg (by rw [hp.err]; decide)]
    have hh : heightN S D root = nd.level + 1 := by unfold heightN; rw [if_neg h0, hr.load]
    have hfree := hp.went.free
    have hents := hp.ents
    rw [hr.ents] at hents
    have hsort := ht.sort.put key val
    by_cases h1 : p.out.length = 1
    · rw [if_pos h1]
      obtain ⟨x, q, hx, hi, hoq, hlen⟩ := hp.one h1
      have hx0 : (p.out[0]?.getD default) = x := by rw [hx]; rfl
      rw [hx0]
      have hxe : entsF p.st p.dv (nd.level + 1) p.out = entsF p.st p.dv nd.level q := by rw [hx, entsF_one, hi.ents]
      have hne : x.kid ≠ 0 := fun e => by
        obtain ⟨c, hc⟩ := has_iff.1 hi.has
        have := (hp.went.run.inv.wf.dom _ c hc).1
        omega
      refine ⟨⟨rfl, by rw [hh]; exact hp.went.more (by omega), ?_, fun P hP => (hp.loose P hP).mono (fun i hi => ?_)⟩, hne⟩
      · rw [← hents, hxe]
        exact tree_of hi.has hi.load hi.high (fun h => by have := hr.two h; omega) hoq (by rw [← hxe, hents]; exact hsort) hne
      · rcases hi with hi | hi
        · exact .inl hi
        · rw [hx] at hi; simp at hi; exact .inr hi
    · rw [if_neg h1, if_neg (by omega)]
      have h2 : p.out.length = 2 := by rcases hp.len with h | h <;> omega
      have hok := hp.ok (.inr h2)
      have hnd : NdOk ⟨nd.level + 1, p.out⟩ := ⟨by show nd.level + 1 ≤ 20; omega, by show 1 ≤ p.out.length ∧ p.out.length ≤ 8; omega, itsOk_of hok hp.fit (by rw [hents]; exact hsort)⟩
      obtain ⟨e1, w1, i1, l1, z1⟩ := save_went hp.went.run hn hnd hok (by omega)
      unfold topF
      obtain ⟨r, hr2⟩ : ∃ r, r = saveF p.st p.dv (nd.level + 1) p.out := ⟨_, rfl⟩
      rw [← hr2] at e1 w1 i1 l1 z1 ⊢
      have hk := hok.keep w1.keep
      refine ⟨⟨e1, by rw [hh]; exact (hp.went.trans w1).more (by omega), ?_, fun P hP => l1 P ((hp.loose P hP).mono (fun i hi => ?_))⟩, z1⟩
      · have := tree_of i1.has i1.load i1.high (fun _ => by omega) hk.1 (by rw [hk.2.1, hents]; exact hsort) z1
        rw [hk.2.1, hents] at this
        exact this
      · rcases hi with hi | hi
        · exact .inl hi
        · exact .inr (mem_kids hi)
theorem DelF_ok {n m : Nat} (hn : 8 ≤ n ∧ n ≤ 4096) {S : StS} {D : DevS} {root : Int} {es : List En} {key : ByteArray} (h : Run n m S D) (ht : Tree S D root es) (hes : es.length ≤ 1000) (hkey : rightK key = true) (hfr : 50 ≤ S.freeN n) : Turned n m S D root (delE es key) (DelF S D root key) := by
  unfold DelF
  rw [if_neg (by rw [hkey]; decide)]
  by_cases h0 : root = 0
  · rw [if_pos h0]
    have hes0 := ht.nil h0
    refine ⟨rfl, Went.refl h _, ?_, fun P hP => hP.mono (fun i hi => .inl hi)⟩
    rw [hes0]
    exact ⟨by simp [SortE, delE], fun e => absurd rfl e, fun _ => rfl⟩
  · rw [if_neg h0]
    obtain ⟨nd, hr⟩ := ht.node h0
    rw [hr.load]
    dsimp only
    have hlv := hr.level hes
    have hp := cutF_ok hn (key := key) nd.level S D nd.items h (by omega) hr.ok hr.nd.its.fitL (by rw [hr.ents]; exact ht.sort) hr.nd.len hr.two (by omega)
    obtain ⟨p, hpp⟩ : ∃ p, p = cutF key nd.level S D nd.items := ⟨_, rfl⟩
    rw [← hpp] at hp ⊢
    rw [if_neg (by rw [hp.err]; decide)]
    have hh : heightN S D root = nd.level + 1 := by unfold heightN; rw [if_neg h0, hr.load]
    have hfree := hp.went.free
    have hsort := ht.sort.del key
    cases hpo : p.out with
    | none =>
      obtain ⟨e1, e2, e3⟩ := hp.non hpo
      rw [hr.ents] at e3
      dsimp only
      refine ⟨rfl, by rw [e1, e2]; exact Went.refl h _, ?_, fun P hP => ?_⟩
      · show Tree p.st p.dv root _
        rw [e1, e2, delE_self ht.sort e3]
        exact ht
      · show Loose p.st _
        rw [e1]
        exact hP.mono (fun i hi => .inl hi)
    | some o =>
      dsimp only
      obtain ⟨hfo, hoo⟩ := hp.fit o hpo
      have heo := hp.ents o hpo
      have hlo := hp.len o hpo
      rw [hr.ents] at heo
      have hloo := hp.loose o hpo
      by_cases hon : o = []
      · rw [if_pos hon]
        subst hon
        refine ⟨rfl, by rw [hh]; exact hp.went.more (by omega), ?_, fun P hP => (hloo P hP).mono (fun i hi => ?_)⟩
        · rw [← heo]
          exact ⟨by simp [entsF, SortE], fun e => absurd rfl e, fun _ => rfl⟩
        · rcases hi with hi | ⟨_, hi⟩
          · exact .inl hi
          · simp at hi
      · rw [if_neg hon]
        have hol : 1 ≤ o.length := List.length_pos_iff.2 hon
        by_cases h1 : 0 < nd.level ∧ o.length = 1
        · rw [if_pos h1]
          obtain ⟨x, hx⟩ := List.length_eq_one_iff.1 h1.2
          obtain ⟨f, hf⟩ : ∃ f, nd.level = f + 1 := ⟨nd.level - 1, by omega⟩
          subst hx
          have hx0 : (([x] : List It)[0]?.getD default) = x := rfl
          rw [hx0]
          rw [hf] at hoo heo
          obtain ⟨k, a1, a2, a3, a4, a5, a6, a7, _, a9, a10⟩ := (hoo x (by simp)).succ
          have hne : x.kid ≠ 0 := fun e => by
            obtain ⟨c, hc⟩ := has_iff.1 a9
            have := (hp.went.run.inv.wf.dom _ c hc).1
            omega
          rw [entsF_one, a7] at heo
          refine ⟨rfl, by rw [hh]; exact hp.went.more (by omega), ?_, fun P hP => (hloo P hP).mono (fun i hi => ?_)⟩
          · rw [← heo]
            have : loadF p.st p.dv x.kid = .ok ⟨f, k.items⟩ := by rw [a1, ← a2]
            exact tree_of a9 this a10 (fun _ => by omega) a5 (by rw [heo]; exact hsort) hne
          · rcases hi with hi | ⟨_, hi⟩
            · exact .inl hi
            · simp at hi; exact .inr hi
        · rw [if_neg h1]
          have hnd : NdOk ⟨nd.level, o⟩ := ⟨by show nd.level ≤ 20; omega, by show 1 ≤ o.length ∧ o.length ≤ 8; have := hr.nd.len; omega, itsOk_of hoo hfo (by rw [heo]; exact hsort)⟩
          obtain ⟨e1, w1, i1, l1, z1⟩ := save_went hp.went.run hn hnd hoo (by omega)
          unfold topF
          obtain ⟨r, hr2⟩ : ∃ r, r = saveF p.st p.dv nd.level o := ⟨_, rfl⟩
          rw [← hr2] at e1 w1 i1 l1 z1 ⊢
          have hk := hoo.keep w1.keep
          refine ⟨e1, by rw [hh]; exact (hp.went.trans w1).more (by omega), ?_, fun P hP => l1 P ((hloo P hP).mono (fun i hi => ?_))⟩
          · have := tree_of i1.has i1.load i1.high (fun _ => by omega) hk.1 (by rw [hk.2.1, heo]; exact hsort) z1
            rw [hk.2.1, heo] at this
            exact this
          · rcases hi with hi | ⟨hf, hi⟩
            · exact .inl hi
            · obtain ⟨f, hf⟩ : ∃ f, nd.level = f + 1 := ⟨nd.level - 1, by omega⟩
              right
              rw [hf]
              exact mem_kids hi
end Go.Proofs.YtadmecjdihfmeaaGreat.Tre

/- Layer 7 in plain Lean: trees that are held in a store, step by step. -/
namespace Go.Proofs.YtadmecjdihfmeaaGreat.Tre
set_option linter.unusedVariables false
set_option linter.unusedSimpArgs false
open Go.RowKit Go.Proofs.YtadmecjdihfmeaaGreat.Mem Go.Proofs.YtadmecjdihfmeaaGreat.Oct Go.Proofs.YtadmecjdihfmeaaGreat.Dev Go.Proofs.YtadmecjdihfmeaaGreat.Sto

/-- how often is held what is there -/
def HeldEq (S : StS) (L : List Int) : Prop := ∀ i, S.has i = true → (S.cel i).held = (L.count i : Nat)
/-- trees that are held, and nothing else -/
structure St (n m : Nat) (S : StS) (D : DevS) (l : List (Int × List En)) : Prop where
  run : Run n m S D
  loose : Loose S (fun _ => False)
  held : HeldEq S (l.map (·.1))
  kept : ∀ i, S.kept i = false
  trees : ∀ p ∈ l, Tree S D p.1 p.2
theorem St.at {n m : Nat} {S : StS} {D : DevS} {l : List (Int × List En)} (h : St n m S D l) {p : Int × List En} (hp : p ∈ l) (h0 : p.1 ≠ 0) : S.has p.1 = true := by
  obtain ⟨nd, hr⟩ := (h.trees p hp).node h0
  exact hr.has
/-- what is there has kids that a node names -/
theorem load_kids {n m : Nat} {S : StS} {D : DevS} (h : Run n m S D) {i : Int} {nd : Nd} (hl : loadF S D i = .ok nd) : ∃ c, S.cells i = some c ∧ c.kids = nd.kids := by
  obtain ⟨_, d, hg, _⟩ := loadF_ok hl
  cases hc : S.cells i with
  | none =>
    unfold StS.getR at hg
    rw [if_neg (by rw [StS.has, hc]; decide)] at hg
    cases hg
  | some c =>
    obtain ⟨d', _, hg'⟩ := h.good.get h.inv h.pow.off hc
    rw [hg'] at hg
    simp only [Option.some.injEq, Prod.mk.injEq] at hg
    exact ⟨c, rfl, hg.1⟩
/-- fewer blocks: what is still there is as it was -/
structure Less (S : StS) (D : DevS) (S' : StS) (D' : DevS) : Prop where
  has : ∀ i, S'.has i = true → S.has i = true
  load : ∀ i, S'.has i = true → loadF S' D' i = loadF S D i
  high : ∀ i, S'.has i = true → (S'.cel i).high = (S.cel i).high
theorem less_fade {S S' : StS} {D : DevS} (h : Fade S S') : Less S D S' D := by
  have hh : ∀ i, S'.has i = true → S.has i = true := fun i hi => by
    obtain ⟨c, hc⟩ := has_iff.1 hi
    obtain ⟨c0, h0, _⟩ := h.cells i c hc
    exact has_iff.2 ⟨c0, h0⟩
  refine ⟨hh, fun i hi => ?_, fun i hi => ?_⟩
  · unfold loadF StS.getR
    rw [if_pos hi, if_pos (hh i hi)]
  · obtain ⟨c, hc⟩ := has_iff.1 hi
    obtain ⟨c0, h0, e, _⟩ := h.cells i c hc
    rw [cel_some hc, cel_some h0, e]
theorem okI_less {n m : Nat} {S S' : StS} {D D' : DevS} (hr : Run n m S' D') (hk : Less S D S' D') : ∀ (lv : Nat) (x : It), (0 < lv → S'.has x.kid = true) → OkI S D lv x → OkI S' D' lv x ∧ itE S' D' lv x = itE S D lv x
  | 0, x, _, _ => ⟨trivial, rfl⟩
  | f + 1, x, hx, h => by
    have hx' := hx (by omega)
    obtain ⟨h1, h2, nd, h3, h4, h5, h6, h7⟩ := h
    have hl := (hk.load x.kid hx').trans h3
    obtain ⟨c, hc, hkids⟩ := load_kids hr hl
    have hsub : ∀ y ∈ nd.items, 0 < f → S'.has y.kid = true := fun y hy hf => by
      refine hr.inv.wf.kids x.kid c hc y.kid ?_
      rw [hkids]
      unfold Nd.kids
      rw [if_neg (by omega)]
      exact List.mem_map.2 ⟨y, hy, rfl⟩
    refine ⟨⟨hx', by rw [hk.high _ hx']; exact h2, nd, hl, h4, h5, h6, fun y hy => (okI_less hr hk f y (hsub y hy) (h7 y hy)).1⟩, ?_⟩
    unfold itE
    rw [hl, h3]
    exact flatMap_same fun y hy => (okI_less hr hk f y (hsub y hy) (h7 y hy)).2
theorem Tree.less {n m : Nat} {S S' : StS} {D D' : DevS} {root : Int} {es : List En} (h : Tree S D root es) (hr : Run n m S' D') (hk : Less S D S' D') (hh : root ≠ 0 → S'.has root = true) : Tree S' D' root es := by
  refine ⟨h.sort, fun h0 => ?_, h.nil⟩
  obtain ⟨nd, hn⟩ := h.node h0
  have hrt := hh h0
  have hl := (hk.load _ hrt).trans hn.load
  obtain ⟨c, hc, hkids⟩ := load_kids hr hl
  have hsub : ∀ y ∈ nd.items, 0 < nd.level → S'.has y.kid = true := fun y hy hf => by
    refine hr.inv.wf.kids root c hc y.kid ?_
    rw [hkids]
    unfold Nd.kids
    rw [if_neg (by omega)]
    exact List.mem_map.2 ⟨y, hy, rfl⟩
  refine ⟨nd, hrt, hl, by rw [hk.high _ hrt]; exact hn.high, hn.two, fun y hy => (okI_less hr hk _ y (hsub y hy) (hn.ok y hy)).1, ?_⟩
  rw [← hn.ents]
  exact flatMap_same fun y hy => (okI_less hr hk _ y (hsub y hy) (hn.ok y hy)).2
/-- what is held stays, whatever goes -/
theorem gone_held_has {n : Nat} : ∀ (f : Nat) (S : StS) (i : Int) (pend : List Int), WF n S pend → num S.cells n ≤ f → ∀ j, S.has j = true → (S.cel j).held ≠ 0 → (S.goneF f i).has j = true
  | 0, S, i, pend, h, hf, j, h1, h2 => h1
  | f + 1, S, i, pend, h, hf, j, h1, h2 => by
    unfold StS.goneF
    cases hc : S.cells i with
    | none => exact h1
    | some c =>
      dsimp only
      by_cases hl : c.named + c.held = 0
      · rw [if_pos hl]
        have hw1 := h.gone hc hl
        have hd := h.dom i c hc
        have hnum : num (S.setC i none).cells n + 1 = num S.cells n := by
          have := num_upd (f := S.cells) (j := i) (o := none) n (by omega) hd.2
          rw [hc] at this
          simpa [StS.setC] using this
        have hji : j ≠ i := fun e => by
          subst e
          rw [cel_some hc] at h2
          have g1 := h.named j c hc
          have g2 := h.held j c hc
          omega
        have key : ∀ (ks : List Int) (T : StS), WF n T (ks ++ pend) → num T.cells n ≤ f → T.has j = true → (T.cel j).held ≠ 0 → (ks.foldl (fun T k => T.name k (-1) |>.goneF f k) T).has j = true := by
          intro ks
          induction ks with
          | nil => intro T hT hn hx _; exact hx
          | cons k ks ih =>
            intro T hT hn hx hy
            have hk := hT.pend k (by simp)
            have hw2 := WF.name (k := k) (pend := ks ++ pend) hT
            have hnn : num (T.name k (-1)).cells n = num T.cells n := name_num hk
            have hw3 := gone_wf f (T.name k (-1)) k (ks ++ pend) hw2 (by omega)
            have hx2 : (T.name k (-1)).has j = true := by rw [name_has hk]; exact hx
            have hy2 : ((T.name k (-1)).cel j).held ≠ 0 := by rw [(name_cel T k j (-1)).2.2.1]; exact hy
            have hx3 := gone_held_has f (T.name k (-1)) k (ks ++ pend) hw2 (by omega) j hx2 hy2
            have hf3 := gone_fade f (T.name k (-1)) k (ks ++ pend) hw2 (by omega)
            refine ih _ hw3.1 (by show num (StS.goneF f (T.name k (-1)) k).cells n ≤ f; omega) hx3 ?_
            obtain ⟨c', hc'⟩ := has_iff.1 hx3
            obtain ⟨c0, h0, _, _, e⟩ := hf3.cells j c' hc'
            show ((StS.goneF f (T.name k (-1)) k).cel j).held ≠ 0
            rw [cel_some hc', e]
            rw [cel_some h0] at hy2
            exact hy2
        refine key c.kids (S.setC i none) hw1 (by omega) ?_ ?_
        · unfold StS.has StS.setC; dsimp only; rw [upd_other _ _ _ hji]; exact h1
        · unfold StS.cel StS.setC; dsimp only; rw [upd_other _ _ _ hji]; exact h2
      · rw [if_neg hl]; exact h1
end Go.Proofs.YtadmecjdihfmeaaGreat.Tre

/- Layer 7 in plain Lean: a step: the new root is held, the old one dropped. -/
namespace Go.Proofs.YtadmecjdihfmeaaGreat.Tre
set_option linter.unusedVariables false
set_option linter.unusedSimpArgs false
open Go.RowKit Go.Proofs.YtadmecjdihfmeaaGreat.Mem Go.Proofs.YtadmecjdihfmeaaGreat.Oct Go.Proofs.YtadmecjdihfmeaaGreat.Dev Go.Proofs.YtadmecjdihfmeaaGreat.Sto

theorem has_ge {n m : Nat} {S : StS} {D : DevS} (h : Run n m S D) {i : Int} (hi : S.has i = true) : 2 ≤ i ∧ i < n := by
  obtain ⟨c, hc⟩ := has_iff.1 hi
  exact h.inv.wf.dom i c hc
theorem held_in {S : StS} {L : List Int} (h : HeldEq S L) : HeldIn S L := fun i h1 h2 => by
  have := h i h1
  rw [this] at h2
  exact List.count_pos_iff.1 (by omega)
/-- behind blocks that were put -/
theorem HeldEq.went {n m k : Nat} {S S' : StS} {D D' : DevS} {L : List Int} (h : HeldEq S L) (hw : Went n m S D S' D' k) (hL : ∀ i ∈ L, i ≠ 0 → S.has i = true) : HeldEq S' L := by
  intro i hi
  cases hs : S.has i with
  | true => rw [hw.keep.held i hs]; exact h i hs
  | false =>
    have hni : i ∉ L := fun hm => by
      have := hL i hm (by have := (has_ge hw.run hi).1; omega)
      rw [hs] at this; cases this
    rw [List.count_eq_zero.2 hni]
    by_cases h0 : (S'.cel i).held = 0
    · rw [h0]; rfl
    · exact absurd (hw.held L (held_in h) i hi h0) hni
theorem HeldEq.congr {n m : Nat} {S : StS} {D : DevS} {L M : List Int} (hr : Run n m S D) (h : HeldEq S L) (k : ∀ i : Int, 2 ≤ i → L.count i = M.count i) : HeldEq S M := fun i hi => by
  rw [← k i (has_ge hr hi).1]; exact h i hi
theorem hold_has {S : StS} {i j b : Int} (hi : S.has i = true) : (S.hold i b).has j = S.has j := by
  unfold StS.hold
  by_cases h : j = i
  · subst h
    rw [hi]
    unfold StS.has StS.setC
    dsimp only
    rw [upd_same]; rfl
  · exact set_has h
theorem hold_cel {S : StS} {i j b : Int} : ((S.hold i b).cel j).held = (S.cel j).held + (if j = i then b else 0) ∧ ((S.hold i b).cel j).high = (S.cel j).high ∧ ((S.hold i b).cel j).named = (S.cel j).named := by
  unfold StS.hold
  by_cases h : j = i
  · subst h
    rw [if_pos rfl]
    unfold StS.cel StS.setC
    dsimp only
    rw [upd_same]
    exact ⟨rfl, rfl, rfl⟩
  · rw [set_cel h, if_neg h]
    exact ⟨by omega, rfl, rfl⟩
theorem less_hold {S : StS} {D : DevS} {i b : Int} (hi : S.has i = true) : Less S D (S.hold i b) D := by
  have hh : ∀ j, (S.hold i b).has j = true → S.has j = true := fun j hj => by rw [hold_has hi] at hj; exact hj
  refine ⟨hh, fun j hj => ?_, fun j _ => hold_cel.2.1⟩
  unfold loadF StS.getR
  rw [if_pos hj, if_pos (hh j hj)]
/-- Hold -/
theorem run_hold {n m : Nat} {S : StS} {D : DevS} (h : Run n m S D) (hm : m < 1099511627776) {i : Int} (hi : S.has i = true) : Run n (m + 1) (S.hold i 1) D := by
  have := h.inv.holds hm i
  unfold StS.holds at this
  rw [if_pos hi] at this
  exact ⟨h.good.sub (sub_hold hi), this, h.pow⟩
/-- Drop -/
theorem run_drop {n m : Nat} {S : StS} {D : DevS} (h : Run n m S D) {i : Int} (hi : S.has i = true) (hh : 1 ≤ (S.cel i).held) : Run n m (S.drop n i) D ∧ Fade (S.hold i (-1)) (S.drop n i) ∧ (∀ j, S.has j = true → ((S.hold i (-1)).cel j).held ≠ 0 → (S.drop n i).has j = true) := by
  have hd : S.drop n i = (S.hold i (-1)).goneF n i := by unfold StS.drop; rw [if_neg (by omega)]
  have h0 : 0 ≤ (S.cel i).held + -1 ∧ (S.cel i).held + -1 ≤ 4611686018427387904 := by
    obtain ⟨c, hc⟩ := has_iff.1 hi
    have := h.inv.wf.held i c hc
    rw [cel_some hc] at hh ⊢
    omega
  have hw := h.inv.wf.hold hi (by_ := -1) h0
  have hf := gone_fade n _ i [] hw (num_le _ _)
  refine ⟨⟨?_, h.inv.drop i, h.pow⟩, ?_, ?_⟩
  · rw [hd]; exact h.good.sub ((sub_hold hi).trans hf.sub)
  · rw [hd]; exact hf
  · intro j hj hjh
    rw [hd]
    exact gone_held_has n _ i [] hw (num_le _ _) j (by rw [hold_has hi]; exact hj) hjh
theorem Less.trans {A B C : StS} {D E F : DevS} (h : Less A D B E) (k : Less B E C F) : Less A D C F :=
  ⟨fun i hi => h.has i (k.has i hi), fun i hi => (k.load i hi).trans (h.load i (k.has i hi)), fun i hi => (k.high i hi).trans (h.high i (k.has i hi))⟩
/-- a turned tree takes the place of the old one -/
def takeF (S : StS) (n : Nat) (root next : Int) : StS := if root = 0 then (if next = 0 then S else S.holds next) else ((if next = 0 then S else S.holds next).drop n root)
theorem St.take {n m : Nat} {S A : StS} {D E : DevS} {l : List (Int × List En)} {root next : Int} {es es' : List En} {k : Nat} (hm : m < 1099511627776) (h : St n m S D ((root, es) :: l)) (hw : Went n m S D A E k) (ht : Tree A E next es') (hl : Loose A (fun i => i = next)) : St n (m + 1) (takeF A n root next) E ((next, es') :: l) := by
  have hL : ∀ i ∈ (((root, es) :: l).map (·.1)), i ≠ 0 → S.has i = true := fun i hi h0 => by
    obtain ⟨p, hp, rfl⟩ := List.mem_map.1 hi
    exact h.at hp h0
  have hA := h.held.went hw hL
  have hkA : ∀ i, A.kept i = false := fun i => by rw [hw.keep.kept]; exact h.kept i
  have htA : ∀ p ∈ l, Tree A E p.1 p.2 := fun p hp => (h.trees p (by simp [hp])).keep hw.keep
  have hasA : ∀ p ∈ l, p.1 ≠ 0 → A.has p.1 = true := fun p hp h0 => hw.keep.has _ (h.at (by simp [hp]) h0)
  -- the new root held
  obtain ⟨B, hB⟩ : ∃ B, B = (if next = 0 then A else A.holds next) := ⟨_, rfl⟩
  have hu : takeF A n root next = if root = 0 then B else B.drop n root := by unfold takeF; rw [← hB]
  have hBB : St n (m + 1) B E ((next, es') :: (root, es) :: l) → (root ≠ 0 → B.has root = true) → St n (m + 1) (takeF A n root next) E ((next, es') :: l) := by
    intro hs hroot
    rw [hu]
    by_cases h0 : root = 0
    · rw [if_pos h0]
      refine ⟨hs.run, hs.loose, hs.held.congr hs.run (fun i hi => ?_), hs.kept, fun p hp => hs.trees p (by rcases List.mem_cons.1 hp with hp | hp <;> simp [hp])⟩
      simp only [List.map_cons, List.count_cons]
      have : (root == i) = false := by simp; omega
      rw [this]
      simp
    · rw [if_neg h0]
      have hrh := hroot h0
      have hc1 : 1 ≤ (B.cel root).held := by
        rw [hs.held root hrh]
        have : 0 < (((next, es') :: (root, es) :: l).map (·.1)).count root := List.count_pos_iff.2 (by simp)
        omega
      obtain ⟨r1, f1, k1⟩ := run_drop hs.run hrh hc1
      have hless : Less B E (B.drop n root) E := (less_hold hrh).trans (less_fade f1)
      have hheld : HeldEq (B.drop n root) (((next, es') :: l).map (·.1)) := by
        intro i hi
        obtain ⟨c, hc⟩ := has_iff.1 hi
        obtain ⟨c0, hc0, _, _, e⟩ := f1.cells i c hc
        have hi0 := hs.held i (hless.has i hi)
        have hh := (hold_cel (S := B) (i := root) (j := i) (b := -1)).1
        rw [cel_some hc, e]
        rw [cel_some hc0] at hh
        rw [hh, hi0]
        simp only [List.map_cons, List.count_cons]
        by_cases hir : i = root
        · subst hir
          simp
          omega
        · have : (root == i) = false := by simp; exact fun h => hir h.symm
          rw [if_neg hir, this]
          simp
      refine ⟨r1, ?_, hheld, fun i => by
        have : (B.drop n root).kept = (B.hold root (-1)).kept := f1.kept
        rw [this]; exact hs.kept i, fun p hp => ?_⟩
      · have := drop_clean (X := []) hs.run.inv.wf hc1 (fun i g1 g2 g3 => absurd (hs.loose i g1 g2 g3) (fun h => h))
        exact fun i g1 g2 g3 => by cases this i g1 g2 g3
      · have hp' : p ∈ (next, es') :: (root, es) :: l := by rcases List.mem_cons.1 hp with hp | hp <;> simp [hp]
        refine (hs.trees p hp').less r1 hless (fun hp0 => ?_)
        have hph := hs.at hp' hp0
        refine k1 p.1 hph ?_
        rw [(hold_cel (S := B) (i := root) (j := p.1) (b := -1)).1, hs.held p.1 hph]
        simp only [List.map_cons, List.count_cons]
        have hpc : 0 < (((next, es') :: l).map (·.1)).count p.1 := List.count_pos_iff.2 (List.mem_map.2 ⟨p, hp, rfl⟩)
        simp only [List.map_cons, List.count_cons] at hpc
        by_cases hir : p.1 = root
        · rw [if_pos hir]
          have : (root == p.1) = true := by simp [hir]
          rw [this]
          simp only [if_true]
          omega
        · rw [if_neg hir]
          omega
  apply hBB
  · by_cases h0 : next = 0
    · rw [hB, if_pos h0]
      refine ⟨⟨hw.run.good, hw.run.inv.more (by omega), hw.run.pow⟩, fun i g1 g2 g3 => ?_, hA.congr hw.run (fun i hi => ?_), hkA, fun p hp => ?_⟩
      · have := hl i g1 g2 g3
        have := (has_ge hw.run g1).1
        omega
      · simp only [List.map_cons, List.count_cons]
        have : (next == i) = false := by simp; omega
        rw [this]
        simp
      · rcases List.mem_cons.1 hp with rfl | hp
        · exact ht
        · exact (h.trees p hp).keep hw.keep
    · obtain ⟨nd, hn⟩ := ht.node h0
      have hnh := hn.has
      have hBh : B = A.hold next 1 := by rw [hB, if_neg h0]; unfold StS.holds; rw [if_pos hnh]
      have hr := run_hold hw.run hm hnh
      have hless : Less A E (A.hold next 1) E := less_hold hnh
      have hhas : ∀ j, A.has j = true → (A.hold next 1).has j = true := fun j hj => by rw [hold_has hnh]; exact hj
      rw [hBh]
      refine ⟨hr, ?_, fun i hi => ?_, fun i => hkA i, fun p hp => ?_⟩
      · have hge : 0 ≤ (A.cel next).held := by
          obtain ⟨c, hc⟩ := has_iff.1 hnh
          have := hw.run.inv.wf.held next c hc
          rw [cel_some hc]; omega
        have := (hold_clean (X := []) hnh hge (fun i g1 g2 g3 => by simp [hl i g1 g2 g3])).1
        exact fun i g1 g2 g3 => by cases this i g1 g2 g3
      · rw [hold_has hnh] at hi
        rw [(hold_cel (S := A) (i := next) (j := i) (b := 1)).1, hA i hi]
        simp only [List.map_cons, List.count_cons]
        by_cases hin : i = next
        · subst hin; simp
        · have : (next == i) = false := by simp; exact fun h => hin h.symm
          rw [if_neg hin, this]
          simp
      · rcases List.mem_cons.1 hp with rfl | hp
        · exact ht.less hr hless (fun _ => hhas _ hnh)
        · exact ((h.trees p hp).keep hw.keep).less hr hless (fun hp0 => hhas _ (hw.keep.has _ (h.at hp hp0)))
  · intro h0
    have hrA : A.has root = true := hw.keep.has _ (h.at (p := (root, es)) (by simp) h0)
    rw [hB]
    split
    · exact hrA
    · unfold StS.holds
      split
      · rename_i hx; rw [hold_has hx]; exact hrA
      · exact hrA
end Go.Proofs.YtadmecjdihfmeaaGreat.Tre

/- Layer 7 in plain Lean: there is room; a change is the list's own. -/
namespace Go.Proofs.YtadmecjdihfmeaaGreat.Tre
set_option linter.unusedVariables false
set_option linter.unusedSimpArgs false
open Go.RowKit Go.Proofs.YtadmecjdihfmeaaGreat.Mem Go.Proofs.YtadmecjdihfmeaaGreat.Oct Go.Proofs.YtadmecjdihfmeaaGreat.Dev Go.Proofs.YtadmecjdihfmeaaGreat.Sto

theorem kids_mem {S : StS} {D : DevS} {f : Nat} {nd : Nd} (hlv : nd.level = f) {k : Int} (hk : k ∈ nd.kids) (ho : OkF S D f nd.items) : k ∈ idsF S D f nd.items := by
  unfold Nd.kids at hk
  split at hk
  · cases hk
  · rename_i h0
    obtain ⟨y, hy, rfl⟩ := List.mem_map.1 hk
    refine List.mem_flatMap.2 ⟨y, hy, ?_⟩
    match f, hlv with
    | 0, hlv => exact absurd hlv h0
    | g + 1, _ =>
      obtain ⟨_, _, _, _, _, _, _, _, h8, _⟩ := (ho y hy).succ
      rw [h8]
      simp
/-- what is named by what stands below an item stands below it -/
theorem ids_closed {n m : Nat} {S : StS} {D : DevS} (hr : Run n m S D) : ∀ (lv : Nat) (x : It), OkI S D lv x → ∀ j ∈ itI S D lv x, ∀ k ∈ (S.cel j).kids, k ∈ itI S D lv x
  | 0, x, _, j, hj, _, _ => by simp [itI] at hj
  | f + 1, x, h, j, hj, k, hk => by
    obtain ⟨nd, h1, h2, h3, h4, h5, h6, h7, h8, _⟩ := h.succ
    rw [h8] at hj ⊢
    rcases List.mem_cons.1 hj with rfl | hj
    · obtain ⟨c, hc, hck⟩ := load_kids hr h1
      rw [cel_some hc, hck] at hk
      exact List.mem_cons_of_mem _ (kids_mem h2 hk h5)
    · obtain ⟨y, hy, hjy⟩ := List.mem_flatMap.1 hj
      exact List.mem_cons_of_mem _ (List.mem_flatMap.2 ⟨y, hy, ids_closed hr f y (h5 y hy) j hjy k hk⟩)
/-- a tree's blocks -/
def blocksF (S : StS) (D : DevS) (root : Int) : List Int := match loadF S D root with
  | .ok nd => root :: idsF S D nd.level nd.items
  | .error _ => []
theorem blocks_len {S : StS} {D : DevS} {root : Int} {es : List En} {nd : Nd} (h : RootN S D root es nd) : (blocksF S D root).length ≤ es.length ∧ root ∈ blocksF S D root := by
  have h1 := h.blocks
  unfold blocksF
  rw [h.load]
  simp only [List.length_cons]
  exact ⟨by omega, by simp⟩
theorem blocks_closed {n m : Nat} {S : StS} {D : DevS} {root : Int} {es : List En} {nd : Nd} (hr : Run n m S D) (h : RootN S D root es nd) : ∀ j ∈ blocksF S D root, ∀ k ∈ (S.cel j).kids, k ∈ blocksF S D root := by
  intro j hj k hk
  unfold blocksF at hj ⊢
  rw [h.load] at hj ⊢
  dsimp only at hj ⊢
  rcases List.mem_cons.1 hj with rfl | hj
  · obtain ⟨c, hc, hck⟩ := load_kids hr h.load
    rw [cel_some hc, hck] at hk
    exact List.mem_cons_of_mem _ (kids_mem rfl hk h.ok)
  · obtain ⟨y, hy, hjy⟩ := List.mem_flatMap.1 hj
    exact List.mem_cons_of_mem _ (List.mem_flatMap.2 ⟨y, hy, ids_closed hr _ y (h.ok y hy) j hjy k hk⟩)
def sizes (l : List (Int × List En)) : Nat := (l.map fun p => p.2.length).sum
theorem St.free {n m : Nat} {S : StS} {D : DevS} {l : List (Int × List En)} (h : St n m S D l) : (n : Int) - 2 - sizes l ≤ S.freeN n ∧ (l.all (fun p => p.1 == 0) = true → S.freeN n = n - 2) := by
  obtain ⟨L, hLd⟩ : ∃ L, L = l.flatMap fun p => if p.1 = 0 then [] else blocksF S D p.1 := ⟨_, rfl⟩
  have hall : ∀ i, S.has i = true → i ∈ L := by
    refine reach_all h.run.inv.wf (P := fun i => i ∈ L) (fun i hi hh => ?_) (fun i h1 h2 h3 => (h.loose i h1 h2 h3).elim) (fun j hj hjL k hk => ?_)
    · have hm := held_in h.held i hi hh
      obtain ⟨p, hp, rfl⟩ := List.mem_map.1 hm
      have hp0 : p.1 ≠ 0 := by have := (has_ge h.run hi).1; omega
      obtain ⟨nd, hn⟩ := (h.trees p hp).node hp0
      rw [hLd]
      exact List.mem_flatMap.2 ⟨p, hp, by rw [if_neg hp0]; exact (blocks_len hn).2⟩
    · rw [hLd] at hjL ⊢
      obtain ⟨p, hp, hjp⟩ := List.mem_flatMap.1 hjL
      by_cases hp0 : p.1 = 0
      · rw [if_pos hp0] at hjp; cases hjp
      · rw [if_neg hp0] at hjp
        obtain ⟨nd, hn⟩ := (h.trees p hp).node hp0
        exact List.mem_flatMap.2 ⟨p, hp, by rw [if_neg hp0]; exact blocks_closed h.run hn j hjp k hk⟩
  have hnum := num_list (f := S.cells) (n := n) (L := L) (fun i hi => hall i hi)
  have hlen : L.length ≤ sizes l := by
    rw [hLd]
    have : ∀ q : List (Int × List En), (∀ p ∈ q, Tree S D p.1 p.2) → (q.flatMap fun p => if p.1 = 0 then [] else blocksF S D p.1).length ≤ sizes q := by
      intro q
      induction q with
      | nil => intro _; simp [sizes]
      | cons p q ih =>
        intro hq
        have h1 := ih (fun r hr => hq r (by simp [hr]))
        rw [List.flatMap_cons, List.length_append]
        have h2 : (if p.1 = 0 then [] else blocksF S D p.1).length ≤ p.2.length := by
          by_cases hp0 : p.1 = 0
          · rw [if_pos hp0]; simp
          · rw [if_neg hp0]
            obtain ⟨nd, hn⟩ := (hq p (by simp)).node hp0
            exact (blocks_len hn).1
        unfold sizes at h1 ⊢
        rw [List.map_cons, List.sum_cons]
        omega
    exact this l h.trees
  have hko : S.keptOnly n = 0 := by
    unfold StS.keptOnly
    rw [List.length_eq_zero_iff, List.filter_eq_nil_iff]
    intro i _
    rw [h.kept i]
    simp
  refine ⟨?_, fun hz => ?_⟩
  · unfold StS.freeN
    omega
  · have hLe : L = [] := by
      rw [hLd, List.flatMap_eq_nil_iff]
      intro p hp
      have := List.all_eq_true.1 hz p hp
      rw [if_pos (by simpa using this)]
    rw [hLe] at hnum
    unfold StS.freeN
    simp at hnum
    omega
/-- a change of a list: the list, and what is told -/
def alsoE (l : List En) (put : Bool) (key val : ByteArray) : List En × Int := if rightK key = false ∨ (put = true ∧ 300 < val.size) then (l, 22) else (if put = true then putE l key val else delE l key, 0)
/-- a change of a tree -/
def turnF (S : StS) (D : DevS) (root : Int) (put : Bool) (key val : ByteArray) : Ch Int := if put = true then PutF S D root key val else DelF S D root key
/-- a step: what it tells, the new root, the store, its device -/
def stepF (S : StS) (D : DevS) (n : Nat) (root : Int) (put : Bool) (key val : ByteArray) : Ch Int :=
  if (turnF S D root put key val).err ≠ 0 then ⟨(turnF S D root put key val).err, root, (turnF S D root put key val).st.sweep n, (turnF S D root put key val).dv⟩
  else ⟨0, (turnF S D root put key val).out, takeF (turnF S D root put key val).st n root (turnF S D root put key val).out, (turnF S D root put key val).dv⟩
/-- what a change of a tree is -/
theorem turn_ok {n m : Nat} (hn : 8 ≤ n ∧ n ≤ 4096) {S : StS} {D : DevS} {root : Int} {es : List En} {put : Bool} {key val : ByteArray} (h : Run n m S D) (ht : Tree S D root es) (hes : es.length ≤ 1000) (hfr : 50 ≤ S.freeN n) :
    ((alsoE es put key val).2 ≠ 0 ∧ turnF S D root put key val = ⟨22, 0, S, D⟩ ∧ alsoE es put key val = (es, 22)) ∨ ((alsoE es put key val).2 = 0 ∧ Turned n m S D root (alsoE es put key val).1 (turnF S D root put key val)) := by
  unfold alsoE turnF
  cases hk : rightK key with
  | false =>
    left
    rw [if_pos (.inl rfl)]
    refine ⟨show (22 : Int) ≠ 0 by decide, ?_, rfl⟩
    cases put with
    | true => rw [if_pos rfl]; unfold PutF; rw [if_pos (.inl hk)]
    | false => rw [if_neg (by decide)]; unfold DelF; rw [if_pos hk]
  | true =>
    cases put with
    | true =>
      by_cases hv : 300 < val.size
      · left
        rw [if_pos (.inr ⟨rfl, hv⟩)]
        refine ⟨show (22 : Int) ≠ 0 by decide, ?_, rfl⟩
        rw [if_pos rfl]; unfold PutF; rw [if_pos (.inr hv)]
      · right
        rw [if_neg (by simp; omega)]
        exact ⟨rfl, (PutF_ok hn h ht hes hk (by omega) hfr).1⟩
    | false =>
      right
      rw [if_neg (by simp)]
      exact ⟨rfl, DelF_ok hn h ht hes hk hfr⟩
theorem alsoE_len (l : List En) (put : Bool) (key val : ByteArray) : (alsoE l put key val).1.length ≤ l.length + 1 := by
  unfold alsoE
  split
  · exact Nat.le_succ _
  · split
    · exact putE_len l key val
    · exact Nat.le_succ_of_le (delE_len l key)
theorem step_ok {n m : Nat} (hn : 8 ≤ n ∧ n ≤ 4096) (hm : m < 1099511627776) {S : StS} {D : DevS} {root : Int} {es : List En} {l : List (Int × List En)} (h : St n m S D ((root, es) :: l)) (hes : es.length ≤ 1000) (hfr : sizes ((root, es) :: l) + 52 ≤ n) (put : Bool) (key val : ByteArray) :
    (stepF S D n root put key val).err = (alsoE es put key val).2 ∧ St n (m + 1) (stepF S D n root put key val).st (stepF S D n root put key val).dv (((stepF S D n root put key val).out, (alsoE es put key val).1) :: l) := by
  have hf := h.free.1
  have ht := h.trees (root, es) (by simp)
  rcases turn_ok hn (put := put) (key := key) (val := val) h.run ht hes (by omega) with ⟨h1, h2, h3⟩ | ⟨h1, h2⟩
  · unfold stepF
    rw [h2, if_pos (show (22 : Int) ≠ 0 by decide), h3]
    have hsw : S.sweep n = S := sweep_clean h.run.inv.wf (fun i g1 g2 g3 => (h.loose i g1 g2 g3).elim)
    refine ⟨rfl, ?_⟩
    show St n (m + 1) (S.sweep n) D ((root, es) :: l)
    rw [hsw]
    exact ⟨⟨h.run.good, h.run.inv.more (by omega), h.run.pow⟩, h.loose, h.held, h.kept, h.trees⟩
  · unfold stepF
    rw [if_neg (by rw [h2.err]; decide)]
    exact ⟨h1.symm, h.take hm h2.went h2.tree ((h2.loose _ h.loose).mono (fun i hi => by rcases hi with hi | hi; exact hi.elim; exact hi))⟩
end Go.Proofs.YtadmecjdihfmeaaGreat.Tre

