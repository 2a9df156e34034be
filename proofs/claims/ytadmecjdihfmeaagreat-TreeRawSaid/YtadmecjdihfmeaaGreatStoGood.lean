/- Layer 6 in plain Lean: a store and its device, whatever befalls them. -/
import Derived.Test.YtadmecjdihfmeaaGreatStoDisk
namespace Go.Proofs.YtadmecjdihfmeaaGreat.Sto
set_option linter.unusedVariables false
set_option linter.unusedSimpArgs false
open Go.RowKit Go.Proofs.YtadmecjdihfmeaaGreat.Mem Go.Proofs.YtadmecjdihfmeaaGreat.Oct Go.Proofs.YtadmecjdihfmeaaGreat.Dev

structure Good (n : Nat) (S : StS) (D : DevS) : Prop where
  dn : D.n = n
  live : ∀ i c, S.cells i = some c → ∃ d, getP (vw D i) n = some (c.kids, d)
  last : Lasts n S (kp D)
  clean : ∀ i, (S.kept i = true ∨ i = 0 ∨ i = 1) → D.dirty i = none
theorem Good.view {n : Nat} {S : StS} {D : DevS} (h : Good n S D) : Lasts n S (vw D) :=
  h.last.turn (fun i hi => vw_clean (h.clean i (.inl hi))) (vw_clean (h.clean 0 (.inr (.inl rfl)))) (vw_clean (h.clean 1 (.inr (.inr rfl))))
theorem Lasts.same {n : Nat} {S S' : StS} {K : Int → ByteArray} (h : Lasts n S K) (h1 : S'.gen = S.gen) (h2 : S'.root = S.root) (h3 : S'.note = S.note) (h4 : S'.kept = S.kept) : Lasts n S' K := by
  obtain ⟨a, b⟩ := h
  exact ⟨by rw [h1, h2, h3]; exact a, by rw [h2, h4]; exact b⟩
/-- perhaps fewer, with the same kids -/
structure Sub (S S' : StS) : Prop where
  cells : ∀ i c', S'.cells i = some c' → ∃ c, S.cells i = some c ∧ c'.kids = c.kids
  gen : S'.gen = S.gen
  root : S'.root = S.root
  note : S'.note = S.note
  kept : S'.kept = S.kept
theorem Sub.refl (S : StS) : Sub S S := ⟨fun i c h => ⟨c, h, rfl⟩, rfl, rfl, rfl, rfl⟩
theorem Sub.trans {A B C : StS} (h : Sub A B) (k : Sub B C) : Sub A C :=
  ⟨fun i c hc => by
    obtain ⟨c1, h1, e1⟩ := k.cells i c hc
    obtain ⟨c2, h2, e2⟩ := h.cells i c1 h1
    exact ⟨c2, h2, e1.trans e2⟩, k.gen.trans h.gen, k.root.trans h.root, k.note.trans h.note, k.kept.trans h.kept⟩
theorem Fade.sub {S S' : StS} (h : Fade S S') : Sub S S' :=
  ⟨fun i c hc => by
    obtain ⟨c1, h1, _, e, _⟩ := h.cells i c hc
    exact ⟨c1, h1, e⟩, h.gen, h.root, h.note, h.kept⟩
theorem sub_hold {S : StS} {i b : Int} (h : S.has i = true) : Sub S (S.hold i b) := by
  obtain ⟨c, hc⟩ := has_iff.1 h
  refine ⟨fun j d hj => ?_, rfl, rfl, rfl, rfl⟩
  have hj' : upd S.cells i (some { S.cel i with held := (S.cel i).held + b }) j = some d := hj
  by_cases hji : j = i
  · subst hji
    rw [upd_same] at hj'; cases hj'
    exact ⟨c, hc, by rw [cel_some hc]⟩
  · rw [upd_other _ _ _ hji] at hj'
    exact ⟨d, hj', rfl⟩
theorem Good.sub {n : Nat} {S S' : StS} {D : DevS} (h : Good n S D) (hs : Sub S S') : Good n S' D :=
  ⟨h.dn, fun i c hc => by
    obtain ⟨c0, h0, e⟩ := hs.cells i c hc
    rw [e]; exact h.live i c0 h0, h.last.same hs.gen hs.root hs.note hs.kept, fun i hi => h.clean i (by rw [hs.kept] at hi; exact hi)⟩
/-- another device, that has the same -/
theorem Good.dev {n : Nat} {S : StS} {D D' : DevS} (h : Good n S D) (hk : D'.kept = D.kept) (hd : D'.dirty = D.dirty) (hn : D'.n = D.n) : Good n S D' := by
  have e1 : kp D' = kp D := by funext i; unfold kp; rw [hk]
  have e2 : vw D' = vw D := by funext i; unfold vw; rw [hk, hd]
  exact ⟨hn.trans h.dn, by rw [e2]; exact h.live, by rw [e1]; exact h.last, by rw [hd]; exact h.clean⟩
/-! ### what a device does -/
theorem write_bad {D : DevS} {i : Int} {s : ByteArray} (h : D.writeE i s ≠ 0) : (D.write i s).kept = D.kept ∧ (D.write i s).dirty = D.dirty := by
  unfold DevS.writeE at h
  unfold DevS.write
  split
  · exact ⟨rfl, rfl⟩
  · rename_i ho
    rw [if_neg ho] at h
    split
    · rename_i hin
      rw [if_pos hin] at h
      split
      · rename_i hs; rw [if_pos hs] at h; exact absurd rfl h
      · exact ⟨D.spend_kept, D.spend_dirty⟩
    · exact ⟨rfl, rfl⟩
theorem write_good {D : DevS} {i : Int} {s : ByteArray} (h : D.writeE i s = 0) : (D.write i s).kept = D.kept ∧ (D.write i s).dirty = upd D.dirty i (some s) := by
  unfold DevS.writeE at h
  unfold DevS.write
  split
  · rename_i ho; rw [if_pos ho] at h; cases h
  · rename_i ho
    rw [if_neg ho] at h
    split
    · rename_i hin
      rw [if_pos hin] at h
      split
      · exact ⟨D.spend_kept, rfl⟩
      · rename_i hs; rw [if_neg hs] at h; cases h
    · rename_i hin; rw [if_neg hin] at h; cases h
theorem flush_bad {D : DevS} (h : D.flushE ≠ 0) : D.flush.kept = D.kept ∧ D.flush.dirty = D.dirty := by
  unfold DevS.flushE at h
  unfold DevS.flush
  split
  · rename_i hs; rw [if_pos hs] at h; exact absurd rfl h
  · exact ⟨D.spend_kept, D.spend_dirty⟩
theorem flush_good {D : DevS} (h : D.flushE = 0) : D.flush.kept = over D.dirty D.kept ∧ D.flush.dirty = fun _ => none := by
  unfold DevS.flushE at h
  unfold DevS.flush
  split
  · exact ⟨rfl, rfl⟩
  · rename_i hs; rw [if_neg hs] at h; cases h
theorem kp_flush {D : DevS} (h : D.flushE = 0) : kp D.flush = vw D := by funext i; unfold kp vw; rw [(flush_good h).1]
theorem vw_flush {D : DevS} (h : D.flushE = 0) : vw D.flush = vw D := by
  funext i
  unfold vw
  rw [(flush_good h).1, (flush_good h).2]
  rfl
theorem Good.flush {n : Nat} {S : StS} {D : DevS} (h : Good n S D) : Good n S D.flush := by
  by_cases hf : D.flushE = 0
  · exact ⟨(flush_n D).trans h.dn, by rw [vw_flush hf]; exact h.live, by rw [kp_flush hf]; exact h.view, fun i _ => by rw [(flush_good hf).2]⟩
  · exact h.dev (flush_bad hf).1 (flush_bad hf).2 (flush_n D)
theorem vw_write {D : DevS} {i : Int} {s : ByteArray} (h : D.writeE i s = 0) (j : Int) : vw (D.write i s) j = if j = i then s else vw D j := by
  unfold vw
  rw [(write_good h).1, (write_good h).2]
  by_cases hj : j = i
  · subst hj; rw [if_pos rfl]; unfold over; rw [upd_same]; rfl
  · rw [if_neg hj]; unfold over; rw [upd_other _ _ _ hj]
theorem kp_write (D : DevS) (i : Int) (s : ByteArray) : kp (D.write i s) = kp D := by
  funext j
  unfold kp
  by_cases h : D.writeE i s = 0
  · rw [(write_good h).1]
  · rw [(write_bad h).1]
/-! ### Put -/
theorem putOut_dev (S : StS) (D : DevS) (kids : List Int) (data : ByteArray) (h : (putOut S D kids data).2.1 ≠ 0) : (putOut S D kids data).2.2.1 = S ∧ (putOut S D kids data).2.2.2.kept = D.kept ∧ (putOut S D kids data).2.2.2.dirty = D.dirty := by
  unfold putOut at h ⊢
  split
  · exact ⟨rfl, rfl, rfl⟩
  · rename_i h1
    rw [if_neg h1] at h
    split
    · exact ⟨rfl, rfl, rfl⟩
    · rename_i h2
      rw [if_neg h2] at h
      split
      · rename_i h3; exact ⟨rfl, write_bad h3⟩
      · rename_i h3; rw [if_neg h3] at h; exact absurd rfl h
theorem has_dom {n m : Nat} {S : StS} (h : Inv n m S) {i : Int} (hi : S.has i = true) : 2 ≤ i ∧ i < n := by
  obtain ⟨c, hc⟩ := has_iff.1 hi
  exact h.wf.dom i c hc
theorem Good.put {n m : Nat} {S : StS} {D : DevS} (h : Good n S D) (hi : Inv n m S) (hn : n ≤ 4096) (kids : List Int) (data : ByteArray) : Good n (putOut S D kids data).2.2.1 (putOut S D kids data).2.2.2 := by
  have hnn := putOut_n S D kids data
  rcases putOut_cases S D kids data with ⟨e, he, ⟨_, e2, e3⟩, _⟩ | ⟨hp, e2, e3⟩
  · have := putOut_dev S D kids data (by rw [e2]; exact he)
    rw [this.1]
    exact h.dev this.2.1 this.2.2 hnn
  · have hst := hp.st
    have hw := write_good hp.wrote
    have hf := fade_names kids S (fun k hk => (hp.good k hk).1)
    refine ⟨hnn.trans h.dn, fun i c hc => ?_, ?_, fun i hi' => ?_⟩
    · rw [e3, vw_write hp.wrote]
      rw [hst] at hc
      have hc' : upd (S.names kids).cells (putOut S D kids data).1 (some ⟨0, 0, S.highOf kids + 1, kids⟩) i = some c := hc
      by_cases hii : i = (putOut S D kids data).1
      · rw [hii, upd_same] at hc'
        cases hc'
        rw [if_pos hii]
        exact ⟨data, getP_put (by omega) hp.len (fun x hx => has_dom hi (hp.good x hx).1) hp.size⟩
      · rw [upd_other _ _ _ hii] at hc'
        rw [if_neg hii]
        obtain ⟨c0, h0, _, e, _⟩ := hf.cells i c hc'
        rw [e]; exact h.live i c0 h0
    · rw [e3, kp_write]
      refine h.last.same ?_ ?_ ?_ ?_ <;> rw [hst]
      · exact hf.gen
      · exact hf.root
      · exact hf.note
      · exact hf.kept
    · rw [e3, hw.2]
      have hk : (putOut S D kids data).2.2.1.kept = S.kept := by rw [hst]; exact hf.kept
      rw [hk] at hi'
      have hp2 := hp.pos
      have hp3 := hp.unk
      rw [upd_other]
      · exact h.clean i hi'
      · rintro rfl
        rcases hi' with h1 | h1 | h1
        · rw [hp3] at h1; cases h1
        · omega
        · omega
/-! ### Commit -/
theorem keep_kids {S T : StS} (h : T.cells = S.cells) (i : Int) : (T.cel i).kids = (S.cel i).kids := by unfold StS.cel; rw [h]
theorem keepF_new {n : Nat} : ∀ (f : Nat) (S : StS) (i : Int), WF n S [] → unk S.kept n ≤ f → (i = 0 ∨ S.has i = true) →
    (∀ j, S.kept j = true → (S.keepF f i).kept j = true) ∧ (i ≠ 0 → (S.keepF f i).kept i = true) ∧ (∀ j, (S.keepF f i).kept j = true → S.kept j = false → S.has j = true ∧ ∀ k ∈ (S.cel j).kids, (S.keepF f i).kept k = true)
  | 0, S, i, hw, hu, hi => by
    refine ⟨fun j hj => hj, fun h0 => ?_, fun j hj hn => ?_⟩
    · have hi' : S.has i = true := by
        rcases hi with h | h
        · exact absurd h h0
        · exact h
      obtain ⟨c, hc⟩ := has_iff.1 hi'
      have hd := hw.dom i c hc
      exact unk_none (K := S.kept) (n := n) (i := i) (by omega) ⟨by omega, hd.2⟩
    · have hj' : S.kept j = true := hj
      rw [hn] at hj'; cases hj'
  | f + 1, S, i, hw, hu, hi => by
    unfold StS.keepF
    by_cases hc0 : i = 0 ∨ S.kept i = true
    · rw [if_pos hc0]
      refine ⟨fun j hj => hj, fun h0 => ?_, fun j hj hn => ?_⟩
      · rcases hc0 with h | h
        · exact absurd h h0
        · exact h
      · rw [hn] at hj; cases hj
    · rw [if_neg hc0]
      have hi' : S.has i = true := by
        rcases hi with h | h
        · exact absurd (.inl h) hc0
        · exact h
      have hki : S.kept i = false := by
        cases hk : S.kept i with
        | false => rfl
        | true => exact absurd (.inr hk) hc0
      obtain ⟨c, hc⟩ := has_iff.1 hi'
      have hd := hw.dom i c hc
      have hcel := cel_some hc
      have hu1 : unk (fun j => if j = i then true else S.kept j) n ≤ f := by
        have := unk_set (K := S.kept) (i := i) hki n (by omega) hd.2
        omega
      have key : ∀ (ks : List Int) (T : StS), T.cells = S.cells → (∀ k ∈ ks, S.has k = true) → unk T.kept n ≤ f →
          (∀ j, T.kept j = true → (ks.foldl (fun T k => StS.keepF f T k) T).kept j = true) ∧ (∀ k ∈ ks, (ks.foldl (fun T k => StS.keepF f T k) T).kept k = true) ∧
          (∀ j, (ks.foldl (fun T k => StS.keepF f T k) T).kept j = true → T.kept j = false → S.has j = true ∧ ∀ k ∈ (S.cel j).kids, (ks.foldl (fun T k => StS.keepF f T k) T).kept k = true) := by
        intro ks
        induction ks with
        | nil => intro T hT _ _; exact ⟨fun j hj => hj, fun k hk => by simp at hk, fun j hj hn => by
            have hj' : T.kept j = true := hj
            rw [hn] at hj'; cases hj'⟩
        | cons k ks ih =>
          intro T hT hks huT
          have hk := hks k (by simp)
          have hkT : T.has k = true := by unfold StS.has at hk ⊢; rw [hT]; exact hk
          have hkd : 2 ≤ k := by
            obtain ⟨ck, hck⟩ := has_iff.1 hk
            exact (hw.dom k ck hck).1
          have hwT : WF n T [] := hw.same hT
          obtain ⟨a1, a2, a3⟩ := keepF_new f T k hwT huT (.inr hkT)
          have hcc := keepF_cells f T k
          obtain ⟨b1, b2, b3⟩ := ih (T.keepF f k) (hcc.1.trans hT) (fun q hq => hks q (by simp [hq])) (Nat.le_trans (keepF_unk (n := n) f T k) huT)
          refine ⟨fun j hj => b1 j (a1 j hj), fun q hq => ?_, fun j hj hn => ?_⟩
          · rcases List.mem_cons.1 hq with rfl | hq
            · exact b1 _ (a2 (by omega))
            · exact b2 q hq
          · cases hm : (T.keepF f k).kept j with
            | false => exact b3 j hj hm
            | true =>
              obtain ⟨h1, h2⟩ := a3 j hm hn
              refine ⟨by unfold StS.has at h1 ⊢; rw [← hT]; exact h1, fun q hq => b1 q (h2 q ?_)⟩
              rw [keep_kids hT]; exact hq
      obtain ⟨b1, b2, b3⟩ := key (S.cel i).kids { S with kept := fun j => if j = i then true else S.kept j } rfl (fun k hk => by rw [hcel] at hk; exact hw.kids i c hc k hk) hu1
      refine ⟨fun j hj => b1 j (by show (if j = i then true else S.kept j) = true; rw [hj]; split <;> rfl), fun _ => b1 i (by show (if i = i then true else S.kept i) = true; rw [if_pos rfl]), fun j hj hn => ?_⟩
      by_cases hji : j = i
      · subst hji; exact ⟨hi', b2⟩
      · exact b3 j hj (by show (if j = i then true else S.kept j) = false; rw [if_neg hji]; exact hn)
theorem keepF_least {Q : Int → Prop} : ∀ (f : Nat) (S : StS) (i : Int), (∀ j, S.kept j = true → Q j) → (i ≠ 0 → Q i) → (∀ j, Q j → ∀ k ∈ (S.cel j).kids, Q k) → ∀ j, (S.keepF f i).kept j = true → Q j
  | 0, S, i, h1, h2, h3 => h1
  | f + 1, S, i, h1, h2, h3 => by
    unfold StS.keepF
    split
    · exact h1
    · rename_i hne
      have hi : Q i := h2 (fun h => hne (.inl h))
      have key : ∀ (ks : List Int) (T : StS), T.cells = S.cells → (∀ j, T.kept j = true → Q j) → (∀ k ∈ ks, Q k) → ∀ j, (ks.foldl (fun T k => StS.keepF f T k) T).kept j = true → Q j := by
        intro ks
        induction ks with
        | nil => intro T _ hT _; exact hT
        | cons k ks ih =>
          intro T hTc hT hks
          exact ih (T.keepF f k) ((keepF_cells f T k).1.trans hTc) (keepF_least f T k hT (fun _ => hks k (by simp)) (fun j hj q hq => h3 j hj q (by rw [← keep_kids hTc]; exact hq))) (fun q hq => hks q (by simp [hq]))
      refine key _ _ rfl (fun j hj => ?_) (h3 i hi)
      by_cases hji : j = i
      · subst hji; exact hi
      · have hj2 : (if j = i then true else S.kept j) = true := hj
        rw [if_neg hji] at hj2
        exact h1 j hj2
/-- what a commit keeps -/
def StS.after (S : StS) (n : Nat) (root : Int) (note : ByteArray) : StS := (S.ahead root note).keepF n root
theorem unk_all (n : Nat) : unk (fun _ => false) n ≤ n := unk_le _ n
theorem lies_after {n m : Nat} {S : StS} (hi : Inv n m S) {root : Int} (hr : root = 0 ∨ S.has root = true) (note : ByteArray) {K : Int → ByteArray} (hl : ∀ i c, S.cells i = some c → ∃ d, getP (K i) n = some (c.kids, d)) : Lies n K root (fun i => (S.after n root note).kept i = true) := by
  have hw : WF n (S.ahead root note) [] := hi.wf.same rfl
  have hr' : root = 0 ∨ (S.ahead root note).has root = true := hr
  obtain ⟨a1, a2, a3⟩ := keepF_new n (S.ahead root note) root hw (unk_all n) hr'
  have a4 : ∀ j, (S.after n root note).kept j = true → S.has j = true ∧ ∀ k ∈ (S.cel j).kids, (S.after n root note).kept k = true := fun j hj => a3 j hj rfl
  refine ⟨a2, fun i hp => has_dom hi (a4 i hp).1, ⟨fun i => ((S.cel i).high - 1).toNat, fun i hp => ?_⟩, fun Q h0 hs i hp => ?_⟩
  · obtain ⟨h1, h2⟩ := a4 i hp
    obtain ⟨c, hc⟩ := has_iff.1 h1
    have hcel := cel_some hc
    obtain ⟨d, hd⟩ := hl i c hc
    have hh := hi.wf.high i c hc
    dsimp only
    rw [hcel] at h2 ⊢
    refine ⟨by omega, c.kids, d, hd, fun k hk => ⟨h2 k hk, ?_⟩⟩
    obtain ⟨ck, hck⟩ := has_iff.1 (hi.wf.kids i c hc k hk)
    have := hi.wf.below i c k ck hc hk hck
    have hhk := hi.wf.high k ck hck
    rw [cel_some hck]; omega
  · have := keepF_least (Q := fun j => Q j ∧ (S.after n root note).kept j = true) n (S.ahead root note) root (fun j hj => by cases hj) (fun h => ⟨h0 h, a2 h⟩) (fun j hj k hk => by
      have hk' : k ∈ (S.cel j).kids := hk
      obtain ⟨h1, h2⟩ := a4 j hj.2
      obtain ⟨c, hc⟩ := has_iff.1 h1
      obtain ⟨d, hd⟩ := hl j c hc
      rw [cel_some hc] at hk' h2
      exact ⟨hs j c.kids d hj.2 hj.1 hd k hk', h2 k hk'⟩) i hp
    exact this.1
theorem starts_after {n m : Nat} {S : StS} (hi : Inv n m S) (hn : 8 ≤ n ∧ n ≤ 4096) {root : Int} (hr : root = 0 ∨ S.has root = true) {note : ByteArray} (hnt : note.size ≤ 3900) (hg : S.gen < 1099511627776) {D : DevS} (hDn : D.n = n) {K K' : Int → ByteArray} (hl : Lasts n S K)
    (h1 : K' ((S.gen + 1).tmod 2) = superOf S D root note) (h2 : K' (S.gen.tmod 2) = K (S.gen.tmod 2)) : Starts n K' (S.gen + 1) root note := by
  have hgen := hi.gen
  have hroot : root = 0 ∨ (2 ≤ root ∧ root < n) := by
    rcases hr with h | h
    · exact .inl h
    · exact .inr (has_dom hi h)
  refine ⟨?_, fun x hx => ?_⟩
  · rw [h1]
    unfold superOf
    rw [hDn]
    exact beginsP_super (n := n) ⟨by omega, by omega⟩ ⟨by omega, by omega⟩ (by omega) hnt
  · have e : (S.gen + 1 + 1).tmod 2 = S.gen.tmod 2 := by
      rw [Int.tmod_eq_emod_of_nonneg (by omega), Int.tmod_eq_emod_of_nonneg (by omega)]; omega
    rw [e, h2, hl.starts.this] at hx
    cases hx
    show ((S.gen.toNat : Nat) : Int) < _
    omega
theorem after_same (S : StS) (n : Nat) (root : Int) (note : ByteArray) : (S.after n root note).cells = S.cells ∧ (S.after n root note).gen = S.gen + 1 ∧ (S.after n root note).root = root ∧ (S.after n root note).note = note := keepF_cells n (S.ahead root note) root
/-- a device that is as it was but for a beginning that may lie there -/
theorem lasts_after {n m : Nat} {S : StS} {D : DevS} (h : Good n S D) (hi : Inv n m S) (hn : 8 ≤ n ∧ n ≤ 4096) {root : Int} (hr : root = 0 ∨ S.has root = true) {note : ByteArray} (hnt : note.size ≤ 3900) (hg : S.gen < 1099511627776) {K' : Int → ByteArray}
    (h1 : K' ((S.gen + 1).tmod 2) = superOf S D root note) (h2 : ∀ i, i ≠ (S.gen + 1).tmod 2 → K' i = vw D i) : Lasts n (S.after n root note) K' := by
  obtain ⟨e1, e2, e3, e4⟩ := after_same S n root note
  have hgen := hi.gen
  have hne : S.gen.tmod 2 ≠ (S.gen + 1).tmod 2 := by
    rw [Int.tmod_eq_emod_of_nonneg (by omega), Int.tmod_eq_emod_of_nonneg (by omega)]; omega
  have hs01 : (S.gen + 1).tmod 2 = 0 ∨ (S.gen + 1).tmod 2 = 1 := by rw [Int.tmod_eq_emod_of_nonneg (by omega)]; omega
  refine ⟨?_, ?_⟩
  · rw [e2, e3, e4]
    exact starts_after hi hn hr hnt hg h.dn h.view h1 (h2 _ hne)
  · rw [e3]
    refine lies_after hi hr note (fun i c hc => ?_)
    have hd := hi.wf.dom i c hc
    rw [h2 i (by omega)]
    exact h.live i c hc
inductive CommitD (n : Nat) (S : StS) (D : DevS) (root : Int) (note : ByteArray) : Int → StS → DevS → Prop where
  | stays (e : Int) (D' : DevS) (he : e ≠ 0) (hg : Good n S D') (hv : ∀ i, vw D' i = vw D i) (hne : e = 22 ∨ e = 75 ∨ e = 5) : CommitD n S D root note e S D'
  | torn (D' : DevS) (hr : root = 0 ∨ S.has root = true) (hnt : note.size ≤ 3900) (hg : S.gen < 1099511627776) (hn : D'.n = n) (hk : D'.kept = over D.dirty D.kept) (hd : D'.dirty = upd (fun _ => none) ((S.gen + 1).tmod 2) (some (superOf S D root note))) : CommitD n S D root note 5 S D'
  | done (D' : DevS) (hr : root = 0 ∨ S.has root = true) (hnt : note.size ≤ 3900) (hg : S.gen < 1099511627776) (hn : D'.n = n) (hk : ∀ i, kp D' i = if i = (S.gen + 1).tmod 2 then superOf S D root note else vw D i) (hd : D'.dirty = fun _ => none) : CommitD n S D root note 0 (S.after n root note) D'
theorem flushE_5 {D : DevS} (h : D.flushE ≠ 0) : D.flushE = 5 := by unfold DevS.flushE at h ⊢; split <;> simp_all
theorem super_size {n : Nat} (g r : Nat) {note : ByteArray} (h : note.size ≤ 3900) : (superB g r n note).size ≤ 4096 := by
  have e : (superB g r n note).size = (superL g r n note).length + 8 := by
    have := bl_size (Crc.seal_ (superL g r n note))
    rw [Crc.seal_length] at this
    exact this
  rw [e]
  simp [superL, be_length]; omega
theorem block_size {l : List Int} {d : ByteArray} (hl : l.length ≤ 16) (h : d.size ≤ 3900) : (blockB l d).size ≤ 4096 := by
  have e : (blockB l d).size = (blockL l d).length + 8 := by
    have := bl_size (Crc.seal_ (blockL l d))
    rw [Crc.seal_length] at this
    exact this
  rw [e]
  simp [blockL, be_length, kidsL_len]; omega
theorem commit_dev {n m : Nat} {S : StS} {D : DevS} (h : Good n S D) (hi : Inv n m S) (hn : 8 ≤ n ∧ n ≤ 4096) (root : Int) (note : ByteArray) : CommitD n S D root note (commitOut S D root note).1 (commitOut S D root note).2.1 (commitOut S D root note).2.2 := by
  have hDn : D.n.toNat = n := by have := h.dn; omega
  have hgen := hi.gen
  have hs01 : (S.gen + 1).tmod 2 = 0 ∨ (S.gen + 1).tmod 2 = 1 := by rw [Int.tmod_eq_emod_of_nonneg (by omega)]; omega
  unfold commitOut
  by_cases h1 : (root ≠ 0 ∧ S.has root = false) ∨ 3900 < note.size
  · rw [if_pos h1]; exact .stays 22 D (by decide) h (fun _ => rfl) (.inl rfl)
  · rw [if_neg h1]
    by_cases h2 : 1099511627776 ≤ S.gen
    · rw [if_pos h2]; exact .stays 75 D (by decide) h (fun _ => rfl) (.inr (.inl rfl))
    · rw [if_neg h2]
      have hr : root = 0 ∨ S.has root = true := by
        by_cases h0 : root = 0
        · exact .inl h0
        · right
          cases hh : S.has root with
          | true => rfl
          | false => exact absurd (.inl ⟨h0, hh⟩) h1
      have hnt : note.size ≤ 3900 := by
        rcases Nat.lt_or_ge 3900 note.size with h | h
        · exact absurd (.inr h) h1
        · exact h
      by_cases h3 : D.flushE ≠ 0
      · rw [if_pos h3]
        refine .stays _ _ h3 h.flush (fun i => ?_) (.inr (.inr (flushE_5 h3)))
        unfold vw; rw [(flush_bad h3).1, (flush_bad h3).2]
      · rw [if_neg h3]
        have h3' : D.flushE = 0 := by simpa using h3
        have hws : ∀ e, D.flush.writeE ((S.gen + 1).tmod 2) (superB (S.gen + 1).toNat root.toNat D.n.toNat note) = e → e ≠ 0 → e = 5 := by
          intro e he hne
          rw [← he]
          rw [← he] at hne
          have hin : D.flush.inside ((S.gen + 1).tmod 2) = true := by
            have := h.dn
            simp [DevS.inside, flush_n]; omega
          unfold DevS.writeE at hne ⊢
          have hsz := super_size (n := D.n.toNat) (S.gen + 1).toNat root.toNat hnt
          rw [hin, decide_eq_true hsz] at hne ⊢
          split
          · rfl
          · rename_i ho
            rw [if_neg ho] at hne
            simp only [Bool.and_self, if_true] at hne ⊢
            split
            · rename_i hs; rw [if_pos hs] at hne; exact absurd rfl hne
            · rfl
        by_cases h4 : D.flush.writeE ((S.gen + 1).tmod 2) (superB (S.gen + 1).toNat root.toNat D.n.toNat note) ≠ 0
        · rw [if_pos h4]
          have hb := write_bad h4
          refine .stays _ _ h4 (h.flush.dev hb.1 hb.2 (write_n _ _ _)) (fun i => ?_) (.inr (.inr (hws _ rfl h4)))
          have := congrFun (vw_flush h3') i
          rw [← this]
          unfold vw; rw [hb.1, hb.2]
        · rw [if_neg h4]
          have h4' : D.flush.writeE ((S.gen + 1).tmod 2) (superB (S.gen + 1).toNat root.toNat D.n.toNat note) = 0 := by simpa using h4
          have hwg := write_good h4'
          have hnn : (D.flush.write ((S.gen + 1).tmod 2) (superB (S.gen + 1).toNat root.toNat D.n.toNat note)).n = n := (write_n _ _ _).trans ((flush_n D).trans h.dn)
          by_cases h5 : (D.flush.write ((S.gen + 1).tmod 2) (superB (S.gen + 1).toNat root.toNat D.n.toNat note)).flushE ≠ 0
          · rw [if_pos h5]
            have hb := flush_bad h5
            rw [flushE_5 h5]
            refine .torn _ hr hnt (by omega) ((flush_n _).trans hnn) ?_ ?_
            · rw [hb.1, hwg.1, (flush_good h3').1]
            · rw [hb.2, hwg.2, (flush_good h3').2]; rfl
          · rw [if_neg h5]
            have h5' : (D.flush.write ((S.gen + 1).tmod 2) (superB (S.gen + 1).toNat root.toNat D.n.toNat note)).flushE = 0 := by simpa using h5
            rw [hDn]
            have hD' : Good n S D.flush := h.flush
            refine .done _ hr hnt (by omega) ?_ (fun i => ?_) ?_
            · rw [← hDn]; exact (flush_n _).trans (by rw [hnn, hDn])
            · rw [← hDn, kp_flush h5', vw_write h4', vw_flush h3']; rfl
            · rw [← hDn, (flush_good h5').2]
theorem CommitD.good {n m : Nat} {S : StS} {D : DevS} {root e : Int} {note : ByteArray} {S' : StS} {D' : DevS} (h : Good n S D) (hi : Inv n m S) (hn : 8 ≤ n ∧ n ≤ 4096) (hc : CommitD n S D root note e S' D') (he : e ≠ 5) : Good n S' D' := by
  cases hc with
  | stays e D' he hg hv hne => exact hg
  | torn D' => exact absurd rfl he
  | done D' hr hnt hg hDn hk hd =>
    obtain ⟨e1, e2, e3, e4⟩ := after_same S n root note
    have hgen := hi.gen
    have hs01 : (S.gen + 1).tmod 2 = 0 ∨ (S.gen + 1).tmod 2 = 1 := by rw [Int.tmod_eq_emod_of_nonneg (by omega)]; omega
    refine ⟨hDn, fun i c hc => ?_, lasts_after h hi hn hr hnt hg (by rw [hk, if_pos rfl]) (fun i hi => by rw [hk, if_neg hi]), fun i _ => by rw [hd]⟩
    rw [e1] at hc
    have hdm := hi.wf.dom i c hc
    rw [vw_clean (by rw [hd]), hk, if_neg (by omega)]
    exact h.live i c hc
/-! ### with power -/
structure Pow (D : DevS) : Prop where
  off : D.off = false
  burns : D.burns = false
theorem Pow.spent {D : DevS} (h : Pow D) : D.spent = true := by simp [DevS.spent, h.off, h.burns]
theorem Pow.spend {D : DevS} (h : Pow D) : D.spend = D := by simp [DevS.spend, h.off, h.burns]
theorem Pow.flushE {D : DevS} (h : Pow D) : D.flushE = 0 := by simp [DevS.flushE, h.spent]
theorem Pow.flush {D : DevS} (h : Pow D) : Pow D.flush := by
  unfold DevS.flush
  rw [if_pos h.spent, h.spend]
  exact ⟨h.off, h.burns⟩
theorem Pow.write {D : DevS} (h : Pow D) (i : Int) (s : ByteArray) : Pow (D.write i s) := by
  unfold DevS.write
  rw [h.off, if_neg (by decide)]
  split
  · rw [if_pos h.spent, h.spend]
    exact ⟨h.off, h.burns⟩
  · exact h
theorem Pow.writeE {D : DevS} (h : Pow D) {i : Int} {s : ByteArray} (hi : 0 ≤ i ∧ i < D.n) (hs : s.size ≤ 4096) : D.writeE i s = 0 := by
  have hin : D.inside i = true := by simp [DevS.inside]; exact hi
  unfold DevS.writeE
  rw [h.off, hin, decide_eq_true hs, h.spent]
  rfl
theorem Pow.write_ne {D : DevS} (h : Pow D) (i : Int) (s : ByteArray) : D.writeE i s ≠ 5 := by
  unfold DevS.writeE
  rw [h.off, h.spent, if_neg (by decide)]
  split <;> decide
theorem Pow.put {D : DevS} (h : Pow D) (S : StS) (kids : List Int) (data : ByteArray) : Pow (putOut S D kids data).2.2.2 ∧ (putOut S D kids data).2.1 ≠ 5 := by
  unfold putOut
  split
  · exact ⟨h, (by decide : (22 : Int) ≠ 5)⟩
  · split
    · exact ⟨h, (by decide : (28 : Int) ≠ 5)⟩
    · split
      · exact ⟨h.write _ _, h.write_ne _ _⟩
      · exact ⟨h.write _ _, (by decide : (0 : Int) ≠ 5)⟩
theorem Pow.commit {D : DevS} (h : Pow D) (S : StS) (root : Int) (note : ByteArray) : Pow (commitOut S D root note).2.2 ∧ (commitOut S D root note).1 ≠ 5 := by
  unfold commitOut
  split
  · exact ⟨h, (by decide : (22 : Int) ≠ 5)⟩
  · split
    · exact ⟨h, (by decide : (75 : Int) ≠ 5)⟩
    · rw [if_neg (by rw [h.flushE]; decide)]
      split
      · exact ⟨h.flush.write _ _, h.flush.write_ne _ _⟩
      · rw [if_neg (by rw [(h.flush.write _ _).flushE]; decide)]
        exact ⟨(h.flush.write _ _).flush, (by decide : (0 : Int) ≠ 5)⟩
/-- a store and its device, m acts on, with power -/
structure Run (n m : Nat) (S : StS) (D : DevS) : Prop where
  good : Good n S D
  inv : Inv n m S
  pow : Pow D
theorem Good.does {n m : Nat} {S : StS} {D : DevS} (h : Good n S D) (hi : Inv n m S) (hn : 8 ≤ n ∧ n ≤ 4096) (k : DoT) (hk : k.opn ≠ 9 ∨ (commitOut S D k.i k.s).1 ≠ 5) : Good n (doesOut S D k).st (doesOut S D k).dv := by
  have hDn : D.n.toNat = n := by have := h.dn; omega
  unfold doesOut
  rw [hDn]
  split
  · show Good n (S.holds k.i) D
    unfold StS.holds
    split
    · rename_i hh; exact h.sub (sub_hold hh)
    · exact h
  · split
    · show Good n (S.drop n k.i) D
      unfold StS.drop
      split
      · exact h
      · rename_i hge
        have hh : S.has k.i = true := by
          cases hh : S.cells k.i with
          | some d => rw [StS.has, hh]; rfl
          | none =>
            have : S.cel k.i = noCel := by rw [StS.cel, hh]; rfl
            rw [this] at hge
            exact absurd (by decide) hge
        obtain ⟨c, hc⟩ := has_iff.1 hh
        rw [cel_some hc] at hge
        have h0 := hi.wf.held _ c hc
        have hw := hi.wf.hold hh (by_ := -1) (by rw [cel_some hc]; omega)
        exact h.sub ((sub_hold hh).trans (gone_fade n _ k.i [] hw (num_le _ _)).sub)
    · split
      · exact h.sub (sweep_fade _ S hi.wf).sub
      · split
        · rename_i h9
          have hc := commit_dev h hi hn k.i k.s
          refine hc.good h hi hn ?_
          rcases hk with h1 | h1
          · exact absurd h9 h1
          · exact h1
        · split
          · exact h
          · split
            · show Good n S (D.fuse k.i)
              unfold DevS.fuse
              split
              · exact h
              · exact h.dev rfl rfl rfl
            · exact h.put hi hn.2 k.kids k.s
theorem Run.does {n m : Nat} {S : StS} {D : DevS} (h : Run n m S D) (hn : 8 ≤ n ∧ n ≤ 4096) (hm : m < 1099511627776) {k : DoT} (hk : k.opn < 11) : Run n (m + 1) (doesOut S D k).st (doesOut S D k).dv := by
  refine ⟨h.good.does h.inv hn k (.inr (h.pow.commit S k.i k.s).2), (h.inv.does h.good.dn hn.2 hm k).1, ?_⟩
  unfold doesOut
  split
  · exact h.pow
  · split
    · exact h.pow
    · split
      · exact h.pow
      · split
        · exact (h.pow.commit S k.i k.s).1
        · split
          · exact h.pow
          · split
            · omega
            · exact (h.pow.put S k.kids k.s).1
/-! ### how many are free -/
def StS.frees (S : StS) (n : Nat) : Nat := (((List.range n).map fun (j : Nat) => (j : Int)).filter fun i => decide (2 ≤ i) && S.freeAt i).length
theorem frees_all {S : StS} (h : ∀ i, S.has i = true ∨ S.kept i = true → 2 ≤ i) : ∀ m : Nat, S.keptOnly m + num S.cells m + S.frees m + min m 2 = m
  | 0 => rfl
  | m + 1 => by
    have ih := frees_all h m
    unfold StS.keptOnly StS.frees at ih ⊢
    simp only [List.range_succ, List.map_append, List.map_cons, List.map_nil, List.filter_append, List.length_append, num]
    have e1 : (S.cells (m : Int)).isSome = S.has m := rfl
    rw [e1]
    have h2 := h (m : Int)
    cases hh : S.has m <;> cases hk : S.kept m <;> simp [hh, hk, StS.freeAt] at ih h2 ⊢
    · by_cases h3 : 2 ≤ m
      · have h4 : (2 : Int) ≤ (m : Int) := by omega
        rw [List.filter_cons_of_pos (by simp [h4, hh, hk])]
        simp only [List.filter_nil, List.length_cons, List.length_nil]
        omega
      · have h4 : ¬ (2 : Int) ≤ (m : Int) := by omega
        rw [List.filter_cons_of_neg (by simp [h4])]
        simp only [List.filter_nil, List.length_nil]
        omega
    · omega
    · omega
    · omega
theorem freeGo_none {S : StS} {n : Int} : ∀ (k : Nat) (i : Int), 1 ≤ i → S.freeGo n k i = 0 → ∀ j, i ≤ j → j < n → j < i + k → S.freeAt j = false
  | 0, i, h1, h, j, hj, hn, hk => by omega
  | k + 1, i, h1, h, j, hj, hn, hk => by
    unfold StS.freeGo at h
    split at h
    · rename_i hin
      split at h
      · omega
      · rename_i hf
        by_cases hji : j = i
        · subst hji; simpa using hf
        · exact freeGo_none k (i + 1) (by omega) h j (by omega) hn (by omega)
    · omega
theorem free_none {S : StS} {n : Nat} (h : ∀ i, S.has i = true ∨ S.kept i = true → 2 ≤ i) (hn : 8 ≤ n) (h0 : S.free n = 0) : S.freeN n = 0 := by
  have h1 := frees_all h n
  have h2 : S.frees n = 0 := by
    unfold StS.frees
    rw [List.length_eq_zero_iff, List.filter_eq_nil_iff]
    intro i hi
    simp only [List.mem_map, List.mem_range] at hi
    obtain ⟨j, hj, rfl⟩ := hi
    by_cases h3 : (2 : Int) ≤ j
    · have := freeGo_none (S := S) (n := n) (n : Int).toNat 2 (by omega) h0 j h3 (by omega) (by omega)
      rw [this]; simp
    · simp; omega
  unfold StS.freeN
  omega
theorem num_congr {f g : Int → Option Cel} (h : ∀ i, (f i).isSome = (g i).isSome) : ∀ n, num f n = num g n
  | 0 => rfl
  | n + 1 => by simp only [num, num_congr h n, h]
theorem PutOk.freeN {n m : Nat} {S S' : StS} {D : DevS} {kids : List Int} {data : ByteArray} {id : Int} (h : PutOk S D kids data id S') (hi : Inv n m S) (hD : D.n = n) : S'.freeN n = S.freeN n - 1 := by
  have hno := h.non
  have hun := h.unk
  have hp := h.pos
  have hnm : ∀ x, (S.names kids).has x = S.has x := names_has kids S (fun k hk => (h.good k hk).1)
  have hf := fade_names kids S (fun k hk => (h.good k hk).1)
  have e1 : num S'.cells n = num S.cells n + 1 := by
    rw [h.st]
    have h1 := num_upd (f := (S.names kids).cells) (j := id) (o := some ⟨0, 0, S.highOf kids + 1, kids⟩) n (by omega) (by omega)
    have h2 : ((S.names kids).cells id).isSome = false := (hnm id).trans hno
    have h3 := num_congr (f := (S.names kids).cells) (g := S.cells) hnm n
    rw [h2, h3] at h1
    have h4 : num ((S.names kids).setC id (some ⟨0, 0, S.highOf kids + 1, kids⟩)).cells n = num (upd (S.names kids).cells id (some ⟨0, 0, S.highOf kids + 1, kids⟩)) n := rfl
    rw [h4]
    simpa using h1
  have e2 : S'.keptOnly n = S.keptOnly n := by
    unfold StS.keptOnly
    congr 1
    refine List.filter_congr (fun i _ => ?_)
    have ek : S'.kept = S.kept := by rw [h.st]; exact hf.kept
    rw [ek]
    by_cases hid : i = id
    · subst hid; rw [hun]; rfl
    · have eh : S'.has i = S.has i := by
        rw [h.st, ← hnm i]
        show (upd _ _ _ _).isSome = _
        rw [upd_other _ _ _ hid]; rfl
      rw [eh]
  unfold StS.freeN
  omega
end Go.Proofs.YtadmecjdihfmeaaGreat.Sto
