/- Layer 6: Drop; what is kept. -/
import Derived.Test.YtadmecjdihfmeaaGreatStoGone
namespace Go.Proofs.YtadmecjdihfmeaaGreat.Sto
set_option linter.unusedVariables false
set_option linter.unusedSimpArgs false
set_option maxRecDepth 100000
open Go.RowKit Go.Lib Go.Proofs.YtadmecjdihfmeaaGreat.Mem Go.Proofs.YtadmecjdihfmeaaGreat.Oct Go.Proofs.YtadmecjdihfmeaaGreat.Dev

theorem num_le (f : Int → Option Cel) : ∀ n, num f n ≤ n
  | 0 => Nat.le_refl _
  | n + 1 => by
    have := num_le f n
    simp only [num]
    split <;> omega
namespace StS
/-- Drop -/
def dropE (S : StS) (i : Int) : Int := if (S.cel i).held < 1 then 22 else 0
def drop (S : StS) (n : Nat) (i : Int) : StS := if (S.cel i).held < 1 then S else (S.hold i (-1)).goneF n i
/-- what is kept behind a keeping -/
def keepF : Nat → StS → Int → StS
  | 0, S, _ => S
  | f + 1, S, i => if i = 0 ∨ S.kept i = true then S else (S.cel i).kids.foldl (fun T k => keepF f T k) { S with kept := fun j => if j = i then true else S.kept j }
end StS
/-- how many below n are not kept -/
def unk (K : Int → Bool) : Nat → Nat
  | 0 => 0
  | n + 1 => unk K n + (if K (n : Int) = true then 0 else 1)
theorem unk_le (K : Int → Bool) : ∀ n, unk K n ≤ n
  | 0 => Nat.le_refl _
  | n + 1 => by
    have := unk_le K n
    simp only [unk]
    split <;> omega
theorem unk_pos {K : Int → Bool} : ∀ (n : Nat) (j : Nat), j < n → K (j : Int) = false → 0 < unk K n
  | 0, j, h, _ => by omega
  | n + 1, j, h, hs => by
    simp only [unk]
    by_cases hjn : j = n
    · subst hjn; rw [hs]; simp
    · have := unk_pos n j (by omega) hs; omega
theorem unk_ge {K : Int → Bool} {i : Int} : ∀ n : Nat, (n : Int) ≤ i → unk (fun j => if j = i then true else K j) n = unk K n
  | 0, _ => rfl
  | n + 1, h => by
    have h1 := unk_ge (K := K) (i := i) n (by omega)
    have h2 : ¬ ((n : Int) = i) := by omega
    simp only [unk, h1, if_neg h2]
theorem unk_set {K : Int → Bool} {i : Int} (hk : K i = false) : ∀ n : Nat, 0 ≤ i → i < (n : Int) → unk (fun j => if j = i then true else K j) n + 1 = unk K n
  | 0, h0, h => by omega
  | n + 1, h0, h => by
    by_cases hi : (n : Int) = i
    · have h1 := unk_ge (K := K) (i := i) n (by omega)
      have h2 : K (n : Int) = false := by rw [hi]; exact hk
      simp only [unk, h1, if_pos hi, h2]
      simp
    · have h1 := unk_set hk n h0 (by omega)
      simp only [unk, if_neg hi]
      omega
theorem keepF_cells : ∀ (f : Nat) (S : StS) (i : Int), (S.keepF f i).cells = S.cells ∧ (S.keepF f i).gen = S.gen ∧ (S.keepF f i).root = S.root ∧ (S.keepF f i).note = S.note
  | 0, S, i => ⟨rfl, rfl, rfl, rfl⟩
  | f + 1, S, i => by
    unfold StS.keepF
    split
    · exact ⟨rfl, rfl, rfl, rfl⟩
    · have key : ∀ (ks : List Int) (T : StS), (ks.foldl (fun T k => StS.keepF f T k) T).cells = T.cells ∧ (ks.foldl (fun T k => StS.keepF f T k) T).gen = T.gen ∧ (ks.foldl (fun T k => StS.keepF f T k) T).root = T.root ∧ (ks.foldl (fun T k => StS.keepF f T k) T).note = T.note := by
        intro ks
        induction ks with
        | nil => intro T; exact ⟨rfl, rfl, rfl, rfl⟩
        | cons k ks ih =>
          intro T
          have h1 := keepF_cells f T k
          have h2 := ih (T.keepF f k)
          exact ⟨h2.1.trans h1.1, h2.2.1.trans h1.2.1, h2.2.2.1.trans h1.2.2.1, h2.2.2.2.trans h1.2.2.2⟩
      exact key _ _
theorem keepF_unk {n : Nat} : ∀ (f : Nat) (S : StS) (i : Int), unk (S.keepF f i).kept n ≤ unk S.kept n
  | 0, S, i => Nat.le_refl _
  | f + 1, S, i => by
    unfold StS.keepF
    split
    · exact Nat.le_refl _
    · have key : ∀ (ks : List Int) (T : StS), unk (ks.foldl (fun T k => StS.keepF f T k) T).kept n ≤ unk T.kept n := by
        intro ks
        induction ks with
        | nil => intro T; exact Nat.le_refl _
        | cons k ks ih => intro T; exact Nat.le_trans (ih (T.keepF f k)) (keepF_unk f T k)
      refine Nat.le_trans (key _ _) ?_
      have mono : ∀ m, unk (fun j => if j = i then true else S.kept j) m ≤ unk S.kept m := by
        intro m
        induction m with
        | zero => exact Nat.le_refl _
        | succ m ih =>
          simp only [unk]
          by_cases hm : (m : Int) = i
          · simp only [hm, if_true]; exact Nat.le_trans ih (Nat.le_add_right _ _)
          · simp only [hm, if_false]; exact Nat.add_le_add_right ih _
      exact mono n
/-- another map of what is kept -/
theorem StAt.setKept {w w' : World} {B : Blk} {S : StS} {D : DevS} {K : Int → Bool} (h : StAt w B S D) (hc : Chg [B.p] w w') (hm : IsI keptV w' B.p (fun i => if K i = true then some () else none)) : StAt w' B { S with kept := K } D := by
  have hnd := h.nd
  simp only [Blk.all, List.nodup_cons, List.mem_cons, List.mem_nil_iff, or_false, not_or] at hnd
  obtain ⟨⟨n1, n2, n3, n4, n5⟩, ⟨n6, n7, n8, n9⟩, ⟨n10, n11, n12⟩, ⟨n13, n14⟩, n15, _⟩ := hnd
  obtain ⟨mm, hcm⟩ := h.cells
  exact ⟨(hc.block _ (heap_lt h.box) (by simpa using n5)).trans h.box, h.dev.of_touch hc (by simpa using n9) (by simpa using n12) (by simpa using n14), ⟨mm, hcm.chg hc (fun t ht => by simp at ht; subst ht; exact ⟨by simp [Blk.all], fun e => n15 e.symm⟩)⟩, hm, h.nd, h.small, fun q hq => Nat.lt_of_lt_of_le (h.low q hq) hc.size⟩
theorem Blk.p_mem (B : Blk) : ∀ t ∈ [B.p], t ∈ B.all := by intro t ht; simp at ht; subst ht; simp [Blk.all]
theorem field_held (c : CV) (w : World) : (Instr.field 113 (celV c) 1).run Tryz.prog w = .ok (.int .i64 c.1.held) w := by kernel_rfl
theorem field_high (c : CV) (w : World) : (Instr.field 113 (celV c) 2).run Tryz.prog w = .ok (.int .i64 c.1.high) w := by kernel_rfl
theorem field_kids (c : CV) (w : World) : (Instr.field 113 (celV c) 3).run Tryz.prog w = .ok (.slice c.2.1 c.1.kids.length c.2.2) w := by kernel_rfl
/-- Drop -/
theorem WF.hold {n : Nat} {S : StS} {pd : List Int} {i by_ : Int} (h : WF n S pd) (hi : S.has i = true) (hr : 0 ≤ (S.cel i).held + by_ ∧ (S.cel i).held + by_ ≤ 4611686018427387904) : WF n (S.hold i by_) pd := by
  obtain ⟨c, hc⟩ := has_iff.1 hi
  have hcel := cel_some hc
  rw [hcel] at hr
  have hcells : (S.hold i by_).cells = upd S.cells i (some { c with held := c.held + by_ }) := by rw [StS.hold, hcel]; rfl
  have hcnt : ∀ j, cnt (S.hold i by_).cells j n = cnt S.cells j n := fun j => by rw [hcells]; exact cnt_same (c' := { c with held := c.held + by_ }) hc rfl j n
  have hhas : ∀ j, S.has j = true → (S.hold i by_).has j = true := fun j hj => has_upd hj
  have back : ∀ j d, (S.hold i by_).cells j = some d → ∃ d0, S.cells j = some d0 ∧ d.kids = d0.kids ∧ d.named = d0.named ∧ d.high = d0.high ∧ (d.held = d0.held ∨ d.held = c.held + by_) := by
    intro j d hd
    rw [hcells] at hd
    by_cases hj : j = i
    · subst hj; rw [upd_same] at hd; cases hd; exact ⟨c, hc, rfl, rfl, rfl, .inr rfl⟩
    · rw [upd_other _ _ _ hj] at hd; exact ⟨d, hd, rfl, rfl, rfl, .inl rfl⟩
  refine ⟨fun j d hd => ?_, fun j d hd q hq => ?_, fun q hq => hhas q (h.pend q hq), fun j d hd => ?_, fun j d hd => ?_, fun j d hd => ?_, fun j d hd => ?_, fun j d hd => ?_, fun j d q d' hd hq hd' => ?_⟩
  · obtain ⟨d0, h0, _⟩ := back j d hd; exact h.dom j d0 h0
  · obtain ⟨d0, h0, hk, _⟩ := back j d hd; exact hhas q (h.kids j d0 h0 q (hk ▸ hq))
  · obtain ⟨d0, h0, _, hn, _⟩ := back j d hd; rw [hcnt, hn]; exact h.named j d0 h0
  · obtain ⟨d0, h0, _, hn, _⟩ := back j d hd; rw [hn]; exact h.top j d0 h0
  · obtain ⟨d0, h0, _, _, _, hh⟩ := back j d hd
    rcases hh with hh | hh
    · rw [hh]; exact h.held j d0 h0
    · rw [hh]; exact hr
  · obtain ⟨d0, h0, hk, _⟩ := back j d hd; rw [hk]; exact h.len j d0 h0
  · obtain ⟨d0, h0, _, _, hh, _⟩ := back j d hd; rw [hh]; exact h.high j d0 h0
  · obtain ⟨d0, h0, hk, _, hh, _⟩ := back j d hd
    obtain ⟨d1, h1, _, _, hh1, _⟩ := back q d' hd'
    rw [hh, hh1]
    exact h.below j d0 q d1 h0 (hk ▸ hq) h1
set_option maxHeartbeats 2000000 in
theorem storeDrop_any (w : World) (B : Blk) (S : StS) (D : DevS) (n : Nat) (i : Int) (h : StAt w B S D) (hwf : WF n S []) :
    Calls Tryz.prog 37 #[.pointer (some ⟨B.s, 0, none⟩), .int .i64 i] w fun e w' => e = .returned (.int .i64 (S.dropE i)) ∧ StAt w' B (S.drop n i) D ∧ Chg B.all w w' := by
  obtain ⟨c0, c1, c2, c3, c4, c5, cf⟩ := h.cell
  obtain ⟨mm, hm⟩ := h.cells
  obtain ⟨c, a, k, hl, hc, hk⟩ := hm.get i
  have hl0 := hl w ⟨[], Chg.refl _ _, by simp⟩
  have hcel : S.cel i = c := hc.symm
  have hfd := field_held (c, a, k) w
  have H : Hid (StAt w B S D) := h
  by_cases hlt : c.held < 1
  · have he : Hid (S.dropE i = 22 ∧ S.drop n i = S) := by simp [Hid, StS.dropE, StS.drop, hcel, hlt]
    clear h hm hl hk hc hcel hwf c0 c1 c2 c3 c5 cf
    go_enter Tryz.func37, Tryz.ntmps37
    go_wp2_with (first
      | (go_at_call 46; refine (dead_any _ B S D H.out).mono ?_; rintro e w1 ⟨rfl, rfl⟩)
      | fail)
    go_ret
    exact ⟨by rw [he.out.1]; rfl, by rw [he.out.2]; exact H.out, Chg.refl _ _⟩
  · have he : Hid (S.dropE i = 0 ∧ S.drop n i = (S.hold i (-1)).goneF n i) := by simp [Hid, StS.dropE, StS.drop, hcel, hlt]
    have hi : S.has i = true := by
      cases hh : S.cells i with
      | some d => rw [StS.has, hh]; rfl
      | none =>
        have : c = noCel := by rw [← hcel, StS.cel, hh]; rfl
        subst this
        exact absurd (by decide) hlt
    have hheld : 0 ≤ c.held ∧ c.held ≤ 4611686018427387904 := by
      obtain ⟨d, hd⟩ := has_iff.1 hi
      have := cel_some hd
      rw [hcel] at this
      rw [this]
      exact hwf.held i d hd
    have HR : Hid ((-9223372036854775808 ≤ (S.cel i).held + -1 ∧ (S.cel i).held + -1 ≤ 9223372036854775807) ∧ WF n (S.hold i (-1)) []) := ⟨by rw [hcel]; omega, hwf.hold hi (by rw [hcel]; omega)⟩
    have hge : 1 ≤ c.held := by omega
    clear h hm hl hk hc hcel hwf c0 c1 c2 c3 c5 cf hheld hi hlt
    go_enter Tryz.func37, Tryz.ntmps37
    go_wp2_with (first
      | (go_at_call 46; refine (dead_any _ B S D H.out).mono ?_; rintro e w1 ⟨rfl, rfl⟩)
      | (go_at_call 52; refine (hold_any _ B S D i (-1) H.out HR.out.1).mono ?_; rintro e w2 ⟨rfl, hs2, hc2⟩; have H2 : Hid (StAt w2 B (S.hold i (-1)) D ∧ Chg B.all w w2) := ⟨hs2, hc2⟩; clear hs2 hc2)
      | (go_at_call 48; refine (gone_any D B n n _ _ [] i H2.out.1 HR.out.2 (num_le _ _)).mono ?_; rintro e w3 ⟨rfl, hs3, hc3⟩; have H3 : Hid (StAt w3 B ((S.hold i (-1)).goneF n i) D ∧ Chg B.all w w3) := ⟨hs3, H2.out.2.trans hc3⟩; clear hs3 hc3)
      | fail)
    go_ret
    exact ⟨by rw [he.out.1]; rfl, by rw [he.out.2]; exact H3.out.1, H3.out.2⟩
end Go.Proofs.YtadmecjdihfmeaaGreat.Sto
