/- TrePlace TreBelow: several texts of one proof, laid as one file (a claim has at most 60 files). No condition. -/
import Derived.Test.YtadmecjdihfmeaaGreatTG1
import Derived.Lib.MinMax
/- Layer 7: place and way. -/
namespace Go.Proofs.YtadmecjdihfmeaaGreat.Tre
set_option linter.unusedVariables false
set_option linter.unusedSimpArgs false
set_option maxRecDepth 100000
open Go.RowKit Go.Lib Go.Proofs.YtadmecjdihfmeaaGreat.Mem Go.Proofs.YtadmecjdihfmeaaGreat.Oct Go.Proofs.YtadmecjdihfmeaaGreat.Dev Go.Proofs.YtadmecjdihfmeaaGreat.Sto

/-- keys rise -/
def Rise (l : List It) : Prop := l.Pairwise fun x y => lt x.key y.key = true
theorem placeF_eq : ∀ {l : List It} {key : ByteArray} {i : Nat}, i ≤ l.length → (∀ q (h : q < l.length), q < i → lt l[q].key key = true) → (∀ q (h : q < l.length), i ≤ q → lt l[q].key key = false) → placeF l key = i
  | [], key, i, hi, _, _ => by simp at hi; subst hi; rfl
  | x :: l, key, 0, _, _, h2 => by
    have := h2 0 (by simp) (by omega)
    simp only [List.getElem_cons_zero] at this
    simp [placeF, this]
  | x :: l, key, i + 1, hi, h1, h2 => by
    have h0 := h1 0 (by simp) (by omega)
    simp only [List.getElem_cons_zero] at h0
    have := placeF_eq (l := l) (key := key) (i := i) (by simpa using hi) (fun q hq hl => by have := h1 (q + 1) (by simpa using hq) (by omega); simpa using this) (fun q hq hl => by have := h2 (q + 1) (by simpa using hq) (by omega); simpa using this)
    unfold placeF at this ⊢
    rw [List.takeWhile_cons, h0, if_pos rfl, List.length_cons, this]
theorem rise_at {l : List It} (h : Rise l) {p q : Nat} (hq : q < l.length) (hpq : p < q) : lt (l[p]'(by omega)).key l[q].key = true :=
  List.pairwise_iff_getElem.1 h p q (by omega) hq hpq
theorem geq_at (a b : ByteArray) : (!(Op.bytesLess a.toList b.toList)) = !lt a b := rfl
theorem place1_any (p : Nat → Prop) (w : World) (lb kb : Nat) (a : Option Addr) (c : Nat) (l : List It) (key : ByteArray) (j : Nat) (hj : j < l.length) (h : Its p w (.slice a l.length c) l)
    (hl : w.heap[lb]? = some (.cells #[.slice a l.length c] 77 (0, 0))) (hk : w.heap[kb]? = some (.cells #[.string key] 9 (0, 0))) :
    Calls Tryz.prog 74 #[.int .i64 j, .pointer (some ⟨lb, 0, none⟩), .pointer (some ⟨kb, 0, none⟩)] w fun e w' => e = .returned (.bool (!lt l[j].key key)) ∧ Below w.heap.size w w' := by
  obtain ⟨b, o, rfl, hpb, q0, q1, q2⟩ := h.at j hj
  have c0 : w.cell? ⟨lb, 0, none⟩ = some (.slice (some ⟨b, o, none⟩) l.length c) := cell_at hl 0
  have c1 : w.cell? ⟨kb, 0, none⟩ = some (.string key) := cell_at hk 0
  obtain ⟨x, hx⟩ : ∃ x, x = l[j] := ⟨_, rfl⟩
  rw [← hx] at q0 ⊢
  have hgl := geq_at x.key key
  clear hl hk h hx q1 q2 hpb
  go_enter Tryz.func74, Tryz.ntmps74
  go_wp2_with fail
  go_quiet (fail)
  go_wp2
  go_ret
  exact ⟨rfl, drewN_any _⟩
set_option maxHeartbeats 4000000 in
theorem search_any (p : Nat → Prop) (w : World) (lb kb : Nat) (a : Option Addr) (c : Nat) (l : List It) (key : ByteArray) (hr : Rise l) (hl9 : l.length ≤ 1048576) (h : Its p w (.slice a l.length c) l)
    (hl : w.heap[lb]? = some (.cells #[.slice a l.length c] 77 (0, 0))) (hk : w.heap[kb]? = some (.cells #[.string key] 9 (0, 0))) :
    Calls Tryz.prog 73 #[.int .i64 l.length, .func (Fn.func 74) #[] #[.pointer (some ⟨lb, 0, none⟩), .pointer (some ⟨kb, 0, none⟩)]] w fun e w' => e = .returned (.int .i64 (placeF l key)) ∧ Below w.heap.size w w' := by
  have H : Hid (Its p w (.slice a l.length c) l ∧ w.heap[lb]? = some (.cells #[.slice a l.length c] 77 (0, 0)) ∧ w.heap[kb]? = some (.cells #[.string key] 9 (0, 0)) ∧ Rise l) := ⟨h, hl, hk, hr⟩
  obtain ⟨m, hm⟩ : ∃ m, m = l.length := ⟨_, rfl⟩
  rw [← hm]
  have HM : Hid (m = l.length) := hm
  rw [← hm] at hl9
  clear h hl hk hr hm
  go_enter Tryz.func73, Tryz.ntmps73
  go_wp2_with fail
  go_loopw [5, 6] (fun v5 v6 wr => ∃ i j : Nat, i ≤ j ∧ j ≤ m ∧ v5 = .int .i64 i ∧ v6 = .int .i64 j ∧ Hid (Below w.heap.size w wr ∧ (∀ q (h : q < l.length), q < i → lt l[q].key key = true) ∧ ∀ q (h : q < l.length), j ≤ q → lt l[q].key key = false)) (fun v5 v6 _ => (intOf v6).toNat - (intOf v5).toNat)
  case atStart => exact ⟨0, m, by omega, by omega, rfl, rfl, Below.refl _ _, fun q hq h0 => by omega, fun q hq h0 => by have := HM.out; omega⟩
  case round =>
    obtain ⟨i, j, hij, hjm, rfl, rfl, HT⟩ := hrel
    by_cases hlt : i < j
    · have hlt' : (i : Int) < (j : Int) := by omega
      obtain ⟨k, hk⟩ : ∃ k, k = (i + j) / 2 := ⟨_, rfl⟩
      have hki : i ≤ k ∧ k < j := by omega
      have hsum : (i : Int) + j ≤ 2097152 := by omega
      have hkz : ((i : Int) + j) / 2 = (k : Int) := by omega
      clear hk
      go_wp2_with fail
      have hkl : k < l.length := by have := HM.out; omega
      have hI : Its p wr (.slice a l.length c) l := H.out.1.on HT.out.1
      refine (place1_any p wr lb kb a c l key k hkl hI ((HT.out.1.block _ (heap_lt H.out.2.1)).trans H.out.2.1) ((HT.out.1.block _ (heap_lt H.out.2.2.1)).trans H.out.2.2.1)).mono ?_
      rintro e w2 ⟨rfl, hb2⟩
      have HB2 : Hid (Below w.heap.size w w2) := HT.out.1.trans (hb2.mono HT.out.1.size)
      clear hb2 hI
      cases hlk : lt l[k].key key with
      | true =>
        have H2 : Hid (Below w.heap.size w w2 ∧ (∀ q (h : q < l.length), q < k + 1 → lt l[q].key key = true) ∧ ∀ q (h : q < l.length), j ≤ q → lt l[q].key key = false) := by
          refine ⟨HB2.out, fun q hq hqk => ?_, HT.out.2.2⟩
          by_cases hqe : q = k
          · subst hqe; exact hlk
          · exact lt_trans (rise_at H.out.2.2.2 hkl (by omega)) hlk
        clear hlk HT HB2 hkz
        go_wp2_with fail
        go_roundw
        case rel => exact ⟨k + 1, j, by omega, by omega, by go_num, rfl, H2.out⟩
        case measure => simp [intOf]; omega
      | false =>
        have H2 : Hid (Below w.heap.size w w2 ∧ (∀ q (h : q < l.length), q < i → lt l[q].key key = true) ∧ ∀ q (h : q < l.length), k ≤ q → lt l[q].key key = false) := by
          refine ⟨HB2.out, HT.out.2.1, fun q hq hqk => ?_⟩
          by_cases hqe : q = k
          · subst hqe; exact hlk
          · cases hz : lt l[q].key key with
            | false => rfl
            | true => rw [← hlk]; exact (lt_trans (rise_at H.out.2.2.2 hq (by omega)) hz).symm
        clear hlk HT HB2 hkz
        go_wp2_with fail
        go_roundw
        case rel => exact ⟨i, k, by omega, by omega, rfl, rfl, H2.out⟩
        case measure => simp [intOf]; omega
    · have hie : i = j := by omega
      subst hie
      have HE : Hid (placeF l key = i) := placeF_eq (by have := HM.out; omega) HT.out.2.1 HT.out.2.2
      have hlt' : ¬ (i : Int) < (i : Int) := by omega
      go_wp2
      go_ret
      exact ⟨by rw [HE.out]; rfl, HT.out.1⟩
theorem placeF_le (l : List It) (key : ByteArray) : placeF l key ≤ l.length := by
  unfold placeF
  exact List.Sublist.length_le (List.takeWhile_sublist _)
set_option maxHeartbeats 4000000 in
theorem place_any (p : Nat → Prop) (w : World) (v : Value) (l : List It) (key : ByteArray) (hr : Rise l) (hl9 : l.length ≤ 1048576) (h : Its p w v l) :
    Calls Tryz.prog 44 #[v, .string key] w fun e w' => e = .returned (.tuple #[.int .i64 (placeF l key), .bool (foundF l key)]) ∧ Below w.heap.size w w' := by
  obtain ⟨a, c, rfl, _, _⟩ := h.form
  obtain ⟨w1, hw1⟩ : ∃ w1, w1 = (w.alloc (.cells #[.slice a l.length c] 77)).alloc (.cells #[.string key] 9) := ⟨_, rfl⟩
  have hb1 : Below w.heap.size w w1 := by rw [hw1]; exact ((Below.refl _ _).alloc (Nat.le_refl _) _).alloc (by simp) _
  have hx1 : w1.heap[w.heap.size]? = some (.cells #[.slice a l.length c] 77 (0, 0)) := by rw [hw1, heap_alloc_other _ (by simp)]; exact heap_alloc_last _ _
  have hx2 : w1.heap[w.heap.size + 1]? = some (.cells #[.string key] 9 (0, 0)) := by
    rw [hw1]
    have := heap_alloc_last (w.alloc (.cells #[.slice a l.length c] 77)) (.cells #[.string key] 9)
    simpa using this
  have H1 : Hid (Below w.heap.size w w1 ∧ w1.heap[w.heap.size]? = some (.cells #[.slice a l.length c] 77 (0, 0)) ∧ w1.heap[w.heap.size + 1]? = some (.cells #[.string key] 9 (0, 0)) ∧ Its p w1 (.slice a l.length c) l ∧ Rise l) := ⟨hb1, hx1, hx2, h.on hb1, hr⟩
  clear h hb1 hx1 hx2 hr
  have hmf : ∀ (fn : Fn) (first cap : Array Value) (w : World), (Instr.makeFunc fn first cap).run Tryz.prog w = .ok (.func fn first cap) w := fun _ _ _ _ => rfl
  have y0 : w1.cell? ⟨w.heap.size, 0, none⟩ = some (.slice a l.length c) := cell_at H1.out.2.1 0
  rw [hw1] at y0
  go_enter Tryz.func44, Tryz.ntmps44
  go_wp2_with fail
  rw [← hw1]
  clear hw1 y0
  refine (search_any p w1 w.heap.size (w.heap.size + 1) a c l key H1.out.2.2.2.2 hl9 H1.out.2.2.2.1 H1.out.2.1 H1.out.2.2.1).mono ?_
  rintro e w2 ⟨rfl, hb2⟩
  have H2 : Hid (Below w.heap.size w w2 ∧ Its p w2 (.slice a l.length c) l) := ⟨H1.out.1.trans (hb2.mono H1.out.1.size), H1.out.2.2.2.1.on hb2⟩
  have y0 : w2.cell? ⟨w.heap.size, 0, none⟩ = some (.slice a l.length c) := cell_at ((hb2.block _ (heap_lt H1.out.2.1)).trans H1.out.2.1) 0
  have y1 : w2.cell? ⟨w.heap.size + 1, 0, none⟩ = some (.string key) := cell_at ((hb2.block _ (heap_lt H1.out.2.2.1)).trans H1.out.2.2.1) 0
  clear hb2 H1
  have hple := placeF_le l key
  obtain ⟨i, hi⟩ : ∃ i, i = placeF l key := ⟨_, rfl⟩
  have HPI : Hid (i = placeF l key) := hi
  rw [← hi] at hple ⊢
  by_cases hlt : i < l.length
  · have HF : Hid (foundF l key = (l[i].key.toList == key.toList)) := by show foundF l key = _; unfold foundF; rw [← hi, List.getElem?_eq_getElem hlt]
    obtain ⟨b, o, rfl, hpb, q0, q1, q2⟩ := H2.out.2.at i hlt
    obtain ⟨x, hx⟩ : ∃ x, x = l[i] := ⟨_, rfl⟩
    rw [← hx] at q0 HF
    have hd : decide (i < l.length) = true := by simpa using hlt
    clear hx q1 q2 hpb hi hmf
    go_wp2_with fail
    go_quiet (fail)
    go_wp2
    go_ret2
    exact ⟨by rw [HF.out, ← HPI.out]; rfl, H2.out.1.trans ((drewN_any _).mono H2.out.1.size)⟩
  · have HF : Hid (foundF l key = false) := by show foundF l key = _; unfold foundF; rw [← hi, List.getElem?_eq_none (by omega)]
    have hd : decide (i < l.length) = false := by simpa using hlt
    clear hi hmf
    go_wp2_with fail
    go_quiet (fail)
    go_wp2
    go_ret2
    exact ⟨by rw [HF.out, ← HPI.out]; rfl, H2.out.1.trans ((drewN_any _).mono H2.out.1.size)⟩
theorem way_any (p : Nat → Prop) (w : World) (v : Value) (l : List It) (key : ByteArray) (hr : Rise l) (hl9 : l.length ≤ 1048576) (h : Its p w v l) :
    Calls Tryz.prog 43 #[v, .string key] w fun e w' => e = .returned (.int .i64 (wayF l key)) ∧ Below w.heap.size w w' := by
  have HP := place_any p w v l key hr hl9 h
  obtain ⟨a, c, rfl, _, _⟩ := h.form
  have hple := placeF_le l key
  obtain ⟨i, hi⟩ : ∃ i, i = placeF l key := ⟨_, rfl⟩
  have HW : Hid (wayF l key = if foundF l key = true then i else i - 1) := by show wayF l key = _; unfold wayF; rw [hi]
  rw [← hi] at HP hple
  clear h hr hi
  go_enter Tryz.func43, Tryz.ntmps43
  go_wp2_with fail
  refine HP.mono ?_
  rintro e w1 ⟨rfl, hb⟩
  have HB : Hid (Below w.heap.size w w1) := hb
  clear hb HP
  cases hf : foundF l key with
  | true =>
    have HR : Hid (wayF l key = i) := by rw [HW.out, hf]; rfl
    clear hf HW
    go_wp2
    go_ret
    exact ⟨by rw [HR.out]; rfl, HB.out⟩
  | false =>
    have HR : Hid (wayF l key = i - 1) := by rw [HW.out, hf]; rfl
    clear hf HW
    rcases Nat.eq_zero_or_pos i with rfl | hpos
    · go_wp2
      go_ret
      exact ⟨by rw [HR.out]; rfl, HB.out⟩
    · obtain ⟨j, rfl⟩ : ∃ j, i = j + 1 := ⟨i - 1, by omega⟩
      have hm : max (0 : Int) (j : Int) = j := by omega
      go_wp2
      go_ret
      refine ⟨?_, HB.out⟩
      rw [HR.out]
      simp
      try omega
end Go.Proofs.YtadmecjdihfmeaaGreat.Tre

/- Layer 7: below, Height, Top, Get. -/
namespace Go.Proofs.YtadmecjdihfmeaaGreat.Tre
set_option linter.unusedVariables false
set_option linter.unusedSimpArgs false
set_option maxRecDepth 100000
open Go.RowKit Go.Lib Go.Proofs.YtadmecjdihfmeaaGreat.Mem Go.Proofs.YtadmecjdihfmeaaGreat.Oct Go.Proofs.YtadmecjdihfmeaaGreat.Dev Go.Proofs.YtadmecjdihfmeaaGreat.Sto

theorem loadF_ne {S : StS} {D : DevS} {i e : Int} (h : loadF S D i = .error e) : e ≠ 0 := by
  unfold loadF at h
  rcases getR_is (S := S) (D := D) i with ⟨_, ks, d, hg, _⟩ | ⟨he, hg⟩
  · rw [hg] at h
    dsimp only at h
    split at h
    · cases h
    · cases h; decide
  · rw [hg] at h
    cases h
    exact he
theorem belowF_ne {S : StS} {D : DevS} {lv : Nat} {i e : Int} (h : belowF S D lv i = .error e) : e ≠ 0 := by
  unfold belowF at h
  split at h
  · rename_i hl; cases h; exact loadF_ne hl
  · split at h
    · cases h
    · cases h; decide
theorem LoadIs.mono {w w0 w' : World} {r : Except Int Nd} {e : Ending} (h : LoadIs w r e w') (hb : Below w0.heap.size w0 w) : LoadIs w0 r e w' := by
  obtain ⟨v, h1, h2, h3⟩ := h
  exact ⟨v, h1, h2.mono (fun q hq => Nat.le_trans hb.size hq), hb.trans (h3.mono hb.size)⟩
set_option maxHeartbeats 4000000 in
theorem below_any (p : Nat → Prop) (w : World) (B : Blk) (S : StS) (D : DevS) (lv : Nat) (v : Value) (l : List It) (i : Nat) (hi : i < l.length) (hlv : 1 ≤ lv ∧ lv < 256) (h : StAt w B S D) (hI : Its p w v l) :
    Calls Tryz.prog 42 #[.pointer (some ⟨B.s, 0, none⟩), .agg #[.int .i64 lv, v], .int .i64 i] w (LoadIs w (belowF S D lv l[i].kid)) := by
  obtain ⟨a, c, rfl, _, _⟩ := hI.form
  obtain ⟨bn, hbn⟩ : ∃ bn, bn = w.heap.size := ⟨_, rfl⟩
  obtain ⟨rb, hrb⟩ : ∃ rb, rb = w.heap.size + 1 := ⟨_, rfl⟩
  obtain ⟨w1, hw1⟩ : ∃ w1, w1 = (w.alloc (.cells #[.int .i64 lv, .slice a l.length c] 79)).alloc (.cells #[.int .i64 0, .slice none 0 0] 79) := ⟨_, rfl⟩
  have hb1 : Below w.heap.size w w1 := by rw [hw1]; exact ((Below.refl _ _).alloc (Nat.le_refl _) _).alloc (by simp) _
  have hx1 : w1.heap[bn]? = some (.cells #[.int .i64 lv, .slice a l.length c] 79 (0, 0)) := by rw [hw1, hbn, heap_alloc_other _ (by simp)]; exact heap_alloc_last _ _
  have hx2 : w1.heap[rb]? = some (.cells #[.int .i64 0, .slice none 0 0] 79 (0, 0)) := by
    rw [hw1, hrb]
    have := heap_alloc_last (w.alloc (.cells #[.int .i64 lv, .slice a l.length c] 79)) (.cells #[.int .i64 0, .slice none 0 0] 79)
    simpa using this
  obtain ⟨b, o, rfl, hpb, q0, q1, q2⟩ := (hI.on hb1).at i hi
  obtain ⟨kid, hkid⟩ : ∃ kid, kid = l[i].kid := ⟨_, rfl⟩
  rw [← hkid] at q2 ⊢
  have H1 : Hid (Below w.heap.size w w1 ∧ w1.heap[bn]? = some (.cells #[.int .i64 lv, .slice (some ⟨b, o, none⟩) l.length c] 79 (0, 0)) ∧ w1.heap[rb]? = some (.cells #[.int .i64 0, .slice none 0 0] 79 (0, 0)) ∧ StAt w1 B S D ∧ w.heap.size ≤ bn ∧ rb = w.heap.size + 1 ∧ 1 ≤ lv) := ⟨hb1, hx1, hx2, h.on hb1, by omega, hrb, hlv.1⟩
  have y1 : w1.cell? ⟨bn, 1, none⟩ = some (.slice (some ⟨b, o, none⟩) l.length c) := cell_at hx1 1
  rw [hw1] at y1 q2
  rw [hbn] at y1
  clear h hI hb1 hx1 hx2 hkid q0 q1 hpb
  go_enter Tryz.func42, Tryz.ntmps42
  go_wp2_with fail
  rw [← hw1, ← hrb, ← hbn]
  clear hw1 hrb hbn y1 q2
  refine (load_any w1 B S D kid H1.out.2.2.2.1).mono ?_
  rintro e w2 ⟨v2, rfl, hI2, hb2⟩
  obtain ⟨a2, c2, rfl, _, _⟩ := hI2.form
  have hl2 : (ndOf (loadF S D kid)).items.length ≤ 9223372036854775807 := by obtain ⟨_, _, e, h, _⟩ := hI2.form; exact h
  obtain ⟨k, hk⟩ : ∃ k, k = ndOf (loadF S D kid) := ⟨_, rfl⟩
  obtain ⟨er, her⟩ : ∃ er, er = erOf (loadF S D kid) := ⟨_, rfl⟩
  rw [← hk] at hI2 hl2 ⊢
  rw [← her]
  obtain ⟨kb, hkb⟩ : ∃ kb, kb = w2.heap.size := ⟨_, rfl⟩
  obtain ⟨w3, hw3⟩ : ∃ w3, w3 = w2.alloc (.cells #[.int .i64 k.level, .slice a2 k.items.length c2] 79) := ⟨_, rfl⟩
  have hb3 : Below w2.heap.size w2 w3 := by rw [hw3]; exact (Below.refl _ _).alloc (Nat.le_refl _) _
  have hx3 : w3.heap[kb]? = some (.cells #[.int .i64 k.level, .slice a2 k.items.length c2] 79 (0, 0)) := by rw [hw3, hkb]; exact heap_alloc_last _ _
  have hn3 : w3.heap[bn]? = some (.cells #[.int .i64 lv, .slice (some ⟨b, o, none⟩) l.length c] 79 (0, 0)) := (hb3.block _ (Nat.lt_of_lt_of_le (heap_lt H1.out.2.1) hb2.size)).trans ((hb2.block _ (heap_lt H1.out.2.1)).trans H1.out.2.1)
  have hr3 : w3.heap[rb]? = some (.cells #[.int .i64 0, .slice none 0 0] 79 (0, 0)) := (hb3.block _ (Nat.lt_of_lt_of_le (heap_lt H1.out.2.2.1) hb2.size)).trans ((hb2.block _ (heap_lt H1.out.2.2.1)).trans H1.out.2.2.1)
  have y0 : w3.cell? ⟨kb, 0, none⟩ = some (.int .i64 k.level) := cell_at hx3 0
  have y1 : w3.cell? ⟨kb, 1, none⟩ = some (.slice a2 k.items.length c2) := cell_at hx3 1
  have y2 : w3.cell? ⟨bn, 0, none⟩ = some (.int .i64 lv) := cell_at hn3 0
  have y3 : w3.cell? ⟨rb, 0, none⟩ = some (.int .i64 0) := cell_at hr3 0
  have y4 : w3.cell? ⟨rb, 1, none⟩ = some (.slice none 0 0) := cell_at hr3 1
  have yf : ∀ j, w3.frozen? ⟨rb, j, none⟩ = false := frozen_at hr3
  rw [hw3] at y0 y1 y2 y3 y4 yf
  rw [hkb] at y0 y1
  have H3 : Hid (Below w.heap.size w w3 ∧ w3.heap[rb]? = some (.cells #[.int .i64 0, .slice none 0 0] 79 (0, 0)) ∧ Its (fun q => w.heap.size ≤ q ∧ q ≠ rb) w3 (.slice a2 k.items.length c2) k.items ∧ rb = w.heap.size + 1 ∧ k = ndOf (loadF S D kid) ∧ er = erOf (loadF S D kid) ∧ 1 ≤ lv) := by
    have h1 := heap_lt H1.out.2.2.1
    have h2 := H1.out.1.size
    exact ⟨H1.out.1.trans ((hb2.trans (hb3.mono hb2.size)).mono H1.out.1.size), hr3, (hI2.mono (fun q hq => ⟨by omega, by omega⟩)).on hb3, H1.out.2.2.2.2.2.1, hk, her, H1.out.2.2.2.2.2.2⟩
  clear hI2 hb2 hb3 hx3 hn3 hr3 H1 hk her
  have fin : ∀ (lv' : Nat) (a' : Option Addr) (m' c' : Nat) (er' : Int) (r : Except Int Nd), r = belowF S D lv kid → lv' = (ndOf r).level → m' = (ndOf r).items.length → er' = erOf r → Its (fun q => w.heap.size ≤ q ∧ q ≠ rb) w3 (.slice a' m' c') (ndOf r).items →
      LoadIs w (belowF S D lv kid) (.returned (.tuple #[.agg #[.int .i64 lv', .slice a' m' c'], .int .i64 er'])) ((w3.setCell ⟨rb, 0, none⟩ (.int .i64 lv')).setCell ⟨rb, 1, none⟩ (.slice a' m' c')) := by
    intro lv' a' m' c' er' r hr h1 h2 h3 h4
    have hcg : Chg [rb] w3 ((w3.setCell ⟨rb, 0, none⟩ (.int .i64 lv')).setCell ⟨rb, 1, none⟩ (.slice a' m' c')) := ((Chg.refl _ _).setCell _ _ (.inl (by simp))).setCell _ _ (.inl (by simp))
    rw [← hr]
    refine ⟨_, by rw [h1, h3], (h4.chg hcg (fun q hq hm => by simp at hm; exact hq.2 hm)).mono (fun q hq => hq.1), H3.out.1.trans (hcg.below H3.out.1.size (fun q hq => by have := H3.out.2.2.2.1; simp at hq; omega))⟩
  have HFIN : Hid _ := fin
  clear fin
  by_cases he : er = 0
  · have hok : loadF S D kid = .ok k := by
      have h1 := H3.out.2.2.2.2.1
      have h2 := H3.out.2.2.2.2.2.1
      cases hl : loadF S D kid with
      | ok n => rw [hl] at h1; rw [h1]; rfl
      | error e => rw [hl] at h2; exact absurd (h2.symm.trans he) (loadF_ne hl)
    subst he
    by_cases hlk : k.level + 1 = lv
    · have HB : Hid (belowF S D lv kid = .ok k) := by show belowF S D lv kid = _; unfold belowF; rw [hok]; exact if_pos hlk
      have hc1 : ((k.level : Int) != (lv : Int) - 1) = false := by simp; omega
      clear hok hlk
      go_wp2
      rw [← hw3]
      have hbox := heap_set_at (heap_set_at H3.out.2.1 0 (.int .i64 k.level)) 1 (.slice a2 k.items.length c2)
      refine bodyPost_ret (Sto.results_cell_tmp Tryz.results42 _ _ rb 79 #[.int .i64 k.level, .slice a2 k.items.length c2] (0, 0) _ rfl hbox Tryz.underlying79 rfl (by kernel_rfl)) rfl ?_
      exact HFIN.out _ _ _ _ _ (.ok k) HB.out.symm rfl rfl rfl H3.out.2.2.1
    · have HB : Hid (belowF S D lv kid = .error 5) := by show belowF S D lv kid = _; unfold belowF; rw [hok]; exact if_neg hlk
      have hc1 : ((k.level : Int) != (lv : Int) - 1) = true := by have := H3.out.2.2.2.2.2.2; simp; omega
      clear hok hlk
      go_wp2
      rw [← hw3]
      have hbox := heap_set_at (heap_set_at H3.out.2.1 0 (.int .i64 0)) 1 (.slice none 0 0)
      refine bodyPost_ret (Sto.results_cell_tmp Tryz.results42 _ _ rb 79 #[.int .i64 0, .slice none 0 0] (0, 0) _ rfl hbox Tryz.underlying79 rfl (by kernel_rfl)) rfl ?_
      exact HFIN.out 0 _ _ _ _ (.error 5) HB.out.symm rfl rfl rfl Its.nil
  · have herr : loadF S D kid = .error er := by
      have h2 := H3.out.2.2.2.2.2.1
      cases hl : loadF S D kid with
      | ok n => rw [hl] at h2; exact absurd h2 he
      | error e => rw [hl] at h2; rw [h2]; rfl
    have HB : Hid (belowF S D lv kid = .error er) := by show belowF S D lv kid = _; unfold belowF; rw [herr]
    have hc1 : (er == 0) = false := by simpa using he
    have HK0 : Hid (k = ⟨0, []⟩) := by have := H3.out.2.2.2.2.1; rw [herr] at this; exact this
    clear herr he
    go_wp2
    rw [← hw3]
    have hbox := heap_set_at (heap_set_at H3.out.2.1 0 (.int .i64 k.level)) 1 (.slice a2 k.items.length c2)
    refine bodyPost_ret (Sto.results_cell_tmp Tryz.results42 _ _ rb 79 #[.int .i64 k.level, .slice a2 k.items.length c2] (0, 0) _ rfl hbox Tryz.underlying79 rfl (by kernel_rfl)) rfl ?_
    exact HFIN.out _ _ _ _ _ (.error er) HB.out.symm (by rw [HK0.out]; rfl) (by rw [HK0.out]; rfl) rfl (by have := H3.out.2.2.1; rw [HK0.out] at this ⊢; exact this)
end Go.Proofs.YtadmecjdihfmeaaGreat.Tre

