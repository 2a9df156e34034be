/- TrePut TrePutT TreJoin TreCut TreDelT: several texts of one proof, laid as one file (a claim has at most 60 files). No condition. -/
import Derived.Test.YtadmecjdihfmeaaGreatTG5
import Derived.Test.YtadmecjdihfmeaaGreatTG3
import Derived.BigQuiet
/- Layer 7: put. -/
namespace Go.Proofs.YtadmecjdihfmeaaGreat.Tre
set_option linter.unusedVariables false
set_option linter.unusedSimpArgs false
set_option maxRecDepth 100000
open Go.RowKit Go.Lib Go.Proofs.YtadmecjdihfmeaaGreat.Mem Go.Proofs.YtadmecjdihfmeaaGreat.Oct Go.Proofs.YtadmecjdihfmeaaGreat.Dev Go.Proofs.YtadmecjdihfmeaaGreat.Sto

theorem FitI.sub {l m : List It} (h : FitI l) (k : ∀ x ∈ m, x ∈ l) : FitI m := fun x hx => h x (k x hx)
theorem FitI.swap {l m : List It} (h : FitI l) (k : FitI m) (i j : Nat) : FitI (swapF l i j m) := by
  intro x hx
  unfold swapF at hx
  rcases List.mem_append.1 hx with hx | hx
  · exact h x (List.mem_of_mem_take hx)
  · rcases List.mem_append.1 hx with hx | hx
    · exact k x hx
    · exact h x (List.mem_of_mem_drop hx)
theorem ItsOk.fitI {lv : Nat} {l : List It} (h : ItsOk lv l) : FitI l := fun x hx => by
  have := h.fit x hx
  simp [rightK] at this
  exact ⟨by omega, this.2⟩
theorem head_fit {l : List It} (h : FitI l) (hl : 1 ≤ l.length) : (l[0]?.getD default).key.size ≤ 64 := by
  rw [List.getElem?_eq_getElem (by omega)]
  exact (h _ (List.getElem_mem _)).1
theorem saves_fit {lv : Nat} : ∀ (ps : List (List It)) (S : StS) (D : DevS) (out : List It), Wok S D → (∀ p ∈ ps, FitI p ∧ 1 ≤ p.length) → FitI out → Wok (savesF lv ps S D out).st (savesF lv ps S D out).dv ∧ FitI (savesF lv ps S D out).out ∧ (savesF lv ps S D out).out.length ≤ out.length + ps.length ∧ ((savesF lv ps S D out).err = 0 → (savesF lv ps S D out).out.length = out.length + ps.length)
  | [], S, D, out, hw, _, ho => ⟨hw, ho, by simp [savesF], fun _ => by simp [savesF]⟩
  | p :: ps, S, D, out, hw, hp, ho => by
    have h1 := hp p (by simp)
    rw [savesF]
    split
    · rename_i he
      exact ⟨hw.save lv p, fun x hx => (by cases hx), by simp, fun h0 => absurd h0 he⟩
    · have := saves_fit (lv := lv) ps (saveF S D lv p).st (saveF S D lv p).dv (out ++ [(saveF S D lv p).out]) (hw.save lv p) (fun q hq => hp q (by simp [hq])) (fun x hx => by
        rcases List.mem_append.1 hx with hx | hx
        · exact ho x hx
        · simp at hx
          subst hx
          exact ⟨head_fit h1.1 h1.2, by show (0 : Nat) ≤ 300; omega⟩)
      refine ⟨this.1, this.2.1, ?_, fun h0 => ?_⟩
      · have h3 := this.2.2.1
        rw [List.length_append] at h3
        simp only [List.length_cons, List.length_nil] at h3 ⊢
        omega
      · have h3 := this.2.2.2 h0
        rw [List.length_append] at h3
        simp only [List.length_cons, List.length_nil] at h3 ⊢
        omega
theorem parts_pos {l p : List It} (hl : 1 ≤ l.length) (h : p ∈ partsF l) : 1 ≤ p.length := by
  unfold partsF at h
  split at h
  · simp at h
    rcases h with rfl | rfl
    · rw [List.length_take]; omega
    · rw [List.length_drop]; omega
  · simp at h; subst h; exact hl
theorem laid_fit {lv : Nat} {S : StS} {D : DevS} {l : List It} (hw : Wok S D) (hf : FitI l) (hl : 1 ≤ l.length) : Wok (laidF S D lv l).st (laidF S D lv l).dv ∧ FitI (laidF S D lv l).out ∧ (laidF S D lv l).out.length ≤ 2 ∧ ((laidF S D lv l).err = 0 → 1 ≤ (laidF S D lv l).out.length) := by
  have := saves_fit (lv := lv) (partsF l) S D [] hw (fun p hp => ⟨hf.sub (parts_mem hp), parts_pos hl hp⟩) (fun x hx => (by cases hx))
  have h2 := parts_len l
  refine ⟨this.1, this.2.1, ?_, fun h0 => ?_⟩
  · have h1 := this.2.2.1
    simp only [List.length_nil] at h1
    unfold laidF
    omega
  · have h1 := this.2.2.2 h0
    simp only [List.length_nil] at h1
    unfold laidF
    omega
theorem way_lt {l : List It} {key : ByteArray} (hl : 1 ≤ l.length) : wayF l key < l.length := by
  have h1 := placeF_le l key
  unfold wayF
  split
  · rename_i hf
    obtain ⟨h2, _⟩ := foundF_iff.1 hf
    exact h2
  · omega
theorem kid_at {l : List It} {i : Nat} (h : i < l.length) : (l[i]?.getD default) = l[i] := by rw [List.getElem?_eq_getElem h]; rfl
theorem put_fit (key val : ByteArray) (hk : key.size ≤ 64) (hv : val.size ≤ 300) : ∀ (f : Nat) (S : StS) (D : DevS) (l : List It), Wok S D → FitI l → 1 ≤ l.length → Wok (putF key val f S D l).st (putF key val f S D l).dv ∧ FitI (putF key val f S D l).out ∧ (putF key val f S D l).out.length ≤ 2 ∧ ((putF key val f S D l).err = 0 → 1 ≤ (putF key val f S D l).out.length)
  | 0, S, D, l, hw, hf, hl => by
    refine laid_fit hw (hf.swap (fun x hx => by simp at hx; subst hx; exact ⟨hk, hv⟩) _ _) ?_
    unfold swapF
    simp only [List.length_append, List.length_cons]
    omega
  | f + 1, S, D, l, hw, hf, hl => by
    have hi := way_lt (key := key) hl
    rw [putF, kid_at hi]
    cases hb : belowF S D (f + 1) l[wayF l key].kid with
    | error e => exact ⟨hw, fun x hx => (by cases hx), by simp, fun h0 => absurd h0 (belowF_ne hb)⟩
    | ok k =>
      dsimp only
      have hkn := (loadF_ok (belowF_ok hb).1).1
      have ih := put_fit key val hk hv f S D k.items hw hkn.its.fitI hkn.len.1
      split
      · rename_i he
        exact ⟨ih.1, fun x hx => (by cases hx), by simp, fun h0 => absurd h0 he⟩
      · rename_i he
        refine laid_fit ih.1 (hf.swap ih.2.1 _ _) ?_
        have := ih.2.2.2 (by simpa using he)
        unfold swapF
        simp only [List.length_append]
        omega
theorem swap_at (p q : Nat → Prop) (w : World) (v vm : Value) (l m : List It) (i j : Nat) (J : Int) (hJ : J = (j : Nat)) (h : Its p w v l) (hm : Its q w vm m) (hij : i ≤ j ∧ j ≤ l.length) (hl : l.length ≤ 1024 ∧ m.length ≤ 1024) :
    Calls Tryz.prog 80 #[v, .int .i64 i, .int .i64 J, vm] w (OwnIs w (swapF l i j m)) := by
  subst hJ; exact swap_any p q w v vm l m i j h hm hij hl
theorem laid_at (w : World) (B : Blk) (S : StS) (D : DevS) (lv : Nat) (L : Int) (hL : L = (lv : Nat)) (v : Value) (l : List It) (h : StAt w B S D) (hw : Wok S D) (hI : Its (· ∉ B.all) w v l) (hf : FitI l) (hl : 1 ≤ l.length ∧ l.length ≤ 64) (hlv : lv < 256) :
    Calls Tryz.prog 79 #[.pointer (some ⟨B.s, 0, none⟩), .int .i64 L, v] w (LaidIs w B (laidF S D lv l)) := by
  subst hL; exact laid_any w B S D lv v l h hw hI hf hl hlv
theorem put_own {w w5 w6 : World} {B : Blk} {S : StS} {D : DevS} {v : Value} {l : List It} (ho : OwnT w5.drew.heap.size w6 v l) (hb : Below w5.drew.heap.size w5.drew w6) (hs : StAt w5 B S D) (hz : w.heap.size ≤ w5.heap.size) (hB : ∀ q ∈ B.all, q < w.heap.size) (hl : l.length ≤ 64) : Below w5.drew.heap.size w5.drew w6 ∧ StAt w6 B S D ∧ Its (· ∉ B.all) w6 v l := by
  refine ⟨hb, (hs.on (Below.refl _ _).drew).on hb, (ho.its (by omega)).mono (fun q hq hm => ?_)⟩
  have g1 := hB q hm
  have g2 : w5.heap.size ≤ q := hq.1
  omega
set_option maxHeartbeats 8000000 in
theorem put_any (B : Blk) (key val : ByteArray) (hk : key.size ≤ 64) (hv : val.size ≤ 300) : ∀ (f : Nat) (w : World) (S : StS) (D : DevS) (v : Value) (l : List It), f ≤ 20 → StAt w B S D → Wok S D → Its (· ∉ B.all) w v l → ItsOk f l → 1 ≤ l.length ∧ l.length ≤ 8 →
    Calls Tryz.prog 56 #[.pointer (some ⟨B.s, 0, none⟩), .agg #[.int .i64 f, v], .string key, .string val] w (LaidIs w B (putF key val f S D l)) := by
  intro f
  induction f with
  | zero =>
    intro w S D v l hf20 h hw hI hok hl
    obtain ⟨a, c, rfl, _, _⟩ := hI.form
    obtain ⟨nb, hnb⟩ : ∃ nb, nb = w.heap.size := ⟨_, rfl⟩
    obtain ⟨w1, hw1⟩ : ∃ w1, w1 = w.alloc (.cells #[.int .i64 0, .slice a l.length c] 79) := ⟨_, rfl⟩
    have hb1 : Below w.heap.size w w1 := by rw [hw1]; exact (Below.refl _ _).alloc (Nat.le_refl _) _
    have hx1 : w1.heap[nb]? = some (.cells #[.int .i64 0, .slice a l.length c] 79 (0, 0)) := by rw [hw1, hnb]; exact heap_alloc_last _ _
    have HR : Hid (putF key val 0 S D l = laidF S D 0 (swapF l (placeF l key) (placeF l key + if foundF l key = true then 1 else 0) [⟨key, val, 0⟩])) := rfl
    have H1 : Hid (Below w.heap.size w w1 ∧ w1.heap[nb]? = some (.cells #[.int .i64 0, .slice a l.length c] 79 (0, 0)) ∧ StAt w1 B S D ∧ Its (fun q => q ∉ B.all ∧ q < w.heap.size) w1 (.slice a l.length c) l ∧ nb = w.heap.size ∧ Wok S D ∧ ItsOk 0 l ∧ ∀ q ∈ B.all, q < w.heap.size) := ⟨hb1, hx1, h.on hb1, hI.real.on hb1, hnb, hw, hok, h.lt⟩
    have y0 : w1.cell? ⟨nb, 0, none⟩ = some (.int .i64 0) := cell_at hx1 0
    have y1 : w1.cell? ⟨nb, 1, none⟩ = some (.slice a l.length c) := cell_at hx1 1
    rw [hw1] at y0 y1
    rw [hnb] at y0 y1
    clear h hI hb1 hx1 hw hok
    go_enter Tryz.func56, Tryz.ntmps56
    go_wp2_with fail
    rw [← hw1]
    clear hw1 y0 y1
    refine (place_any _ w1 _ l key H1.out.2.2.2.2.2.2.1.rise (by omega) H1.out.2.2.2.1).mono ?_
    rintro e w2 ⟨rfl, hb2⟩
    have hple := placeF_le l key
    have H2 : Hid (Below w.heap.size w w2 ∧ StAt w2 B S D ∧ Its (fun q => q ∉ B.all ∧ q < w.heap.size) w2 (.slice a l.length c) l) := ⟨H1.out.1.trans (hb2.mono H1.out.1.size), H1.out.2.2.1.on hb2, H1.out.2.2.2.1.on hb2⟩
    have hn2 : w2.heap[nb]? = some (.cells #[.int .i64 0, .slice a l.length c] 79 (0, 0)) := (hb2.block _ (heap_lt H1.out.2.1)).trans H1.out.2.1
    have y1 : w2.cell? ⟨nb, 1, none⟩ = some (.slice a l.length c) := cell_at hn2 1
    rw [hnb] at y1
    obtain ⟨p, hp⟩ : ∃ p, p = placeF l key := ⟨_, rfl⟩
    rw [← hp] at hple ⊢
    rw [← hp] at HR
    have HPF : Hid (foundF l key = true → p < l.length) := fun hf => by obtain ⟨h1, _⟩ := foundF_iff.1 hf; omega
    clear hb2 hn2 hp
    cases hfo : foundF l key with
    | true =>
      have hpl : p < l.length := HPF.out hfo
      have HX : Hid (putF key val 0 S D l = laidF S D 0 (swapF l p (p + 1) [⟨key, val, 0⟩]) ∧ 1 ≤ (swapF l p (p + 1) [⟨key, val, 0⟩]).length ∧ (swapF l p (p + 1) [⟨key, val, 0⟩]).length ≤ 64 ∧ FitI (swapF l p (p + 1) [⟨key, val, 0⟩])) := by
        have h1 := swapF_len (l := l) (m := [⟨key, val, 0⟩]) (i := p) (j := (p + 1)) (by omega) (by omega)
        simp only [List.length_cons, List.length_nil] at h1
        refine ⟨by have := HR.out; rw [hfo] at this; exact this, by omega, by omega, H1.out.2.2.2.2.2.2.1.fitI.swap (fun x hx => by simp at hx; subst hx; exact ⟨hk, hv⟩) _ _⟩
      clear HR
      go_wp2_with fail
      rw [show (p : Int) + 1 = ((p + 1 : Nat) : Int) by omega]
      have hb3 : Below w2.heap.size w2 (w2.alloc (.cells #[.string key, .string val, .int .i64 0] 83)) := (Below.refl _ _).alloc (Nat.le_refl _) _
      have hx3 := heap_alloc_last w2 (.cells #[.string key, .string val, .int .i64 0] 83)
      refine (swap_any _ _ _ _ _ l [⟨key, val, 0⟩] p (p + 1) (H2.out.2.2.on hb3) (Its.one (y := ⟨key, val, 0⟩) (cell_at hx3 0) (cell_at hx3 1) (cell_at hx3 2)) ⟨by omega, by omega⟩ ⟨by omega, by simp⟩).mono ?_
      rintro e w4 ⟨v4, rfl, hown4, hb4⟩
      have hbz : w.heap.size ≤ w2.heap.size := H2.out.1.size
      have H4 : Hid (Below w.heap.size w w4 ∧ StAt w4 B S D ∧ Its (· ∉ B.all) w4 v4 (swapF l p (p + 1) [⟨key, val, 0⟩])) := by
        have hb24 := hb3.trans (hb4.mono hb3.size)
        refine ⟨H2.out.1.trans (hb24.mono hbz), H2.out.2.1.on hb24, (hown4.its (by have := HX.out.2.2.1; omega)).mono (fun k hkk hm => ?_)⟩
        have g1 := H1.out.2.2.2.2.2.2.2 k hm
        have g2 := hkk.1
        simp at g2
        omega
      clear hb3 hx3 hown4 hb4
      go_wp2_with fail
      refine (laid_any w4 B S D 0 v4 _ H4.out.2.1 H1.out.2.2.2.2.2.1 H4.out.2.2 HX.out.2.2.2 ⟨HX.out.2.1, HX.out.2.2.1⟩ (by omega)).mono ?_
      rintro e w5 ⟨v5, rfl, hown5, hs5, hc5⟩
      have H5 : Hid (OwnT w.heap.size w5 v5 (putF key val 0 S D l).out ∧ StAt w5 B (putF key val 0 S D l).st (putF key val 0 S D l).dv ∧ Chg B.all w w5) := by
        rw [HX.out.1]
        exact ⟨hown5.mono H4.out.1.size, hs5, (Chg.of_below H4.out.1).trans hc5⟩
      have HE : Hid ((laidF S D 0 (swapF l p (p + 1) [⟨key, val, 0⟩])).err = (putF key val 0 S D l).err) := by show _ = _; rw [HX.out.1]
      clear hown5 hs5 hc5
      go_wp2_with fail
      go_ret2
      exact ⟨v5, by rw [HE.out]; rfl, H5.out⟩
    | false =>
      have HX : Hid (putF key val 0 S D l = laidF S D 0 (swapF l p p [⟨key, val, 0⟩]) ∧ 1 ≤ (swapF l p p [⟨key, val, 0⟩]).length ∧ (swapF l p p [⟨key, val, 0⟩]).length ≤ 64 ∧ FitI (swapF l p p [⟨key, val, 0⟩])) := by
        have h1 := swapF_len (l := l) (m := [⟨key, val, 0⟩]) (i := p) (j := p) (by omega) (by omega)
        simp only [List.length_cons, List.length_nil] at h1
        refine ⟨by have := HR.out; rw [hfo] at this; exact this, by omega, by omega, H1.out.2.2.2.2.2.2.1.fitI.swap (fun x hx => by simp at hx; subst hx; exact ⟨hk, hv⟩) _ _⟩
      clear HR
      go_wp2_with fail
      have hb3 : Below w2.heap.size w2 (w2.alloc (.cells #[.string key, .string val, .int .i64 0] 83)) := (Below.refl _ _).alloc (Nat.le_refl _) _
      have hx3 := heap_alloc_last w2 (.cells #[.string key, .string val, .int .i64 0] 83)
      refine (swap_any _ _ _ _ _ l [⟨key, val, 0⟩] p p (H2.out.2.2.on hb3) (Its.one (y := ⟨key, val, 0⟩) (cell_at hx3 0) (cell_at hx3 1) (cell_at hx3 2)) ⟨by omega, by omega⟩ ⟨by omega, by simp⟩).mono ?_
      rintro e w4 ⟨v4, rfl, hown4, hb4⟩
      have hbz : w.heap.size ≤ w2.heap.size := H2.out.1.size
      have H4 : Hid (Below w.heap.size w w4 ∧ StAt w4 B S D ∧ Its (· ∉ B.all) w4 v4 (swapF l p p [⟨key, val, 0⟩])) := by
        have hb24 := hb3.trans (hb4.mono hb3.size)
        refine ⟨H2.out.1.trans (hb24.mono hbz), H2.out.2.1.on hb24, (hown4.its (by have := HX.out.2.2.1; omega)).mono (fun k hkk hm => ?_)⟩
        have g1 := H1.out.2.2.2.2.2.2.2 k hm
        have g2 := hkk.1
        simp at g2
        omega
      clear hb3 hx3 hown4 hb4
      go_wp2_with fail
      refine (laid_any w4 B S D 0 v4 _ H4.out.2.1 H1.out.2.2.2.2.2.1 H4.out.2.2 HX.out.2.2.2 ⟨HX.out.2.1, HX.out.2.2.1⟩ (by omega)).mono ?_
      rintro e w5 ⟨v5, rfl, hown5, hs5, hc5⟩
      have H5 : Hid (OwnT w.heap.size w5 v5 (putF key val 0 S D l).out ∧ StAt w5 B (putF key val 0 S D l).st (putF key val 0 S D l).dv ∧ Chg B.all w w5) := by
        rw [HX.out.1]
        exact ⟨hown5.mono H4.out.1.size, hs5, (Chg.of_below H4.out.1).trans hc5⟩
      have HE : Hid ((laidF S D 0 (swapF l p p [⟨key, val, 0⟩])).err = (putF key val 0 S D l).err) := by show _ = _; rw [HX.out.1]
      clear hown5 hs5 hc5
      go_wp2_with fail
      go_ret2
      exact ⟨v5, by rw [HE.out]; rfl, H5.out⟩
  | succ f ih =>
    intro w S D v l hf20 h hw hI hok hl
    obtain ⟨a, c, rfl, _, _⟩ := hI.form
    obtain ⟨nb, hnb⟩ : ∃ nb, nb = w.heap.size := ⟨_, rfl⟩
    obtain ⟨w1, hw1⟩ : ∃ w1, w1 = w.alloc (.cells #[.int .i64 ((f + 1 : Nat) : Int), .slice a l.length c] 79) := ⟨_, rfl⟩
    have hb1 : Below w.heap.size w w1 := by rw [hw1]; exact (Below.refl _ _).alloc (Nat.le_refl _) _
    have hx1 : w1.heap[nb]? = some (.cells #[.int .i64 ((f + 1 : Nat) : Int), .slice a l.length c] 79 (0, 0)) := by rw [hw1, hnb]; exact heap_alloc_last _ _
    have hi := way_lt (key := key) hl.1
    have H1 : Hid (Below w.heap.size w w1 ∧ w1.heap[nb]? = some (.cells #[.int .i64 ((f + 1 : Nat) : Int), .slice a l.length c] 79 (0, 0)) ∧ StAt w1 B S D ∧ Its (fun q => q ∉ B.all ∧ q < w.heap.size) w1 (.slice a l.length c) l ∧ nb = w.heap.size ∧ Wok S D ∧ ItsOk (f + 1) l ∧ ∀ q ∈ B.all, q < w.heap.size) := ⟨hb1, hx1, h.on hb1, hI.real.on hb1, hnb, hw, hok, h.lt⟩
    have HR : Hid ((∀ e, belowF S D (f + 1) l[wayF l key].kid = .error e → putF key val (f + 1) S D l = ⟨e, [], S, D⟩) ∧ ∀ k, belowF S D (f + 1) l[wayF l key].kid = .ok k → putF key val (f + 1) S D l = if (putF key val f S D k.items).err ≠ 0 then ⟨(putF key val f S D k.items).err, [], (putF key val f S D k.items).st, (putF key val f S D k.items).dv⟩ else
        laidF (putF key val f S D k.items).st (putF key val f S D k.items).dv (f + 1) (swapF l (wayF l key) (wayF l key + 1) (putF key val f S D k.items).out)) := ⟨fun e he => by rw [putF, kid_at hi, he], fun k hk => by rw [putF, kid_at hi, hk]⟩
    have y0 : w1.cell? ⟨nb, 0, none⟩ = some (.int .i64 ((f + 1 : Nat) : Int)) := cell_at hx1 0
    have y1 : w1.cell? ⟨nb, 1, none⟩ = some (.slice a l.length c) := cell_at hx1 1
    rw [hw1] at y0 y1
    rw [hnb] at y0 y1
    have hz : ¬ ((f + 1 : Nat) : Int) = 0 := by omega
    have hz2 : (((f + 1 : Nat) : Int) == 0) = false := by simpa using hz
    obtain ⟨F, hF⟩ : ∃ F : Int, F = ((f + 1 : Nat) : Int) := ⟨_, rfl⟩
    have HF : Hid (F = ((f + 1 : Nat) : Int)) := hF
    rw [← hF] at hw1 y0 hz hz2 H1 ⊢
    clear h hI hb1 hx1 hw hok hF
    go_enter Tryz.func56, Tryz.ntmps56
    go_wp2_with fail
    rw [← hw1]
    clear hw1 y0 y1
    refine (way_any _ w1 _ l key H1.out.2.2.2.2.2.2.1.rise (by omega) H1.out.2.2.2.1).mono ?_
    rintro e w2 ⟨rfl, hb2⟩
    obtain ⟨i, hie⟩ : ∃ i, i = wayF l key := ⟨_, rfl⟩
    have hil : i < l.length := by rw [hie]; exact hi
    obtain ⟨kid, hkid⟩ : ∃ kid, kid = l[wayF l key].kid := ⟨_, rfl⟩
    have HK : Hid (kid = (l[i]'hil).kid) := by subst hie; exact hkid
    rw [← hkid, ← hie] at HR
    rw [← hie]
    clear hie hkid hi
    have hn2 : w2.heap[nb]? = some (.cells #[.int .i64 F, .slice a l.length c] 79 (0, 0)) := (hb2.block _ (heap_lt H1.out.2.1)).trans H1.out.2.1
    have H2 : Hid (Below w.heap.size w w2 ∧ StAt w2 B S D ∧ Its (fun q => q ∉ B.all ∧ q < w.heap.size) w2 (.slice a l.length c) l ∧ w2.heap[nb]? = some (.cells #[.int .i64 F, .slice a l.length c] 79 (0, 0))) := ⟨H1.out.1.trans (hb2.mono H1.out.1.size), H1.out.2.2.1.on hb2, H1.out.2.2.2.1.on hb2, hn2⟩
    have y0 : w2.cell? ⟨nb, 0, none⟩ = some (.int .i64 F) := cell_at hn2 0
    have y1 : w2.cell? ⟨nb, 1, none⟩ = some (.slice a l.length c) := cell_at hn2 1
    rw [hnb] at y0 y1
    clear hb2 hn2
    go_wp2_with fail
    rw [HF.out]
    refine (below_any _ w2 B S D (f + 1) _ l i hil ⟨by omega, by omega⟩ H2.out.2.1 H2.out.2.2.1).mono ?_
    rw [← HF.out, ← HK.out]
    rintro e w3 ⟨v3, rfl, hI3, hb3⟩
    obtain ⟨a3, c3, rfl, _, _⟩ := hI3.form
    have hn3 := (hb3.block _ (heap_lt H2.out.2.2.2)).trans H2.out.2.2.2
    have H3 : Hid (Below w.heap.size w w3 ∧ StAt w3 B S D ∧ Its (fun q => q ∉ B.all ∧ q < w.heap.size) w3 (.slice a l.length c) l ∧ w3.heap[nb]? = some (.cells #[.int .i64 F, .slice a l.length c] 79 (0, 0))) := ⟨H2.out.1.trans (hb3.mono H2.out.1.size), H2.out.2.1.on hb3, H2.out.2.2.1.on hb3, hn3⟩
    have HI3 : Hid (Its (· ∉ B.all) w3 (.slice a3 (ndOf (belowF S D (f + 1) kid)).items.length c3) (ndOf (belowF S D (f + 1) kid)).items) := hI3.mono (fun q hq hm => by have g1 := H1.out.2.2.2.2.2.2.2 q hm; have g2 := H2.out.1.size; omega)
    clear hI3 hb3 hn3 y0 y1
    rcases ndOf_cases (belowF S D (f + 1) kid) (fun e he => belowF_ne he) with ⟨k, hbk, hnk, hek⟩ | ⟨er, hbe, hne, hee, hez⟩
    · obtain ⟨hld, hlv⟩ := belowF_ok hbk
      have hlv' : k.level = f := by omega
      have hkok := (loadF_ok hld).1
      have HKO : Hid (NdOk k ∧ k.level = f) := ⟨hkok, hlv'⟩
      have HRk : Hid (putF key val (f + 1) S D l = if (putF key val f S D k.items).err ≠ 0 then ⟨(putF key val f S D k.items).err, [], (putF key val f S D k.items).st, (putF key val f S D k.items).dv⟩ else
        laidF (putF key val f S D k.items).st (putF key val f S D k.items).dv (f + 1) (swapF l i (i + 1) (putF key val f S D k.items).out)) := by
        exact HR.out.2 k hbk
      rw [hnk, hek, hlv']
      rw [hnk] at HI3
      clear HR hnk hek hbk hld hlv hlv' hkok
      go_wp2_with fail
      have hb4 : Below w3.heap.size w3 (w3.alloc (.cells #[.int .i64 (f : Int), .slice a3 k.items.length c3] 79)) := (Below.refl _ _).alloc (Nat.le_refl _) _
      refine (ih _ S D _ k.items (by omega) (H3.out.2.1.on hb4) H1.out.2.2.2.2.2.1 (HI3.out.on hb4) (by rw [← HKO.out.2]; exact HKO.out.1.its) HKO.out.1.len).mono ?_
      obtain ⟨R, hR⟩ : ∃ R, R = putF key val f S D k.items := ⟨_, rfl⟩
      have hfit := put_fit key val hk hv f S D k.items H1.out.2.2.2.2.2.1 HKO.out.1.its.fitI HKO.out.1.len.1
      rw [← hR] at HRk hfit ⊢
      rintro e w5 ⟨v5, rfl, hown5, hs5, hc5⟩
      have HC5 : Hid (Chg B.all w w5) := (Chg.of_below (H3.out.1.trans (hb4.mono H3.out.1.size))).trans hc5
      have hB := H1.out.2.2.2.2.2.2.2
      have hl9 : R.out.length ≤ 2 := hfit.2.2.1
      have hz5 : w.heap.size ≤ (w3.alloc (.cells #[.int .i64 (f : Int), .slice a3 k.items.length c3] 79)).heap.size := Nat.le_trans H3.out.1.size hb4.size
      have H5 : Hid (StAt w5 B R.st R.dv ∧ Wok R.st R.dv ∧ Its (fun q => q ∉ B.all) w5 v5 R.out ∧ Its (fun q => q ∉ B.all ∧ q < w.heap.size) w5 (.slice a l.length c) l ∧ FitI R.out ∧ (R.err = 0 → 1 ≤ R.out.length)) := by
        refine ⟨hs5, hfit.1, (hown5.its (by omega)).mono (fun q hq hm => ?_), (H3.out.2.2.1.on hb4).chg hc5 (fun q hq => hq.1), hfit.2.1, hfit.2.2.2⟩
        have g1 := hB q hm
        have g2 : (w3.alloc (.cells #[.int .i64 (f : Int), .slice a3 k.items.length c3] 79)).heap.size ≤ q := hq.1
        omega
      have hnB : nb ∉ B.all := fun hm => by have := hB nb hm; have := H1.out.2.2.2.2.1; omega
      have hn5 := (hc5.block _ (Nat.lt_of_lt_of_le (heap_lt H3.out.2.2.2) hb4.size) hnB).trans ((hb4.block _ (heap_lt H3.out.2.2.2)).trans H3.out.2.2.2)
      have e0 : w5.drew.cell? ⟨nb, 0, none⟩ = some (.int .i64 F) := cell_at hn5 0
      have e1 : w5.drew.cell? ⟨nb, 1, none⟩ = some (.slice a l.length c) := cell_at hn5 1
      have HNB : Hid (nb ∉ B.all ∧ w.heap.size ≤ w5.heap.size) := ⟨hnB, HC5.out.size⟩
      have HE : Hid ((LaidIs w B (putF key val (f + 1) S D l)) = LaidIs w B (putF key val (f + 1) S D l)) := rfl
      rw [hnb] at e0 e1
      clear hfit hR hown5 hs5 hc5 hb4 hB hz5 hnB hn5 HE
      by_cases hre : R.err = 0
      · have hre' : (R.err != 0) = false := by simp [hre]
        have HRR : Hid (putF key val (f + 1) S D l = laidF R.st R.dv (f + 1) (swapF l i (i + 1) R.out)) := by
          have := HRk.out
          rw [if_neg (by rw [hre]; decide)] at this
          exact this
        have HSW : Hid (1 ≤ (swapF l i (i + 1) R.out).length ∧ (swapF l i (i + 1) R.out).length ≤ 64 ∧ FitI (swapF l i (i + 1) R.out)) := by
          have h1 := swapF_len (l := l) (m := R.out) (i := i) (j := i + 1) (by omega) (by omega)
          have h2 := H5.out.2.2.2.2.2 hre
          exact ⟨by omega, by omega, H1.out.2.2.2.2.2.2.1.fitI.swap H5.out.2.2.2.2.1 _ _⟩
        have HWR : Hid (IntKind.i64.wrap ((i : Int) + 1) = ((i + 1 : Nat) : Int)) := by show _ = _; rw [IntKind.wrap_i64]; omega
        clear HRk hre
        go_wp2_with fail
        go_region_held3 (fun w' => w'.cell? ⟨w.heap.size, 0, none⟩ = some (.int .i64 F) ∧ w'.cell? ⟨w.heap.size, 1, none⟩ = some (.slice a l.length c))
          (first | exact ⟨e0, e1⟩ | exact H7.out.2.2.2 | exact ⟨cell_on H6.out.1 e0, cell_on H6.out.1 e1⟩)
          (first
            | (go_at_call 80; refine (swap_at _ _ w5.drew _ v5 l R.out i (i + 1) _ HWR.out (H5.out.2.2.2.1.on (Below.refl _ _).drew) (H5.out.2.2.1.on (Below.refl _ _).drew) ⟨by omega, by omega⟩ ⟨by omega, by omega⟩).mono ?_; rintro e w6 ⟨v6, rfl, hown6, hb6⟩; have H6 : Hid (Below w5.drew.heap.size w5.drew w6 ∧ StAt w6 B R.st R.dv ∧ Its (· ∉ B.all) w6 v6 (swapF l i (i + 1) R.out)) := put_own hown6 hb6 H5.out.1 HNB.out.2 H1.out.2.2.2.2.2.2.2 HSW.out.2.1; clear hown6 hb6)
            | (go_at_call 79; refine (laid_at w6 B R.st R.dv (f + 1) F HF.out v6 _ H6.out.2.1 H5.out.2.1 H6.out.2.2 HSW.out.2.2 ⟨HSW.out.1, HSW.out.2.1⟩ (by omega)).mono ?_; rw [← HRR.out]; rintro e w7 ⟨v7, rfl, hown7, hs7, hc7⟩; have H7 : Hid (OwnT w.heap.size w7 v7 (putF key val (f + 1) S D l).out ∧ StAt w7 B (putF key val (f + 1) S D l).st (putF key val (f + 1) S D l).dv ∧ Chg B.all w w7 ∧ w7.cell? ⟨w.heap.size, 0, none⟩ = some (.int .i64 F) ∧ w7.cell? ⟨w.heap.size, 1, none⟩ = some (.slice a l.length c)) := ⟨hown7.mono (Nat.le_trans HNB.out.2 H6.out.1.size), hs7, (HC5.out.trans (Chg.of_below ((Below.refl _ _).drew.trans (H6.out.1.mono (Nat.le_refl _))))).trans hc7, hc7.cell (by rw [← hnb]; exact HNB.out.1) (cell_on H6.out.1 e0), hc7.cell (by rw [← hnb]; exact HNB.out.1) (cell_on H6.out.1 e1)⟩; clear hown7 hs7 hc7)
            | fail)
        go_wp2_with fail
        go_ret2
        exact ⟨v7, rfl, H7.out.1, H7.out.2.1, H7.out.2.2.1⟩
      · have hre' : (R.err != 0) = true := by simpa using hre
        have HRR : Hid (putF key val (f + 1) S D l = ⟨R.err, [], R.st, R.dv⟩) := by
          have := HRk.out
          rw [if_pos hre] at this
          exact this
        clear HRk hre
        go_wp2_with fail
        go_ret2
        exact ⟨.slice none 0 0, by rw [HRR.out]; rfl, by rw [HRR.out]; exact OwnT.nil _ _, by rw [HRR.out]; exact H5.out.1, HC5.out⟩
    · have HRR : Hid (putF key val (f + 1) S D l = ⟨er, [], S, D⟩) := HR.out.1 er hbe
      have hez' : (er != 0) = true := by simpa using hez
      rw [hne, hee]
      rw [hne] at HI3
      clear HR hne hee hbe hez
      go_wp2_with fail
      go_ret2
      have hb4 : ∀ o, Below w3.heap.size w3 (w3.alloc o) := fun o => (Below.refl _ _).alloc (Nat.le_refl _) _
      exact ⟨.slice none 0 0, by rw [HRR.out]; rfl, by rw [HRR.out]; exact OwnT.nil _ _, by rw [HRR.out]; exact H3.out.2.1.on (hb4 _), Chg.of_below (H3.out.1.trans ((hb4 _).mono H3.out.1.size))⟩
end Go.Proofs.YtadmecjdihfmeaaGreat.Tre

/- Layer 7: Put. -/
namespace Go.Proofs.YtadmecjdihfmeaaGreat.Tre
set_option linter.unusedVariables false
set_option linter.unusedSimpArgs false
set_option maxRecDepth 100000
open Go.RowKit Go.Lib Go.Proofs.YtadmecjdihfmeaaGreat.Mem Go.Proofs.YtadmecjdihfmeaaGreat.Oct Go.Proofs.YtadmecjdihfmeaaGreat.Dev Go.Proofs.YtadmecjdihfmeaaGreat.Sto

def RootIs (w : World) (B : Blk) (r : Ch Int) (e : Ending) (w' : World) : Prop := e = .returned (.tuple #[.int .i64 r.out, .int .i64 r.err]) ∧ StAt w' B r.st r.dv ∧ Chg B.all w w'
theorem fit_of_right {key val : ByteArray} (hk : rightK key = true) (hv : val.size ≤ 300) : key.size ≤ 64 ∧ val.size ≤ 300 := by
  simp [rightK] at hk
  omega
theorem own_one {w1 w : World} {B : Blk} {y : It} (hx : w1.heap[w.heap.size]? = some (.cells #[.string y.key, .string y.val, .int .i64 y.kid] 83 (0, 0))) (hB : w.heap.size ∉ B.all) : Its (· ∉ B.all) w1 (.slice (some ⟨w.heap.size, 0, none⟩) 1 1) [y] := by
  refine ⟨.inr ⟨w.heap.size, 0, 1, rfl, hB, by simp, fun j hj => ⟨itL y, rfl, fun q hq => ?_, ?_⟩⟩, fun a n c e => by injection e with e0 e1 e2; exact ⟨by omega, fun h0 => by rw [h0] at e0; cases e0⟩⟩
  · have : j = 0 := by simpa using hj
    subst this
    match q, hq with
    | 0, _ => exact cell_at hx 0
    | 1, _ => exact cell_at hx 1
    | 2, _ => exact cell_at hx 2
  · have : j = 0 := by simpa using hj
    subst this
    rfl
set_option maxHeartbeats 8000000 in
theorem treePut_any (w : World) (B : Blk) (S : StS) (D : DevS) (root : Int) (key val : ByteArray) (h : StAt w B S D) (hw : Wok S D) :
    Calls Tryz.prog 30 #[.pointer (some ⟨B.s, 0, none⟩), .int .i64 root, .string key, .string val] w (RootIs w B (PutF S D root key val)) := by
  have H : Hid (StAt w B S D ∧ Wok S D ∧ ∀ q ∈ B.all, q < w.heap.size) := ⟨h, hw, h.lt⟩
  have hvs : val.size = val.toList.length := by rw [toList_data, Array.length_toList]; rfl
  clear h hw
  by_cases hbad : rightK key = false ∨ 300 < val.size
  · have HR : Hid (PutF S D root key val = ⟨22, 0, S, D⟩) := by show PutF S D root key val = _; unfold PutF; exact if_pos hbad
    go_enter Tryz.func30, Tryz.ntmps30
    cases hk : rightK key with
    | false =>
      clear hbad
      go_wp2_with (go_at_call 54; refine (right_is hk _).mono ?_; rintro e w1 ⟨rfl, rfl⟩)
      go_ret2
      exact ⟨by rw [HR.out]; rfl, by rw [HR.out]; exact H.out.1, Chg.refl _ _⟩
    | true =>
      have hv : 300 < val.size := by rcases hbad with h | h; (rw [hk] at h; cases h); exact h
      have hv' : (300 : Int) < (val.size : Int) := by omega
      clear hbad
      go_wp2_with (go_at_call 54; refine (right_is hk _).mono ?_; rintro e w1 ⟨rfl, rfl⟩)
      go_ret2
      exact ⟨by rw [HR.out]; rfl, by rw [HR.out]; exact H.out.1, Chg.refl _ _⟩
  · have hk : rightK key = true := by
      cases hk : rightK key with
      | true => rfl
      | false => exact absurd (.inl hk) hbad
    have hv : val.size ≤ 300 := by
      rcases Nat.lt_or_ge 300 val.size with h | h
      · exact absurd (.inr h) hbad
      · exact h
    have HR0 : Hid (PutF S D root key val = if root = 0 then topF S D 0 [⟨key, val, 0⟩] else match loadF S D root with
      | .error e => ⟨e, 0, S, D⟩
      | .ok n => if (putF key val n.level S D n.items).err ≠ 0 then ⟨(putF key val n.level S D n.items).err, 0, (putF key val n.level S D n.items).st, (putF key val n.level S D n.items).dv⟩
        else if (putF key val n.level S D n.items).out.length = 1 then ⟨0, ((putF key val n.level S D n.items).out[0]?.getD default).kid, (putF key val n.level S D n.items).st, (putF key val n.level S D n.items).dv⟩
        else if n.level = 20 then ⟨27, 0, (putF key val n.level S D n.items).st, (putF key val n.level S D n.items).dv⟩
        else topF (putF key val n.level S D n.items).st (putF key val n.level S D n.items).dv (n.level + 1) (putF key val n.level S D n.items).out) := by
      show PutF S D root key val = _
      unfold PutF
      rw [if_neg hbad]
      rfl
    have hv' : ¬ (300 : Int) < (val.size : Int) := by omega
    have HF := fit_of_right hk hv
    clear hbad
    go_enter Tryz.func30, Tryz.ntmps30
    by_cases h0 : root = 0
    · have HR : Hid (PutF S D root key val = topF S D 0 [⟨key, val, 0⟩]) := by have := HR0.out; rw [if_pos h0] at this; exact this
      have h0' : (root == 0) = true := by simpa using h0
      clear HR0 h0
      go_wp2_with (first
        | (go_at_call 54; refine (right_is hk _).mono ?_; rintro e w1 ⟨rfl, rfl⟩)
        | fail)
      have hx1 := heap_alloc_last w1 (.cells #[.string key, .string val, .int .i64 0] 83)
      have hb1 : Below w1.heap.size w1 (w1.alloc (.cells #[.string key, .string val, .int .i64 0] 83)) := (Below.refl _ _).alloc (Nat.le_refl _) _
      refine (save_any _ B S D 0 _ [⟨key, val, 0⟩] (H.out.1.on hb1) H.out.2.1 (own_one hx1 (fun hm => by have := H.out.2.2 _ hm; omega)) (fun x hx => by simp at hx; subst hx; exact HF) ⟨by simp, by simp⟩ (by omega)).mono ?_
      obtain ⟨R, hR⟩ : ∃ R, R = saveF S D 0 [⟨key, val, 0⟩] := ⟨_, rfl⟩
      have HRR : Hid (PutF S D root key val = ⟨R.err, R.out.kid, R.st, R.dv⟩) := by show _ = _; rw [HR.out, hR]; rfl
      rw [← hR]
      rintro e w2 ⟨rfl, hs2, hc2⟩
      have H2 : Hid (StAt w2 B R.st R.dv ∧ Chg B.all w1 w2) := ⟨hs2, (Chg.of_below hb1).trans hc2⟩
      clear hR HR hs2 hc2 hb1 hx1
      go_wp2_with fail
      go_ret2
      have hb3 : ∀ o, Below w2.heap.size w2 (w2.alloc o) := fun o => (Below.refl _ _).alloc (Nat.le_refl _) _
      exact ⟨by rw [HRR.out]; rfl, by rw [HRR.out]; exact H2.out.1.on (hb3 _), H2.out.2.trans (Chg.of_below (hb3 _))⟩
    · have HR : Hid ((∀ e, loadF S D root = .error e → PutF S D root key val = ⟨e, 0, S, D⟩) ∧ ∀ n, loadF S D root = .ok n → PutF S D root key val = if (putF key val n.level S D n.items).err ≠ 0 then ⟨(putF key val n.level S D n.items).err, 0, (putF key val n.level S D n.items).st, (putF key val n.level S D n.items).dv⟩
        else if (putF key val n.level S D n.items).out.length = 1 then ⟨0, ((putF key val n.level S D n.items).out[0]?.getD default).kid, (putF key val n.level S D n.items).st, (putF key val n.level S D n.items).dv⟩
        else if n.level = 20 then ⟨27, 0, (putF key val n.level S D n.items).st, (putF key val n.level S D n.items).dv⟩
        else topF (putF key val n.level S D n.items).st (putF key val n.level S D n.items).dv (n.level + 1) (putF key val n.level S D n.items).out) :=
        ⟨fun e he => by rw [HR0.out, if_neg h0, he], fun n hn => by rw [HR0.out, if_neg h0, hn]⟩
      have h0' : (root == 0) = false := by simpa using h0
      clear HR0 h0
      go_wp2_with (first
        | (go_at_call 54; refine (right_is hk _).mono ?_; rintro e w1 ⟨rfl, rfl⟩)
        | fail)
      refine (load_any _ B S D root H.out.1).mono ?_
      rintro e w2 ⟨v2, rfl, hI2, hb2⟩
      obtain ⟨a2, c2, rfl, _, _⟩ := hI2.form
      have H2 : Hid (Below w1.heap.size w1 w2 ∧ StAt w2 B S D ∧ Its (· ∉ B.all) w2 (.slice a2 (ndOf (loadF S D root)).items.length c2) (ndOf (loadF S D root)).items) := ⟨hb2, H.out.1.on hb2, hI2.mono (fun q hq hm => by have := H.out.2.2 q hm; omega)⟩
      clear hI2 hb2
      rcases ndOf_cases (loadF S D root) (fun e he => loadF_ne he) with ⟨n, hl, hn, he⟩ | ⟨er, hl, hn, he, hz⟩
      · have HOK : Hid (NdOk n) := (loadF_ok hl).1
        have HRn : Hid _ := HR.out.2 n hl
        have hlv20 := HOK.out.level
        rw [hn] at H2
        rw [hn, he]
        clear HR hn he hl
        go_wp2_with fail
        have hb3 : Below w2.heap.size w2 (w2.alloc (.cells #[.int .i64 n.level, .slice a2 n.items.length c2] 79)) := (Below.refl _ _).alloc (Nat.le_refl _) _
        refine (put_any B key val HF.1 HF.2 n.level _ S D _ n.items HOK.out.level (H2.out.2.1.on hb3) H.out.2.1 (H2.out.2.2.on hb3) HOK.out.its HOK.out.len).mono ?_
        have hfit := put_fit key val HF.1 HF.2 n.level S D n.items H.out.2.1 HOK.out.its.fitI HOK.out.len.1
        obtain ⟨R, hR⟩ : ∃ R, R = putF key val n.level S D n.items := ⟨_, rfl⟩
        rw [← hR] at HRn hfit ⊢
        rintro e w4 ⟨v4, rfl, hown4, hs4, hc4⟩
        obtain ⟨a4, c4, rfl⟩ := hown4.form
        have hx3 := heap_alloc_last w2 (.cells #[.int .i64 n.level, .slice a2 n.items.length c2] 79)
        have hnB : w2.heap.size ∉ B.all := fun hm => by have := H.out.2.2 _ hm; have := H2.out.1.size; omega
        have hx4 := (hc4.block _ (by simp) hnB).trans hx3
        have y0 : w4.cell? ⟨w2.heap.size, 0, none⟩ = some (.int .i64 n.level) := cell_at hx4 0
        have hol := hfit.2.2.1
        have H4 : Hid (StAt w4 B R.st R.dv ∧ Wok R.st R.dv ∧ Its (· ∉ B.all) w4 (.slice a4 R.out.length c4) R.out ∧ FitI R.out ∧ (R.err = 0 → 1 ≤ R.out.length) ∧ Chg B.all w1 w4) := by
          refine ⟨hs4, hfit.1, (hown4.its (by omega)).mono (fun q hq hm => ?_), hfit.2.1, hfit.2.2.2, (Chg.of_below (H2.out.1.trans (hb3.mono H2.out.1.size))).trans hc4⟩
          have g1 := H.out.2.2 q hm
          have g2 := hq.1
          have g3 := H2.out.1.size
          have g4 := hb3.size
          omega
        have HRH : Hid _ := HRn.out
        clear hfit hR hown4 hs4 hc4 hb3 hx3 hnB HRn
        by_cases hre : R.err = 0
        · have hre' : (R.err != 0) = false := by simp [hre]
          have hpos := H4.out.2.2.2.2.1 hre
          have HR2 := HRH.out
          rw [if_neg (by rw [hre]; decide)] at HR2
          by_cases h1 : R.out.length = 1
          · rw [if_pos h1] at HR2
            have HRR : Hid _ := HR2
            obtain ⟨b, o, rfl, _, _, _, q2⟩ := H4.out.2.2.1.at 0 (by omega)
            obtain ⟨kd, hkd⟩ : ∃ kd, kd = (R.out[0]'(by omega)).kid := ⟨_, rfl⟩
            rw [← hkd] at q2
            have HKID : Hid ((R.out[0]?.getD default).kid = kd) := by show _ = _; rw [List.getElem?_eq_getElem (by omega), hkd]; rfl
            simp only [Nat.zero_mul, Nat.add_zero] at q2
            have h1' : (R.out.length : Int) = 1 := by omega
            clear HR2 HRH hre hkd
            go_wp2_with fail
            go_ret2
            exact ⟨by rw [HRR.out, HKID.out]; rfl, by rw [HRR.out]; exact H4.out.1, H4.out.2.2.2.2.2⟩
          · rw [if_neg h1] at HR2
            have h1' : ¬ (R.out.length : Int) = 1 := by omega
            by_cases h20 : n.level = 20
            · rw [if_pos h20] at HR2
              have HRR : Hid _ := HR2
              have h20' : (n.level : Int) = 20 := by omega
              clear HR2 HRH hre
              go_wp2_with fail
              go_ret2
              exact ⟨by rw [HRR.out]; rfl, by rw [HRR.out]; exact H4.out.1, H4.out.2.2.2.2.2⟩
            · rw [if_neg h20] at HR2
              have h20' : ¬ (n.level : Int) = 20 := by omega
              obtain ⟨R2, hR2⟩ : ∃ R2, R2 = saveF R.st R.dv (n.level + 1) R.out := ⟨_, rfl⟩
              have HRR : Hid (PutF S D root key val = ⟨R2.err, R2.out.kid, R2.st, R2.dv⟩ ∧ R2 = saveF R.st R.dv (n.level + 1) R.out) := ⟨by rw [HR2, hR2]; rfl, hR2⟩
              have HX4 : Hid (w4.heap[w2.heap.size]? = some (.cells #[.int .i64 n.level, .slice a2 n.items.length c2] 79 (0, 0))) := hx4
              clear HR2 HRH hre hR2 hx4
              go_wp2_with fail
              have hsv : Calls Tryz.prog 55 #[.pointer (some ⟨B.s, 0, none⟩), .agg #[.int .i64 ((n.level : Int) + 1), .slice a4 R.out.length c4]] w4 (SaveIs w4 B R2) := by
                rw [HRR.out.2]
                exact save_any w4 B R.st R.dv (n.level + 1) _ R.out H4.out.1 H4.out.2.1 H4.out.2.2.1 H4.out.2.2.2.1 ⟨by omega, by omega⟩ (by omega)
              refine hsv.mono ?_
              rintro e w5 ⟨rfl, hs5, hc5⟩
              have H5 : Hid (StAt w5 B R2.st R2.dv ∧ Chg B.all w1 w5) := ⟨hs5, H4.out.2.2.2.2.2.trans hc5⟩
              clear hsv hs5 hc5
              go_wp2_with fail
              go_ret2
              have hb6 : ∀ o, Below w5.heap.size w5 (w5.alloc o) := fun o => (Below.refl _ _).alloc (Nat.le_refl _) _
              exact ⟨by rw [HRR.out.1]; rfl, by rw [HRR.out.1]; exact H5.out.1.on (hb6 _), H5.out.2.trans (Chg.of_below (hb6 _))⟩
        · have hre' : (R.err != 0) = true := by simpa using hre
          have HR2 := HRH.out
          rw [if_pos hre] at HR2
          have HRR : Hid _ := HR2
          clear HR2 HRH hre
          go_wp2_with fail
          go_ret2
          exact ⟨by rw [HRR.out]; rfl, by rw [HRR.out]; exact H4.out.1, H4.out.2.2.2.2.2⟩
      · have HRR : Hid _ := HR.out.1 er hl
        have hz' : (er != 0) = true := by simpa using hz
        rw [hn, he]
        rw [hn] at H2
        clear HR hn he hl hz
        go_wp2_with fail
        go_ret2
        have hb3 : ∀ o, Below w2.heap.size w2 (w2.alloc o) := fun o => (Below.refl _ _).alloc (Nat.le_refl _) _
        exact ⟨by rw [HRR.out]; rfl, by rw [HRR.out]; exact H2.out.2.1.on (hb3 _), Chg.of_below (H2.out.1.trans ((hb3 _).mono H2.out.1.size))⟩
end Go.Proofs.YtadmecjdihfmeaaGreat.Tre

/- Layer 7: joined. -/
namespace Go.Proofs.YtadmecjdihfmeaaGreat.Tre
set_option linter.unusedVariables false
set_option linter.unusedSimpArgs false
set_option maxRecDepth 100000
open Go.RowKit Go.Lib Go.Proofs.YtadmecjdihfmeaaGreat.Mem Go.Proofs.YtadmecjdihfmeaaGreat.Oct Go.Proofs.YtadmecjdihfmeaaGreat.Dev Go.Proofs.YtadmecjdihfmeaaGreat.Sto

theorem rws2 {p1 p2 : Nat → Prop} {w : World} {v1 v2 : Value} {l1 l2 : List It} (h1 : Its p1 w v1 l1) (h2 : Its p2 w v2 l2) (t : TypeId) : Rws (w.alloc (.cells #[v1, v2] t)) (.slice (some ⟨w.heap.size, 0, none⟩) 2 2) [l1, l2] := by
  have hb : Below w.heap.size w (w.alloc (.cells #[v1, v2] t)) := (Below.refl _ _).alloc (Nat.le_refl _) _
  have hx : (w.alloc (.cells #[v1, v2] t)).heap[w.heap.size]? = some (.cells #[v1, v2] t (0, 0)) := heap_alloc_last _ _
  refine ⟨_, 0, 2, rfl, fun j hj => ?_⟩
  match j, hj with
  | 0, _ => exact ⟨v1, cell_at hx 0, (h1.on hb).mono (fun _ _ => trivial)⟩
  | 1, _ => exact ⟨v2, cell_at hx 1, (h2.on hb).mono (fun _ _ => trivial)⟩
theorem concat2 (w : World) {p1 p2 : Nat → Prop} {v1 v2 : Value} {l1 l2 : List It} (h1 : Its p1 w v1 l1) (h2 : Its p2 w v2 l2) (hl : l1.length + l2.length ≤ 4096) :
    Calls Tryz.prog 97 #[.slice (some ⟨w.heap.size, 0, none⟩) 2 2] (w.alloc (.cells #[v1, v2] 77)) (OwnIs w (l1 ++ l2)) := by
  refine (concat_any _ _ [l1, l2] (rws2 h1 h2 77) (by simp) (by simp; omega)).mono ?_
  rintro e w2 ⟨v2, rfl, hown, hb2⟩
  refine ⟨v2, rfl, ?_, ((Below.refl _ _).alloc (Nat.le_refl _) _).trans (hb2.mono (by simp))⟩
  have h4 : OwnT w.heap.size w2 v2 [l1, l2].flatten := hown.mono (by simp)
  simpa using h4
def JoinIs (w : World) (r : Except Int (List It × Nat × Nat)) (e : Ending) (w' : World) : Prop := ∃ (v : Value) (a b : Int), e = .returned (.tuple #[v, .int .i64 a, .int .i64 b, .int .i64 (erOf r)]) ∧ (∀ x, r = .ok x → OwnT w.heap.size w' v x.1 ∧ a = x.2.1 ∧ b = x.2.2) ∧ Below w.heap.size w w'
theorem ndOf_len {S : StS} {D : DevS} {lv : Nat} {kid : Int} : (ndOf (belowF S D lv kid)).items.length ≤ 8 := by
  cases h : belowF S D lv kid with
  | error e => simp [ndOf]
  | ok n => exact (loadF_ok (belowF_ok h).1).1.len.2
theorem results_tmp4 {fn : Func} {t u v x : Tmp} (h : fn.results = #[.tmp t, .tmp u, .tmp v, .tmp x]) (tmps : Array Value) (P : Program) (w : World) :
    (results fn tmps).run P w = .ok (.tuple #[tmps.getD t undef, tmps.getD u undef, tmps.getD v undef, tmps.getD x undef]) w := by
  simp [results, h]
set_option maxHeartbeats 8000000 in
theorem joined_any (p q : Nat → Prop) (w : World) (B : Blk) (S : StS) (D : DevS) (lv : Nat) (v vl : Value) (n l : List It) (i : Nat) (h : StAt w B S D) (hlv : 1 ≤ lv ∧ lv < 256) (hI : Its p w v n) (hL : Its q w vl l) (hi : i < n.length) (hn : 1 < n.length ∧ n.length ≤ 64) (hl : l.length ≤ 64) :
    Calls Tryz.prog 81 #[.pointer (some ⟨B.s, 0, none⟩), .agg #[.int .i64 lv, v], .int .i64 i, vl] w (JoinIs w (joinedF S D lv n i l)) := by
  obtain ⟨a, c, rfl, _, _⟩ := hI.form
  obtain ⟨al, cl, rfl, _, _⟩ := hL.form
  obtain ⟨w1, hw1⟩ : ∃ w1, w1 = w.alloc (.cells #[.int .i64 lv, .slice a n.length c] 79) := ⟨_, rfl⟩
  have hb1 : Below w.heap.size w w1 := by rw [hw1]; exact (Below.refl _ _).alloc (Nat.le_refl _) _
  have hx1 : w1.heap[w.heap.size]? = some (.cells #[.int .i64 lv, .slice a n.length c] 79 (0, 0)) := by rw [hw1]; exact heap_alloc_last _ _
  have y0 : w1.cell? ⟨w.heap.size, 0, none⟩ = some (.int .i64 lv) := cell_at hx1 0
  have y1 : w1.cell? ⟨w.heap.size, 1, none⟩ = some (.slice a n.length c) := cell_at hx1 1
  have H1 : Hid (Below w.heap.size w w1 ∧ StAt w1 B S D ∧ Its p w1 (.slice a n.length c) n ∧ Its q w1 (.slice al l.length cl) l) := ⟨hb1, h.on hb1, hI.on hb1, hL.on hb1⟩
  rw [hw1] at y0 y1
  clear h hI hL hb1 hx1
  go_enter Tryz.func81, Tryz.ntmps81
  by_cases hi1 : i + 1 < n.length
  · have HR : Hid ((∀ e, belowF S D lv n[i + 1].kid = .error e → joinedF S D lv n i l = .error e) ∧ ∀ k, belowF S D lv n[i + 1].kid = .ok k → joinedF S D lv n i l = .ok (l ++ k.items, i, i + 2)) := by
      constructor
      · intro e he; unfold joinedF; rw [if_pos hi1, kid_at hi1, he]
      · intro k hk; unfold joinedF; rw [if_pos hi1, kid_at hi1, hk]
    have hi1' : (i : Int) + 1 < (n.length : Int) := by omega
    go_wp2_with fail
    rw [← hw1]
    clear hw1 y0 y1
    rw [show (i : Int) + 1 = ((i + 1 : Nat) : Int) by omega]
    refine (below_any _ w1 B S D lv _ n (i + 1) hi1 hlv H1.out.2.1 H1.out.2.2.1).mono ?_
    rintro e w3 ⟨v3, rfl, hI3, hb3⟩
    obtain ⟨kid, hkid⟩ : ∃ kid, kid = n[i + 1].kid := ⟨_, rfl⟩
    rw [← hkid] at HR hI3 ⊢
    obtain ⟨a3, c3, rfl, _, _⟩ := hI3.form
    have hlk := ndOf_len (S := S) (D := D) (lv := lv) (kid := kid)
    have H3 : Hid (Below w.heap.size w w3 ∧ Its (fun _ => True) w3 (.slice a3 (ndOf (belowF S D lv kid)).items.length c3) (ndOf (belowF S D lv kid)).items ∧ Its q w3 (.slice al l.length cl) l) := ⟨H1.out.1.trans (hb3.mono H1.out.1.size), hI3.mono (fun _ _ => trivial), H1.out.2.2.2.on hb3⟩
    obtain ⟨K, hK⟩ : ∃ K, K = ndOf (belowF S D lv kid) := ⟨_, rfl⟩
    obtain ⟨er, her⟩ : ∃ er, er = erOf (belowF S D lv kid) := ⟨_, rfl⟩
    have HRK : Hid (erOf (joinedF S D lv n i l) = er ∧ ∀ x, joinedF S D lv n i l = .ok x → x = (l ++ K.items, i, i + 2)) := by
      cases hb : belowF S D lv kid with
      | error e =>
        have := HR.out.1 e hb
        rw [this, her, hb]
        exact ⟨rfl, fun x hx => by cases hx⟩
      | ok k =>
        have := HR.out.2 k hb
        rw [this, her, hK, hb]
        exact ⟨rfl, fun x hx => by cases hx; rfl⟩
    rw [← hK] at H3 hlk ⊢
    rw [← her]
    clear HR hI3 hb3 hK her hkid
    go_wp2_with fail
    obtain ⟨w4, hw4⟩ : ∃ w4, w4 = w3.alloc (.cells #[.int .i64 K.level, .slice a3 K.items.length c3] 79) := ⟨_, rfl⟩
    have hb4 : Below w3.heap.size w3 w4 := by rw [hw4]; exact (Below.refl _ _).alloc (Nat.le_refl _) _
    have hz4 : w3.heap.size + 1 = w4.heap.size := by rw [hw4]; simp
    have HK2 : Hid (Its (fun _ => True) w4 (.slice a3 K.items.length c3) K.items) := H3.out.2.1.on hb4
    have HL : Hid (Its q w4 (.slice al l.length cl) l) := H3.out.2.2.on hb4
    have HB4 : Hid (Below w.heap.size w w4) := H3.out.1.trans (hb4.mono H3.out.1.size)
    rw [hz4, ← hw4]
    clear hz4 hw4 hb4
    have hcc := concat2 w4 HL.out HK2.out (by omega)
    refine hcc.mono ?_
    rintro e w5 ⟨v5, rfl, hown5, hb5⟩
    have H5 : Hid (OwnT w.heap.size w5 v5 (l ++ K.items) ∧ Below w.heap.size w w5) := ⟨hown5.mono HB4.out.size, HB4.out.trans (hb5.mono HB4.out.size)⟩
    clear hcc hown5 hb5
    go_wp2_with fail
    refine bodyPost_ret (results_tmp4 rfl _ _ _) rfl ?_
    exact ⟨v5, i, (i : Int) + 2, by rw [HRK.out.1]; rfl, fun x hx => by rw [HRK.out.2 x hx]; exact ⟨H5.out.1, by simp; try omega, by simp; try omega⟩, H5.out.2⟩
  · have him : i - 1 < n.length := by omega
    have HR : Hid ((∀ e, belowF S D lv (n[i - 1]'him).kid = .error e → joinedF S D lv n i l = .error e) ∧ ∀ k, belowF S D lv (n[i - 1]'him).kid = .ok k → joinedF S D lv n i l = .ok (k.items ++ l, i - 1, i + 1)) := by
      constructor
      · intro e he; unfold joinedF; rw [if_neg hi1, kid_at him, he]
      · intro k hk; unfold joinedF; rw [if_neg hi1, kid_at him, hk]
    have hi1' : ¬ (i : Int) + 1 < (n.length : Int) := by omega
    go_wp2_with fail
    rw [← hw1]
    clear hw1 y0 y1
    rw [show (i : Int) - 1 = ((i - 1 : Nat) : Int) by omega]
    refine (below_any _ w1 B S D lv _ n (i - 1) him hlv H1.out.2.1 H1.out.2.2.1).mono ?_
    rintro e w3 ⟨v3, rfl, hI3, hb3⟩
    obtain ⟨kid, hkid⟩ : ∃ kid, kid = (n[i - 1]'him).kid := ⟨_, rfl⟩
    rw [← hkid] at HR hI3 ⊢
    obtain ⟨a3, c3, rfl, _, _⟩ := hI3.form
    have hlk := ndOf_len (S := S) (D := D) (lv := lv) (kid := kid)
    have H3 : Hid (Below w.heap.size w w3 ∧ Its (fun _ => True) w3 (.slice a3 (ndOf (belowF S D lv kid)).items.length c3) (ndOf (belowF S D lv kid)).items ∧ Its q w3 (.slice al l.length cl) l) := ⟨H1.out.1.trans (hb3.mono H1.out.1.size), hI3.mono (fun _ _ => trivial), H1.out.2.2.2.on hb3⟩
    obtain ⟨K, hK⟩ : ∃ K, K = ndOf (belowF S D lv kid) := ⟨_, rfl⟩
    obtain ⟨er, her⟩ : ∃ er, er = erOf (belowF S D lv kid) := ⟨_, rfl⟩
    have HRK : Hid (erOf (joinedF S D lv n i l) = er ∧ ∀ x, joinedF S D lv n i l = .ok x → x = (K.items ++ l, i - 1, i + 1)) := by
      cases hb : belowF S D lv kid with
      | error e =>
        have := HR.out.1 e hb
        rw [this, her, hb]
        exact ⟨rfl, fun x hx => by cases hx⟩
      | ok k =>
        have := HR.out.2 k hb
        rw [this, her, hK, hb]
        exact ⟨rfl, fun x hx => by cases hx; rfl⟩
    rw [← hK] at H3 hlk ⊢
    rw [← her]
    clear HR hI3 hb3 hK her hkid
    go_wp2_with fail
    obtain ⟨w4, hw4⟩ : ∃ w4, w4 = w3.alloc (.cells #[.int .i64 K.level, .slice a3 K.items.length c3] 79) := ⟨_, rfl⟩
    have hb4 : Below w3.heap.size w3 w4 := by rw [hw4]; exact (Below.refl _ _).alloc (Nat.le_refl _) _
    have hz4 : w3.heap.size + 1 = w4.heap.size := by rw [hw4]; simp
    have HK2 : Hid (Its (fun _ => True) w4 (.slice a3 K.items.length c3) K.items) := H3.out.2.1.on hb4
    have HL : Hid (Its q w4 (.slice al l.length cl) l) := H3.out.2.2.on hb4
    have HB4 : Hid (Below w.heap.size w w4) := H3.out.1.trans (hb4.mono H3.out.1.size)
    rw [hz4, ← hw4]
    clear hz4 hw4 hb4
    have hcc := concat2 w4 HK2.out HL.out (by omega)
    refine hcc.mono ?_
    rintro e w5 ⟨v5, rfl, hown5, hb5⟩
    have H5 : Hid (OwnT w.heap.size w5 v5 (K.items ++ l) ∧ Below w.heap.size w w5) := ⟨hown5.mono HB4.out.size, HB4.out.trans (hb5.mono HB4.out.size)⟩
    clear hcc hown5 hb5
    go_wp2_with fail
    refine bodyPost_ret (results_tmp4 rfl _ _ _) rfl ?_
    exact ⟨v5, (i : Int) - 1, (i : Int) + 1, by rw [HRK.out.1]; rfl, fun x hx => by rw [HRK.out.2 x hx]; exact ⟨H5.out.1, by simp; try omega, by simp; try omega⟩, H5.out.2⟩
end Go.Proofs.YtadmecjdihfmeaaGreat.Tre

/- Layer 7: cut. -/
namespace Go.Proofs.YtadmecjdihfmeaaGreat.Tre
set_option linter.unusedVariables false
set_option linter.unusedSimpArgs false
set_option maxRecDepth 100000
open Go.RowKit Go.Lib Go.Proofs.YtadmecjdihfmeaaGreat.Mem Go.Proofs.YtadmecjdihfmeaaGreat.Oct Go.Proofs.YtadmecjdihfmeaaGreat.Dev Go.Proofs.YtadmecjdihfmeaaGreat.Sto

def CutIs (w : World) (B : Blk) (r : Ch (Option (List It))) (e : Ending) (w' : World) : Prop := ∃ (v : Value) (ok : Bool), e = .returned (.tuple #[v, .bool ok, .int .i64 r.err]) ∧ (r.err = 0 → (r.out = none → ok = false) ∧ ∀ o, r.out = some o → ok = true ∧ OwnT w.heap.size w' v o) ∧ StAt w' B r.st r.dv ∧ Chg B.all w w'
theorem FitI.append {l m : List It} (h : FitI l) (k : FitI m) : FitI (l ++ m) := fun x hx => by
  rcases List.mem_append.1 hx with hx | hx
  · exact h x hx
  · exact k x hx
theorem mend_fit {S : StS} {D : DevS} {f : Nat} {n l : List It} {i j : Nat} (hw : Wok S D) (hn : FitI n) (hf : FitI l) (hij : i < j ∧ j ≤ n.length) : Wok (mendF S D f n l i j).st (mendF S D f n l i j).dv ∧ ∀ o, (mendF S D f n l i j).out = some o → FitI o ∧ o.length ≤ n.length + 1 := by
  unfold mendF
  by_cases h0 : l = []
  · rw [if_pos h0]
    refine ⟨hw, fun o ho => ?_⟩
    injection ho with ho
    subst ho
    refine ⟨hn.swap (fun x hx => (by cases hx)) _ _, ?_⟩
    rw [swapF_len (by omega) hij.2]
    simp
    omega
  · rw [if_neg h0]
    have hl : 1 ≤ l.length := List.length_pos_iff.2 h0
    have hld := laid_fit (lv := f) hw hf hl
    split
    · exact ⟨hld.1, fun o ho => (by cases ho)⟩
    · refine ⟨hld.1, fun o ho => ?_⟩
      injection ho with ho
      subst ho
      refine ⟨hn.swap hld.2.1 _ _, ?_⟩
      rw [swapF_len (by omega) hij.2]
      have := hld.2.2.1
      omega
theorem cut_fit (key : ByteArray) : ∀ (f : Nat) (S : StS) (D : DevS) (l : List It), Wok S D → FitI l → 1 ≤ l.length ∧ l.length ≤ 8 → Wok (cutF key f S D l).st (cutF key f S D l).dv ∧ ∀ o, (cutF key f S D l).err = 0 → (cutF key f S D l).out = some o → FitI o ∧ o.length ≤ l.length + 1
  | 0, S, D, l, hw, hf, hl => by
    unfold cutF
    split
    · rename_i hfo
      refine ⟨hw, fun o _ ho => ?_⟩
      injection ho with ho
      subst ho
      obtain ⟨h1, _⟩ := foundF_iff.1 hfo
      refine ⟨hf.swap (fun x hx => (by cases hx)) _ _, ?_⟩
      rw [swapF_len (by omega) (by omega)]
      simp
      omega
    · exact ⟨hw, fun o _ ho => (by cases ho)⟩
  | f + 1, S, D, l, hw, hf, hl => by
    have hi := way_lt (key := key) hl.1
    rw [cutF, kid_at hi]
    cases hb : belowF S D (f + 1) l[wayF l key].kid with
    | error e => exact ⟨hw, fun o _ ho => (by cases ho)⟩
    | ok k =>
      dsimp only
      have hkn := (loadF_ok (belowF_ok hb).1).1
      have ih := cut_fit key f S D k.items hw hkn.its.fitI hkn.len
      obtain ⟨r, hr⟩ : ∃ r, r = cutF key f S D k.items := ⟨_, rfl⟩
      rw [← hr] at ih ⊢
      by_cases hre : r.err = 0
      · rw [if_neg (by rw [hre]; decide)]
        cases hro : r.out with
        | none => exact ⟨ih.1, fun o _ ho => by rw [hro] at ho; cases ho⟩
        | some o =>
          dsimp only
          have ho := ih.2 o hre hro
          by_cases hj : o.length < 4 ∧ 1 < l.length
          · rw [if_pos hj]
            unfold joinedF
            by_cases hi1 : wayF l key + 1 < l.length
            · rw [if_pos hi1, kid_at hi1]
              cases hb2 : belowF r.st r.dv (f + 1) l[wayF l key + 1].kid with
              | error e => exact ⟨ih.1, fun o _ ho => (by cases ho)⟩
              | ok k2 =>
                dsimp only
                have hk2 := (loadF_ok (belowF_ok hb2).1).1
                have := mend_fit (f := f) (i := wayF l key) (j := wayF l key + 2) ih.1 hf (ho.1.append hk2.its.fitI) (by omega)
                exact ⟨this.1, fun o' _ ho' => this.2 o' ho'⟩
            · rw [if_neg hi1, kid_at (show wayF l key - 1 < l.length by omega)]
              cases hb2 : belowF r.st r.dv (f + 1) (l[wayF l key - 1]'(by omega)).kid with
              | error e => exact ⟨ih.1, fun o _ ho => (by cases ho)⟩
              | ok k2 =>
                dsimp only
                have hk2 := (loadF_ok (belowF_ok hb2).1).1
                have := mend_fit (f := f) (i := wayF l key - 1) (j := wayF l key + 1) ih.1 hf (hk2.its.fitI.append ho.1) (by omega)
                exact ⟨this.1, fun o' _ ho' => this.2 o' ho'⟩
          · rw [if_neg hj]
            have := mend_fit (f := f) (i := wayF l key) (j := wayF l key + 1) ih.1 hf ho.1 (by omega)
            exact ⟨this.1, fun o' _ ho' => this.2 o' ho'⟩
      · rw [if_pos hre]
        exact ⟨ih.1, fun o h0 _ => absurd h0 hre⟩
/-- behind a kid's cut -/
def CUTO (f : Nat) (R : Ch (Option (List It))) (o : List It) (l : List It) (i : Nat) : Ch (Option (List It)) := if o.length < 4 ∧ 1 < l.length then
          match joinedF R.st R.dv (f + 1) l i o with
          | .error e => ⟨e, none, R.st, R.dv⟩
          | .ok (l', i, j) => mendF R.st R.dv f l l' i j
        else mendF R.st R.dv f l o i (i + 1)
def CUTK (key : ByteArray) (f : Nat) (S : StS) (D : DevS) (k : Nd) (l : List It) (i : Nat) : Ch (Option (List It)) := if (cutF key f S D k.items).err ≠ 0 then cutF key f S D k.items else
      match (cutF key f S D k.items).out with
      | none => cutF key f S D k.items
      | some o => CUTO f (cutF key f S D k.items) o l i
theorem joinedF_ne {S : StS} {D : DevS} {lv : Nat} {n l : List It} {i : Nat} {e : Int} (h : joinedF S D lv n i l = .error e) : e ≠ 0 := by
  unfold joinedF at h
  split at h
  · split at h
    · rename_i hb; cases h; exact belowF_ne hb
    · cases h
  · split at h
    · rename_i hb; cases h; exact belowF_ne hb
    · cases h
theorem joinedF_fit {S : StS} {D : DevS} {lv : Nat} {n l L : List It} {i i' j' : Nat} (h : joinedF S D lv n i l = .ok (L, i', j')) (hf : FitI l) (hl : l.length ≤ 9) (hi : i < n.length) (hn : 1 < n.length) : FitI L ∧ L.length ≤ 64 ∧ i' < j' ∧ j' ≤ n.length := by
  unfold joinedF at h
  split at h
  · rename_i hi1
    split at h
    · cases h
    · rename_i k hb
      cases h
      have hk := (loadF_ok (belowF_ok hb).1).1
      have := hk.len
      exact ⟨hf.append hk.its.fitI, by rw [List.length_append]; omega, by omega, by omega⟩
  · split at h
    · cases h
    · rename_i k hb
      cases h
      have hk := (loadF_ok (belowF_ok hb).1).1
      have := hk.len
      exact ⟨hk.its.fitI.append hf, by rw [List.length_append]; omega, by omega, by omega⟩
/-- what is to be laid in place of kids -/
structure Mend (w : World) (B : Blk) (S : StS) (D : DevS) (f : Nat) (n l : List It) (i j : Nat) (R : Ch (Option (List It))) (w' : World) (v : Value) : Prop where
  go : R = mendF S D f n l i j
  below : Below w.heap.size w w'
  its : Its (· ∉ B.all) w' v l
  fit : FitI l
  len : l.length ≤ 64
  ij : i < j ∧ j ≤ n.length
set_option maxHeartbeats 8000000 in
theorem cut_any (B : Blk) (key : ByteArray) : ∀ (f : Nat) (w : World) (S : StS) (D : DevS) (v : Value) (l : List It), f ≤ 20 → StAt w B S D → Wok S D → Its (· ∉ B.all) w v l → ItsOk f l → 1 ≤ l.length ∧ l.length ≤ 8 →
    Calls Tryz.prog 57 #[.pointer (some ⟨B.s, 0, none⟩), .agg #[.int .i64 f, v], .string key] w (CutIs w B (cutF key f S D l)) := by
  intro f
  induction f with
  | zero =>
    intro w S D v l hf20 h hw hI hok hl
    obtain ⟨a, c, rfl, _, _⟩ := hI.form
    obtain ⟨nb, hnb⟩ : ∃ nb, nb = w.heap.size := ⟨_, rfl⟩
    obtain ⟨w1, hw1⟩ : ∃ w1, w1 = w.alloc (.cells #[.int .i64 0, .slice a l.length c] 79) := ⟨_, rfl⟩
    have hb1 : Below w.heap.size w w1 := by rw [hw1]; exact (Below.refl _ _).alloc (Nat.le_refl _) _
    have hx1 : w1.heap[nb]? = some (.cells #[.int .i64 0, .slice a l.length c] 79 (0, 0)) := by rw [hw1, hnb]; exact heap_alloc_last _ _
    have HR : Hid (cutF key 0 S D l = if foundF l key = true then ⟨0, some (swapF l (placeF l key) (placeF l key + 1) []), S, D⟩ else ⟨0, none, S, D⟩) := rfl
    have H1 : Hid (Below w.heap.size w w1 ∧ w1.heap[nb]? = some (.cells #[.int .i64 0, .slice a l.length c] 79 (0, 0)) ∧ StAt w1 B S D ∧ Its (fun q => q ∉ B.all ∧ q < w.heap.size) w1 (.slice a l.length c) l ∧ nb = w.heap.size ∧ Wok S D ∧ ItsOk 0 l ∧ ∀ q ∈ B.all, q < w.heap.size) := ⟨hb1, hx1, h.on hb1, hI.real.on hb1, hnb, hw, hok, h.lt⟩
    have y0 : w1.cell? ⟨nb, 0, none⟩ = some (.int .i64 0) := cell_at hx1 0
    have y1 : w1.cell? ⟨nb, 1, none⟩ = some (.slice a l.length c) := cell_at hx1 1
    rw [hw1] at y0 y1
    rw [hnb] at y0 y1
    clear h hI hb1 hx1 hw hok
    go_enter Tryz.func57, Tryz.ntmps57
    go_wp2_with fail
    rw [← hw1]
    clear hw1 y0 y1
    refine (place_any _ w1 _ l key H1.out.2.2.2.2.2.2.1.rise (by omega) H1.out.2.2.2.1).mono ?_
    rintro e w2 ⟨rfl, hb2⟩
    have hple := placeF_le l key
    have H2 : Hid (Below w.heap.size w w2 ∧ StAt w2 B S D ∧ Its (fun q => q ∉ B.all ∧ q < w.heap.size) w2 (.slice a l.length c) l) := ⟨H1.out.1.trans (hb2.mono H1.out.1.size), H1.out.2.2.1.on hb2, H1.out.2.2.2.1.on hb2⟩
    have hn2 : w2.heap[nb]? = some (.cells #[.int .i64 0, .slice a l.length c] 79 (0, 0)) := (hb2.block _ (heap_lt H1.out.2.1)).trans H1.out.2.1
    have y1 : w2.cell? ⟨nb, 1, none⟩ = some (.slice a l.length c) := cell_at hn2 1
    rw [hnb] at y1
    obtain ⟨p, hp⟩ : ∃ p, p = placeF l key := ⟨_, rfl⟩
    rw [← hp] at hple ⊢
    rw [← hp] at HR
    have HPF : Hid (foundF l key = true → p < l.length) := fun hf => by obtain ⟨h1, _⟩ := foundF_iff.1 hf; omega
    clear hb2 hn2 hp
    cases hfo : foundF l key with
    | true =>
      have hpl : p < l.length := HPF.out hfo
      have HX : Hid (cutF key 0 S D l = ⟨0, some (swapF l p (p + 1) []), S, D⟩) := by have := HR.out; rw [hfo] at this; exact this
      clear HR
      go_wp2_with fail
      refine (swap_at _ (fun _ => True) w2 _ _ l [] p (p + 1) _ (by omega) H2.out.2.2 Its.nil ⟨by omega, by omega⟩ ⟨by omega, by simp⟩).mono ?_
      rintro e w4 ⟨v4, rfl, hown4, hb4⟩
      have H4 : Hid (OwnT w.heap.size w4 v4 (swapF l p (p + 1) []) ∧ Below w.heap.size w w4 ∧ StAt w4 B S D) := ⟨hown4.mono H2.out.1.size, H2.out.1.trans (hb4.mono H2.out.1.size), H2.out.2.1.on hb4⟩
      clear hown4 hb4
      go_wp2_with fail
      go_ret3
      exact ⟨v4, true, by rw [HX.out]; rfl, fun _ => by rw [HX.out]; exact ⟨fun h => (by cases h), fun o ho => by injection ho with ho; subst ho; exact ⟨rfl, H4.out.1⟩⟩, by rw [HX.out]; exact H4.out.2.2, Chg.of_below H4.out.2.1⟩
    | false =>
      have HX : Hid (cutF key 0 S D l = ⟨0, none, S, D⟩) := by have := HR.out; rw [hfo] at this; exact this
      clear HR
      go_wp2_with fail
      go_ret3
      exact ⟨.slice none 0 0, false, by rw [HX.out]; rfl, fun _ => by rw [HX.out]; exact ⟨fun _ => rfl, fun o ho => (by cases ho)⟩, by rw [HX.out]; exact H2.out.2.1, Chg.of_below H2.out.1⟩
  | succ f ih =>
    intro w S D v l hf20 h hw hI hok hl
    obtain ⟨a, c, rfl, _, _⟩ := hI.form
    obtain ⟨nb, hnb⟩ : ∃ nb, nb = w.heap.size := ⟨_, rfl⟩
    obtain ⟨w1, hw1⟩ : ∃ w1, w1 = w.alloc (.cells #[.int .i64 ((f + 1 : Nat) : Int), .slice a l.length c] 79) := ⟨_, rfl⟩
    have hb1 : Below w.heap.size w w1 := by rw [hw1]; exact (Below.refl _ _).alloc (Nat.le_refl _) _
    have hx1 : w1.heap[nb]? = some (.cells #[.int .i64 ((f + 1 : Nat) : Int), .slice a l.length c] 79 (0, 0)) := by rw [hw1, hnb]; exact heap_alloc_last _ _
    have hi := way_lt (key := key) hl.1
    have H1 : Hid (Below w.heap.size w w1 ∧ w1.heap[nb]? = some (.cells #[.int .i64 ((f + 1 : Nat) : Int), .slice a l.length c] 79 (0, 0)) ∧ StAt w1 B S D ∧ Its (fun q => q ∉ B.all ∧ q < w.heap.size) w1 (.slice a l.length c) l ∧ nb = w.heap.size ∧ Wok S D ∧ ItsOk (f + 1) l ∧ ∀ q ∈ B.all, q < w.heap.size) := ⟨hb1, hx1, h.on hb1, hI.real.on hb1, hnb, hw, hok, h.lt⟩
    have HR : Hid ((∀ e, belowF S D (f + 1) l[wayF l key].kid = .error e → cutF key (f + 1) S D l = ⟨e, none, S, D⟩) ∧ ∀ k, belowF S D (f + 1) l[wayF l key].kid = .ok k → cutF key (f + 1) S D l = CUTK key f S D k l (wayF l key)) := ⟨fun e he => by rw [cutF, kid_at hi, he], fun k hk => by rw [cutF, kid_at hi, hk]; rfl⟩
    have y0 : w1.cell? ⟨nb, 0, none⟩ = some (.int .i64 ((f + 1 : Nat) : Int)) := cell_at hx1 0
    have y1 : w1.cell? ⟨nb, 1, none⟩ = some (.slice a l.length c) := cell_at hx1 1
    rw [hw1] at y0 y1
    rw [hnb] at y0 y1
    have hz : ¬ ((f + 1 : Nat) : Int) = 0 := by omega
    have hz2 : (((f + 1 : Nat) : Int) == 0) = false := by simpa using hz
    obtain ⟨F, hF⟩ : ∃ F : Int, F = ((f + 1 : Nat) : Int) := ⟨_, rfl⟩
    have HF : Hid (F = ((f + 1 : Nat) : Int)) := hF
    rw [← hF] at hw1 y0 hz hz2 H1 ⊢
    clear h hI hb1 hx1 hw hok hF
    go_enter Tryz.func57, Tryz.ntmps57
    go_wp2_with fail
    rw [← hw1]
    clear hw1 y0 y1
    refine (way_any _ w1 _ l key H1.out.2.2.2.2.2.2.1.rise (by omega) H1.out.2.2.2.1).mono ?_
    rintro e w2 ⟨rfl, hb2⟩
    obtain ⟨i, hie⟩ : ∃ i, i = wayF l key := ⟨_, rfl⟩
    have hil : i < l.length := by rw [hie]; exact hi
    obtain ⟨kid, hkid⟩ : ∃ kid, kid = l[wayF l key].kid := ⟨_, rfl⟩
    have HK : Hid (kid = (l[i]'hil).kid) := by subst hie; exact hkid
    rw [← hkid, ← hie] at HR
    rw [← hie]
    clear hie hkid hi
    have hn2 : w2.heap[nb]? = some (.cells #[.int .i64 F, .slice a l.length c] 79 (0, 0)) := (hb2.block _ (heap_lt H1.out.2.1)).trans H1.out.2.1
    have H2 : Hid (Below w.heap.size w w2 ∧ StAt w2 B S D ∧ Its (fun q => q ∉ B.all ∧ q < w.heap.size) w2 (.slice a l.length c) l ∧ w2.heap[nb]? = some (.cells #[.int .i64 F, .slice a l.length c] 79 (0, 0))) := ⟨H1.out.1.trans (hb2.mono H1.out.1.size), H1.out.2.2.1.on hb2, H1.out.2.2.2.1.on hb2, hn2⟩
    have y0 : w2.cell? ⟨nb, 0, none⟩ = some (.int .i64 F) := cell_at hn2 0
    have y1 : w2.cell? ⟨nb, 1, none⟩ = some (.slice a l.length c) := cell_at hn2 1
    rw [hnb] at y0 y1
    clear hb2 hn2
    go_wp2_with fail
    rw [HF.out]
    refine (below_any _ w2 B S D (f + 1) _ l i hil ⟨by omega, by omega⟩ H2.out.2.1 H2.out.2.2.1).mono ?_
    rw [← HF.out, ← HK.out]
    rintro e w3 ⟨v3, rfl, hI3, hb3⟩
    obtain ⟨a3, c3, rfl, _, _⟩ := hI3.form
    have hn3 := (hb3.block _ (heap_lt H2.out.2.2.2)).trans H2.out.2.2.2
    have H3 : Hid (Below w.heap.size w w3 ∧ StAt w3 B S D ∧ Its (fun q => q ∉ B.all ∧ q < w.heap.size) w3 (.slice a l.length c) l ∧ w3.heap[nb]? = some (.cells #[.int .i64 F, .slice a l.length c] 79 (0, 0))) := ⟨H2.out.1.trans (hb3.mono H2.out.1.size), H2.out.2.1.on hb3, H2.out.2.2.1.on hb3, hn3⟩
    have HI3 : Hid (Its (· ∉ B.all) w3 (.slice a3 (ndOf (belowF S D (f + 1) kid)).items.length c3) (ndOf (belowF S D (f + 1) kid)).items) := hI3.mono (fun q hq hm => by have g1 := H1.out.2.2.2.2.2.2.2 q hm; have g2 := H2.out.1.size; omega)
    clear hI3 hb3 hn3 y0 y1
    rcases ndOf_cases (belowF S D (f + 1) kid) (fun e he => belowF_ne he) with ⟨k, hbk, hnk, hek⟩ | ⟨er, hbe, hne, hee, hez⟩
    · obtain ⟨hld, hlv⟩ := belowF_ok hbk
      have hlv' : k.level = f := by omega
      have hkok := (loadF_ok hld).1
      have HKO : Hid (NdOk k ∧ k.level = f) := ⟨hkok, hlv'⟩
      have HRk : Hid (cutF key (f + 1) S D l = CUTK key f S D k l i) := HR.out.2 k hbk
      rw [hnk, hek, hlv']
      rw [hnk] at HI3
      clear HR hnk hek hbk hld hlv hlv' hkok
      go_wp2_with fail
      have hb4 : Below w3.heap.size w3 (w3.alloc (.cells #[.int .i64 (f : Int), .slice a3 k.items.length c3] 79)) := (Below.refl _ _).alloc (Nat.le_refl _) _
      refine (ih _ S D _ k.items (by omega) (H3.out.2.1.on hb4) H1.out.2.2.2.2.2.1 (HI3.out.on hb4) (by rw [← HKO.out.2]; exact HKO.out.1.its) HKO.out.1.len).mono ?_
      obtain ⟨R, hR⟩ : ∃ R, R = cutF key f S D k.items := ⟨_, rfl⟩
      have hfit := cut_fit key f S D k.items H1.out.2.2.2.2.2.1 HKO.out.1.its.fitI HKO.out.1.len
      have hk8 := HKO.out.1.len.2
      have HRR : Hid ((R.err ≠ 0 → cutF key (f + 1) S D l = R) ∧ (R.err = 0 → R.out = none → cutF key (f + 1) S D l = R) ∧ ∀ o, R.err = 0 → R.out = some o → cutF key (f + 1) S D l = CUTO f R o l i) := by
        rw [hR]
        refine ⟨fun h => ?_, fun h h2 => ?_, fun o h h2 => ?_⟩
        · rw [HRk.out]; unfold CUTK; rw [if_pos h]
        · rw [HRk.out]; unfold CUTK; rw [if_neg (by rw [h]; decide), h2]
        · rw [HRk.out]; unfold CUTK; rw [if_neg (by rw [h]; decide), h2]
      rw [← hR] at hfit ⊢
      rintro e w5 ⟨v5, ok5, rfl, hpost5, hs5, hc5⟩
      have HC5 : Hid (Chg B.all w w5) := (Chg.of_below (H3.out.1.trans (hb4.mono H3.out.1.size))).trans hc5
      have hB := H1.out.2.2.2.2.2.2.2
      have hz5 : w.heap.size ≤ (w3.alloc (.cells #[.int .i64 (f : Int), .slice a3 k.items.length c3] 79)).heap.size := Nat.le_trans H3.out.1.size hb4.size
      have H5 : Hid (StAt w5 B R.st R.dv ∧ Wok R.st R.dv ∧ Its (fun q => q ∉ B.all ∧ q < w.heap.size) w5 (.slice a l.length c) l ∧ (R.err = 0 → R.out = none → ok5 = false) ∧ ∀ o, R.err = 0 → R.out = some o → ok5 = true ∧ Its (· ∉ B.all) w5 v5 o ∧ FitI o ∧ o.length ≤ 9) := by
        refine ⟨hs5, hfit.1, (H3.out.2.2.1.on hb4).chg hc5 (fun q hq => hq.1), fun h => (hpost5 h).1, fun o h ho => ?_⟩
        have g0 := hfit.2 o h ho
        obtain ⟨g1, g2⟩ := (hpost5 h).2 o ho
        refine ⟨g1, (g2.its (by omega)).mono (fun q hq hm => ?_), g0.1, by omega⟩
        have g3 := hB q hm
        have g4 : (w3.alloc (.cells #[.int .i64 (f : Int), .slice a3 k.items.length c3] 79)).heap.size ≤ q := hq.1
        omega
      have hnB : nb ∉ B.all := fun hm => by have := hB nb hm; have := H1.out.2.2.2.2.1; omega
      have hn5 := (hc5.block _ (Nat.lt_of_lt_of_le (heap_lt H3.out.2.2.2) hb4.size) hnB).trans ((hb4.block _ (heap_lt H3.out.2.2.2)).trans H3.out.2.2.2)
      have HN5 : Hid (w5.heap[nb]? = some (.cells #[.int .i64 F, .slice a l.length c] 79 (0, 0)) ∧ nb ∉ B.all ∧ w.heap.size ≤ w5.heap.size) := ⟨hn5, hnB, HC5.out.size⟩
      have e0 : w5.cell? ⟨nb, 0, none⟩ = some (.int .i64 F) := cell_at hn5 0
      have e1 : w5.cell? ⟨nb, 1, none⟩ = some (.slice a l.length c) := cell_at hn5 1
      rw [hnb] at e0 e1
      clear hfit hR hpost5 hs5 hc5 hb4 hB hz5 hnB hn5 HRk
      by_cases hre : R.err = 0
      · have hre' : (R.err != 0) = false := by simp [hre]
        cases hro : R.out with
        | none =>
          have hok5 := H5.out.2.2.2.1 hre hro
          subst hok5
          have HX : Hid (cutF key (f + 1) S D l = R ∧ R.out = none) := ⟨HRR.out.2.1 hre hro, hro⟩
          clear HRR hre hro
          go_wp2_with fail
          go_ret3
          exact ⟨.slice none 0 0, false, by rw [HX.out.1]; rfl, fun _ => by rw [HX.out.1, HX.out.2]; exact ⟨fun _ => rfl, fun o ho => (by cases ho)⟩, by rw [HX.out.1]; exact H5.out.1, HC5.out⟩
        | some o =>
          obtain ⟨hok5, ho5, hof, hol⟩ := H5.out.2.2.2.2 o hre hro
          subst hok5
          obtain ⟨a5, c5, rfl, _, _⟩ := ho5.form
          have HO5 : Hid (Its (· ∉ B.all) w5 (.slice a5 o.length c5) o ∧ FitI o) := ⟨ho5, hof⟩
          have HX : Hid (cutF key (f + 1) S D l = CUTO f R o l i) := HRR.out.2.2 o hre hro
          have HRE : Hid (R.err = 0) := hre
          clear HRR hre hro ho5 hof
          have hF : 1 ≤ F ∧ F ≤ 20 := by have := HF.out; omega
          have hdec : decide ((o.length : Int) < 4) = decide (o.length < 4) := by simp; omega
          obtain ⟨bj, hbj⟩ : ∃ bj, bj = (decide (o.length < 4) && decide (1 < l.length)) := ⟨_, rfl⟩
          have HBJ : Hid (bj = (decide (o.length < 4) && decide (1 < l.length))) := hbj
          go_upto_region 14 with fail
          go_cut [78] from 70 to 77 (fun v78 wx => v78 = .bool bj ∧ wx = w5)
          case first =>
            by_cases h4 : o.length < 4
            · have h4' : (o.length : Int) < 4 := by omega
              by_cases h1 : 1 < l.length
              · have h1' : (1 : Int) < (l.length : Int) := by omega
                have hbt : bj = true := by rw [hbj]; simp [h4, h1]
                go_wp2_with fail
                go_meet
                exact ⟨by rw [hbt], rfl⟩
              · have h1' : ¬ (1 : Int) < (l.length : Int) := by omega
                have hbt : bj = false := by rw [hbj]; simp [h1]
                go_wp2_with fail
                go_meet
                exact ⟨by rw [hbt], rfl⟩
            · have h4' : ¬ (o.length : Int) < 4 := by omega
              have hbt : bj = false := by rw [hbj]; simp [h4]
              go_wp2_with fail
              go_meet
              exact ⟨by rw [hbt], rfl⟩
          case rest =>
          obtain ⟨rfl, hw5⟩ := hcut
          have hw5' := hw5.symm
          clear hw5
          subst hw5'
          clear hbj
          go_upto_if 78 with fail
          go_cut [13, 14, 16, 17] from 79 to 91 (fun v13 v14 v16 v17 wx => ∃ (aL : Option Addr) (cL : Nat) (L : List It) (i' j' : Nat), v13 = .int .i64 0 ∧ v14 = .slice aL L.length cL ∧ v16 = .int .i64 i' ∧ v17 = .int .i64 j' ∧ Hid (Mend w5 B R.st R.dv f l L i' j' (cutF key (f + 1) S D l) wx (.slice aL L.length cL)))
          case first =>
            cases hbb : bj with
            | false =>
              have HMN : Hid (Mend w5 B R.st R.dv f l o i (i + 1) (cutF key (f + 1) S D l) w5 (.slice a5 o.length c5)) := by
                refine ⟨?_, Below.refl _ _, HO5.out.1, HO5.out.2, by omega, by omega⟩
                have := HX.out
                unfold CUTO at this
                rw [if_neg] at this
                · exact this
                · have h9 := HBJ.out
                  rw [hbb] at h9
                  intro hc
                  simp [hc.1, hc.2] at h9
              subst hbb
              clear hdec
              go_wp2_with fail
              go_meet
              exact ⟨a5, c5, o, i, i + 1, by rw [HRE.out], rfl, rfl, by go_num, HMN.out⟩
            | true =>
              have hj41 : o.length < 4 ∧ 1 < l.length := by
                have h9 := HBJ.out
                rw [hbb] at h9
                simpa using h9.symm
              have HX2 : Hid ((∀ e, joinedF R.st R.dv (f + 1) l i o = .error e → cutF key (f + 1) S D l = ⟨e, none, R.st, R.dv⟩ ∧ e ≠ 0) ∧ ∀ L i' j', joinedF R.st R.dv (f + 1) l i o = .ok (L, i', j') → cutF key (f + 1) S D l = mendF R.st R.dv f l L i' j' ∧ FitI L ∧ L.length ≤ 64 ∧ i' < j' ∧ j' ≤ l.length) := by
                have h9 := HX.out
                unfold CUTO at h9
                rw [if_pos hj41] at h9
                refine ⟨fun e he => ?_, fun L i' j' hL => ?_⟩
                · rw [he] at h9
                  exact ⟨h9, joinedF_ne he⟩
                · rw [hL] at h9
                  exact ⟨h9, joinedF_fit hL HO5.out.2 (by omega) hil hj41.2⟩
              subst hbb
              clear hdec
              go_wp2_with fail
              rw [HF.out]
              refine (joined_any _ _ w5 B R.st R.dv (f + 1) _ _ l o i H5.out.1 ⟨by omega, by omega⟩ H5.out.2.2.1 HO5.out.1 hil ⟨hj41.2, by omega⟩ (by omega)).mono ?_
              rw [← HF.out]
              rintro e w6 ⟨v6, af, bf, rfl, hres6, hb6⟩
              cases hjr : joinedF R.st R.dv (f + 1) l i o with
              | error er =>
                have HX3 : Hid (cutF key (f + 1) S D l = ⟨er, none, R.st, R.dv⟩ ∧ er ≠ 0) := HX2.out.1 er hjr
                have her : erOf (Except.error er : Except Int (List It × Nat × Nat)) = er := rfl
                have her2 : (er != 0) = true := by simpa using HX3.out.2
                have H6 : Hid (StAt w6 B R.st R.dv ∧ Chg B.all w w6) := ⟨H5.out.1.on hb6, HC5.out.trans (Chg.of_below hb6)⟩
                rw [her]
                clear hres6 hb6 hjr her HX2
                go_wp2_with fail
                go_ret3
                exact ⟨.slice none 0 0, false, by rw [HX3.out.1]; rfl, fun h => by rw [HX3.out.1] at h; exact absurd h HX3.out.2, by rw [HX3.out.1]; exact H6.out.1, H6.out.2⟩
              | ok x =>
                obtain ⟨L, i', j'⟩ := x
                obtain ⟨hown6, rfl, rfl⟩ := hres6 _ hjr
                have hX4 := HX2.out.2 L i' j' hjr
                obtain ⟨a6, c6, rfl⟩ := hown6.form
                have her : erOf (Except.ok (L, i', j') : Except Int (List It × Nat × Nat)) = 0 := rfl
                have HMN : Hid (Mend w5 B R.st R.dv f l L i' j' (cutF key (f + 1) S D l) w6 (.slice a6 L.length c6)) := by
                  refine ⟨hX4.1, hb6, (hown6.its (by have := hX4.2.2.1; show L.length ≤ _; omega)).mono (fun q hq hm => ?_), hX4.2.1, hX4.2.2.1, hX4.2.2.2⟩
                  have g1 := H1.out.2.2.2.2.2.2.2 q hm
                  have g2 := hq.1
                  have g3 := HN5.out.2.2
                  omega
                rw [her]
                clear hres6 hb6 hjr her HX2 hX4 hown6
                go_wp2_with fail
                go_meet
                exact ⟨a6, c6, L, i', j', rfl, rfl, rfl, rfl, HMN.out⟩
          case rest =>
            obtain ⟨aL, cL, L, i', j', rfl, rfl, rfl, rfl, hmn⟩ := hcut
            have HMN : Hid (Mend w5 B R.st R.dv f l L i' j' (cutF key (f + 1) S D l) wc (.slice aL L.length cL)) := hmn
            have hij := hmn.ij
            have hLl := hmn.len
            have e0' : wc.cell? ⟨w.heap.size, 0, none⟩ = some (.int .i64 F) := cell_on hmn.below e0
            have e1' : wc.cell? ⟨w.heap.size, 1, none⟩ = some (.slice a l.length c) := cell_on hmn.below e1
            have HWC : Hid (StAt wc B R.st R.dv ∧ Chg B.all w wc ∧ Its (fun q => q ∉ B.all ∧ q < w.heap.size) wc (.slice a l.length c) l ∧ w.heap.size ≤ wc.heap.size) := ⟨H5.out.1.on hmn.below, HC5.out.trans (Chg.of_below hmn.below), H5.out.2.2.1.on hmn.below, Nat.le_trans HN5.out.2.2 hmn.below.size⟩
            clear hmn e0 e1 hdec
            by_cases hL0 : L.length = 0
            · have hL0' : ((L.length : Int) == 0) = true := by rw [hL0]; rfl
              have hLe : L = [] := List.length_eq_zero_iff.1 hL0
              have HX5 : Hid (cutF key (f + 1) S D l = ⟨0, some (swapF l i' j' []), R.st, R.dv⟩) := by
                have := HMN.out.go
                unfold mendF at this
                rw [if_pos hLe] at this
                exact this
              clear hLe
              go_wp2_with fail
              refine (swap_any _ (fun _ => True) wc _ _ l [] i' j' HWC.out.2.2.1 Its.nil ⟨by omega, hij.2⟩ ⟨by omega, by simp⟩).mono ?_
              rintro e w7 ⟨v7, rfl, hown7, hb7⟩
              have H7 : Hid (OwnT w.heap.size w7 v7 (swapF l i' j' []) ∧ StAt w7 B R.st R.dv ∧ Chg B.all w w7) := ⟨hown7.mono HWC.out.2.2.2, HWC.out.1.on hb7, HWC.out.2.1.trans (Chg.of_below hb7)⟩
              clear hown7 hb7
              go_wp2_with fail
              go_ret3
              exact ⟨v7, true, by rw [HX5.out]; rfl, fun _ => by rw [HX5.out]; exact ⟨fun h => (by cases h), fun o ho => by injection ho with ho; subst ho; exact ⟨rfl, H7.out.1⟩⟩, by rw [HX5.out]; exact H7.out.2.1, H7.out.2.2⟩
            · have hLe0 : ¬ L = [] := fun h => hL0 (by rw [h]; rfl)
              have hL0' : ((L.length : Int) == 0) = false := by simpa using hLe0
              clear hLe0
              obtain ⟨R2, hR2⟩ : ∃ R2, R2 = laidF R.st R.dv f L := ⟨_, rfl⟩
              have hLe : ¬ L = [] := fun h => hL0 (by rw [h]; rfl)
              have HX5 : Hid ((R2.err ≠ 0 → cutF key (f + 1) S D l = ⟨R2.err, none, R2.st, R2.dv⟩) ∧ (R2.err = 0 → cutF key (f + 1) S D l = ⟨0, some (swapF l i' j' R2.out), R2.st, R2.dv⟩) ∧ R2.out.length ≤ 2) := by
                have h9 := HMN.out.go
                unfold mendF at h9
                rw [if_neg hLe, ← hR2] at h9
                refine ⟨fun h => by rw [if_pos h] at h9; exact h9, fun h => by rw [if_neg (by rw [h]; decide)] at h9; exact h9, ?_⟩
                rw [hR2]
                exact (laid_fit H5.out.2.1 HMN.out.fit (by omega)).2.2.1
              have hfm : (F : Int) - 1 = (f : Nat) := by have := HF.out; omega
              have HLD : Hid (Calls Tryz.prog 79 #[.pointer (some ⟨B.s, 0, none⟩), .int .i64 (f : Nat), .slice aL L.length cL] wc (LaidIs wc B R2)) := by
                rw [hR2]
                exact laid_any wc B R.st R.dv f _ L HWC.out.1 H5.out.2.1 HMN.out.its HMN.out.fit ⟨by omega, hLl⟩ (by omega)
              clear hLe hR2
              go_wp2_with fail
              refine Calls.mono HLD.out ?_
              rintro e w6 ⟨v6, rfl, hown6, hs6, hc6⟩
              obtain ⟨a6, c6, rfl⟩ := hown6.form
              have hol := HX5.out.2.2
              have H6 : Hid (StAt w6 B R2.st R2.dv ∧ Chg B.all w w6 ∧ Its (fun _ => True) w6 (.slice a6 R2.out.length c6) R2.out ∧ Its (fun q => q ∉ B.all ∧ q < w.heap.size) w6 (.slice a l.length c) l ∧ w.heap.size ≤ w6.heap.size) := ⟨hs6, HWC.out.2.1.trans hc6, (hown6.its (by omega)).mono (fun _ _ => trivial), HWC.out.2.2.1.chg hc6 (fun q hq => hq.1), Nat.le_trans HWC.out.2.2.2 hc6.size⟩
              have e1'' : w6.cell? ⟨w.heap.size, 1, none⟩ = some (.slice a l.length c) := hc6.cell (by rw [← hnb]; exact HN5.out.2.1) e1'
              clear hown6 hs6 hc6 HLD
              go_wp2_with fail
              refine (swap_any _ _ w6 _ _ l R2.out i' j' H6.out.2.2.2.1 H6.out.2.2.1 ⟨by omega, hij.2⟩ ⟨by omega, by omega⟩).mono ?_
              rintro e w7 ⟨v7, rfl, hown7, hb7⟩
              have H7 : Hid (OwnT w.heap.size w7 v7 (swapF l i' j' R2.out) ∧ StAt w7 B R2.st R2.dv ∧ Chg B.all w w7) := ⟨hown7.mono H6.out.2.2.2.2, H6.out.1.on hb7, H6.out.2.1.trans (Chg.of_below hb7)⟩
              clear hown7 hb7
              go_wp2_with fail
              go_ret3
              by_cases hz2 : R2.err = 0
              · refine ⟨v7, true, by rw [HX5.out.2.1 hz2, hz2]; rfl, fun _ => by rw [HX5.out.2.1 hz2]; exact ⟨fun h => (by cases h), fun o ho => by injection ho with ho; subst ho; exact ⟨rfl, H7.out.1⟩⟩, by rw [HX5.out.2.1 hz2]; exact H7.out.2.1, H7.out.2.2⟩
              · refine ⟨v7, true, by rw [HX5.out.1 hz2]; rfl, fun h => by rw [HX5.out.1 hz2] at h; exact absurd h hz2, by rw [HX5.out.1 hz2]; exact H7.out.2.1, H7.out.2.2⟩
      · have hre' : (R.err != 0) = true := by simpa using hre
        have HX : Hid (cutF key (f + 1) S D l = R ∧ R.err ≠ 0) := ⟨HRR.out.1 hre, hre⟩
        clear HRR hre
        go_wp2_with fail
        go_ret3
        exact ⟨.slice none 0 0, ok5, by rw [HX.out.1]; rfl, fun h => by rw [HX.out.1] at h; exact absurd h HX.out.2, by rw [HX.out.1]; exact H5.out.1, HC5.out⟩
    · have HRR : Hid (cutF key (f + 1) S D l = ⟨er, none, S, D⟩) := HR.out.1 er hbe
      have hez' : (er != 0) = true := by simpa using hez
      have HEZ : Hid (er ≠ 0) := hez
      rw [hne, hee]
      rw [hne] at HI3
      clear HR hne hee hbe hez
      go_wp2_with fail
      go_ret3
      have hb4 : ∀ o, Below w3.heap.size w3 (w3.alloc o) := fun o => (Below.refl _ _).alloc (Nat.le_refl _) _
      exact ⟨.slice none 0 0, false, by rw [HRR.out]; rfl, fun h => by rw [HRR.out] at h; exact absurd h HEZ.out, by rw [HRR.out]; exact H3.out.2.1.on (hb4 _), Chg.of_below (H3.out.1.trans ((hb4 _).mono H3.out.1.size))⟩
end Go.Proofs.YtadmecjdihfmeaaGreat.Tre

/- Layer 7: Del. -/
namespace Go.Proofs.YtadmecjdihfmeaaGreat.Tre
set_option linter.unusedVariables false
set_option linter.unusedSimpArgs false
set_option maxRecDepth 100000
open Go.RowKit Go.Lib Go.Proofs.YtadmecjdihfmeaaGreat.Mem Go.Proofs.YtadmecjdihfmeaaGreat.Oct Go.Proofs.YtadmecjdihfmeaaGreat.Dev Go.Proofs.YtadmecjdihfmeaaGreat.Sto

/-- behind a root's cut -/
def DELK (key : ByteArray) (S : StS) (D : DevS) (root : Int) (n : Nd) (R : Ch (Option (List It))) : Ch Int := if R.err ≠ 0 then ⟨R.err, 0, R.st, R.dv⟩
      else match R.out with
        | none => ⟨0, root, R.st, R.dv⟩
        | some l => if l = [] then ⟨0, 0, R.st, R.dv⟩
          else if 0 < n.level ∧ l.length = 1 then ⟨0, (l[0]?.getD default).kid, R.st, R.dv⟩
          else topF R.st R.dv n.level l
set_option maxHeartbeats 8000000 in
theorem treeDel_any (w : World) (B : Blk) (S : StS) (D : DevS) (root : Int) (key : ByteArray) (h : StAt w B S D) (hw : Wok S D) :
    Calls Tryz.prog 31 #[.pointer (some ⟨B.s, 0, none⟩), .int .i64 root, .string key] w (RootIs w B (DelF S D root key)) := by
  have H : Hid (StAt w B S D ∧ Wok S D ∧ ∀ q ∈ B.all, q < w.heap.size) := ⟨h, hw, h.lt⟩
  clear h hw
  cases hk : rightK key with
  | false =>
    have HR : Hid (DelF S D root key = ⟨22, 0, S, D⟩) := by show DelF S D root key = _; unfold DelF; exact if_pos hk
    go_enter Tryz.func31, Tryz.ntmps31
    go_wp2_with (go_at_call 54; refine (right_is hk _).mono ?_; rintro e w1 ⟨rfl, rfl⟩)
    go_ret2
    exact ⟨by rw [HR.out]; rfl, by rw [HR.out]; exact H.out.1, Chg.refl _ _⟩
  | true =>
    by_cases h0 : root = 0
    · have HR : Hid (DelF S D root key = ⟨0, 0, S, D⟩) := by show DelF S D root key = _; unfold DelF; rw [if_neg (by rw [hk]; decide), if_pos h0]
      have h0' : (root == 0) = true := by simpa using h0
      clear h0
      go_enter Tryz.func31, Tryz.ntmps31
      go_wp2_with (go_at_call 54; refine (right_is hk _).mono ?_; rintro e w1 ⟨rfl, rfl⟩)
      go_ret2
      exact ⟨by rw [HR.out]; rfl, by rw [HR.out]; exact H.out.1, Chg.refl _ _⟩
    · have HR : Hid ((∀ e, loadF S D root = .error e → DelF S D root key = ⟨e, 0, S, D⟩) ∧ ∀ n, loadF S D root = .ok n → DelF S D root key = DELK key S D root n (cutF key n.level S D n.items)) := by
        constructor
        · intro e he
          unfold DelF
          rw [if_neg (by rw [hk]; decide), if_neg h0, he]
        · intro n hn
          unfold DelF
          rw [if_neg (by rw [hk]; decide), if_neg h0, hn]
          rfl
      have h0' : (root == 0) = false := by simpa using h0
      clear h0
      go_enter Tryz.func31, Tryz.ntmps31
      go_wp2_with (first
        | (go_at_call 54; refine (right_is hk _).mono ?_; rintro e w1 ⟨rfl, rfl⟩)
        | fail)
      refine (load_any _ B S D root H.out.1).mono ?_
      rintro e w2 ⟨v2, rfl, hI2, hb2⟩
      obtain ⟨a2, c2, rfl, _, _⟩ := hI2.form
      have H2 : Hid (Below w1.heap.size w1 w2 ∧ StAt w2 B S D ∧ Its (· ∉ B.all) w2 (.slice a2 (ndOf (loadF S D root)).items.length c2) (ndOf (loadF S D root)).items) := ⟨hb2, H.out.1.on hb2, hI2.mono (fun q hq hm => by have := H.out.2.2 q hm; omega)⟩
      clear hI2 hb2
      rcases ndOf_cases (loadF S D root) (fun e he => loadF_ne he) with ⟨n, hl, hn, he⟩ | ⟨er, hl, hn, he, hz⟩
      · have HOK : Hid (NdOk n) := (loadF_ok hl).1
        have HRn : Hid _ := HR.out.2 n hl
        have hlv20 := HOK.out.level
        rw [hn] at H2
        rw [hn, he]
        clear HR hn he hl
        go_wp2_with fail
        have hb3 : Below w2.heap.size w2 (w2.alloc (.cells #[.int .i64 n.level, .slice a2 n.items.length c2] 79)) := (Below.refl _ _).alloc (Nat.le_refl _) _
        refine (cut_any B key n.level _ S D _ n.items HOK.out.level (H2.out.2.1.on hb3) H.out.2.1 (H2.out.2.2.on hb3) HOK.out.its HOK.out.len).mono ?_
        have hfit := cut_fit key n.level S D n.items H.out.2.1 HOK.out.its.fitI HOK.out.len
        have hn8 := HOK.out.len.2
        obtain ⟨R, hR⟩ : ∃ R, R = cutF key n.level S D n.items := ⟨_, rfl⟩
        rw [← hR] at HRn hfit ⊢
        rintro e w4 ⟨v4, ok4, rfl, hpost4, hs4, hc4⟩
        have hx3 := heap_alloc_last w2 (.cells #[.int .i64 n.level, .slice a2 n.items.length c2] 79)
        have hnB : w2.heap.size ∉ B.all := fun hm => by have := H.out.2.2 _ hm; have := H2.out.1.size; omega
        have hx4 := (hc4.block _ (by simp) hnB).trans hx3
        have y0 : w4.cell? ⟨w2.heap.size, 0, none⟩ = some (.int .i64 n.level) := cell_at hx4 0
        have H4 : Hid (StAt w4 B R.st R.dv ∧ Wok R.st R.dv ∧ (R.err = 0 → R.out = none → ok4 = false) ∧ (∀ o, R.err = 0 → R.out = some o → ok4 = true ∧ Its (· ∉ B.all) w4 v4 o ∧ FitI o ∧ o.length ≤ 9) ∧ Chg B.all w1 w4) := by
          refine ⟨hs4, hfit.1, fun h => (hpost4 h).1, fun o h ho => ?_, (Chg.of_below (H2.out.1.trans (hb3.mono H2.out.1.size))).trans hc4⟩
          have g0 := hfit.2 o h ho
          obtain ⟨g1, g2⟩ := (hpost4 h).2 o ho
          refine ⟨g1, (g2.its (by omega)).mono (fun q hq hm => ?_), g0.1, by omega⟩
          have g3 := H.out.2.2 q hm
          have g4 := hq.1
          have g5 := H2.out.1.size
          have g6 := hb3.size
          omega
        have HRH : Hid (DelF S D root key = DELK key S D root n R) := HRn.out
        clear hfit hR hpost4 hs4 hc4 hb3 hx3 hx4 hnB HRn
        by_cases hre : R.err = 0
        · have hre' : (R.err != 0) = false := by simp [hre]
          cases hro : R.out with
          | none =>
            have hok4 := H4.out.2.2.1 hre hro
            subst hok4
            have HRR : Hid (DelF S D root key = ⟨0, root, R.st, R.dv⟩) := by
              have := HRH.out
              unfold DELK at this
              rw [if_neg (by rw [hre]; decide), hro] at this
              exact this
            clear HRH hre hro
            go_wp2_with fail
            go_ret2
            exact ⟨by rw [HRR.out]; rfl, by rw [HRR.out]; exact H4.out.1, H4.out.2.2.2.2⟩
          | some o =>
            obtain ⟨hok4, ho4, hof, hol⟩ := H4.out.2.2.2.1 o hre hro
            subst hok4
            obtain ⟨a4, c4, rfl, _, _⟩ := ho4.form
            have HO : Hid (Its (· ∉ B.all) w4 (.slice a4 o.length c4) o ∧ FitI o) := ⟨ho4, hof⟩
            have HRO : Hid (DelF S D root key = if o = [] then ⟨0, 0, R.st, R.dv⟩
          else if 0 < n.level ∧ o.length = 1 then ⟨0, (o[0]?.getD default).kid, R.st, R.dv⟩
          else topF R.st R.dv n.level o) := by
              have := HRH.out
              unfold DELK at this
              rw [if_neg (by rw [hre]; decide), hro] at this
              exact this
            clear HRH hre hro ho4 hof
            by_cases hoe : o = []
            · have HRR : Hid (DelF S D root key = ⟨0, 0, R.st, R.dv⟩) := by have := HRO.out; rw [if_pos hoe] at this; exact this
              have hoz : ((o.length : Int) == 0) = true := by rw [hoe]; rfl
              clear HRO hoe
              go_wp2_with fail
              go_ret2
              exact ⟨by rw [HRR.out]; rfl, by rw [HRR.out]; exact H4.out.1, H4.out.2.2.2.2⟩
            · have hoz : ((o.length : Int) == 0) = false := by simpa using hoe
              have hop : 1 ≤ o.length := List.length_pos_iff.2 hoe
              have HRO2 : Hid (DelF S D root key = if 0 < n.level ∧ o.length = 1 then ⟨0, (o[0]?.getD default).kid, R.st, R.dv⟩ else topF R.st R.dv n.level o) := by have := HRO.out; rw [if_neg hoe] at this; exact this
              clear HRO hoe
              have hone : (0 < n.level ∧ o.length = 1) ∨ n.level = 0 ∨ (0 < n.level ∧ ¬ o.length = 1) := by omega
              have tops : ¬ (0 < n.level ∧ o.length = 1) → Hid (DelF S D root key = topF R.st R.dv n.level o) := fun h => by have := HRO2.out; rw [if_neg h] at this; exact this
              rcases hone with ⟨hl1, ho1⟩ | hl0 | ⟨hl1, ho1⟩
              · have HRR : Hid (DelF S D root key = ⟨0, (o[0]?.getD default).kid, R.st, R.dv⟩) := by have := HRO2.out; rw [if_pos ⟨hl1, ho1⟩] at this; exact this
                obtain ⟨b, q, rfl, _, _, _, q2⟩ := HO.out.1.at 0 (by omega)
                obtain ⟨kd, hkd⟩ : ∃ kd, kd = (o[0]'(by omega)).kid := ⟨_, rfl⟩
                rw [← hkd] at q2
                have HKID : Hid ((o[0]?.getD default).kid = kd) := by show _ = _; rw [List.getElem?_eq_getElem (by omega), hkd]; rfl
                simp only [Nat.zero_mul, Nat.add_zero] at q2
                have ho1' : (o.length : Int) = 1 := by omega
                have hl1' : (0 : Int) < (n.level : Int) := by omega
                clear HRO2 tops hkd
                go_wp2_with fail
                go_ret2
                exact ⟨by rw [HRR.out, HKID.out]; rfl, by rw [HRR.out]; exact H4.out.1, H4.out.2.2.2.2⟩
              · have HRT := tops (by omega)
                have hl1' : ¬ (0 : Int) < (n.level : Int) := by omega
                clear HRO2 tops hl0
                obtain ⟨R2, hR2⟩ : ∃ R2, R2 = saveF R.st R.dv n.level o := ⟨_, rfl⟩
                have HRR : Hid (DelF S D root key = ⟨R2.err, R2.out.kid, R2.st, R2.dv⟩ ∧ R2 = saveF R.st R.dv n.level o) := ⟨by rw [HRT.out, hR2]; rfl, hR2⟩
                clear HRT hR2
                go_wp2_with fail
                have hsv : Calls Tryz.prog 55 #[.pointer (some ⟨B.s, 0, none⟩), .agg #[.int .i64 n.level, .slice a4 o.length c4]] w4 (SaveIs w4 B R2) := by
                  rw [HRR.out.2]
                  exact save_any w4 B R.st R.dv n.level _ o H4.out.1 H4.out.2.1 HO.out.1 HO.out.2 ⟨by omega, by omega⟩ (by omega)
                refine hsv.mono ?_
                rintro e w5 ⟨rfl, hs5, hc5⟩
                have H5 : Hid (StAt w5 B R2.st R2.dv ∧ Chg B.all w1 w5) := ⟨hs5, H4.out.2.2.2.2.trans hc5⟩
                clear hsv hs5 hc5
                go_wp2_with fail
                go_ret2
                have hb6 : ∀ o, Below w5.heap.size w5 (w5.alloc o) := fun o => (Below.refl _ _).alloc (Nat.le_refl _) _
                exact ⟨by rw [HRR.out.1]; rfl, by rw [HRR.out.1]; exact H5.out.1.on (hb6 _), H5.out.2.trans (Chg.of_below (hb6 _))⟩
              · have HRT := tops (by omega)
                have hl1' : (0 : Int) < (n.level : Int) := by omega
                have ho1' : ¬ (o.length : Int) = 1 := by omega
                clear HRO2 tops
                obtain ⟨R2, hR2⟩ : ∃ R2, R2 = saveF R.st R.dv n.level o := ⟨_, rfl⟩
                have HRR : Hid (DelF S D root key = ⟨R2.err, R2.out.kid, R2.st, R2.dv⟩ ∧ R2 = saveF R.st R.dv n.level o) := ⟨by rw [HRT.out, hR2]; rfl, hR2⟩
                clear HRT hR2
                go_wp2_with fail
                have hsv : Calls Tryz.prog 55 #[.pointer (some ⟨B.s, 0, none⟩), .agg #[.int .i64 n.level, .slice a4 o.length c4]] w4 (SaveIs w4 B R2) := by
                  rw [HRR.out.2]
                  exact save_any w4 B R.st R.dv n.level _ o H4.out.1 H4.out.2.1 HO.out.1 HO.out.2 ⟨by omega, by omega⟩ (by omega)
                refine hsv.mono ?_
                rintro e w5 ⟨rfl, hs5, hc5⟩
                have H5 : Hid (StAt w5 B R2.st R2.dv ∧ Chg B.all w1 w5) := ⟨hs5, H4.out.2.2.2.2.trans hc5⟩
                clear hsv hs5 hc5
                go_wp2_with fail
                go_ret2
                have hb6 : ∀ o, Below w5.heap.size w5 (w5.alloc o) := fun o => (Below.refl _ _).alloc (Nat.le_refl _) _
                exact ⟨by rw [HRR.out.1]; rfl, by rw [HRR.out.1]; exact H5.out.1.on (hb6 _), H5.out.2.trans (Chg.of_below (hb6 _))⟩
        · have hre' : (R.err != 0) = true := by simpa using hre
          have HRR : Hid (DelF S D root key = ⟨R.err, 0, R.st, R.dv⟩) := by
            have := HRH.out
            unfold DELK at this
            rw [if_pos hre] at this
            exact this
          clear HRH hre
          go_wp2_with fail
          go_ret2
          exact ⟨by rw [HRR.out]; rfl, by rw [HRR.out]; exact H4.out.1, H4.out.2.2.2.2⟩
      · have HRR : Hid _ := HR.out.1 er hl
        have hz' : (er != 0) = true := by simpa using hz
        rw [hn, he]
        rw [hn] at H2
        clear HR hn he hl hz
        go_wp2_with fail
        go_ret2
        have hb3 : ∀ o, Below w2.heap.size w2 (w2.alloc o) := fun o => (Below.refl _ _).alloc (Nat.le_refl _) _
        exact ⟨by rw [HRR.out]; rfl, by rw [HRR.out]; exact H2.out.2.1.on (hb3 _), Chg.of_below (H2.out.1.trans ((hb3 _).mono H2.out.1.size))⟩
end Go.Proofs.YtadmecjdihfmeaaGreat.Tre

