/- TreRead TreSave: several texts of one proof, laid as one file (a claim has at most 60 files). No condition. -/
import Derived.Test.YtadmecjdihfmeaaGreatTG3
import Derived.Test.YtadmecjdihfmeaaGreatTG1
import Derived.Test.YtadmecjdihfmeaaGreatStoDoes
/- Layer 7: what a loaded node is; Height, Top, Get. -/
namespace Go.Proofs.YtadmecjdihfmeaaGreat.Tre
set_option linter.unusedVariables false
set_option linter.unusedSimpArgs false
set_option maxRecDepth 100000
open Go.RowKit Go.Lib Go.Proofs.YtadmecjdihfmeaaGreat.Mem Go.Proofs.YtadmecjdihfmeaaGreat.Oct Go.Proofs.YtadmecjdihfmeaaGreat.Dev Go.Proofs.YtadmecjdihfmeaaGreat.Sto

/-- a node in a variable -/
theorem ndOf_cases (r : Except Int Nd) (hne : ∀ e, r = .error e → e ≠ 0) : (∃ n, r = .ok n ∧ ndOf r = n ∧ erOf r = 0) ∨ (∃ e, r = .error e ∧ ndOf r = ⟨0, []⟩ ∧ erOf r = e ∧ e ≠ 0) := by
  cases r with
  | ok n => exact .inl ⟨n, rfl, rfl, rfl⟩
  | error e => exact .inr ⟨e, rfl, rfl, rfl, hne e rfl⟩
def hOf : Except Int Nat → Nat
  | .ok h => h
  | .error _ => 0
set_option maxHeartbeats 4000000 in
theorem height_any (w : World) (B : Blk) (S : StS) (D : DevS) (root : Int) (h : StAt w B S D) :
    Calls Tryz.prog 14 #[.pointer (some ⟨B.s, 0, none⟩), .int .i64 root] w fun e w' => e = .returned (.tuple #[.int .i64 (hOf (HeightF S D root)), .int .i64 (erOf (HeightF S D root))]) ∧ Below w.heap.size w w' := by
  by_cases h0 : root = 0
  · have HH : Hid (HeightF S D root = .ok 0) := by show HeightF S D root = _; unfold HeightF; exact if_pos h0
    have h1 : (root == 0) = true := by simpa using h0
    clear h0
    go_enter Tryz.func14, Tryz.ntmps14
    go_wp2
    go_ret2
    exact ⟨by rw [HH.out]; rfl, Below.refl _ _⟩
  · have h1 : (root == 0) = false := by simpa using h0
    have HH : Hid (HeightF S D root = match loadF S D root with | .error e => .error e | .ok n => .ok (n.level + 1)) := by show HeightF S D root = _; unfold HeightF; exact if_neg h0
    have H : Hid (StAt w B S D) := h
    clear h0 h
    go_enter Tryz.func14, Tryz.ntmps14
    go_wp2_with fail
    refine (load_any w B S D root H.out).mono ?_
    rintro e w1 ⟨v, rfl, hI, hb⟩
    obtain ⟨a, c, rfl, _, _⟩ := hI.form
    have HB : Hid (Below w.heap.size w w1) := hb
    clear hb hI
    rcases ndOf_cases (loadF S D root) (fun e he => loadF_ne he) with ⟨n, hr, hn, he⟩ | ⟨er, hr, hn, he, hz⟩
    · have HR : Hid (HeightF S D root = .ok (n.level + 1) ∧ n.level ≤ 20) := ⟨by rw [HH.out, hr], (loadF_ok hr).1.level⟩
      have hlv := HR.out.2
      rw [hn, he]
      clear hr hn he HH
      go_wp2
      go_ret2
      exact ⟨by rw [HR.out.1]; rfl, HB.out.alloc HB.out.size _⟩
    · have HR : Hid (HeightF S D root = .error er) := by show HeightF S D root = _; rw [HH.out, hr]
      have hz' : (er != 0) = true := by simpa using hz
      rw [hn, he]
      clear hr hn he HH hz
      go_wp2
      go_ret2
      exact ⟨by rw [HR.out]; rfl, HB.out.alloc HB.out.size _⟩
/-- Top -/
def TopF (S : StS) (D : DevS) (root : Int) : Except Int (ByteArray × Nat) := match loadF S D root with
  | .error e => .error e
  | .ok n => .ok ((n.items[0]?.getD default).key, n.level)
def keyOf : Except Int (ByteArray × Nat) → ByteArray × Nat
  | .ok x => x
  | .error _ => (⟨#[]⟩, 0)
set_option maxHeartbeats 4000000 in
theorem top_any (w : World) (B : Blk) (S : StS) (D : DevS) (root : Int) (h : StAt w B S D) :
    Calls Tryz.prog 16 #[.pointer (some ⟨B.s, 0, none⟩), .int .i64 root] w fun e w' => e = .returned (.tuple #[.string (keyOf (TopF S D root)).1, .int .i64 (keyOf (TopF S D root)).2, .int .i64 (erOf (TopF S D root))]) ∧ Below w.heap.size w w' := by
  have HH : Hid (TopF S D root = match loadF S D root with | .error e => .error e | .ok n => .ok ((n.items[0]?.getD default).key, n.level)) := rfl
  have H : Hid (StAt w B S D) := h
  clear h
  go_enter Tryz.func16, Tryz.ntmps16
  go_wp2_with fail
  refine (load_any w B S D root H.out).mono ?_
  rintro e w1 ⟨v, rfl, hI, hb⟩
  obtain ⟨a, c, rfl, _, _⟩ := hI.form
  have HB : Hid (Below w.heap.size w w1) := hb
  rcases ndOf_cases (loadF S D root) (fun e he => loadF_ne he) with ⟨n, hr, hn, he⟩ | ⟨er, hr, hn, he, hz⟩
  · have hok := (loadF_ok hr).1
    rw [hn] at hI
    obtain ⟨b, o, rfl, _, q0, q1, q2⟩ := hI.at 0 (by have := hok.len; omega)
    obtain ⟨k0, hk0⟩ : ∃ k0, k0 = (n.items[0]'(by have := hok.len; omega)).key := ⟨_, rfl⟩
    rw [← hk0] at q0
    have HR : Hid (TopF S D root = .ok (k0, n.level)) := by
      show TopF S D root = _
      rw [HH.out, hr, hk0]
      dsimp only
      rw [List.getElem?_eq_getElem (by have := hok.len; omega)]
      rfl
    have hl1 : 0 < n.items.length := by have := hok.len; omega
    have q0' := cell_on (w' := w1.alloc (.cells #[.int .i64 n.level, .slice (some ⟨b, o, none⟩) n.items.length c] 79)) ((Below.refl _ _).alloc (Nat.le_refl _) _) q0
    have hxb := heap_alloc_last w1 (.cells #[.int .i64 n.level, .slice (some ⟨b, o, none⟩) n.items.length c] 79)
    have y0 := cell_at hxb 0
    have y1 := cell_at hxb 1
    rw [hn, he]
    simp only [Nat.zero_mul, Nat.add_zero] at q0'
    clear hr hn he HH hb hI hok q0 q1 q2 hk0 hxb
    go_wp2
    go_quiet (fail)
    go_wp2
    go_ret3
    exact ⟨by rw [HR.out]; rfl, (HB.out.alloc HB.out.size _).trans ((drewN_any _).mono (by have := HB.out.size; simp; omega))⟩
  · have HR : Hid (TopF S D root = .error er) := by show TopF S D root = _; rw [HH.out, hr]
    have hz' : (er != 0) = true := by simpa using hz
    rw [hn, he]
    clear hr hn he HH hz hb hI
    go_wp2
    go_ret3
    exact ⟨by rw [HR.out]; rfl, HB.out.alloc HB.out.size _⟩
end Go.Proofs.YtadmecjdihfmeaaGreat.Tre

/- Layer 7: save. -/
namespace Go.Proofs.YtadmecjdihfmeaaGreat.Tre
set_option linter.unusedVariables false
set_option linter.unusedSimpArgs false
set_option maxRecDepth 100000
open Go.RowKit Go.Lib Go.Proofs.YtadmecjdihfmeaaGreat.Mem Go.Proofs.YtadmecjdihfmeaaGreat.Oct Go.Proofs.YtadmecjdihfmeaaGreat.Dev Go.Proofs.YtadmecjdihfmeaaGreat.Sto

theorem Its.real {p : Nat → Prop} {w : World} {v : Value} {l : List It} (h : Its p w v l) : Its (fun k => p k ∧ k < w.heap.size) w v l := by
  refine ⟨?_, h.2⟩
  rcases h.1 with h | ⟨b, o, c, e, hp, hm, hc⟩
  · exact .inl h
  · by_cases hl : l.length = 0
    · have : l = [] := List.length_eq_zero_iff.1 hl
      subst this
      exact .inl ⟨rfl, _, _, e⟩
    · refine .inr ⟨b, o, c, e, ⟨hp, ?_⟩, hm, hc⟩
      obtain ⟨cs, h1, h2, _⟩ := hc 0 (by omega)
      have h0 := h2 0 (by omega)
      rw [List.getElem?_eq_getElem (by omega)] at h0
      rcases Nat.lt_or_ge b w.heap.size with h' | h'
      · exact h'
      · simp [World.cell?, Array.getElem?_eq_none h'] at h0
/-- what was kept from kids may be theirs again -/
theorem _root_.Go.Proofs.YtadmecjdihfmeaaGreat.Sto.StAt.bare {w : World} {B : Blk} {S : StS} {D : DevS} {g : Nat} (h : StAt w (B.keep g) S D) : StAt w B S D := by
  obtain ⟨mm, hm⟩ := h.cells
  refine ⟨h.box, h.dev, ⟨mm, ⟨hm.is, hm.eq, fun i c a k hi => ?_⟩⟩, h.kept, h.nd, h.small, fun q hq => h.low q (List.mem_cons_of_mem _ hq)⟩
  exact (hm.kids i c a k hi).mono (fun q hq => ⟨hq.1, fun hm2 => hq.2 (List.mem_cons_of_mem _ hm2)⟩)
/-- a block that is new is kept from kids -/
theorem _root_.Go.Proofs.YtadmecjdihfmeaaGreat.Sto.StAt.shield {w w' : World} {B : Blk} {S : StS} {D : DevS} {g : Nat} (h : StAt w B S D) (hb : Below w.heap.size w w') (hg : w.heap.size ≤ g ∧ g < w'.heap.size) : StAt w' (B.keep g) S D := by
  have h1 := h.on hb
  obtain ⟨mm, hm⟩ := h.cells
  refine ⟨h1.box, h1.dev, ⟨mm, ⟨hm.is.touch (Chg.of_below hb : Chg [] w w') (by simp), hm.eq, fun i c a k hi => ?_⟩⟩, h1.kept, h1.nd, h1.small, fun q hq => ?_⟩
  · refine Ints.mono (Ints.chg (T := []) (Ints.real (hm.kids i c a k hi)) (Chg.of_below hb) (by simp)) (fun q hq => ⟨hq.1.1, fun hm2 => ?_⟩)
    rcases List.mem_cons.1 hm2 with h2 | h2
    · have := hq.2; omega
    · exact hq.1.2 h2
  · rcases List.mem_cons.1 hq with h2 | h2
    · subst h2; exact hg.2
    · have := h.low q h2; have := hb.size; omega
/-- a store that goes together, on its device -/
structure Wok (S : StS) (D : DevS) : Prop where
  wf : WF D.n.toNat S []
  n : 0 ≤ D.n ∧ D.n ≤ 4096
theorem Wok.put {S : StS} {D : DevS} (h : Wok S D) (kids : List Int) (data : ByteArray) : Wok (putOut S D kids data).2.2.1 (putOut S D kids data).2.2.2 := by
  have hn := putOut_n S D kids data
  refine ⟨?_, by rw [hn]; exact h.n⟩
  rw [hn]
  rcases putOut_cases S D kids data with ⟨e, he, ⟨e1, e2, e3⟩, e4, _⟩ | ⟨hp, e2, e3⟩
  · rw [e3]; exact h.wf
  · exact hp.wf h.wf (by have := h.n; omega) (by have := h.n; omega)
theorem Wok.save {S : StS} {D : DevS} (h : Wok S D) (lv : Nat) (l : List It) : Wok (saveF S D lv l).st (saveF S D lv l).dv := h.put _ _
/-- a walk's world behind a change of the store -/
def SaveIs (w : World) (B : Blk) (r : Ch It) (e : Ending) (w' : World) : Prop := e = .returned (.tuple #[itV r.out, .int .i64 r.err]) ∧ StAt w' B r.st r.dv ∧ Chg B.all w w'
theorem kidsN_eq (lv : Nat) (l : List It) : kidsN lv l = Nd.kids ⟨lv, l⟩ := rfl
set_option maxHeartbeats 8000000 in
theorem save_any (w : World) (B : Blk) (S : StS) (D : DevS) (lv : Nat) (v : Value) (l : List It) (h : StAt w B S D) (hw : Wok S D) (hI : Its (· ∉ B.all) w v l) (hf : FitI l) (hl : 1 ≤ l.length ∧ l.length ≤ 64) (hlv : lv < 256) :
    Calls Tryz.prog 55 #[.pointer (some ⟨B.s, 0, none⟩), .agg #[.int .i64 lv, v]] w (SaveIs w B (saveF S D lv l)) := by
  obtain ⟨a, c, rfl, _, _⟩ := hI.form
  obtain ⟨nb, hnb⟩ : ∃ nb, nb = w.heap.size := ⟨_, rfl⟩
  obtain ⟨rb, hrb⟩ : ∃ rb, rb = w.heap.size + 1 := ⟨_, rfl⟩
  obtain ⟨w1, hw1⟩ : ∃ w1, w1 = (w.alloc (.cells #[.int .i64 lv, .slice a l.length c] 79)).alloc (.cells #[.string ⟨#[]⟩, .string ⟨#[]⟩, .int .i64 0] 83) := ⟨_, rfl⟩
  have hb1 : Below w.heap.size w w1 := by rw [hw1]; exact ((Below.refl _ _).alloc (Nat.le_refl _) _).alloc (by simp) _
  have hx1 : w1.heap[nb]? = some (.cells #[.int .i64 lv, .slice a l.length c] 79 (0, 0)) := by rw [hw1, hnb, heap_alloc_other _ (by simp)]; exact heap_alloc_last _ _
  have hx2 : w1.heap[rb]? = some (.cells #[.string ⟨#[]⟩, .string ⟨#[]⟩, .int .i64 0] 83 (0, 0)) := by
    rw [hw1, hrb]
    have := heap_alloc_last (w.alloc (.cells #[.int .i64 lv, .slice a l.length c] 79)) (.cells #[.string ⟨#[]⟩, .string ⟨#[]⟩, .int .i64 0] 83)
    simpa using this
  obtain ⟨b, o, rfl, hpb, q0, q1, q2⟩ := hI.at 0 (by omega)
  obtain ⟨x, hx⟩ : ∃ x, x = l[0]'(by omega) := ⟨_, rfl⟩
  rw [← hx] at q0
  have hI1 := hI.real
  have H1 : Hid (Below w.heap.size w w1 ∧ w1.heap[nb]? = some (.cells #[.int .i64 lv, .slice (some ⟨b, o, none⟩) l.length c] 79 (0, 0)) ∧ w1.heap[rb]? = some (.cells #[.string ⟨#[]⟩, .string ⟨#[]⟩, .int .i64 0] 83 (0, 0)) ∧ StAt w1 (B.keep rb) S D ∧ nb = w.heap.size ∧ rb = w.heap.size + 1 ∧ (∀ q ∈ B.all, q < w.heap.size) ∧ Its (fun q => q ∉ B.all ∧ q < w.heap.size) w1 (.slice (some ⟨b, o, none⟩) l.length c) l ∧ w1.cell? ⟨b, o, none⟩ = some (.string x.key) ∧ b ∉ B.all) := ⟨hb1, hx1, hx2, h.shield hb1 ⟨by omega, heap_lt hx2⟩, hnb, hrb, h.lt, hI1.on hb1, cell_on hb1 (by simpa using q0), hpb⟩
  have HX : Hid (x = l[0]?.getD default ∧ Wok S D) := ⟨by rw [hx, List.getElem?_eq_getElem (by omega)]; rfl, hw⟩
  have y0 : w1.cell? ⟨nb, 0, none⟩ = some (.int .i64 lv) := cell_at hx1 0
  have y1 : w1.cell? ⟨nb, 1, none⟩ = some (.slice (some ⟨b, o, none⟩) l.length c) := cell_at hx1 1
  rw [hw1] at y0 y1
  rw [hnb] at y0 y1
  clear h hI hI1 hb1 hx1 hx2 q0 q1 q2 hpb hx hw
  go_enter Tryz.func55, Tryz.ntmps55
  go_wp2_with fail
  rw [← hw1]
  clear hw1 y0 y1
  refine (nbytes_any _ lv _ l w1 H1.out.2.2.2.2.2.2.2.1 (fun q hq => Nat.lt_of_lt_of_le hq.2 H1.out.1.size) hf hl.2 hlv).mono ?_
  rintro e w2 ⟨v', rfl, hown, hb2⟩
  obtain ⟨a2, c2, rfl⟩ := hown.form
  have H2 : Hid (Below w.heap.size w w2 ∧ StAt w2 (B.keep rb) S D ∧ Ints (· ∉ B.all) w2 (.slice a2 (kidsN lv l).length c2) (kidsN lv l)) := ⟨H1.out.1.trans (hb2.mono H1.out.1.size), H1.out.2.2.2.1.on hb2, (hown.ints (by have := kidsN_len lv l; omega)).mono (fun q hq hm => by have h1 := H1.out.2.2.2.2.2.2.1 q hm; have h2 := H1.out.1.size; have h3 : w1.heap.size ≤ q := hq.1; omega)⟩
  have H3 : Hid (w2.heap[nb]? = some (.cells #[.int .i64 lv, .slice (some ⟨b, o, none⟩) l.length c] 79 (0, 0)) ∧ w2.heap[rb]? = some (.cells #[.string ⟨#[]⟩, .string ⟨#[]⟩, .int .i64 0] 83 (0, 0)) ∧ w2.cell? ⟨b, o, none⟩ = some (.string x.key) ∧ b ∉ B.all ∧ nb ∉ B.all ∧ rb ∉ B.all ∧ nb = w.heap.size ∧ rb = w.heap.size + 1) :=
    ⟨(hb2.block _ (heap_lt H1.out.2.1)).trans H1.out.2.1, (hb2.block _ (heap_lt H1.out.2.2.1)).trans H1.out.2.2.1, cell_on hb2 H1.out.2.2.2.2.2.2.2.2.1, H1.out.2.2.2.2.2.2.2.2.2, fun hm => by have h1 := H1.out.2.2.2.2.2.2.1 _ hm; have h2 := H1.out.2.2.2.2.1; omega, fun hm => by have h1 := H1.out.2.2.2.2.2.2.1 _ hm; have h2 := H1.out.2.2.2.2.2.1; omega, H1.out.2.2.2.2.1, H1.out.2.2.2.2.2.1⟩
  clear hown hb2 H1
  go_wp2_with fail
  have hput : Calls Tryz.prog 33 #[.pointer (some ⟨B.s, 0, none⟩), .slice a2 (kidsN lv l).length c2, .string (bl (Nd.data ⟨lv, l⟩))] w2 (PutPost w2 (B.keep rb) (putOut S D (kidsN lv l) (bl (Nd.data ⟨lv, l⟩)))) := storePut_any w2 (B.keep rb) S D _ (kidsN lv l) (bl (Nd.data ⟨lv, l⟩)) H2.out.2.1 HX.out.2.wf H2.out.2.2
  refine hput.mono ?_
  clear hput
  rintro e w3 ⟨rfl, hs3, hc3⟩
  obtain ⟨P, hP⟩ : ∃ P, P = putOut S D (kidsN lv l) (bl (Nd.data ⟨lv, l⟩)) := ⟨_, rfl⟩
  rw [← hP] at hs3 ⊢
  have HS : Hid (saveF S D lv l = ⟨P.2.1, ⟨x.key, nil8, P.1⟩, P.2.2.1, P.2.2.2⟩ ∧ StAt w3 (B.keep rb) P.2.2.1 P.2.2.2 ∧ Chg B.all w w3) := ⟨by show saveF S D lv l = _; rw [hP, HX.out.1]; rfl, hs3, (Chg.of_below H2.out.1).trans hc3⟩
  have hn3 : w3.heap[nb]? = some (.cells #[.int .i64 lv, .slice (some ⟨b, o, none⟩) l.length c] 79 (0, 0)) := (hc3.block _ (heap_lt H3.out.1) H3.out.2.2.2.2.1).trans H3.out.1
  have hr3 : w3.heap[rb]? = some (.cells #[.string ⟨#[]⟩, .string ⟨#[]⟩, .int .i64 0] 83 (0, 0)) := (hc3.block _ (heap_lt H3.out.2.1) H3.out.2.2.2.2.2.1).trans H3.out.2.1
  have y1 : w3.cell? ⟨nb, 1, none⟩ = some (.slice (some ⟨b, o, none⟩) l.length c) := cell_at hn3 1
  have y2 : w3.cell? ⟨b, o, none⟩ = some (.string x.key) := hc3.cell H3.out.2.2.2.1 H3.out.2.2.1
  have z0 : w3.cell? ⟨rb, 0, none⟩ = some (.string ⟨#[]⟩) := cell_at hr3 0
  have z1 : w3.cell? ⟨rb, 1, none⟩ = some (.string ⟨#[]⟩) := cell_at hr3 1
  have z2 : w3.cell? ⟨rb, 2, none⟩ = some (.int .i64 0) := cell_at hr3 2
  have zf : ∀ j, w3.frozen? ⟨rb, j, none⟩ = false := frozen_at hr3
  have HR : Hid (w3.heap[rb]? = some (.cells #[.string ⟨#[]⟩, .string ⟨#[]⟩, .int .i64 0] 83 (0, 0)) ∧ rb ∉ B.all ∧ w.heap.size ≤ rb) := ⟨hr3, H3.out.2.2.2.2.2.1, by have := H3.out.2.2.2.2.2.2.2; omega⟩
  rw [H3.out.2.2.2.2.2.2.2] at z0 z1 z2 zf
  rw [H3.out.2.2.2.2.2.2.1] at y1
  clear hs3 hc3 hn3 hr3 hP H2
  go_wp2_with fail
  rw [← hrb]
  have hbox := heap_set_at (heap_set_at (heap_set_at HR.out.1 0 (.string x.key)) 1 (.string ⟨#[]⟩)) 2 (.int .i64 P.1)
  have hcg : Chg [rb] w3 (((w3.setCell ⟨rb, 0, none⟩ (.string x.key)).setCell ⟨rb, 1, none⟩ (.string ⟨#[]⟩)).setCell ⟨rb, 2, none⟩ (.int .i64 P.1)) := (((Chg.refl _ _).setCell _ _ (.inl (by simp))).setCell _ _ (.inl (by simp))).setCell _ _ (.inl (by simp))
  refine bodyPost_ret (Sto.results_cell_tmp Tryz.results55 _ _ rb 83 #[.string x.key, .string ⟨#[]⟩, .int .i64 P.1] (0, 0) _ rfl hbox Tryz.underlying83 rfl (by kernel_rfl)) rfl ?_
  rw [HS.out.1]
  refine ⟨rfl, ?_, ?_⟩
  · exact (StAt.off4 HS.out.2.1 (List.mem_cons_self) HR.out.2.1 hcg).bare
  · exact HS.out.2.2.trans' hcg (fun q hq => by simp at hq; subst hq; exact .inr HR.out.2.2)
end Go.Proofs.YtadmecjdihfmeaaGreat.Tre

