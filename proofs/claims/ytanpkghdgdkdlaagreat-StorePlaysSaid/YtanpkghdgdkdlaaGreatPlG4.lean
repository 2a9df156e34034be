/- RefOpen RefTells: several texts of one proof, laid as one file (a claim has at most 60 files). No condition. -/
import Derived.Test.YtanpkghdgdkdlaaGreatPlG3
import Derived.Test.YtanpkghdgdkdlaaGreatStoLoop
import Derived.Test.YtanpkghdgdkdlaaGreatStoOps
/- Layer 6: the reference's Open. -/
namespace Go.Proofs.YtanpkghdgdkdlaaGreat.Sto
set_option linter.unusedVariables false
set_option linter.unusedSimpArgs false
set_option maxRecDepth 100000
open Go.RowKit Go.Lib Go.Proofs.YtanpkghdgdkdlaaGreat.Mem Go.Proofs.YtanpkghdgdkdlaaGreat.Oct Go.Proofs.YtanpkghdgdkdlaaGreat.Dev Go.MapKept

/-- the best beginning so far, in the reference's memory -/
def RBest (w : World) (bb : Nat) (o : Option (Nat × Nat × ByteArray)) : Prop := w.heap[bb]? = some (.cells #[.int .i64 (gV o), .int .i64 (rV o), .string (nV o)] 89 (0, 0))
theorem RBest.on {w w' : World} {bb : Nat} {o : Option (Nat × Nat × ByteArray)} (h : RBest w bb o) (hb : Below w.heap.size w w') : RBest w' bb o := (hb.block _ (heap_lt h)).trans h
theorem RBest.put {w : World} {bb : Nat} {o : Option (Nat × Nat × ByteArray)} (h : RBest w bb o) (y : Nat × Nat × ByteArray) : RBest (((w.setCell ⟨bb, 0, none⟩ (.int .i64 y.1)).setCell ⟨bb, 1, none⟩ (.int .i64 y.2.1)).setCell ⟨bb, 2, none⟩ (.string y.2.2)) bb (some y) :=
  heap_set_at (heap_set_at (heap_set_at h 0 (.int .i64 y.1)) 1 (.int .i64 y.2.1)) 2 (.string y.2.2)
/-- what has been filled in -/
def cutS (x : Nat × Nat × ByteArray) (S : StS) (j : Nat) : StS := ⟨x.1, x.2.1, x.2.2, fun i => if i < (j : Int) then S.cells i else none, fun i => if i < (j : Int) then S.has i else false⟩
theorem cut_cells (x : Nat × Nat × ByteArray) (S : StS) (j : Nat) (i : Int) : (cutS x S j).cells i = if i < (j : Int) then S.cells i else none := rfl
theorem cut_same {x : Nat × Nat × ByteArray} {S : StS} {j : Nat} (h : S.cells j = none) : cutS x S (j + 1) = cutS x S j := by
  unfold cutS
  have e1 : (fun i : Int => if i < ((j + 1 : Nat) : Int) then S.cells i else none) = fun i => if i < (j : Int) then S.cells i else none := by
    funext i
    by_cases hi : i = (j : Int)
    · subst hi; rw [h]; simp
    · by_cases h2 : i < (j : Int)
      · rw [if_pos h2, if_pos (by omega)]
      · rw [if_neg h2, if_neg (by omega)]
  have e2 : (fun i : Int => if i < ((j + 1 : Nat) : Int) then S.has i else false) = fun i => if i < (j : Int) then S.has i else false := by
    funext i
    by_cases hi : i = (j : Int)
    · subst hi; rw [show S.has (j : Int) = false by unfold StS.has; rw [h]; rfl]; simp
    · by_cases h2 : i < (j : Int)
      · rw [if_pos h2, if_pos (by omega)]
      · rw [if_neg h2, if_neg (by omega)]
  rw [e1, e2]
theorem cut_next {x : Nat × Nat × ByteArray} {S : StS} {j : Nat} {c : Cel} (h : S.cells j = some c) (o : Cel) (ho : o.kids = c.kids ∧ o.held = c.held) {w : World} {B : RBlk} {D : DevS}
    (hr : RSt w B { (cutS x S j).setC j (some o) with kept := fun i => if i = (j : Int) then true else ((cutS x S j).setC j (some o)).kept i } D) : RSt w B (cutS x S (j + 1)) D := by
  have hcj : (cutS x S (j + 1)).cells j = some c := by rw [cut_cells, if_pos (by omega), h]
  have hne : ∀ i : Int, i ≠ j → (cutS x S (j + 1)).cells i = (cutS x S j).cells i := fun i hi => by
    rw [cut_cells, cut_cells]
    by_cases h2 : i < (j : Int)
    · rw [if_pos h2, if_pos (by omega)]
    · rw [if_neg h2, if_neg (by omega)]
  have hset : ∀ i : Int, i ≠ j → (upd (cutS x S j).cells (j : Int) (some o)) i = (cutS x S j).cells i := fun i hi => upd_other _ _ _ hi
  refine hr.congr rfl rfl rfl (fun i => ?_) (fun i => ?_) (fun i => ?_) (fun i => ?_)
  · show (if i < ((j + 1 : Nat) : Int) then S.has i else false) = if i = (j : Int) then true else (if i < (j : Int) then S.has i else false)
    by_cases hi : i = (j : Int)
    · subst hi; rw [if_pos (by omega), if_pos rfl, StS.has, h]; rfl
    · rw [if_neg hi]
      by_cases h2 : i < (j : Int)
      · rw [if_pos h2, if_pos (by omega)]
      · rw [if_neg h2, if_neg (by omega)]
  · show ((cutS x S (j + 1)).cells i).isSome = ((upd (cutS x S j).cells (j : Int) (some o)) i).isSome
    by_cases hi : i = (j : Int)
    · subst hi; rw [hcj, upd_same]; rfl
    · rw [hne i hi, hset i hi]
  · show (((cutS x S (j + 1)).cells i).getD noCel).kids = (((upd (cutS x S j).cells (j : Int) (some o)) i).getD noCel).kids
    by_cases hi : i = (j : Int)
    · subst hi; rw [hcj, upd_same]; exact ho.1.symm
    · rw [hne i hi, hset i hi]
  · show (((cutS x S (j + 1)).cells i).getD noCel).held = (((upd (cutS x S j).cells (j : Int) (some o)) i).getD noCel).held
    by_cases hi : i = (j : Int)
    · subst hi; rw [hcj, upd_same]; exact ho.2.symm
    · rw [hne i hi, hset i hi]
def ROpenPost (w : World) (x xk xd xi : Nat) (F : List Nat) (D : DevS) (r : Except Int StS) (e : Ending) (w' : World) : Prop := match r with
  | .error z => e = .returned (.tuple #[.pointer none, .int .i64 z]) ∧ Below w.heap.size w w'
  | .ok S => ∃ s c p, e = .returned (.tuple #[.pointer (some ⟨s, 0, none⟩), .int .i64 0]) ∧ RSt w' ⟨s, c, p, x, xk, xd, xi, F⟩ S D ∧ Below w.heap.size w w' ∧ w.heap.size ≤ s ∧ w.heap.size ≤ c ∧ w.heap.size ≤ p
set_option maxHeartbeats 16000000 in
theorem ropen_any (w : World) (x xk xd xi : Nat) (F : List Nat) (D : DevS) (h : RefAt w x xk xd xi D) (hs : D.small) (hF : ∀ q ∈ F, q < w.heap.size) :
    Calls Tryz.prog 14 #[.pointer (some ⟨x, 0, none⟩)] w (ROpenPost w x xk xd xi F D (openOut D)) := by
  obtain ⟨R, hR⟩ : ∃ R, R = openOut D := ⟨_, rfl⟩
  rw [← hR]
  have HR : Hid (R = openOut D) := hR
  have hdn := h.ok.2.2
  have hnat := h.nat
  have H : Hid (RefAt w x xk xd xi D ∧ D.small ∧ ∀ q ∈ F, q < w.heap.size) := ⟨h, hs, hF⟩
  obtain ⟨n, hn⟩ : ∃ n, n = D.n.toNat := ⟨_, rfl⟩
  have hDn : D.n = (n : Int) := by omega
  have h8 : 8 ≤ n ∧ n ≤ 4096 := by omega
  have HN : Hid (D.n = (n : Int) ∧ D.n.toNat = n) := ⟨hDn, hn.symm⟩
  have hlt := h.lt
  clear h hs hR hF
  cases hoff : D.off with
  | true =>
    have HR2 : Hid (R = .error 5) := by rw [HR.out, openOut, if_pos hoff]; exact rfl
    have hre : D.readE 0 = 5 ∧ D.read 0 = ⟨#[]⟩ := by simp [DevS.readE, DevS.read, hoff]
    clear HR hnat hDn hdn hn hlt
    go_enter Tryz.func14, Tryz.ntmps14
    go_wp2_with fail
    have hb0 : Below w.heap.size w (w.alloc (.cells #[.int .i64 0, .int .i64 0, .string ⟨#[]⟩] 89)) := (Below.refl _ _).alloc (Nat.le_refl _) _
    have H1 : Hid (Below w.heap.size w (w.alloc (.cells #[.int .i64 0, .int .i64 0, .string ⟨#[]⟩] 89))) := hb0
    generalize w.alloc (.cells #[.int .i64 0, .int .i64 0, .string ⟨#[]⟩] 89) = w1 at H1 ⊢
    clear hb0
    go_loopw [19] (fun v wr => v = .int .i64 0 ∧ Hid (Below w.heap.size w wr)) (fun v _ => 0)
    case atStart => exact ⟨rfl, H1.out⟩
    case round =>
      obtain ⟨rfl, HT⟩ := hrel
      go_wp2_with (first
        | (go_at_call 50; refine (rread_any wr x xk xd xi D 0 (H.out.1.on HT.out)).mono ?_; rintro e w3 ⟨rfl, rfl⟩; rw [hre.1, hre.2])
        | fail)
      go_ret2
      rw [HR2.out]
      exact ⟨rfl, HT.out⟩
  | false =>
    have HR2 : Hid (R = match bestJ D 2 with
      | none => .error 2
      | some x => if x.2.1 = 0 then .ok (openS x).keepAll else match reachF D D.n.toNat (openS x) (fun _ => false) x.2.1 with
        | .error e => .error e
        | .ok (_, S) => .ok (S.hold x.2.1 1).keepAll) := by rw [HR.out, openOut, if_neg (by simp [hoff])]; exact rfl
    have HRE : Hid (∀ j, 0 ≤ j → j < 2 → D.readE j = 0) := fun j h0 h2 => by
      have h1 : D.inside j = true := by simp [DevS.inside]; omega
      simp [DevS.readE, hoff, h1]
    have HOFF : Hid (D.off = false) := hoff
    clear HR hnat hdn hn hDn hoff
    go_enter Tryz.func14, Tryz.ntmps14
    go_wp2_with fail
    have hb0 : Below w.heap.size w (w.alloc (.cells #[.int .i64 0, .int .i64 0, .string ⟨#[]⟩] 89)) := (Below.refl _ _).alloc (Nat.le_refl _) _
    have hx0 : RBest (w.alloc (.cells #[.int .i64 0, .int .i64 0, .string ⟨#[]⟩] 89)) w.heap.size none := heap_alloc_last _ _
    obtain ⟨bb, hbb⟩ : ∃ bb, bb = w.heap.size := ⟨_, rfl⟩
    rw [← hbb] at hx0 ⊢
    have HBB : Hid (bb = w.heap.size) := hbb
    have H1 : Hid (Below w.heap.size w (w.alloc (.cells #[.int .i64 0, .int .i64 0, .string ⟨#[]⟩] 89)) ∧ RBest (w.alloc (.cells #[.int .i64 0, .int .i64 0, .string ⟨#[]⟩] 89)) bb none) := ⟨hb0, hx0⟩
    generalize w.alloc (.cells #[.int .i64 0, .int .i64 0, .string ⟨#[]⟩] 89) = w1 at H1 ⊢
    clear hb0 hx0 hbb
    go_loopw [19] (fun v wr => ∃ j : Nat, j ≤ 2 ∧ v = .int .i64 j ∧ Hid (Below w.heap.size w wr ∧ RBest wr bb (bestJ D j))) (fun v _ => 2 - (intOf v).toNat)
    case atStart => exact ⟨0, by omega, rfl, H1.out⟩
    case round =>
      obtain ⟨j, hj, rfl, HT⟩ := hrel
      by_cases hjt : j < 2
      · have hre := HRE.out j (by omega) (by omega)
        obtain ⟨o, ho⟩ : ∃ o, o = bestJ D j := ⟨_, rfl⟩
        have HO : Hid (bestJ D (j + 1) = bestOf o (beginsP (D.read j) D.n)) := by rw [ho, bestJ]; exact rfl
        have HSZ : Hid ((D.read j).size ≤ 140737488351232) := by have := read_size H.out.2.1 j; show _ ≤ _; omega
        rw [← ho] at HT
        have c0 := (H.out.1.on HT.out.1).cells.1
        rw [HN.out.2] at c0
        clear ho
        go_wp2_with (first
          | (go_at_call 50; refine (rread_any wr x xk xd xi D j (H.out.1.on HT.out.1)).mono ?_; rintro e w3 ⟨rfl, rfl⟩; rw [hre])
          | fail)
        refine (rbegins_any (D.read j) n wr HSZ.out (by omega)).mono ?_
        rintro e w3 ⟨rfl, hb3⟩
        rw [← HN.out.1]
        obtain ⟨y, hy⟩ : ∃ y, y = begR (D.read j) D.n := ⟨_, rfl⟩
        rw [← hy]
        have hb0 : Below w.heap.size w (w3.alloc (.cells #[.int .i64 (y.1.1 : Nat), .int .i64 (y.1.2.1 : Nat), .string y.1.2.2] 89)) := (HT.out.1.trans (hb3.mono HT.out.1.size)).alloc (HT.out.1.trans (hb3.mono HT.out.1.size)).size _
        have hx0 : RBest (w3.alloc (.cells #[.int .i64 (y.1.1 : Nat), .int .i64 (y.1.2.1 : Nat), .string y.1.2.2] 89)) bb o := (HT.out.2.on hb3).on ((Below.refl _ _).alloc (Nat.le_refl _) _)
        have hx3 : (w3.alloc (.cells #[.int .i64 (y.1.1 : Nat), .int .i64 (y.1.2.1 : Nat), .string y.1.2.2] 89)).heap[w3.heap.size]? = some (.cells #[.int .i64 (y.1.1 : Nat), .int .i64 (y.1.2.1 : Nat), .string y.1.2.2] 89 (0, 0)) := heap_alloc_last _ _
        cases hbp : beginsP (D.read j) D.n with
        | none =>
          have hyy : y = ((0, 0, ⟨#[]⟩), false) := by rw [hy]; unfold begR; rw [hbp]
          have HQ : Hid (bestJ D (j + 1) = o) := by rw [HO.out, hbp]; exact rfl
          rw [hyy] at hb0 hx0 ⊢
          have H3 : Hid (Below w.heap.size w (w3.alloc (.cells #[.int .i64 ((0 : Nat) : Int), .int .i64 ((0 : Nat) : Int), .string ⟨#[]⟩] 89)) ∧ RBest (w3.alloc (.cells #[.int .i64 ((0 : Nat) : Int), .int .i64 ((0 : Nat) : Int), .string ⟨#[]⟩] 89)) bb o) := ⟨hb0, hx0⟩
          clear hb0 hx0 hx3 hb3 hbp hyy hy hre c0
          go_wp2
          go_roundw
          case rel => exact ⟨j + 1, by omega, by go_num, H3.out.1, by rw [HQ.out]; exact H3.out.2⟩
          case measure => simp [intOf]; omega
        | some z =>
          obtain ⟨g0, r0, nt⟩ := z
          have hyy : y = ((g0, r0, nt), true) := by rw [hy]; unfold begR; rw [hbp]
          have hy1 := (beginsP_in hbp).1
          have hbest : w.heap.size ≤ bb := by have := HBB.out; omega
          rw [hyy] at hb0 hx0 hx3 ⊢
          dsimp only at hb0 hx0 hx3 ⊢
          have H4 : Hid (Below w.heap.size w (w3.alloc (.cells #[.int .i64 (g0 : Int), .int .i64 (r0 : Int), .string nt] 89)) ∧ RBest (w3.alloc (.cells #[.int .i64 (g0 : Int), .int .i64 (r0 : Int), .string nt] 89)) bb o) := ⟨hb0, hx0⟩
          have b0 : (w3.alloc (.cells #[.int .i64 (g0 : Int), .int .i64 (r0 : Int), .string nt] 89)).cell? ⟨bb, 0, none⟩ = some (.int .i64 (gV o)) := cell_at hx0 0
          have b1 : (w3.alloc (.cells #[.int .i64 (g0 : Int), .int .i64 (r0 : Int), .string nt] 89)).cell? ⟨bb, 1, none⟩ = some (.int .i64 (rV o)) := cell_at hx0 1
          have b2 : (w3.alloc (.cells #[.int .i64 (g0 : Int), .int .i64 (r0 : Int), .string nt] 89)).cell? ⟨bb, 2, none⟩ = some (.string (nV o)) := cell_at hx0 2
          have bf : ∀ j, (w3.alloc (.cells #[.int .i64 (g0 : Int), .int .i64 (r0 : Int), .string nt] 89)).frozen? ⟨bb, j, none⟩ = false := frozen_at hx0
          have x0 : (w3.alloc (.cells #[.int .i64 (g0 : Int), .int .i64 (r0 : Int), .string nt] 89)).cell? ⟨w3.heap.size, 0, none⟩ = some (.int .i64 (g0 : Int)) := cell_at hx3 0
          have x1 : (w3.alloc (.cells #[.int .i64 (g0 : Int), .int .i64 (r0 : Int), .string nt] 89)).cell? ⟨w3.heap.size, 1, none⟩ = some (.int .i64 (r0 : Int)) := cell_at hx3 1
          have x2 : (w3.alloc (.cells #[.int .i64 (g0 : Int), .int .i64 (r0 : Int), .string nt] 89)).cell? ⟨w3.heap.size, 2, none⟩ = some (.string nt) := cell_at hx3 2
          by_cases hg : gV o < (g0 : Int)
          · have HQ : Hid (bestJ D (j + 1) = some (g0, r0, nt)) := by rw [HO.out, hbp]; exact best_less hy1 hg
            have hgg : decide ((g0 : Int) > gV o) = true := by simpa using hg
            clear hb0 hx0 hx3 hb3 hbp hre hyy hy c0
            go_wp2
            go_roundw
            case rel => exact ⟨j + 1, by omega, by go_num, ((H4.out.1.setCell (by simpa using hbest) _).setCell (by simpa using hbest) _).setCell (by simpa using hbest) _, by rw [HQ.out]; exact H4.out.2.put (g0, r0, nt)⟩
            case measure => simp [intOf]; omega
          · have HQ : Hid (bestJ D (j + 1) = o) := by rw [HO.out, hbp]; exact best_more hy1 hg
            clear hb0 hx0 hx3 hb3 hbp hre hyy hy c0
            go_wp2
            go_roundw
            case rel => exact ⟨j + 1, by omega, by go_num, H4.out.1, by rw [HQ.out]; exact H4.out.2⟩
            case measure => simp [intOf]; omega
      · have hj2 : j = 2 := by omega
        subst hj2
        have HIN : Hid (∀ x, bestJ D 2 = some x → supIn x D.n) := bestJ_in D 2
        obtain ⟨o, ho⟩ : ∃ o, o = bestJ D 2 := ⟨_, rfl⟩
        rw [← ho] at HT HR2 HIN
        clear ho HRE H1
        cases o with
        | none =>
          have HR3 : Hid (R = .error 2) := HR2.out
          have b0 : wr.cell? ⟨bb, 0, none⟩ = some (.int .i64 0) := cell_at HT.out.2 0
          clear HR2
          go_wp2
          go_ret2
          rw [HR3.out]
          exact ⟨rfl, HT.out.1⟩
        | some y =>
          obtain ⟨g0, r0, nt⟩ := y
          have hin := HIN.out _ rfl
          have hroot := hin.2.2.1
          have hg1 : (((g0 : Nat) : Int) == 0) = false := by have := hin.1; simp; omega
          have b0 : wr.cell? ⟨bb, 0, none⟩ = some (.int .i64 (g0 : Int)) := cell_at HT.out.2 0
          have b1 : wr.cell? ⟨bb, 1, none⟩ = some (.int .i64 (r0 : Int)) := cell_at HT.out.2 1
          have b2 : wr.cell? ⟨bb, 2, none⟩ = some (.string nt) := cell_at HT.out.2 2
          have HRD : Hid ((r0 : Int) = 0 ∨ (2 ≤ (r0 : Int) ∧ (r0 : Int) < D.n)) := by
            rcases hroot with h0 | h0
            · exact .inl (by exact_mod_cast h0)
            · exact .inr h0
          clear hin hroot HIN
          go_wp2_with fail
          refine (rbare_any wr x xk xd xi D g0 r0 nt (H.out.1.on HT.out.1) H.out.2.1).mono ?_
          rintro e w3 ⟨s, c, p, rfl, hst, hb3, hgs, hgc, hgp⟩
          have hb03 : Below w.heap.size w w3 := HT.out.1.trans (hb3.mono HT.out.1.size)
          have hz := HT.out.1.size
          have H3 : Hid (RSt w3 ⟨s, c, p, x, xk, xd, xi, F⟩ (bareS g0 r0 nt) D ∧ Below w.heap.size w w3 ∧ RBest w3 bb (some (g0, r0, nt)) ∧ (w.heap.size ≤ s ∧ w.heap.size ≤ c ∧ w.heap.size ≤ p)) :=
            ⟨hst.free (fun i => rfl) (fun q hq => Nat.lt_of_lt_of_le (H.out.2.2 q hq) hb03.size), hb03, HT.out.2.on hb3, by omega, by omega, by omega⟩
          have b1' : w3.cell? ⟨bb, 1, none⟩ = some (.int .i64 (r0 : Int)) := cell_at H3.out.2.2.1 1
          have HC : Hid (bb < s ∧ bb < c ∧ bb < p ∧ s < w3.heap.size ∧ c < w3.heap.size ∧ p < w3.heap.size) := by
            have h1 := heap_lt HT.out.2
            have h2 := hst.lt s (by simp [RBlk.all])
            have h3 := hst.lt c (by simp [RBlk.all])
            have h4 := hst.lt p (by simp [RBlk.all])
            exact ⟨by omega, by omega, by omega, h2, h3, h4⟩
          clear hst hb3 hgs hgc hgp hb03 hz b0 b1 b2 HT hg1
          by_cases hr0 : r0 = 0
          · have hb : (((r0 : Nat) : Int) == 0) = true := by simp; omega
            have HR3 : Hid (R = .ok (openS (g0, r0, nt)).keepAll) := by rw [HR2.out]; exact if_pos hr0
            clear HR2 hr0 hlt
            go_wp2_with fail
            go_ret2
            rw [HR3.out]
            exact ⟨s, c, p, rfl, H3.out.1, H3.out.2.1, H3.out.2.2.2⟩
          · have hb : (((r0 : Nat) : Int) == 0) = false := by simp; omega
            have HR4 : Hid (R = match reachF D n (openS (g0, r0, nt)) (fun _ => false) r0 with | .error e => .error e | .ok (_, S) => .ok (S.hold r0 1).keepAll) := by
              rw [HR2.out, HN.out.2]
              exact if_neg hr0
            have hrd : 2 ≤ r0 ∧ r0 < n := by
              have h1 := HN.out.1
              rcases HRD.out with h0 | h0 <;> omega
            have c0 := (H.out.1.on H3.out.2.1).cells.1
            rw [HN.out.2] at c0
            have b1'' : (w3.alloc (.cells (madeCells #[.int .i64 0] n) 3)).cell? ⟨bb, 1, none⟩ = some (.int .i64 (r0 : Int)) := cell_at (H3.out.2.2.1.on ((Below.refl _ _).alloc (Nat.le_refl _) _)) 1
            have hm2 := run_make_row' (P := Tryz.prog) 23 3 (.int .i64 0) 8 Tryz.underlying23 info_int rfl .i64 .i64 n (by omega) (by omega)
            clear HR2 hr0
            go_wp2_with fail
            clear hm2 c0 b1''
            obtain ⟨w4, hw4⟩ : ∃ w4, w4 = w3.alloc (.cells (madeCells #[.int .i64 0] n) 3) := ⟨_, rfl⟩
            have hb34 : Below w3.heap.size w3 w4 := by rw [hw4]; exact (Below.refl _ _).alloc (Nat.le_refl _) _
            have hz3 := H3.out.2.1.size
            obtain ⟨gs, hgs⟩ : ∃ gs, gs = w3.heap.size := ⟨_, rfl⟩
            have hseen : SeenAt w4 gs n (openS (g0, r0, nt)) (fun _ => false) := by
              rw [hgs, hw4]
              exact made_arr (enc := Value.int .i64) (z := 0) (heap_alloc_last _ _) (fun j _ => rfl)
            rw [← hw4, ← hgs]
            have HGS : Hid (gs = w3.heap.size) := hgs
            have hcall := rheight_any D x xk xd xi gs n HN.out.1 h8.2 HOFF.out H.out.2.1 (by omega) n w4 (openS (g0, r0, nt)) (fun _ => false) [] r0 (H.out.1.on (H3.out.2.1.trans (hb34.mono hz3))) hseen (none_wf n _) (unk_le _ _) (by simp; omega) hrd
            have H4 : Hid (Below w3.heap.size w3 w4 ∧ w.heap.size ≤ w3.heap.size) := ⟨hb34, hz3⟩
            clear hb34 hz3 hseen hgs hw4 b1'
            cases hk : reachF D n (openS (g0, r0, nt)) (fun _ => false) r0 with
            | error z =>
              rw [hk] at hcall
              have hz5 := reach_err5 HOFF.out n (openS (g0, r0, nt)) (fun _ => false) r0 z ⟨by omega, by have := HN.out.1; omega⟩ hk
              have HR5 : Hid (R = .error 5) := by rw [HR4.out, hk, hz5]; exact rfl
              refine hcall.mono ?_
              rintro e w5 ⟨rfl, hc⟩
              have H5 : Hid (Below w.heap.size w w5) := (H3.out.2.1.trans (H4.out.1.mono H4.out.2)).trans (hc.below (by have h1 := H4.out.1.size; have h2 := H4.out.2; omega) (fun q hq => by simp at hq; have h1 := HGS.out; have h2 := H4.out.2; omega))
              clear hc hcall HR4 hk hz5
              go_wp2
              go_ret2
              rw [HR5.out]
              exact ⟨rfl, H5.out⟩
            | ok q =>
              obtain ⟨hh, S1⟩ := q
              rw [hk] at hcall
              have HR5 : Hid (R = .ok (S1.hold r0 1).keepAll) := by rw [HR4.out, hk]; exact rfl
              have hri : 2 ≤ (r0 : Int) ∧ (r0 : Int) < n := by omega
              have hre := reach_ok HN.out.1 h8.2 n (openS (g0, r0, nt)) (fun _ => false) r0 [] hh S1 (none_wf _ _) (by simp; omega) hri hk
              have hla := reach_laid HN.out.1 h8.2 n (openS (g0, r0, nt)) (fun _ => false) r0 [] hh S1 (none_wf _ _) (by simp; omega) hri (fun j c hj => by cases hj) hk
              have HE : Hid (Reached n (openS (g0, r0, nt)) (fun _ => false) [] r0 hh S1 ∧ Laid D S1) := ⟨hre, hla⟩
              have hhp : (hh == 0) = false := by have := hre.pos; simp; omega
              refine hcall.mono ?_
              rintro e w5 ⟨rfl, hs5, hc⟩
              have hb35 : Below w3.heap.size w3 w5 := H4.out.1.trans (hc.below H4.out.1.size (fun q hq => by simp at hq; have h1 := HGS.out; omega))
              have h0 : RSt w5 ⟨s, c, p, x, xk, xd, xi, F⟩ (cutS (g0, r0, nt) S1 0) D := by
                refine (H3.out.1.on hb35).congr rfl rfl rfl (fun i => ?_) (fun i => ?_) (fun i => ?_) (fun i => ?_)
                · show (if i < ((0 : Nat) : Int) then S1.has i else false) = false
                  by_cases hi : i < ((0 : Nat) : Int)
                  · rw [if_pos hi]
                    cases hx : S1.has i with
                    | false => rfl
                    | true =>
                      obtain ⟨c, hc⟩ := has_iff.1 hx
                      have := hre.wf.dom i c hc; omega
                  · rw [if_neg hi]
                all_goals
                  have hcc : (cutS (g0, r0, nt) S1 0).cells i = none := by
                    rw [cut_cells]
                    by_cases hi : i < ((0 : Nat) : Int)
                    · rw [if_pos hi]
                      cases hx : S1.cells i with
                      | none => rfl
                      | some c => have := hre.wf.dom i c hx; omega
                    · rw [if_neg hi]
                  first
                    | (unfold StS.has; rw [hcc]; rfl)
                    | (unfold StS.cel; rw [hcc]; rfl)
              have H5 : Hid (RSt w5 ⟨s, c, p, x, xk, xd, xi, F⟩ (cutS (g0, r0, nt) S1 0) D ∧ SeenAt w5 gs n S1 (fun _ => false) ∧ Below w.heap.size w w5 ∧ RBest w5 bb (some (g0, r0, nt))) :=
                ⟨h0, hs5, H3.out.2.1.trans (hb35.mono H4.out.2), H3.out.2.2.1.on hb35⟩
              clear h0 hb35 hs5 hc hcall HR4 hk hre hla
              go_wp2_with fail
              go_loopw [75] (fun v75 wr => ∃ j : Nat, j ≤ n ∧ v75 = .int .i64 j ∧ Hid (RSt wr ⟨s, c, p, x, xk, xd, xi, F⟩ (cutS (g0, r0, nt) S1 j) D ∧ SeenAt wr gs n S1 (fun _ => false) ∧ Below w.heap.size w wr ∧ RBest wr bb (some (g0, r0, nt)))) (fun v75 _ => n - (intOf v75).toNat)
              case atStart => exact ⟨0, by omega, rfl, H5.out⟩
              case round =>
                obtain ⟨j, hj, rfl, HT⟩ := hrel
                by_cases hjn : j < n
                · have f0 := Arr.cell HT.out.2.1 j hjn
                  have hin0 : (0 : Int) ≤ j ∧ (j : Int) < D.n := by have := HN.out.1; omega
                  cases hcj : S1.cells (j : Int) with
                  | none =>
                    have hsv : seenV S1 (fun _ => false) (j : Int) = 0 := by unfold seenV; rw [if_neg (by simp), hcj]
                    rw [hsv] at f0
                    have HQ : Hid (cutS (g0, r0, nt) S1 (j + 1) = cutS (g0, r0, nt) S1 j) := cut_same hcj
                    clear hsv hcj hin0
                    go_wp2_with fail
                    go_roundw
                    case rel => exact ⟨j + 1, by omega, by go_num, by rw [HQ.out]; exact HT.out⟩
                    case measure => simp [intOf]; omega
                  | some ck =>
                    have hsv : seenV S1 (fun _ => false) (j : Int) = ck.high := by unfold seenV; rw [if_neg (by simp), hcj]
                    rw [hsv] at f0
                    have hhi := HE.out.1.wf.high _ ck hcj
                    obtain ⟨⟨d, hg⟩, hheld⟩ := HE.out.2 _ ck hcj
                    have hk16 := (getP_in hg).1
                    obtain ⟨v, hv⟩ : ∃ v, v = ck.high := ⟨_, rfl⟩
                    rw [← hv] at f0 hhi
                    have hpos : decide ((0 : Int) < v) = true := by simp; omega
                    have hre := (read_vw (D := D) HOFF.out hin0).2
                    have hbr : blkR (D.read j) (n : Int) = ((ck.kids, d), true) := by unfold blkR; rw [← HN.out.1, hg]
                    have HSZ : Hid ((D.read j).size ≤ 140737488351232) := by have := read_size H.out.2.1 j; show _ ≤ _; omega
                    have c0 := HT.out.1.dev.cells.1
                    rw [HN.out.2] at c0
                    dsimp only at c0
                    have HK : Hid (S1.cells (j : Int) = some ck ∧ ck.held = 0) := ⟨hcj, hheld⟩
                    obtain ⟨l, hl⟩ : ∃ l, l = ck.kids := ⟨_, rfl⟩
                    have HL : Hid (l = ck.kids) := hl
                    rw [← hl] at hbr hk16
                    clear hsv hcj hheld hg hv hl
                    go_wp2_with (first
                      | (go_at_call 50; refine (rread_any wr x xk xd xi D j HT.out.1.dev).mono ?_; rintro e w3 ⟨rfl, rfl⟩; rw [hre])
                      | fail)
                    refine (rblock_any (D.read j) n wr HSZ.out).mono ?_
                    rintro e w6 ⟨v6, rfl, hown, hb6⟩
                    rw [hbr] at hown ⊢
                    obtain ⟨a, cap, rfl⟩ := hown.form
                    dsimp only at hown ⊢
                    obtain ⟨w7, hw7⟩ : ∃ w7, w7 = w6.alloc (.cells #[.slice a l.length cap, .string d] 58) := ⟨_, rfl⟩
                    have hb7 : Below wr.heap.size wr w7.drew := by rw [hw7]; exact (hb6.alloc hb6.size _).drew
                    have hbox : w7.drew.heap[w6.heap.size]? = some (.cells #[.slice a l.length cap, .string d] 58 (0, 0)) := by rw [hw7]; exact heap_alloc_last _ _
                    have hR7 : RSt w7.drew ⟨s, c, p, x, xk, xd, xi, F⟩ (cutS (g0, r0, nt) S1 j) D := HT.out.1.on hb7
                    have hzz := HT.out.2.2.1.size
                    have hk7 : Ints (RBlk.out ⟨s, c, p, x, xk, xd, xi, F⟩) w7.drew (.slice a l.length cap) l := by
                      have hlow := HT.out.1.lt
                      have hFl := H.out.2.2
                      refine Ints.mono (Ints.chg (T := []) (hown.ints (by omega)) (w' := w7.drew) (by rw [hw7]; exact ((Chg.refl _ _).alloc _).drew) (by simp)) (fun q hq => ⟨fun hm => ?_, fun hm => ?_⟩)
                      · have := hlow q hm; omega
                      · have := hFl q hm; omega
                    have hjD : j < D.n.toNat := by have := HN.out.2; omega
                    have hR8 := hR7.put j hjD (some ⟨0, 0, 0, l⟩) a cap hk7
                    have hR9 := hR8.mark j hjD true
                    have hRX := cut_next (x := (g0, r0, nt)) HK.out.1 ⟨0, 0, 0, l⟩ ⟨HL.out, HK.out.2.symm⟩ hR9
                    obtain ⟨a0, k0, q0, q1, q2, _, _⟩ := hR7.at j hjD
                    obtain ⟨_, _, _, _, _, _, q5⟩ := hR8.at j hjD
                    obtain ⟨_, _, _, _, d4, d5, _⟩ := hR7.cell
                    obtain ⟨_, _, _, _, e4, e5, _⟩ := hR8.cell
                    have qf : ∀ o, w7.drew.frozen? ⟨c, o, none⟩ = false := by obtain ⟨k, hk, _⟩ := hR7.cells; exact hk.frozen
                    have pf : ∀ o, (put3 w7.drew c j (some ⟨0, 0, 0, l⟩) a cap).frozen? ⟨p, o, none⟩ = false := fun o => Arr.frozen hR8.kept o
                    rw [HN.out.2] at d4 d5 e4 e5
                    dsimp only at q0 q1 q2 q5 d4 d5 e4 e5
                    have hcne : w6.heap.size ≠ c := by have h1 := HC.out; have h2 := HT.out.1.lt c (by simp [RBlk.all]); have h3 := hb6.size; omega
                    have x0 : w7.drew.cell? ⟨w6.heap.size, 0, none⟩ = some (.slice a l.length cap) := cell_at hbox 0
                    have x2 : (put3 w7.drew c j (some ⟨0, 0, 0, l⟩) a cap).cell? ⟨w6.heap.size, 0, none⟩ = some (.slice a l.length cap) := (put3_chg w7.drew c j (some ⟨0, 0, 0, l⟩) a cap).cell (by simpa using hcne) x0
                    have HX : Hid (RSt ((put3 w7.drew c j (some ⟨0, 0, 0, l⟩) a cap).setCell ⟨p, j, none⟩ (.bool true)) ⟨s, c, p, x, xk, xd, xi, F⟩ (cutS (g0, r0, nt) S1 (j + 1)) D ∧
                        SeenAt ((put3 w7.drew c j (some ⟨0, 0, 0, l⟩) a cap).setCell ⟨p, j, none⟩ (.bool true)) gs n S1 (fun _ => false) ∧
                        Below w.heap.size w ((put3 w7.drew c j (some ⟨0, 0, 0, l⟩) a cap).setCell ⟨p, j, none⟩ (.bool true)) ∧
                        RBest ((put3 w7.drew c j (some ⟨0, 0, 0, l⟩) a cap).setCell ⟨p, j, none⟩ (.bool true)) bb (some (g0, r0, nt))) := by
                      have hC := HC.out
                      have hG := HGS.out
                      have hO := H3.out.2.2.2
                      have hch : Chg [c, p] wr ((put3 w7.drew c j (some ⟨0, 0, 0, l⟩) a cap).setCell ⟨p, j, none⟩ (.bool true)) :=
                        ((Chg.of_below hb7).trans ((put3_chg w7.drew c j (some ⟨0, 0, 0, l⟩) a cap).mono (by simp))).setCell _ _ (.inl (by simp))
                      have hg1 : gs ≠ c := by omega
                      have hg2 : gs ≠ p := by omega
                      have hb1 : bb ≠ c := by omega
                      have hb2 : bb ≠ p := by omega
                      refine ⟨hRX, Arr.chg HT.out.2.1 hch (by simp [hg1, hg2]), HT.out.2.2.1.trans (hch.below hzz (fun q hq => ?_)), (hch.block _ (heap_lt HT.out.2.2.2) (by simp [hb1, hb2])).trans HT.out.2.2.2⟩
                      simp only [List.mem_cons, List.mem_nil_iff, or_false] at hq
                      rcases hq with rfl | rfl
                      · exact hO.2.1
                      · exact hO.2.2
                    clear hown hb6 hb7 hbox hR7 hR8 hR9 hRX hk7 hzz hcne hre hbr f0 c0
                    go_wp2_with fail
                    rw [← hw7]
                    clear hw7
                    have q0' : w7.cell? ⟨c, j * 3, none⟩ = some (.bool ((cutS (g0, r0, nt) S1 j).has j)) := q0
                    have q1' : w7.cell? ⟨c, j * 3 + 1, none⟩ = some (.slice a0 ((cutS (g0, r0, nt) S1 j).cel j).kids.length k0) := q1
                    have q2' : w7.cell? ⟨c, j * 3 + 2, none⟩ = some (.int .i64 ((cutS (g0, r0, nt) S1 j).cel j).held) := q2
                    have qf' : ∀ o, w7.frozen? ⟨c, o, none⟩ = false := qf
                    go_region
                    obtain ⟨w8, hw8⟩ : ∃ w8, w8 = put3 w7.drew c j (some ⟨0, 0, 0, l⟩) a cap := ⟨_, rfl⟩
                    have hfold : (((w7.setCell ⟨c, j * 3, none⟩ (.bool true)).setCell ⟨c, j * 3 + 1, none⟩ (.slice a l.length cap)).setCell ⟨c, j * 3 + 2, none⟩ (.int .i64 0)).drew = w8 := by rw [hw8]; rfl
                    rw [← hw8] at q5 pf e4 e5 HX
                    try rw [hfold]
                    clear hw8 hfold x2 x0 q0 q1 q2 q0' q1' q2' qf qf' d4 d5
                    go_wp2_with fail
                    go_roundw
                    case rel => exact ⟨j + 1, by omega, by go_num, HX.out⟩
                    case measure => simp [intOf]; omega
                · have hjn2 : j = n := by omega
                  subst hjn2
                  have hjD : r0 < D.n.toNat := by have := HN.out.2; omega
                  have hS := HT.out.1
                  obtain ⟨cr, hcr⟩ := has_iff.1 HE.out.1.has
                  have hcut : (cutS (g0, r0, nt) S1 j).cells (r0 : Int) = some cr := by rw [cut_cells, if_pos (by omega)]; exact hcr
                  have hhas : (cutS (g0, r0, nt) S1 j).has (r0 : Int) = true := has_iff.2 ⟨cr, hcut⟩
                  have hheld : ((cutS (g0, r0, nt) S1 j).cel (r0 : Int)).held = 0 := by rw [cel_some hcut]; exact (HE.out.2 _ cr hcr).2
                  have hSd := hS.on ((Below.refl wr.heap.size wr).drew)
                  have hH := hSd.hold r0 hjD hhas 1
                  rw [hheld] at hH
                  dsimp only at hH
                  have hfin : RSt (wr.drew.setCell ⟨c, r0 * 3 + 2, none⟩ (.int .i64 (0 + 1))) ⟨s, c, p, x, xk, xd, xi, F⟩ (S1.hold r0 1).keepAll D := by
                    have hcells : ∀ i, (cutS (g0, r0, nt) S1 j).cells i = S1.cells i := fun i => by
                      rw [cut_cells]
                      by_cases hi : i < (j : Int)
                      · rw [if_pos hi]
                      · rw [if_neg hi]
                        cases hx : S1.cells i with
                        | none => rfl
                        | some c => have := HE.out.1.wf.dom i c hx; omega
                    have hcl : ∀ i, (S1.hold r0 1).cells i = ((cutS (g0, r0, nt) S1 j).hold r0 1).cells i := fun i => by
                      have hce : (cutS (g0, r0, nt) S1 j).cel (r0 : Int) = S1.cel r0 := by unfold StS.cel; rw [hcells]
                      show upd S1.cells (r0 : Int) (some { S1.cel r0 with held := (S1.cel r0).held + 1 }) i = upd (cutS (g0, r0, nt) S1 j).cells (r0 : Int) (some { (cutS (g0, r0, nt) S1 j).cel r0 with held := ((cutS (g0, r0, nt) S1 j).cel r0).held + 1 }) i
                      rw [hce]
                      by_cases hi : i = (r0 : Int)
                      · subst hi; rw [upd_same, upd_same]
                      · rw [upd_other _ _ _ hi, upd_other _ _ _ hi]; exact (hcells i).symm
                    refine hH.congr HE.out.1.grow.gen HE.out.1.grow.root HE.out.1.grow.note (fun i => ?_) (fun i => ?_) (fun i => ?_) (fun i => ?_)
                    · show (S1.hold r0 1).has i = (if i < (j : Int) then S1.has i else false)
                      have hi1 : (S1.hold r0 1).has i = S1.has i := by
                        by_cases hi : i = (r0 : Int)
                        · subst hi
                          have e1 : (S1.hold r0 1).has r0 = true := setC_has _ _ _
                          rw [e1, HE.out.1.has]
                        · exact setC_has' _ _ hi
                      rw [hi1]
                      by_cases hi : i < (j : Int)
                      · rw [if_pos hi]
                      · rw [if_neg hi]
                        cases hx : S1.has i with
                        | false => rfl
                        | true =>
                          obtain ⟨c, hc⟩ := has_iff.1 hx
                          have := HE.out.1.wf.dom i c hc; omega
                    · show ((S1.hold r0 1).cells i).isSome = _
                      rw [hcl]; rfl
                    · show (((S1.hold r0 1).cells i).getD noCel).kids = _
                      rw [hcl]; rfl
                    · show (((S1.hold r0 1).cells i).getD noCel).held = _
                      rw [hcl]; rfl
                  have HFIN : Hid (RSt (wr.drew.setCell ⟨c, r0 * 3 + 2, none⟩ (.int .i64 1)) ⟨s, c, p, x, xk, xd, xi, F⟩ (S1.hold r0 1).keepAll D ∧ Below w.heap.size w (wr.drew.setCell ⟨c, r0 * 3 + 2, none⟩ (.int .i64 1))) := by
                    refine ⟨hfin, (HT.out.2.2.1.drew).setCell ?_ _⟩
                    have := H3.out.2.2.2; exact this.2.1
                  obtain ⟨_, _, _, _, d4, _, _⟩ := hS.cell
                  obtain ⟨a0, k0, q0, q1, q2, _, _⟩ := hS.at r0 hjD
                  have qf : ∀ o, wr.frozen? ⟨c, o, none⟩ = false := by obtain ⟨k, hk, _⟩ := hS.cells; exact hk.frozen
                  have b1 : wr.cell? ⟨bb, 1, none⟩ = some (.int .i64 (r0 : Int)) := cell_at HT.out.2.2.2 1
                  rw [HN.out.2] at d4
                  dsimp only at d4 q0 q1 q2
                  have d4' : wr.drew.cell? ⟨s, 4, none⟩ = some (.slice (some ⟨c, 0, none⟩) j j) := d4
                  have q2' : wr.drew.cell? ⟨c, r0 * 3 + 2, none⟩ = some (.int .i64 ((cutS (g0, r0, nt) S1 j).cel r0).held) := q2
                  have qf' : ∀ o, wr.drew.frozen? ⟨c, o, none⟩ = false := qf
                  have b1' : wr.drew.cell? ⟨bb, 1, none⟩ = some (.int .i64 (r0 : Int)) := b1
                  clear hS hcr hcut hhas hheld hSd hH hfin q0 q1
                  go_wp2_with fail
                  go_region
                  all_goals go_wp2
                  all_goals
                    go_ret2
                    rw [HR5.out]
                    exact ⟨s, c, p, rfl, HFIN.out.1, HFIN.out.2, H3.out.2.2.2⟩
end Go.Proofs.YtanpkghdgdkdlaaGreat.Sto

/- Layer 6: a store and the reference's tell the same. -/
namespace Go.Proofs.YtanpkghdgdkdlaaGreat.Sto
set_option linter.unusedVariables false
set_option linter.unusedSimpArgs false
set_option maxRecDepth 100000
open Go.RowKit Go.Lib Go.Proofs.YtanpkghdgdkdlaaGreat.Mem Go.Proofs.YtanpkghdgdkdlaaGreat.Oct Go.Proofs.YtanpkghdgdkdlaaGreat.Dev

theorem tells_nil (w : World) : Calls Tryz.prog 15 #[.pointer none, .pointer none] w fun e w' => e = .returned (.bool true) ∧ w = w' := by
  go_enter Tryz.func15, Tryz.ntmps15
  go_wp2
  go_ret
  exact ⟨rfl, rfl⟩
set_option maxHeartbeats 4000000 in
theorem tells_any (w : World) (B : Blk) (RB : RBlk) (S : StS) (D D' : DevS) (n : Nat) (h : StAt w B S D) (hr : RSt w RB S D') (hn : D.n = n) (hn' : D'.n = n) (hw : WF n S []) (hk : ∀ i, S.kept i = true → 2 ≤ i ∧ i < n) :
    Calls Tryz.prog 15 #[.pointer (some ⟨B.s, 0, none⟩), .pointer (some ⟨RB.s, 0, none⟩)] w fun e w' => e = .returned (.bool true) ∧ Below w.heap.size w w' := by
  have hnat := hr.nat
  have hDn : D.n.toNat = n := by omega
  have hDn' : D'.n.toNat = n := by omega
  have h8 : 8 ≤ n ∧ n ≤ 4096 := by omega
  have HF : Hid ((frN S n : Int) = S.freeN n) := frN_freeN (fun i hi => by obtain ⟨c, hc⟩ := has_iff.1 hi; exact (hw.dom i c hc).1) (fun i hi => (hk i hi).1) (by omega)
  have H : Hid (StAt w B S D ∧ RSt w RB S D' ∧ WF n S [] ∧ D.n = n ∧ D.n.toNat = n ∧ D'.n.toNat = n ∧ ∀ i, S.kept i = true → 2 ≤ i ∧ i < n) := ⟨h, hr, hw, hn, hDn, hDn', hk⟩
  have HDOM : Hid (∀ i c, S.cells i = some c → 0 ≤ i ∧ i < n) := fun i c hc => by have := hw.dom i c hc; exact ⟨by omega, this.2⟩
  have hroot : (S.root != S.root) = false := by simp
  have hgen : (S.gen != S.gen) = false := by simp
  clear h hr hw hk hn hn' hDn hDn' hnat
  go_enter Tryz.func15, Tryz.ntmps15
  go_wp2_with fail
  refine (storeRoot_any w B S D H.out.1).mono ?_
  rintro e w1 ⟨rfl, hb1⟩
  have H1 : Hid (Below w.heap.size w w1) := hb1
  obtain ⟨r0, r1, r2, r3, r4, r5, rf⟩ := (H.out.2.1.on hb1).cell
  clear hb1 r3 r4 r5 rf
  have hs1 : StAt w1 B S D := H.out.1.on H1.out
  have hfr := storeFree_any w1 B S D hs1 (by rw [H.out.2.2.2.2.1]; exact H.out.2.2.1) (fun i hi => by have := H.out.2.2.2.2.2.2 i hi; have := H.out.2.2.2.1; omega)
  rw [H.out.2.2.2.2.1] at hfr
  obtain ⟨F, hF⟩ : ∃ F, F = S.freeN n := ⟨_, rfl⟩
  rw [← hF] at hfr HF
  have HFR : Hid _ := hfr
  clear hs1 hF hfr
  go_wp2_with fail
  refine Calls.mono HFR.out ?_
  rintro e w2 ⟨rfl, hb2⟩
  have H2 : Hid (Below w.heap.size w w2) := H1.out.trans (hb2.mono H1.out.size)
  clear hb2 HFR r0 r1 r2 H1
  go_wp2_with fail
  have hrf := rfree_any w2 RB S D' (H.out.2.1.on H2.out)
  rw [H.out.2.2.2.2.2.1, HF.out] at hrf
  refine hrf.mono ?_
  rintro e w2' ⟨rfl, rfl⟩
  clear hrf HF
  have hFF : (F != F) = false := by simp
  go_wp2_with fail
  refine (storeLive_any w2 B S D n (H.out.1.on H2.out) HDOM.out h8.2).mono ?_
  rintro e w3 ⟨v3, rfl, hi3, hb3⟩
  have H3 : Hid (Below w.heap.size w w3 ∧ Ints (w2.heap.size ≤ ·) w3 v3 (S.live n)) := ⟨H2.out.trans (hb3.mono H2.out.size), hi3⟩
  clear hi3 hb3 H2
  go_wp2_with fail
  have hrl := rlive_any w3 RB S D' (H.out.2.1.on H3.out.1)
  rw [H.out.2.2.2.2.2.1] at hrl
  refine hrl.mono ?_
  rintro e w4 ⟨v4, rfl, hi4, hb4⟩
  have H4 : Hid (Below w.heap.size w w4 ∧ Ints (w2.heap.size ≤ ·) w4 v3 (S.live n) ∧ Ints (w3.heap.size ≤ ·) w4 v4 (S.live n)) := ⟨H3.out.1.trans (hb4.mono H3.out.1.size), Ints.on H3.out.2 hb4, hi4⟩
  clear hi4 hb4 hrl
  go_wp2_with fail
  refine (equal_ints _ _ w4 v3 v4 _ _ H4.out.2.1 H4.out.2.2).mono ?_
  rintro e w5 ⟨rfl, hb5⟩
  have H5 : Hid (Below w.heap.size w w5) := H4.out.1.trans (hb5.mono H4.out.1.size)
  have hdec : decide (S.live n = S.live n) = true := by simp
  rw [hdec]
  clear hb5 H4 H3 hdec
  obtain ⟨_, _, _, _, r4, _, _⟩ := (H.out.2.1.on H5.out).cell
  rw [H.out.2.2.2.2.2.1] at r4
  go_wp2_with fail
  clear r4
  go_loopw [75] (fun v75 wr => ∃ j : Nat, j ≤ n ∧ v75 = .int .i64 j ∧ Hid (Below w.heap.size w wr)) (fun v75 _ => n - (intOf v75).toNat)
  case atStart => exact ⟨0, by omega, rfl, H5.out⟩
  case round =>
    obtain ⟨j, hj, rfl, HT⟩ := hrel
    by_cases hjn : j < n
    · cases hh : S.has (j : Int) with
      | false =>
        go_wp2_with (first
          | (go_at_call 34; refine (storeRefs_any wr B S D j (H.out.1.on HT.out)).mono ?_; rintro e w6 ⟨rfl, hb6⟩; have H6 : Hid (Below w.heap.size w w6) := HT.out.trans (hb6.mono HT.out.size); clear hb6; rw [hh])
          | (go_at_call 57; refine (rhas_any _ RB S D' j (H.out.2.1.on H6.out)).mono ?_; rintro e w7 ⟨rfl, rfl⟩; rw [hh])
          | fail)
        go_roundw
        case rel => exact ⟨j + 1, by omega, by go_num, H6.out⟩
        case measure => simp [intOf]; omega
      | true =>
        obtain ⟨cj, hcj⟩ := has_iff.1 hh
        have hrf := storeRefs_any wr B S D j (H.out.1.on HT.out)
        have hnm0 : (S.cel (j : Int)).named = (cnt S.cells j n : Int) := by
          have := H.out.2.2.1.named _ cj hcj
          rw [cel_some hcj, this]
          simp
        obtain ⟨hd, hhd⟩ : ∃ hd, hd = (S.cel (j : Int)).held := ⟨_, rfl⟩
        obtain ⟨nm, hnm⟩ : ∃ nm : Int, nm = (cnt S.cells j n : Int) := ⟨_, rfl⟩
        rw [hnm0, ← hnm, hh, ← hhd] at hrf
        have HRN : Hid (∀ w', Below w.heap.size w w' → Calls Tryz.prog 58 #[.pointer (some ⟨RB.s, 0, none⟩), .int .i64 j] w' fun e w'' => e = .returned (.int .i64 nm) ∧ Below w'.heap.size w' w'') := fun w' hb => by
          have := rnamed_any w' RB S D' j (H.out.2.1.on hb) (fun i c hc => H.out.2.2.1.len i c hc)
          rw [H.out.2.2.2.2.2.1, ← hnm] at this
          exact this
        have HRA : Hid (∀ w', Below w.heap.size w w' → w'.cell? ⟨RB.s, 4, none⟩ = some (.slice (some ⟨RB.c, 0, none⟩) n n) ∧ w'.cell? ⟨RB.c, j * 3 + 2, none⟩ = some (.int .i64 hd)) := fun w' hb => by
          have h2 := H.out.2.1.on hb
          obtain ⟨_, _, _, _, g4, _, _⟩ := h2.cell
          obtain ⟨_, _, _, _, q2, _, _⟩ := h2.at j (by have := H.out.2.2.2.2.2.1; omega)
          rw [H.out.2.2.2.2.2.1] at g4
          rw [← hhd] at q2
          exact ⟨g4, q2⟩
        have hb1 : (nm != nm) = false := by simp
        have hb2 : (hd != hd) = false := by simp
        clear hnm0 hhd hnm hcj
        go_wp2_with (first
          | (go_at_call 34; refine hrf.mono ?_; rintro e w6 ⟨rfl, hb6⟩; have H6 : Hid (Below w.heap.size w w6) := HT.out.trans (hb6.mono HT.out.size); clear hb6 hrf)
          | (go_at_call 57; refine (rhas_any _ RB S D' j (H.out.2.1.on H6.out)).mono ?_; rintro e w7 ⟨rfl, rfl⟩; rw [hh])
          | (go_at_call 58; refine Calls.mono (HRN.out _ H6.out) ?_; rintro e w8 ⟨rfl, hb8⟩; have H8 : Hid (Below w.heap.size w w8) := H6.out.trans (hb8.mono H6.out.size); obtain ⟨g4, g2⟩ := HRA.out _ H8.out; clear hb8)
          | fail)
        go_roundw
        case rel => exact ⟨j + 1, by omega, by go_num, H8.out⟩
        case measure => simp [intOf]; omega
    · have hjn2 : j = n := by omega
      subst hjn2
      go_wp2_with fail
      go_ret
      exact ⟨rfl, HT.out⟩
end Go.Proofs.YtanpkghdgdkdlaaGreat.Sto

