/- TreLawD TreLawsPlays: several texts of one proof, laid as one file (a claim has at most 60 files). No condition. -/
import Derived.Test.YtadmecjdihfmeaaGreatTG13
import Derived.Test.YtadmecjdihfmeaaGreatRows
import Derived.Test.YtadmecjdihfmeaaGreatLaw
import Derived.Test.YtadmecjdihfmeaaGreatRead
import Derived.ChangeSame
import Derived.Deep.Strs
/- Layer 7: TreePlays, walked. (Printed by wip/tools/genlawd.py.) -/
namespace Go.Proofs.YtadmecjdihfmeaaGreat.Tre
set_option linter.unusedVariables false
set_option linter.unusedSimpArgs false
set_option maxRecDepth 100000
open Go.RowKit Go.Lib Go.Proofs.YtadmecjdihfmeaaGreat.Mem Go.Proofs.YtadmecjdihfmeaaGreat.Oct Go.Proofs.YtadmecjdihfmeaaGreat.Dev Go.Proofs.YtadmecjdihfmeaaGreat.Sto

theorem Up.all' {w0 w : World} {B : Blk} {n m : Nat} {L : List (Int × List En)} {root : Int} {es : List En} (h : Up w0 B n m L root es w) (hes : es.length ≤ 1048576) :
    Calls Tryz.prog 24 #[.pointer (some ⟨B.s, 0, none⟩), .int .i64 root] w (AllIs w es) := by
  obtain ⟨S, D, h1, h2⟩ := h
  exact all_any h1 h2 (by simp) hes
/-- nothing else is left -/
theorem Up.sweep {w0 w : World} {B : Blk} {n m : Nat} {L : List (Int × List En)} {root : Int} {es : List En} (hn : n ≤ 4096) (h : Up w0 B n m L root es w) :
    Calls Tryz.prog 25 #[.pointer (some ⟨B.s, 0, none⟩)] w fun e w' => e = .returned (.int .i64 0) ∧ Up w0 B n m L root es w' := by
  obtain ⟨S, D, h1, h2⟩ := h
  have hsw : S.sweep n = S := sweep_clean h2.run.inv.wf (fun i g1 g2 g3 => (h2.loose i g1 g2 g3).elim)
  refine (storeSweep_any w B S D n h1.st h2.run.inv.wf hn).mono ?_
  rintro e w' ⟨rfl, hs, hc⟩
  rw [hsw] at hs ⊢
  exact ⟨by rw [Int.sub_self], S, D, h1.turn (Blk.Next.refl _ _) hs hc, h2⟩
theorem Made.lt' {w0 w : World} {B : Blk} {n m : Nat} {L : List (Int × List En)} {root : Int} {es : List En} {v : Value} (h : Made w0 B n m L root es v w) : ∀ q ∈ B.all, q < w.heap.size := by
  obtain ⟨S, D, h1, h2⟩ := h.ex
  exact blk_lt h1
set_option maxHeartbeats 16000000 in
theorem treePlays_any (w : World) (v : Value) (l : List DoE) (h : Does (· < w.heap.size) w v l) : Calls Tryz.prog 5 #[v] w (LawIs w) := by
  obtain ⟨a, c, rfl, hm⟩ := h.len
  have H : Hid (Does (· < w.heap.size) w (.slice a l.length c) l ∧ (8 ≤ 700 ∧ 700 ≤ 4096)) := ⟨h, by omega⟩
  clear h
  go_enter Tryz.func5, Tryz.ntmps5
  go_wp2_with fail
  refine (short_any w a l.length c H.out.1.rd).mono ?_
  rintro e w1 ⟨x, rfl, hx, hb⟩
  have HB1 : Hid (Below w.heap.size w w1) := hb
  cases x with
  | false =>
    clear hb hx
    go_wp2_with fail
    refine (awake_any w1).mono ?_
    rintro e w19 ⟨rfl, hb⟩
    have H19 : Hid (Below w.heap.size w w19) := HB1.out.trans (hb.mono HB1.out.size)
    clear hb
    go_wp2_with fail
    go_ret
    exact ⟨rfl, H19.out⟩
  | true =>
    have HL : Hid (l.length ≤ 300) := hx rfl
    have H1 : Hid (Does (· < w1.heap.size) w1 (.slice a l.length c) l) := (H.out.1.on hb).wide hb.size
    clear hb hx
    go_wp2_with fail
    refine (fresh_any w1 700 H.out.2).mono ?_
    rintro e w2 ⟨B, D, rfl, hsc, hst⟩
    have H2 : Hid (Made w1 B 700 0 [] 0 (playE (l.take 0) []) (.slice none 0 0) w2) := ⟨⟨_, _, hsc, hst⟩, .inl ⟨rfl, _, _, rfl⟩⟩
    clear hsc hst
    go_wp2_with fail
    go_loopw [4, 5, 26] (fun v4 v5 v26 wr => ∃ (j : Nat) (root : Int), j ≤ l.length ∧ v4 = .int .i64 root ∧ v26 = .int .i64 j ∧ Hid (Made w1 B 700 j [] root (playE (l.take j) []) v5 wr)) (fun _ _ v26 _ => l.length - (intOf v26).toNat)
    case atStart => exact ⟨0, 0, by omega, rfl, rfl, H2⟩
    case round =>
      obtain ⟨j, root, hj, rfl, rfl, HT⟩ := hrel
      by_cases hlt : j < l.length
      · have hlt' : (j : Int) < (l.length : Int) := by omega
        obtain ⟨b, o, rfl, q0, q1, q2, hfit⟩ := (H1.out.on HT.out.below).item j hlt
        obtain ⟨k, hk⟩ : ∃ k, k = l[j] := ⟨_, rfl⟩
        have hP : playE (l.take (j + 1)) [] = oneE (playE (l.take j) []) k := by rw [hk]; exact playE_take hlt []
        obtain ⟨es, hes⟩ : ∃ es, es = playE (l.take j) [] := ⟨_, rfl⟩
        have hel : es.length ≤ j := by rw [hes]; exact playE_take_len l j
        rw [← hes] at hP HT
        rw [← hk] at q0 q1 q2
        obtain ⟨w3, hw3⟩ : ∃ w3, w3 = wr.alloc (.cells #[.int .i64 k.op, .string k.key, .string k.val] 45) := ⟨_, rfl⟩
        obtain ⟨kb, hkb⟩ : ∃ kb, kb = wr.heap.size := ⟨_, rfl⟩
        have hb3 : Below wr.heap.size wr w3 := by rw [hw3]; exact (Below.refl _ _).alloc (Nat.le_refl _) _
        have hx3 : w3.heap[kb]? = some (.cells #[.int .i64 k.op, .string k.key, .string k.val] 45 (0, 0)) := by rw [hw3, hkb]; exact heap_alloc_last _ _
        have H3 : Hid (Made w1 B 700 j [] root es u5 w3 ∧ w3.heap[kb]? = some (.cells #[.int .i64 k.op, .string k.key, .string k.val] 45 (0, 0)) ∧ kb ∉ B.all) := ⟨HT.out.on hb3, hx3, fun hm => absurd (HT.out.lt' kb hm) (by omega)⟩
        have z0 : w3.cell? ⟨kb, 0, none⟩ = some (.int .i64 k.op) := cell_at hx3 0
        have z1 : w3.cell? ⟨kb, 1, none⟩ = some (.string k.key) := cell_at hx3 1
        have z2 : w3.cell? ⟨kb, 2, none⟩ = some (.string k.val) := cell_at hx3 2
        have HE : Hid (es.length ≤ j ∧ j < l.length) := ⟨hel, hlt⟩
        obtain ⟨er, her⟩ : ∃ er, er = (alsoE es k.put k.key k.val).2 := ⟨_, rfl⟩
        obtain ⟨ys, hys⟩ : ∃ ys, ys = oneE es k := ⟨_, rfl⟩
        have hyl : ys.length ≤ es.length + 1 := by rw [hys]; exact alsoE_len es k.put k.key k.val
        have hya : (alsoE es k.put k.key k.val).1 = ys := hys.symm
        have HY : Hid (oneE es k = ys ∧ (alsoE es k.put k.key k.val).1 = ys ∧ (alsoE es k.put k.key k.val).2 = er) := ⟨hys.symm, hya, her.symm⟩
        rw [← hys] at hP
        have HP : Hid (playE (l.take (j + 1)) [] = ys) := hP
        have HE3 : Hid (ys.length ≤ 301 ∧ j < l.length) := ⟨by have := HL.out; omega, hlt⟩
        clear HT hk hes hel hx3 hb3 hfit hya her hys hyl hP
        go_wp2_with fail
        rw [← hkb, ← hw3]
        clear hw3 hkb q0 q1 q2
        go_wp2_with fail
        refine (H3.out.1.step k H.out.2 (by have := HE.out; have := HL.out; omega) (by have := HE.out; have := HL.out; omega) (by have := HE.out; have := HL.out; simp [sizes]; omega)).mono ?_
        rintro e w4 ⟨⟨root', rfl, hst4, hro4⟩, hc4⟩
        rw [HY.out.1] at hst4
        rw [HY.out.2.2]
        have hx4 : w4.heap[kb]? = some (.cells #[.int .i64 k.op, .string k.key, .string k.val] 45 (0, 0)) := (hc4.block _ (heap_lt H3.out.2.1) H3.out.2.2).trans H3.out.2.1
        have H4 : Hid ((∃ S D, Sc w1 B S D w4 ∧ St 700 (j + 1) S D ((root', oneE es k) :: [])) ∧ Ents (Oth w1 B w4) w4 u5 es ∧ SortE es ∧ w4.heap[kb]? = some (.cells #[.int .i64 k.op, .string k.key, .string k.val] 45 (0, 0)) ∧ kb ∉ B.all) := ⟨by rw [HY.out.1]; exact hst4, hro4, H3.out.1.sort, hx4, H3.out.2.2⟩
        have z0 : w4.cell? ⟨kb, 0, none⟩ = some (.int .i64 k.op) := cell_at hx4 0
        have z1 : w4.cell? ⟨kb, 1, none⟩ = some (.string k.key) := cell_at hx4 1
        have z2 : w4.cell? ⟨kb, 2, none⟩ = some (.string k.val) := cell_at hx4 2
        clear hst4 hro4 hc4 hx4 H3
        go_wp2_with fail
        refine (also_made k H4.out.1 H4.out.2.1 (by have := HE.out; have := HL.out; omega) H4.out.2.2.1).mono ?_
        rintro e w5 ⟨⟨v5, rfl, hM⟩, hb5⟩
        rw [HY.out.2.1] at hM
        rw [HY.out.2.2]
        have hx5 : w5.heap[kb]? = some (.cells #[.int .i64 k.op, .string k.key, .string k.val] 45 (0, 0)) := (hb5.block _ (heap_lt H4.out.2.2.2.1)).trans H4.out.2.2.2.1
        have H5 : Hid (Made w1 B 700 (j + 1) [] root' ys v5 w5 ∧ w5.heap[kb]? = some (.cells #[.int .i64 k.op, .string k.key, .string k.val] 45 (0, 0)) ∧ kb ∉ B.all) := ⟨hM, hx5, H4.out.2.2.2.2⟩
        have z1 : w5.cell? ⟨kb, 1, none⟩ = some (.string k.key) := cell_at hx5 1
        clear hM hb5 hx5 H4
        go_wp2_with fail
        refine (H5.out.1.up.get k.key).mono ?_
        rintro e w6 ⟨rfl, hb6⟩
        obtain ⟨sv, hsv⟩ : ∃ sv, sv = (valOf (.ok (getE ys k.key))).1 := ⟨_, rfl⟩
        obtain ⟨bv, hbv⟩ : ∃ bv, bv = (valOf (.ok (getE ys k.key))).2 := ⟨_, rfl⟩
        have HV : Hid (sv = (valOf (.ok (getE ys k.key))).1 ∧ bv = (valOf (.ok (getE ys k.key))).2) := ⟨hsv, hbv⟩
        rw [← hsv, ← hbv]
        have hx6 : w6.heap[kb]? = some (.cells #[.int .i64 k.op, .string k.key, .string k.val] 45 (0, 0)) := (hb6.block _ (heap_lt H5.out.2.1)).trans H5.out.2.1
        have H6 : Hid (Made w1 B 700 (j + 1) [] root' ys v5 w6) := H5.out.1.on hb6
        have z1 : w6.cell? ⟨kb, 1, none⟩ = some (.string k.key) := cell_at hx6 1
        clear hb6 hx6 hsv hbv
        go_wp2_with fail
        refine (refGet_any _ w6 v5 ys k.key H6.out.row).mono ?_
        rintro e w7 ⟨rfl, hb7⟩
        rw [← HV.out.1, ← HV.out.2]
        obtain ⟨a8, c8, hv8, _⟩ := H6.out.row.form
        subst hv8
        have H9 : Hid (Made w1 B 700 (j + 1) [] root' ys (.slice a8 ys.length c8) w7) := H6.out.on hb7
        have hw1 : wrap64 ((l.length : Int) - 1) = (l.length : Int) - 1 := by unfold wrap64; omega
        have HG8 : Hid True := trivial
        clear hb7 H6 HV z0 z1 z2 H5
        cases bv
        all_goals
          by_cases h8 : (j : Int) % 8 = 0
          · have h8' : ((j : Int) % 8 != 0) = false := by simp [h8]
            clear h8
            clear HG8
            go_wp2_with fail
            refine (H9.out.up.check (by have := HE3.out; omega)).mono ?_
            rintro e w10 ⟨rfl, hb10⟩
            have H10 : Hid (Made w1 B 700 (j + 1) [] root' ys (.slice a8 ys.length c8) w10) := H9.out.on hb10
            clear hb10 H9
            go_wp2_with fail
            refine (H10.out.up.all' (by have := HE3.out; omega)).mono ?_
            rintro e w11 ⟨v11, rfl, ho11, hb11⟩
            have H11 : Hid (Made w1 B 700 (j + 1) [] root' ys (.slice a8 ys.length c8) w11 ∧ OwnE w10.heap.size w11 v11 ys) := ⟨H10.out.on hb11, ho11⟩
            clear hb11 ho11 H10
            go_wp2_with fail
            refine (equal_own H11.out.2 (by have := HE3.out; omega) H11.out.1.row).mono ?_
            rintro e w12 ⟨rfl, hb12⟩
            have H12 : Hid (Made w1 B 700 (j + 1) [] root' (playE (l.take (j + 1)) []) (.slice a8 ys.length c8) w12) := by rw [HP.out]; exact H11.out.1.on hb12
            clear hb12 H11
            go_wp2_with fail
            go_roundw
            case rel => exact ⟨j + 1, root', by omega, rfl, by go_num, H12⟩
            case measure => simp [intOf]; omega
          · have h8' : ((j : Int) % 8 != 0) = true := by simpa using h8
            clear h8
            by_cases hl1 : (j : Int) = (l.length : Int) - 1
            · have hl1' : ((j : Int) != (l.length : Int) - 1) = false := by simp [hl1]
              clear hl1
              clear HG8
              go_wp2_with fail
              refine (H9.out.up.check (by have := HE3.out; omega)).mono ?_
              rintro e w10 ⟨rfl, hb10⟩
              have H10 : Hid (Made w1 B 700 (j + 1) [] root' ys (.slice a8 ys.length c8) w10) := H9.out.on hb10
              clear hb10 H9
              go_wp2_with fail
              refine (H10.out.up.all' (by have := HE3.out; omega)).mono ?_
              rintro e w11 ⟨v11, rfl, ho11, hb11⟩
              have H11 : Hid (Made w1 B 700 (j + 1) [] root' ys (.slice a8 ys.length c8) w11 ∧ OwnE w10.heap.size w11 v11 ys) := ⟨H10.out.on hb11, ho11⟩
              clear hb11 ho11 H10
              go_wp2_with fail
              refine (equal_own H11.out.2 (by have := HE3.out; omega) H11.out.1.row).mono ?_
              rintro e w12 ⟨rfl, hb12⟩
              have H12 : Hid (Made w1 B 700 (j + 1) [] root' (playE (l.take (j + 1)) []) (.slice a8 ys.length c8) w12) := by rw [HP.out]; exact H11.out.1.on hb12
              clear hb12 H11
              go_wp2_with fail
              go_roundw
              case rel => exact ⟨j + 1, root', by omega, rfl, by go_num, H12⟩
              case measure => simp [intOf]; omega
            · have hl1' : ((j : Int) != (l.length : Int) - 1) = true := by simpa using hl1
              have H12 : Hid (Made w1 B 700 (j + 1) [] root' (playE (l.take (j + 1)) []) (.slice a8 ys.length c8) w7) := by rw [HP.out]; exact H9.out
              clear hl1 H9
              go_wp2_with fail
              exact ⟨⟨j + 1, root', by omega, rfl, by go_num, H12⟩, by simp [intOf]; omega⟩
      · have hjl : j = l.length := by omega
        subst hjl
        go_wp2_with fail
        refine (HT.out.up.sweep (by omega)).mono ?_
        rintro e w4 ⟨rfl, hu⟩
        have H4 : Hid (Below w.heap.size w w4) := by
          obtain ⟨S, D, h1, _⟩ := hu
          exact HB1.out.trans (h1.below.mono HB1.out.size)
        clear hu HT
        go_wp2_with fail
        refine (awake_any w4).mono ?_
        rintro e w19 ⟨rfl, hb⟩
        have H19 : Hid (Below w.heap.size w w19) := H4.out.trans (hb.mono H4.out.size)
        clear hb
        go_wp2_with fail
        go_ret
        exact ⟨rfl, H19.out⟩
end Go.Proofs.YtadmecjdihfmeaaGreat.Tre

/- Statements of layer 7: for every input the law returns true. No condition. (Printed by wip/tools/treelaws.py.) -/
namespace Go.Proofs.YtadmecjdihfmeaaGreat.Tre
set_option maxRecDepth 100000
set_option linter.unusedVariables false
set_option linter.unusedSimpArgs false
open Go.ChangeShapes Go.WideShapes Go.ChangeAt Go.RowKit Go.WideMaps Go.WideElems Go.Proofs.YtadmecjdihfmeaaGreat.Mem
open Go.ChangeMaps (open_string shut_string)

theorem own : ownKnob Tryz.prog.godebug = none := by kernel_rfl
theorem laidOut : laidOutB Tryz.prog = true := by kernel_rfl

theorem do_of {H : Type} {enc : TypeId × Value → H} {W : World} {n0 n1 n2 : Nat} {c0 c1 c2 : Value} {y0 y1 y2 : DataW H × List MemPlace}
    (h0 : DataW.trod enc Tryz.prog W 0 (fun _ => true) true n0 3 [c0] = some y0) (h1 : DataW.trod enc Tryz.prog W 0 (fun _ => true) true n1 9 [c1] = some y1)
    (h2 : DataW.trod enc Tryz.prog W 0 (fun _ => true) true n2 9 [c2] = some y2) (hw : Mem.Reached ((DataW.agg [y0.1, y1.1, y2.1]).weights Tryz.prog 45)) : ∃ k, DoIs W [c0, c1, c2] k := by
  obtain ⟨x0, q0, _, w0⟩ := DataW.trod_int Tryz.underlying3 h0
  obtain ⟨x1, q1, r1, w1⟩ := DataW.trod_string Tryz.underlying9 h1
  obtain ⟨x2, q2, r2, w2⟩ := DataW.trod_string Tryz.underlying9 h2
  rw [r1, r2] at hw
  simp only [DataW.weights, Tryz.underlying45] at hw
  have hs1 := open_str_w (t := 9) (P := Tryz.prog) (H := H) (s := x1) (fun n hn => hw n (by simp [DataW.weightsEach, hn]))
  have hs2 := open_str_w (t := 9) (P := Tryz.prog) (H := H) (s := x2) (fun n hn => hw n (by simp [DataW.weightsEach, hn]))
  simp only [List.cons.injEq, and_true] at q0 q1 q2
  subst q0 q1 q2
  exact ⟨⟨x0, x1, x2⟩, rfl, w0, hs1, hs2⟩
/-- A []Do that came in. -/
theorem open_dos {H : Type} {enc : TypeId × Value → H} {W : World} {base : Nat} {v : Value} {d : DataW H} {ps : List MemPlace} (hval : Value.okWide Tryz.prog W .any base 22 v)
    (h : DataW.Trod enc Tryz.prog W 0 (fun _ => true) true 22 v d ps) (hp : ∀ x ∈ ps, x.block < W.heap.size) (hw : Mem.Reached (d.weights Tryz.prog 22)) : ∃ l, Does (· < W.heap.size) W v l := by
  obtain ⟨a, len, cap, rfl⟩ := okWide_slice Tryz.underlying22 hval
  obtain ⟨fuel, hf⟩ := h
  obtain ⟨v', l, hv, hs, _⟩ := open_slice_w (α := DoE) (sz := 3) (R := DoIs) (p := (· < W.heap.size)) Tryz.underlying22 (by kernel_rfl) (by omega) hf hp hw (fun n cs' y htr hz hr => by
    obtain ⟨y0, y1, y2, m, rfl, hl, h0, h1, h2⟩ := Deep.trod_struct3 (f0 := _) (f1 := _) (f2 := _) Tryz.underlying45 htr
    have hl3 : cs'.length = 3 := hl
    match cs', hl3 with
    | [c0, c1, c2], _ => exact do_of h0 h1 h2 hr)
  have e : v' = .slice a len cap := by simpa [Value.cells] using hv.symm
  subst e
  exact ⟨l, hs⟩
/-- A Do that came in. -/
theorem open_do {H : Type} {enc : TypeId × Value → H} {W : World} {base : Nat} {v : Value} {d : DataW H} {ps : List MemPlace} (hval : Value.okWide Tryz.prog W .any base 45 v)
    (h : DataW.Trod enc Tryz.prog W 0 (fun _ => true) true 45 v d ps) (hw : Mem.Reached (d.weights Tryz.prog 45)) : ∃ k : DoE, v = k.v ∧ k.fits := by
  obtain ⟨c0, c1, c2, y0, y1, y2, m, rfl, rfl, rfl, h0, h1, h2⟩ := Joins.open_agg3 Tryz.underlying45 (by kernel_rfl) (by kernel_rfl) hval h
  obtain ⟨k, hcs, hf⟩ := do_of h0 h1 h2 hw
  simp only [List.cons.injEq, and_true] at hcs
  obtain ⟨rfl, rfl, rfl⟩ := hcs
  exact ⟨k, rfl, hf⟩

set_option maxRecDepth 100000 in
theorem treePlays_lifted (os : Os) (started : os.Started) (H : Type) (enc : TypeId × Value → H) :
    ReturnsInHanded {} Tryz.checked os 5 .any (Rows.treePlaysSpec.pre6 enc Tryz.prog Tryz.f5 Rows.treePlaysRow.domain false) (Rows.treePlaysSpec.post enc Tryz.prog Tryz.f5 false true false false) := by
  refine LawFrame.lifted (C := Tryz.checked) (tb := 4) own started (by kernel_rfl) Tryz.func5
    (ChangeSpec.witness6 (enc := enc) (C := Tryz.checked) false ⟨#[], #[.slice none 0 0], []⟩ 8 (by kernel_rfl) (by kernel_rfl) (by kernel_rfl) (by kernel_rfl))
    laidOut (by kernel_rfl) ⟨rfl, fun H ds hd => by match ds, hd with | [d0], _ => exact ⟨rfl, rfl, rfl⟩⟩ rfl Tryz.underlying4 ?_
  intro W base args ds p hval0 hA0 hlt hfz hsz0
  have hval : ∀ (j : Nat) t v, Tryz.f5.params[j]? = some t → args[j]? = some v → Value.okWide Tryz.prog W .any base t v := hval0
  have hA : DataW.TrodAll enc Tryz.prog W 0 (fun _ => true) true Tryz.f5.params.toList args.toList ds p := hA0
  have hsz : (DataW.weightsEach Tryz.prog Tryz.f5.params.toList ds).all (· ≤ reachBytes) = true := hsz0
  rw [Tryz.params5] at hA hval hsz
  obtain ⟨v0, d0, rfl, rfl, h0⟩ := trodAll_one hA
  obtain ⟨l, Hl⟩ := open_dos (hval 0 22 v0 rfl rfl) h0 (fun x hx => hlt x (by simp [hx])) (fun n hn => of_decide_eq_true (List.all_eq_true.1 hsz n (by simp [DataW.weightsEach, hn])))
  exact treePlays_any W v0 l Hl
theorem treePlays_holds : Rows.TreePlaysSaid :=
  OpenClaim.holds_of_wide 5 Tryz.f5 rfl rfl rfl rfl rfl rfl rfl ⟨rfl, rfl, rfl, rfl, rfl⟩ rfl rfl rfl rfl rfl (by kernel_rfl) Tryz.func5 (by kernel_rfl)
    (of_decide_eq_true (by kernel_rfl)) (by unfold Func.isWrapper; rw [if_neg (of_decide_eq_false (by kernel_rfl))]; exact ⟨rfl, rfl⟩)
    (fun os started H enc _ => treePlays_lifted os started H enc)

end Go.Proofs.YtadmecjdihfmeaaGreat.Tre

