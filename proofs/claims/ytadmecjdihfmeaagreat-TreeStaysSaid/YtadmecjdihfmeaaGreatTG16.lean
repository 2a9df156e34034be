/- TreLawB TreLawsStays: several texts of one proof, laid as one file (a claim has at most 60 files). No condition. -/
import Derived.Test.YtadmecjdihfmeaaGreatTG13
import Derived.Test.YtadmecjdihfmeaaGreatRows
import Derived.Test.YtadmecjdihfmeaaGreatLaw
import Derived.Test.YtadmecjdihfmeaaGreatRead
import Derived.ChangeSame
import Derived.Deep.Strs
/- Layer 7: TreeStays, walked. (Printed by wip/tools/genlawb.py.) -/
namespace Go.Proofs.YtadmecjdihfmeaaGreat.Tre
set_option linter.unusedVariables false
set_option linter.unusedSimpArgs false
set_option maxRecDepth 100000
open Go.RowKit Go.Lib Go.Proofs.YtadmecjdihfmeaaGreat.Mem Go.Proofs.YtadmecjdihfmeaaGreat.Oct Go.Proofs.YtadmecjdihfmeaaGreat.Dev Go.Proofs.YtadmecjdihfmeaaGreat.Sto

theorem St.swap {n m : Nat} {S : StS} {D : DevS} {a b : Int × List En} (h : St n m S D [a, b]) : St n m S D [b, a] := by
  refine ⟨h.run, h.loose, h.held.congr h.run (fun i hi => ?_), h.kept, fun p hp => h.trees p ?_⟩
  · simp only [List.map_cons, List.map_nil, List.count_cons, List.count_nil]
    omega
  · simp only [List.mem_cons, List.not_mem_nil, or_false] at hp ⊢
    exact hp.symm
theorem Up.swap {w0 w : World} {B : Blk} {n m : Nat} {r1 r2 : Int} {e1 e2 : List En} (h : Up w0 B n m [(r2, e2)] r1 e1 w) : Up w0 B n m [(r1, e1)] r2 e2 w := by
  obtain ⟨S, D, h1, h2⟩ := h
  exact ⟨S, D, h1, h2.swap⟩
theorem Up.all {w0 w : World} {B : Blk} {n m : Nat} {L : List (Int × List En)} {root : Int} {es : List En} (h : Up w0 B n m L root es w) (hes : es.length ≤ 1048576) :
    Calls Tryz.prog 24 #[.pointer (some ⟨B.s, 0, none⟩), .int .i64 root] w (AllIs w es) := by
  obtain ⟨S, D, h1, h2⟩ := h
  exact all_any h1 h2 (by simp) hes
theorem Made.lt {w0 w : World} {B : Blk} {n m : Nat} {L : List (Int × List En)} {root : Int} {es : List En} {v : Value} (h : Made w0 B n m L root es v w) : ∀ q ∈ B.all, q < w.heap.size := by
  obtain ⟨S, D, h1, h2⟩ := h.ex
  exact blk_lt h1
/-- two trees, and their lists -/
structure Two (w0 : World) (B : Blk) (m : Nat) (root : Int) (es : List En) (u : Value) (now : Int) (ys : List En) (v : Value) (w : World) : Prop where
  made : Made w0 B 1400 m [(root, es)] now ys v w
  row : Ents (Oth w0 B w) w u es
theorem Two.on {w0 w w' : World} {B : Blk} {m : Nat} {root : Int} {es : List En} {u : Value} {now : Int} {ys : List En} {v : Value} (h : Two w0 B m root es u now ys v w) (hb : Below w.heap.size w w') : Two w0 B m root es u now ys v w' := ⟨h.made.on hb, h.row.oth (Chg.of_below hb)⟩
/-- the root held once more -/
theorem Made.hold {w0 w : World} {B : Blk} {m : Nat} {root : Int} {es : List En} {v : Value} (h : Made w0 B 1400 m [] root es v w) (hm : m < 1000) (h0 : root ≠ 0) :
    Calls Tryz.prog 28 #[.pointer (some ⟨B.s, 0, none⟩), .int .i64 root] w fun e w' => e = .returned (.int .i64 0) ∧ Two w0 B (m + 1) root es v root es v w' := by
  obtain ⟨S, D, h1, h2⟩ := h.ex
  have hh := h2.at (p := (root, es)) (by simp) h0
  have hd := h2.dup (by omega)
  rw [if_neg h0] at hd
  refine (storeHold_any w B S D root h1.st (held_small h2.run.inv (by omega) root)).mono ?_
  rintro e w' ⟨rfl, hs, hc⟩
  have he : S.holdE root = 0 := by unfold StS.holdE; rw [if_pos hh]
  rw [he]
  exact ⟨rfl, ⟨⟨_, _, h1.turn (Blk.Next.refl _ _) hs hc, hd⟩, h.row.oth hc⟩, h.row.oth hc⟩
theorem Made.nohold {w0 w : World} {B : Blk} {m : Nat} {es : List En} {v : Value} (h : Made w0 B 1400 m [] 0 es v w) (hm : m < 1000) : Two w0 B (m + 1) 0 es v 0 es v w := by
  obtain ⟨S, D, h1, h2⟩ := h.ex
  have hd := h2.dup (by omega)
  rw [if_pos rfl] at hd
  exact ⟨⟨⟨_, _, h1, hd⟩, h.row⟩, h.row⟩
set_option maxHeartbeats 16000000 in
theorem treeStays_any (w : World) (v v2 : Value) (l l2 : List DoE) (h : Does (· < w.heap.size) w v l) (h2 : Does (· < w.heap.size) w v2 l2) : Calls Tryz.prog 7 #[v, v2] w (LawIs w) := by
  obtain ⟨a, c, rfl, hm⟩ := h.len
  obtain ⟨a2, c2, rfl, hm2⟩ := h2.len
  have H : Hid (Does (· < w.heap.size) w (.slice a l.length c) l ∧ Does (· < w.heap.size) w (.slice a2 l2.length c2) l2 ∧ (8 ≤ 1400 ∧ 1400 ≤ 4096)) := ⟨h, h2, by omega⟩
  clear h h2
  go_enter Tryz.func7, Tryz.ntmps7
  go_wp2_with fail
  refine (short_any w a l.length c H.out.1.rd).mono ?_
  rintro e w0 ⟨x, rfl, hx, hb0⟩
  have HB0 : Hid (Below w.heap.size w w0) := hb0
  cases x with
  | false =>
    clear hb0 hx
    go_wp2_with fail
    refine (awake_any w0).mono ?_
    rintro e w19 ⟨rfl, hb⟩
    have H19 : Hid (Below w.heap.size w w19) := HB0.out.trans (hb.mono HB0.out.size)
    clear hb
    go_wp2_with fail
    go_ret
    exact ⟨rfl, H19.out⟩
  | true =>
    have HL0 : Hid (l.length ≤ 300) := hx rfl
    clear hx hb0
    go_wp2_with fail
    refine (short_any w0 a2 l2.length c2 (H.out.2.1.on HB0.out).rd).mono ?_
    rintro e w1 ⟨x, rfl, hx, hb1⟩
    have HB1 : Hid (Below w.heap.size w w1) := HB0.out.trans (hb1.mono HB0.out.size)
    clear hb1
    cases x with
    | false =>
      clear hx
      go_wp2_with fail
      refine (awake_any w1).mono ?_
      rintro e w19 ⟨rfl, hb⟩
      have H19 : Hid (Below w.heap.size w w19) := HB1.out.trans (hb.mono HB1.out.size)
      clear hb
      go_wp2_with fail
      go_ret
      exact ⟨rfl, H19.out⟩
    | true =>
      have HL2 : Hid (l2.length ≤ 300) := hx rfl
      have H1 : Hid (Does (· < w1.heap.size) w1 (.slice a l.length c) l) := (H.out.1.on HB1.out).wide HB1.out.size
      have HD2 : Hid (Does (· < w1.heap.size) w1 (.slice a2 l2.length c2) l2) := (H.out.2.1.on HB1.out).wide HB1.out.size
      clear hx
      go_wp2_with fail
      refine (fresh_any w1 1400 H.out.2.2).mono ?_
      rintro e w2 ⟨B, D, rfl, hsc, hst⟩
      have H2 : Hid (Sc w1 B (StS.fresh nil8) D w2 ∧ St 1400 0 (StS.fresh nil8) D [(0, [])]) := ⟨hsc, hst⟩
      clear hsc hst
      go_wp2_with fail
      refine (made_fresh H.out.2.2 HL0.out (by omega) H2.out.1 H2.out.2 H1.out).mono ?_
      rintro e w3 ⟨root, v3, rfl, hM⟩
      obtain ⟨es, hes⟩ : ∃ es, es = playE l [] := ⟨_, rfl⟩
      have hel : es.length ≤ 300 := by rw [hes]; exact play_len HL0.out
      rw [← hes] at hM
      have H3 : Hid (Made w1 B 1400 l.length [] root es v3 w3) := hM
      have HL : Hid (l.length ≤ 300 ∧ l2.length ≤ 300 ∧ es.length ≤ 300) := ⟨HL0.out, HL2.out, hel⟩
      clear hM H2 hes hel HL0 HL2
      by_cases h0 : root = 0
      · subst h0
        have H4 : Hid (Two w1 B (l.length + 1 + 0) 0 es v3 0 (playE (l2.take 0) es) v3 w3) := H3.out.nohold (by have := HL.out; omega)
        clear H3
        go_wp2_with fail
        go_loopw [8, 9, 11, 44] (fun v8 v9 v11 v44 wr => ∃ (j : Nat) (now : Int), j ≤ l2.length ∧ v8 = .int .i64 now ∧ v44 = .int .i64 j ∧ Hid (Two w1 B (l.length + 1 + j) 0 es v3 now (playE (l2.take j) es) v9 wr)) (fun _ _ _ v44 _ => l2.length - (intOf v44).toNat)
        case atStart => exact ⟨0, 0, by omega, rfl, rfl, H4.out⟩
        case round =>
          obtain ⟨j, now, hj, rfl, rfl, HT⟩ := hrel
          by_cases hlt : j < l2.length
          · have hlt' : (j : Int) < (l2.length : Int) := by omega
            obtain ⟨b, o, rfl, q0, q1, q2, hfit⟩ := (HD2.out.on HT.out.made.below).item j hlt
            obtain ⟨k, hk⟩ : ∃ k, k = l2[j] := ⟨_, rfl⟩
            have HP : Hid (playE (l2.take (j + 1)) es = oneE (playE (l2.take j) es) k) := by rw [hk]; exact playE_take hlt es
            obtain ⟨ys, hys⟩ : ∃ ys, ys = playE (l2.take j) es := ⟨_, rfl⟩
            have hyl : ys.length ≤ es.length + j := by
              have h1 := playE_len (l2.take j) es
              have h2 := List.length_take_le j l2
              rw [hys]
              omega
            rw [← hys] at HP HT
            rw [← hk] at q0 q1 q2
            obtain ⟨w5, hw5⟩ : ∃ w5, w5 = wr.alloc (.cells #[.int .i64 k.op, .string k.key, .string k.val] 45) := ⟨_, rfl⟩
            obtain ⟨kb, hkb⟩ : ∃ kb, kb = wr.heap.size := ⟨_, rfl⟩
            have hb5 : Below wr.heap.size wr w5 := by rw [hw5]; exact (Below.refl _ _).alloc (Nat.le_refl _) _
            have hx5 : w5.heap[kb]? = some (.cells #[.int .i64 k.op, .string k.key, .string k.val] 45 (0, 0)) := by rw [hw5, hkb]; exact heap_alloc_last _ _
            have H5 : Hid (Two w1 B (l.length + 1 + j) 0 es v3 now ys u9 w5 ∧ w5.heap[kb]? = some (.cells #[.int .i64 k.op, .string k.key, .string k.val] 45 (0, 0)) ∧ kb ∉ B.all) := ⟨HT.out.on hb5, hx5, fun hm => absurd (HT.out.made.lt kb hm) (by omega)⟩
            have z0 : w5.cell? ⟨kb, 0, none⟩ = some (.int .i64 k.op) := cell_at hx5 0
            have z1 : w5.cell? ⟨kb, 1, none⟩ = some (.string k.key) := cell_at hx5 1
            have z2 : w5.cell? ⟨kb, 2, none⟩ = some (.string k.val) := cell_at hx5 2
            have HE : Hid (ys.length ≤ es.length + j ∧ j < l2.length) := ⟨hyl, hlt⟩
            clear HT hk hys hyl hx5 hb5 hfit
            go_wp2_with fail
            rw [← hkb, ← hw5]
            clear hw5 hkb q0 q1 q2
            go_wp2_with fail
            refine (H5.out.1.made.step k H.out.2.2 (by have := HL.out; have := HE.out; omega) (by have := HL.out; have := HE.out; omega) (by have := HL.out; have := HE.out; simp [sizes]; omega)).mono ?_
            rintro e w6 ⟨⟨now', rfl, hst6, hro6⟩, hc6⟩
            have hx6 : w6.heap[kb]? = some (.cells #[.int .i64 k.op, .string k.key, .string k.val] 45 (0, 0)) := (hc6.block _ (heap_lt H5.out.2.1) H5.out.2.2).trans H5.out.2.1
            have H6 : Hid ((∃ S D, Sc w1 B S D w6 ∧ St 1400 (l.length + 1 + j + 1) S D ((now', oneE ys k) :: [(0, es)])) ∧ Ents (Oth w1 B w6) w6 u9 ys ∧ SortE ys ∧ Ents (Oth w1 B w6) w6 v3 es) := ⟨hst6, hro6, H5.out.1.made.sort, H5.out.1.row.oth hc6⟩
            have z0 : w6.cell? ⟨kb, 0, none⟩ = some (.int .i64 k.op) := cell_at hx6 0
            have z1 : w6.cell? ⟨kb, 1, none⟩ = some (.string k.key) := cell_at hx6 1
            have z2 : w6.cell? ⟨kb, 2, none⟩ = some (.string k.val) := cell_at hx6 2
            clear hst6 hro6 hc6 hx6 H5
            go_wp2_with fail
            refine (also_made k H6.out.1 H6.out.2.1 (by have := HL.out; have := HE.out; omega) H6.out.2.2.1).mono ?_
            rintro e w7 ⟨⟨v7, rfl, hM⟩, hb7⟩
            have H7 : Hid (Two w1 B (l.length + 1 + (j + 1)) 0 es v3 now' (playE (l2.take (j + 1)) es) v7 w7) := ⟨by rw [HP.out]; exact hM, H6.out.2.2.2.oth (Chg.of_below hb7)⟩
            clear hM hb7
            go_wp2_with fail
            go_roundw
            case rel => exact ⟨j + 1, now', by omega, rfl, by go_num, H7⟩
            case measure => simp [intOf]; omega
          · have hjl : j = l2.length := by omega
            subst hjl
            obtain ⟨ys, hys⟩ : ∃ ys, ys = playE (l2.take l2.length) es := ⟨_, rfl⟩
            have hyl : ys.length ≤ 600 := by
              have h1 := playE_len (l2.take l2.length) es
              have h2 := List.length_take_le l2.length l2
              have := HL.out
              rw [hys]
              omega
            rw [← hys] at HT
            clear hys
            obtain ⟨a9, c9, rfl, _⟩ := HT.out.made.row.form
            obtain ⟨a3, c3, rfl, _⟩ := HT.out.row.form
            have HE : Hid (ys.length ≤ 600 ∧ es.length ≤ 300) := ⟨hyl, HL.out.2.2⟩
            clear hyl
            go_wp2_with fail
            refine (HT.out.made.up.swap.check (by have := HE.out; omega)).mono ?_
            rintro e w5 ⟨rfl, hb⟩
            have H5 : Hid (Two w1 B (l.length + 1 + l2.length) 0 es (.slice a3 es.length c3) now ys (.slice a9 ys.length c9) w5) := HT.out.on hb
            clear hb HT
            go_wp2_with fail
            refine (H5.out.made.up.check (by have := HE.out; omega)).mono ?_
            rintro e w6 ⟨rfl, hb⟩
            have H6 : Hid (Two w1 B (l.length + 1 + l2.length) 0 es (.slice a3 es.length c3) now ys (.slice a9 ys.length c9) w6) := H5.out.on hb
            clear hb H5
            go_wp2_with fail
            refine (H6.out.made.up.swap.all (by have := HE.out; omega)).mono ?_
            rintro e w7 ⟨v7, rfl, ho, hb⟩
            have H7 : Hid (Two w1 B (l.length + 1 + l2.length) 0 es (.slice a3 es.length c3) now ys (.slice a9 ys.length c9) w7 ∧ OwnE w6.heap.size w7 v7 es) := ⟨H6.out.on hb, ho⟩
            clear hb ho H6
            go_wp2_with fail
            refine (equal_own H7.out.2 (by have := HE.out; omega) H7.out.1.row).mono ?_
            rintro e w8 ⟨rfl, hb⟩
            have H8 : Hid (Two w1 B (l.length + 1 + l2.length) 0 es (.slice a3 es.length c3) now ys (.slice a9 ys.length c9) w8) := H7.out.1.on hb
            clear hb H7
            go_wp2_with fail
            refine (H8.out.made.up.all (by have := HE.out; omega)).mono ?_
            rintro e w9 ⟨v9, rfl, ho, hb⟩
            have H9 : Hid (Two w1 B (l.length + 1 + l2.length) 0 es (.slice a3 es.length c3) now ys (.slice a9 ys.length c9) w9 ∧ OwnE w8.heap.size w9 v9 ys) := ⟨H8.out.on hb, ho⟩
            clear hb ho H8
            go_wp2_with fail
            refine (equal_own H9.out.2 (by have := HE.out; omega) H9.out.1.made.row).mono ?_
            rintro e w10 ⟨rfl, hb⟩
            have HF : Hid (Below w.heap.size w w10) := by
              have h1 := H9.out.1.made.below
              have h2 := h1.trans (hb.mono h1.size)
              exact HB1.out.trans (h2.mono HB1.out.size)
            clear hb H9
            go_wp2_with fail
            refine (awake_any w10).mono ?_
            rintro e w19 ⟨rfl, hb⟩
            have H19 : Hid (Below w.heap.size w w19) := HF.out.trans (hb.mono HF.out.size)
            clear hb
            go_wp2_with fail
            go_ret
            exact ⟨rfl, H19.out⟩
      · have hr0 : (root != 0) = true := by simpa using h0
        have HN : Hid (root ≠ 0) := h0
        clear h0
        go_wp2_with fail
        refine (H3.out.hold (by have := HL.out; omega) HN.out).mono ?_
        rintro e w4 ⟨rfl, hT⟩
        have H4 : Hid (Two w1 B (l.length + 1 + 0) root es v3 root (playE (l2.take 0) es) v3 w4) := hT
        clear hT H3
        go_wp2_with fail
        go_loopw [8, 9, 11, 44] (fun v8 v9 v11 v44 wr => ∃ (j : Nat) (now : Int), j ≤ l2.length ∧ v8 = .int .i64 now ∧ v44 = .int .i64 j ∧ Hid (Two w1 B (l.length + 1 + j) root es v3 now (playE (l2.take j) es) v9 wr)) (fun _ _ _ v44 _ => l2.length - (intOf v44).toNat)
        case atStart => exact ⟨0, root, by omega, rfl, rfl, H4.out⟩
        case round =>
          obtain ⟨j, now, hj, rfl, rfl, HT⟩ := hrel
          by_cases hlt : j < l2.length
          · have hlt' : (j : Int) < (l2.length : Int) := by omega
            obtain ⟨b, o, rfl, q0, q1, q2, hfit⟩ := (HD2.out.on HT.out.made.below).item j hlt
            obtain ⟨k, hk⟩ : ∃ k, k = l2[j] := ⟨_, rfl⟩
            have HP : Hid (playE (l2.take (j + 1)) es = oneE (playE (l2.take j) es) k) := by rw [hk]; exact playE_take hlt es
            obtain ⟨ys, hys⟩ : ∃ ys, ys = playE (l2.take j) es := ⟨_, rfl⟩
            have hyl : ys.length ≤ es.length + j := by
              have h1 := playE_len (l2.take j) es
              have h2 := List.length_take_le j l2
              rw [hys]
              omega
            rw [← hys] at HP HT
            rw [← hk] at q0 q1 q2
            obtain ⟨w5, hw5⟩ : ∃ w5, w5 = wr.alloc (.cells #[.int .i64 k.op, .string k.key, .string k.val] 45) := ⟨_, rfl⟩
            obtain ⟨kb, hkb⟩ : ∃ kb, kb = wr.heap.size := ⟨_, rfl⟩
            have hb5 : Below wr.heap.size wr w5 := by rw [hw5]; exact (Below.refl _ _).alloc (Nat.le_refl _) _
            have hx5 : w5.heap[kb]? = some (.cells #[.int .i64 k.op, .string k.key, .string k.val] 45 (0, 0)) := by rw [hw5, hkb]; exact heap_alloc_last _ _
            have H5 : Hid (Two w1 B (l.length + 1 + j) root es v3 now ys u9 w5 ∧ w5.heap[kb]? = some (.cells #[.int .i64 k.op, .string k.key, .string k.val] 45 (0, 0)) ∧ kb ∉ B.all) := ⟨HT.out.on hb5, hx5, fun hm => absurd (HT.out.made.lt kb hm) (by omega)⟩
            have z0 : w5.cell? ⟨kb, 0, none⟩ = some (.int .i64 k.op) := cell_at hx5 0
            have z1 : w5.cell? ⟨kb, 1, none⟩ = some (.string k.key) := cell_at hx5 1
            have z2 : w5.cell? ⟨kb, 2, none⟩ = some (.string k.val) := cell_at hx5 2
            have HE : Hid (ys.length ≤ es.length + j ∧ j < l2.length) := ⟨hyl, hlt⟩
            clear HT hk hys hyl hx5 hb5 hfit
            go_wp2_with fail
            rw [← hkb, ← hw5]
            clear hw5 hkb q0 q1 q2
            go_wp2_with fail
            refine (H5.out.1.made.step k H.out.2.2 (by have := HL.out; have := HE.out; omega) (by have := HL.out; have := HE.out; omega) (by have := HL.out; have := HE.out; simp [sizes]; omega)).mono ?_
            rintro e w6 ⟨⟨now', rfl, hst6, hro6⟩, hc6⟩
            have hx6 : w6.heap[kb]? = some (.cells #[.int .i64 k.op, .string k.key, .string k.val] 45 (0, 0)) := (hc6.block _ (heap_lt H5.out.2.1) H5.out.2.2).trans H5.out.2.1
            have H6 : Hid ((∃ S D, Sc w1 B S D w6 ∧ St 1400 (l.length + 1 + j + 1) S D ((now', oneE ys k) :: [(root, es)])) ∧ Ents (Oth w1 B w6) w6 u9 ys ∧ SortE ys ∧ Ents (Oth w1 B w6) w6 v3 es) := ⟨hst6, hro6, H5.out.1.made.sort, H5.out.1.row.oth hc6⟩
            have z0 : w6.cell? ⟨kb, 0, none⟩ = some (.int .i64 k.op) := cell_at hx6 0
            have z1 : w6.cell? ⟨kb, 1, none⟩ = some (.string k.key) := cell_at hx6 1
            have z2 : w6.cell? ⟨kb, 2, none⟩ = some (.string k.val) := cell_at hx6 2
            clear hst6 hro6 hc6 hx6 H5
            go_wp2_with fail
            refine (also_made k H6.out.1 H6.out.2.1 (by have := HL.out; have := HE.out; omega) H6.out.2.2.1).mono ?_
            rintro e w7 ⟨⟨v7, rfl, hM⟩, hb7⟩
            have H7 : Hid (Two w1 B (l.length + 1 + (j + 1)) root es v3 now' (playE (l2.take (j + 1)) es) v7 w7) := ⟨by rw [HP.out]; exact hM, H6.out.2.2.2.oth (Chg.of_below hb7)⟩
            clear hM hb7
            go_wp2_with fail
            go_roundw
            case rel => exact ⟨j + 1, now', by omega, rfl, by go_num, H7⟩
            case measure => simp [intOf]; omega
          · have hjl : j = l2.length := by omega
            subst hjl
            obtain ⟨ys, hys⟩ : ∃ ys, ys = playE (l2.take l2.length) es := ⟨_, rfl⟩
            have hyl : ys.length ≤ 600 := by
              have h1 := playE_len (l2.take l2.length) es
              have h2 := List.length_take_le l2.length l2
              have := HL.out
              rw [hys]
              omega
            rw [← hys] at HT
            clear hys
            obtain ⟨a9, c9, rfl, _⟩ := HT.out.made.row.form
            obtain ⟨a3, c3, rfl, _⟩ := HT.out.row.form
            have HE : Hid (ys.length ≤ 600 ∧ es.length ≤ 300) := ⟨hyl, HL.out.2.2⟩
            clear hyl
            go_wp2_with fail
            refine (HT.out.made.up.swap.check (by have := HE.out; omega)).mono ?_
            rintro e w5 ⟨rfl, hb⟩
            have H5 : Hid (Two w1 B (l.length + 1 + l2.length) root es (.slice a3 es.length c3) now ys (.slice a9 ys.length c9) w5) := HT.out.on hb
            clear hb HT
            go_wp2_with fail
            refine (H5.out.made.up.check (by have := HE.out; omega)).mono ?_
            rintro e w6 ⟨rfl, hb⟩
            have H6 : Hid (Two w1 B (l.length + 1 + l2.length) root es (.slice a3 es.length c3) now ys (.slice a9 ys.length c9) w6) := H5.out.on hb
            clear hb H5
            go_wp2_with fail
            refine (H6.out.made.up.swap.all (by have := HE.out; omega)).mono ?_
            rintro e w7 ⟨v7, rfl, ho, hb⟩
            have H7 : Hid (Two w1 B (l.length + 1 + l2.length) root es (.slice a3 es.length c3) now ys (.slice a9 ys.length c9) w7 ∧ OwnE w6.heap.size w7 v7 es) := ⟨H6.out.on hb, ho⟩
            clear hb ho H6
            go_wp2_with fail
            refine (equal_own H7.out.2 (by have := HE.out; omega) H7.out.1.row).mono ?_
            rintro e w8 ⟨rfl, hb⟩
            have H8 : Hid (Two w1 B (l.length + 1 + l2.length) root es (.slice a3 es.length c3) now ys (.slice a9 ys.length c9) w8) := H7.out.1.on hb
            clear hb H7
            go_wp2_with fail
            refine (H8.out.made.up.all (by have := HE.out; omega)).mono ?_
            rintro e w9 ⟨v9, rfl, ho, hb⟩
            have H9 : Hid (Two w1 B (l.length + 1 + l2.length) root es (.slice a3 es.length c3) now ys (.slice a9 ys.length c9) w9 ∧ OwnE w8.heap.size w9 v9 ys) := ⟨H8.out.on hb, ho⟩
            clear hb ho H8
            go_wp2_with fail
            refine (equal_own H9.out.2 (by have := HE.out; omega) H9.out.1.made.row).mono ?_
            rintro e w10 ⟨rfl, hb⟩
            have HF : Hid (Below w.heap.size w w10) := by
              have h1 := H9.out.1.made.below
              have h2 := h1.trans (hb.mono h1.size)
              exact HB1.out.trans (h2.mono HB1.out.size)
            clear hb H9
            go_wp2_with fail
            refine (awake_any w10).mono ?_
            rintro e w19 ⟨rfl, hb⟩
            have H19 : Hid (Below w.heap.size w w19) := HF.out.trans (hb.mono HF.out.size)
            clear hb
            go_wp2_with fail
            go_ret
            exact ⟨rfl, H19.out⟩
end Go.Proofs.YtadmecjdihfmeaaGreat.Tre

/- Statements of layer 7: for every input the law returns true. No condition. (Printed by wip/tools/treelaws.py.) -/
namespace Go.Proofs.YtadmecjdihfmeaaGreat.Tre
set_option maxRecDepth 100000
set_option linter.unusedVariables false
set_option linter.unusedSimpArgs false
open Go.ChangeShapes Go.WideShapes Go.ChangeAt Go.RowKit Go.WideMaps Go.WideElems Go.Proofs.YtadmecjdihfmeaaGreat.Mem
open Go.ChangeMaps (open_string shut_string)

theorem own : ownKnob Tryz.prog.godebug = none := by kernel_rfl
theorem laidOut : laidOutB Tryz.prog = true := by kernel_rfl

theorem do_of {H : Type} {enc : TypeId × Value → H} {W : World} {n0 n1 n2 : Nat} {c0 c1 c2 : Value} {y0 y1 y2 : DataW H × List MemPlace}
    (h0 : DataW.trod enc Tryz.prog W 0 (fun _ => true) true n0 3 [c0] = some y0) (h1 : DataW.trod enc Tryz.prog W 0 (fun _ => true) true n1 9 [c1] = some y1)
    (h2 : DataW.trod enc Tryz.prog W 0 (fun _ => true) true n2 9 [c2] = some y2) (hw : Mem.Reached ((DataW.agg [y0.1, y1.1, y2.1]).weights Tryz.prog 45)) : ∃ k, DoIs W [c0, c1, c2] k := by
  obtain ⟨x0, q0, _, w0⟩ := DataW.trod_int Tryz.underlying3 h0
  obtain ⟨x1, q1, r1, w1⟩ := DataW.trod_string Tryz.underlying9 h1
  obtain ⟨x2, q2, r2, w2⟩ := DataW.trod_string Tryz.underlying9 h2
  rw [r1, r2] at hw
  simp only [DataW.weights, Tryz.underlying45] at hw
  have hs1 := open_str_w (t := 9) (P := Tryz.prog) (H := H) (s := x1) (fun n hn => hw n (by simp [DataW.weightsEach, hn]))
  have hs2 := open_str_w (t := 9) (P := Tryz.prog) (H := H) (s := x2) (fun n hn => hw n (by simp [DataW.weightsEach, hn]))
  simp only [List.cons.injEq, and_true] at q0 q1 q2
  subst q0 q1 q2
  exact ⟨⟨x0, x1, x2⟩, rfl, w0, hs1, hs2⟩
/-- A []Do that came in. -/
theorem open_dos {H : Type} {enc : TypeId × Value → H} {W : World} {base : Nat} {v : Value} {d : DataW H} {ps : List MemPlace} (hval : Value.okWide Tryz.prog W .any base 22 v)
    (h : DataW.Trod enc Tryz.prog W 0 (fun _ => true) true 22 v d ps) (hp : ∀ x ∈ ps, x.block < W.heap.size) (hw : Mem.Reached (d.weights Tryz.prog 22)) : ∃ l, Does (· < W.heap.size) W v l := by
  obtain ⟨a, len, cap, rfl⟩ := okWide_slice Tryz.underlying22 hval
  obtain ⟨fuel, hf⟩ := h
  obtain ⟨v', l, hv, hs, _⟩ := open_slice_w (α := DoE) (sz := 3) (R := DoIs) (p := (· < W.heap.size)) Tryz.underlying22 (by kernel_rfl) (by omega) hf hp hw (fun n cs' y htr hz hr => by
    obtain ⟨y0, y1, y2, m, rfl, hl, h0, h1, h2⟩ := Deep.trod_struct3 (f0 := _) (f1 := _) (f2 := _) Tryz.underlying45 htr
    have hl3 : cs'.length = 3 := hl
    match cs', hl3 with
    | [c0, c1, c2], _ => exact do_of h0 h1 h2 hr)
  have e : v' = .slice a len cap := by simpa [Value.cells] using hv.symm
  subst e
  exact ⟨l, hs⟩
/-- A Do that came in. -/
theorem open_do {H : Type} {enc : TypeId × Value → H} {W : World} {base : Nat} {v : Value} {d : DataW H} {ps : List MemPlace} (hval : Value.okWide Tryz.prog W .any base 45 v)
    (h : DataW.Trod enc Tryz.prog W 0 (fun _ => true) true 45 v d ps) (hw : Mem.Reached (d.weights Tryz.prog 45)) : ∃ k : DoE, v = k.v ∧ k.fits := by
  obtain ⟨c0, c1, c2, y0, y1, y2, m, rfl, rfl, rfl, h0, h1, h2⟩ := Joins.open_agg3 Tryz.underlying45 (by kernel_rfl) (by kernel_rfl) hval h
  obtain ⟨k, hcs, hf⟩ := do_of h0 h1 h2 hw
  simp only [List.cons.injEq, and_true] at hcs
  obtain ⟨rfl, rfl, rfl⟩ := hcs
  exact ⟨k, rfl, hf⟩

set_option maxRecDepth 100000 in
theorem treeStays_lifted (os : Os) (started : os.Started) (H : Type) (enc : TypeId × Value → H) :
    ReturnsInHanded {} Tryz.checked os 7 .any (Rows.treeStaysSpec.pre6 enc Tryz.prog Tryz.f7 Rows.treeStaysRow.domain false) (Rows.treeStaysSpec.post enc Tryz.prog Tryz.f7 false true false false) := by
  refine LawFrame.lifted (C := Tryz.checked) (tb := 4) own started (by kernel_rfl) Tryz.func7
    (ChangeSpec.witness6 (enc := enc) (C := Tryz.checked) false ⟨#[], #[.slice none 0 0, .slice none 0 0], []⟩ 8 (by kernel_rfl) (by kernel_rfl) (by kernel_rfl) (by kernel_rfl))
    laidOut (by kernel_rfl) ⟨rfl, fun H ds hd => by match ds, hd with | [d0, d1], _ => exact ⟨rfl, rfl, rfl⟩⟩ rfl Tryz.underlying4 ?_
  intro W base args ds p hval0 hA0 hlt hfz hsz0
  have hval : ∀ (j : Nat) t v, Tryz.f7.params[j]? = some t → args[j]? = some v → Value.okWide Tryz.prog W .any base t v := hval0
  have hA : DataW.TrodAll enc Tryz.prog W 0 (fun _ => true) true Tryz.f7.params.toList args.toList ds p := hA0
  have hsz : (DataW.weightsEach Tryz.prog Tryz.f7.params.toList ds).all (· ≤ reachBytes) = true := hsz0
  rw [Tryz.params7] at hA hval hsz
  obtain ⟨v0, v1, d0, d1, p0, p1, rfl, rfl, rfl, h0, h1⟩ := trodAll_two hA
  obtain ⟨l, Hl⟩ := open_dos (hval 0 22 v0 rfl rfl) h0 (fun x hx => hlt x (by simp [hx])) (fun n hn => of_decide_eq_true (List.all_eq_true.1 hsz n (by simp [DataW.weightsEach, hn])))
  obtain ⟨l2, Hl2⟩ := open_dos (hval 1 22 v1 rfl rfl) h1 (fun x hx => hlt x (by simp [hx])) (fun n hn => of_decide_eq_true (List.all_eq_true.1 hsz n (by simp [DataW.weightsEach, hn])))
  exact treeStays_any W v0 v1 l l2 Hl Hl2
theorem treeStays_holds : Rows.TreeStaysSaid :=
  OpenClaim.holds_of_wide 7 Tryz.f7 rfl rfl rfl rfl rfl rfl rfl ⟨rfl, rfl, rfl, rfl, rfl⟩ rfl rfl rfl rfl rfl (by kernel_rfl) Tryz.func7 (by kernel_rfl)
    (of_decide_eq_true (by kernel_rfl)) (by unfold Func.isWrapper; rw [if_neg (of_decide_eq_false (by kernel_rfl))]; exact ⟨rfl, rfl⟩)
    (fun os started H enc _ => treeStays_lifted os started H enc)

end Go.Proofs.YtadmecjdihfmeaaGreat.Tre

