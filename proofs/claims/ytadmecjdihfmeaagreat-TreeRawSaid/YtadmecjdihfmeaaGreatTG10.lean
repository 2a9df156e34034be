/- TreRefQ TreFresh: several texts of one proof, laid as one file (a claim has at most 60 files). No condition. -/
import Derived.Test.YtadmecjdihfmeaaGreatTG9
import Derived.Test.YtadmecjdihfmeaaGreatTG3
import Derived.Test.YtadmecjdihfmeaaGreatStoAwake
/- Layer 7: the reference's Put and Range. -/
namespace Go.Proofs.YtadmecjdihfmeaaGreat.Tre
set_option linter.unusedVariables false
set_option linter.unusedSimpArgs false
set_option maxRecDepth 100000
open Go.RowKit Go.Lib Go.Proofs.YtadmecjdihfmeaaGreat.Mem Go.Proofs.YtadmecjdihfmeaaGreat.Oct Go.Proofs.YtadmecjdihfmeaaGreat.Dev Go.Proofs.YtadmecjdihfmeaaGreat.Sto

/-- what an append of an entry wants, and leaves -/
structure App (w : World) (wr : World) (u : Value) (l : List En) (x : En) : Prop where
  own : OwnE w.heap.size (wr.alloc (.cells #[.string x.1, .string x.2] 41)) u l
  base : w.heap.size ≤ (wr.alloc (.cells #[.string x.1, .string x.2] 41)).heap.size
  c0 : (wr.alloc (.cells #[.string x.1, .string x.2] 41)).cell? ⟨wr.heap.size, 0, none⟩ = some (.string x.1)
  c1 : (wr.alloc (.cells #[.string x.1, .string x.2] 41)).cell? ⟨wr.heap.size, 1, none⟩ = some (.string x.2)
  below : Below w.heap.size w (wr.alloc (.cells #[.string x.1, .string x.2] 41))
theorem App.of {w wr : World} {u : Value} {l : List En} (h : OwnE w.heap.size wr u l) (hb : Below w.heap.size w wr) (x : En) : App w wr u l x := by
  have hx := heap_alloc_last wr (.cells #[.string x.1, .string x.2] 41)
  have hb2 : Below wr.heap.size wr (wr.alloc (.cells #[.string x.1, .string x.2] 41)) := (Below.refl _ _).alloc (Nat.le_refl _) _
  exact ⟨h.on hb2, Nat.le_trans hb.size hb2.size, cell_at hx 0, cell_at hx 1, hb.trans (hb2.mono hb.size)⟩
theorem App.done {w wr w4 : World} {u : Value} {l : List En} {x : En} (h : App w wr u l x) (hg : (wr.alloc (.cells #[.string x.1, .string x.2] 41)).grownBy w4 u.ownBlock) : Below w.heap.size w w4 :=
  h.below.trans ((grown_chg hg).below h.base (fun q hq => (World.ownsRow.lt h.own q (by simpa using hq)).1))
set_option maxHeartbeats 8000000 in
theorem refRange_any (p : Nat → Prop) (w : World) (v : Value) (l : List En) (frm upt : ByteArray) (most : Int) (h : Ents p w v l) (hl : l.length ≤ 1048576) (hf : frm.size ≤ 1048576) (hu : upt.size ≤ 1048576) :
    Calls Tryz.prog 27 #[v, .string frm, .string upt, .int .i64 most] w (EntsIs w (refRangeL frm upt most [] l)) := by
  obtain ⟨a, c, rfl, hlen⟩ := h.form
  have H : Hid (Ents p w (.slice a l.length c) l) := h
  clear h
  go_enter Tryz.func27, Tryz.ntmps27
  go_wp2_with fail
  go_loopw [9, 14] (fun v9 v14 wr => ∃ j : Nat, j ≤ l.length ∧ v14 = .int .i64 j ∧ ∃ out : List En, out.length ≤ j ∧ Hid (OwnE w.heap.size wr v9 out ∧ Below w.heap.size w wr ∧ refRangeL frm upt most out (l.drop j) = refRangeL frm upt most [] l)) (fun _ v14 _ => l.length - (intOf v14).toNat)
  case atStart => exact ⟨0, by omega, rfl, [], by simp, OwnE.nil _ _, Below.refl _ _, rfl⟩
  case round =>
    obtain ⟨j, hj, rfl, out, hol, HT⟩ := hrel
    by_cases hlt : j < l.length
    · have hlt' : (j : Int) < (l.length : Int) := by omega
      obtain ⟨b, o, rfl, _, q0, q1⟩ := (H.out.on HT.out.2.1).at j hlt
      obtain ⟨x, hx⟩ : ∃ x, x = l[j] := ⟨_, rfl⟩
      rw [← hx] at q0 q1
      obtain ⟨a9, c9, hu9⟩ := HT.out.1.form
      subst hu9
      obtain ⟨tk, htk⟩ : ∃ tk, tk = (decide ((out.length : Int) < most) && inR frm upt x) := ⟨_, rfl⟩
      have HTK : Hid (tk = (decide ((out.length : Int) < most) && (!lt x.1 frm && (upt.toList.isEmpty || lt x.1 upt)))) := htk
      have HG : Hid (refRangeL frm upt most (if tk = true then out ++ [x] else out) (l.drop (j + 1)) = refRangeL frm upt most [] l) := by
        have := HT.out.2.2
        rw [List.drop_eq_getElem_cons hlt, ← hx, refRangeL, ← htk] at this
        exact this
      obtain ⟨w1, hw1⟩ : ∃ w1, w1 = wr.alloc (.cells #[.string x.1, .string x.2] 41) := ⟨_, rfl⟩
      have hb1 : Below wr.heap.size wr w1 := by rw [hw1]; exact (Below.refl _ _).alloc (Nat.le_refl _) _
      have hx1 : w1.heap[wr.heap.size]? = some (.cells #[.string x.1, .string x.2] 41 (0, 0)) := by rw [hw1]; exact heap_alloc_last _ _
      have H1 : Hid (OwnE w.heap.size w1 (.slice a9 out.length c9) out ∧ Below w.heap.size w w1 ∧ w1.heap[wr.heap.size]? = some (.cells #[.string x.1, .string x.2] 41 (0, 0))) := ⟨HT.out.1.on hb1, HT.out.2.1.trans (hb1.mono HT.out.2.1.size), hx1⟩
      clear hx HT hb1 hx1 htk
      go_upto_region 5 with fail
      rw [← hw1]
      go_cut [14, 38] from 14 to 43 (fun v14 v38 wx => v14 = .int .i64 j ∧ v38 = .bool tk ∧ Hid (Below w1.heap.size w1 wx))
      case first =>
        have s0 : w1.cell? ⟨wr.heap.size, 0, none⟩ = some (.string x.1) := cell_at H1.out.2.2 0
        by_cases hm : (out.length : Int) < most
        · cases hlf : lt x.1 frm with
          | true =>
            have hs : tk = false := by rw [HTK.out, hlf]; simp
            go_wp2_with (first
              | (go_at_call 50; rw [← hw1]; refine (rless_any x.1 frm w1 hf).mono ?_; rintro e w2 ⟨rfl, hb2⟩; rw [hlf]; have HB2 : Hid (Below w1.heap.size w1 w2) := hb2; have s2 : w2.cell? ⟨wr.heap.size, 0, none⟩ = some (.string x.1) := cell_on hb2 s0; clear hb2)
              | fail)
            go_meet
            exact ⟨rfl, by rw [hs], HB2.out⟩
          | false =>
            cases hue : upt.toList.isEmpty with
            | true =>
              have hs : tk = true := by rw [HTK.out, hlf, hue]; simp [hm]
              go_wp2_with (first
                | (go_at_call 50; rw [← hw1]; refine (rless_any x.1 frm w1 hf).mono ?_; rintro e w2 ⟨rfl, hb2⟩; rw [hlf]; have HB2 : Hid (Below w1.heap.size w1 w2) := hb2; have s2 : w2.cell? ⟨wr.heap.size, 0, none⟩ = some (.string x.1) := cell_on hb2 s0; clear hb2)
                | fail)
              go_meet
              exact ⟨rfl, by rw [hs], HB2.out⟩
            | false =>
              cases hlu : lt x.1 upt with
              | true =>
                have hs : tk = true := by rw [HTK.out, hlf, hue, hlu]; simp [hm]
                go_wp2_with (first
                  | (go_at_call 50; refine (rless_any x.1 upt w2 hu).mono ?_; rintro e w3 ⟨rfl, hb3⟩; rw [hlu]; have HB3 : Hid (Below w1.heap.size w1 w3) := HB2.out.trans (hb3.mono HB2.out.size); clear hb3)
                  | (go_at_call 50; rw [← hw1]; refine (rless_any x.1 frm w1 hf).mono ?_; rintro e w2 ⟨rfl, hb2⟩; rw [hlf]; have HB2 : Hid (Below w1.heap.size w1 w2) := hb2; have s2 : w2.cell? ⟨wr.heap.size, 0, none⟩ = some (.string x.1) := cell_on hb2 s0; clear hb2)
                  | fail)
                go_meet
                exact ⟨rfl, by rw [hs], HB3.out⟩
              | false =>
                have hs : tk = false := by rw [HTK.out, hlf, hue, hlu]; simp
                go_wp2_with (first
                  | (go_at_call 50; refine (rless_any x.1 upt w2 hu).mono ?_; rintro e w3 ⟨rfl, hb3⟩; rw [hlu]; have HB3 : Hid (Below w1.heap.size w1 w3) := HB2.out.trans (hb3.mono HB2.out.size); clear hb3)
                  | (go_at_call 50; rw [← hw1]; refine (rless_any x.1 frm w1 hf).mono ?_; rintro e w2 ⟨rfl, hb2⟩; rw [hlf]; have HB2 : Hid (Below w1.heap.size w1 w2) := hb2; have s2 : w2.cell? ⟨wr.heap.size, 0, none⟩ = some (.string x.1) := cell_on hb2 s0; clear hb2)
                  | fail)
                go_meet
                exact ⟨rfl, by rw [hs], HB3.out⟩
        · have hs : tk = false := by rw [HTK.out]; simp [hm]
          go_wp2_with fail
          go_meet
          exact ⟨rfl, by rw [hs], by rw [← hw1]; exact Below.refl _ _⟩
      case rest =>
      obtain ⟨rfl, rfl, HBC⟩ := hcut
      have HC : Hid (OwnE w.heap.size wc (.slice a9 out.length c9) out ∧ Below w.heap.size w wc ∧ wc.heap[wr.heap.size]? = some (.cells #[.string x.1, .string x.2] 41 (0, 0))) := ⟨H1.out.1.on HBC.out, H1.out.2.1.trans (HBC.out.mono H1.out.2.1.size), (HBC.out.block _ (heap_lt H1.out.2.2)).trans H1.out.2.2⟩
      have s0 : wc.cell? ⟨wr.heap.size, 0, none⟩ = some (.string x.1) := cell_at HC.out.2.2 0
      have s1 : wc.cell? ⟨wr.heap.size, 1, none⟩ = some (.string x.2) := cell_at HC.out.2.2 1
      clear HTK HBC H1 hw1
      cases tk with
      | true =>
        have HR : Hid (refRangeL frm upt most (out ++ [x]) (l.drop (j + 1)) = refRangeL frm upt most [] l) := HG.out
        have HA : Hid (App w wc (.slice a9 out.length c9) out x) := App.of HC.out.1 HC.out.2.1 x
        clear HG
        go_wp2_with (first
          | (at_builtin; refine wpList_append_ent rfl _ _ rfl w.heap.size HA.out.base _ _ rfl HA.out.own _ x rfl HA.out.c0 HA.out.c1 (by omega) ?_)
          | fail)
        intro v7 w4 hown4 hg4 hat4
        have hbw := HA.out.done hg4
        have H4 : Hid (OwnE w.heap.size w4 v7 (out ++ [x]) ∧ Below w.heap.size w w4) := ⟨hown4, hbw⟩
        clear hown4 hg4 hat4 hbw
        go_wp2_with fail
        go_roundw
        case rel => exact ⟨j + 1, by omega, by go_num, out ++ [x], by rw [List.length_append]; simp; omega, H4.out.1, H4.out.2, HR.out⟩
        case measure => simp [intOf]; omega
      | false =>
        have HR : Hid (refRangeL frm upt most out (l.drop (j + 1)) = refRangeL frm upt most [] l) := HG.out
        clear HG
        go_wp2_with fail
        go_roundw
        case rel => exact ⟨j + 1, by omega, by go_num, out, by omega, HC.out.1, HC.out.2.1, HR.out⟩
        case measure => simp [intOf]; omega
    · have HR : Hid (refRangeL frm upt most [] l = out) := by
        have := HT.out.2.2
        rw [List.drop_of_length_le (by omega), refRangeL] at this
        exact this.symm
      have hlt' : ¬ (j : Int) < (l.length : Int) := by omega
      go_wp2_with fail
      go_ret
      exact ⟨_, rfl, by rw [HR.out]; exact HT.out.1, HT.out.2.1⟩
set_option maxHeartbeats 8000000 in
theorem refPut_any (p : Nat → Prop) (w : World) (v : Value) (l : List En) (key val : ByteArray) (h : Ents p w v l) (hl : l.length ≤ 500000) (hk : key.size ≤ 1048576) :
    Calls Tryz.prog 40 #[v, .string key, .string val] w (EntsIs w (refPutL key val false l)) := by
  obtain ⟨a, c, rfl, hlen⟩ := h.form
  have H : Hid (Ents p w (.slice a l.length c) l) := h
  clear h
  go_enter Tryz.func40, Tryz.ntmps40
  go_wp2_with fail
  go_loopw [7, 8, 13] (fun v7 v8 v13 wr => ∃ j : Nat, j ≤ l.length ∧ v13 = .int .i64 j ∧ ∃ dn : Bool, v8 = .bool dn ∧ ∃ out : List En, out.length ≤ 2 * j ∧ Hid (OwnE w.heap.size wr v7 out ∧ Below w.heap.size w wr ∧ out ++ refPutL key val dn (l.drop j) = refPutL key val false l)) (fun _ _ v13 _ => l.length - (intOf v13).toNat)
  case atStart => exact ⟨0, by omega, rfl, false, rfl, [], by simp, OwnE.nil _ _, Below.refl _ _, rfl⟩
  case round =>
    obtain ⟨j, hj, rfl, dn0, rfl, out, hol, HT⟩ := hrel
    by_cases hlt : j < l.length
    · have hlt' : (j : Int) < (l.length : Int) := by omega
      obtain ⟨b, o, rfl, _, q0, q1⟩ := (H.out.on HT.out.2.1).at j hlt
      obtain ⟨x, hx⟩ : ∃ x, x = l[j] := ⟨_, rfl⟩
      rw [← hx] at q0 q1
      obtain ⟨em, hem⟩ : ∃ em, em = (!dn0 && !lt x.1 key) := ⟨_, rfl⟩
      obtain ⟨dn, hdn⟩ : ∃ dn, dn = (dn0 || !lt x.1 key) := ⟨_, rfl⟩
      have HEM : Hid (em = (!dn0 && !lt x.1 key) ∧ dn = (dn0 || !lt x.1 key)) := ⟨hem, hdn⟩
      have HG : Hid (out ++ ((if em = true then [(key, val)] else []) ++ ((if nek key x = true then [x] else []) ++ refPutL key val dn (l.drop (j + 1)))) = refPutL key val false l) := by
        have := HT.out.2.2
        rw [List.drop_eq_getElem_cons hlt, ← hx, refPutL, ← hem, ← hdn] at this
        exact this
      obtain ⟨w1, hw1⟩ : ∃ w1, w1 = wr.alloc (.cells #[.string x.1, .string x.2] 41) := ⟨_, rfl⟩
      have hb1 : Below wr.heap.size wr w1 := by rw [hw1]; exact (Below.refl _ _).alloc (Nat.le_refl _) _
      have hx1 : w1.heap[wr.heap.size]? = some (.cells #[.string x.1, .string x.2] 41 (0, 0)) := by rw [hw1]; exact heap_alloc_last _ _
      have H1 : Hid (OwnE w.heap.size w1 u7 out ∧ Below w.heap.size w w1 ∧ w1.heap[wr.heap.size]? = some (.cells #[.string x.1, .string x.2] 41 (0, 0))) := ⟨HT.out.1.on hb1, HT.out.2.1.trans (hb1.mono HT.out.2.1.size), hx1⟩
      have HNE : Hid (∀ q, u7.ownBlock = some q → q < wr.heap.size) := fun q hq => (World.ownsRow.lt HT.out.1 q hq).2
      clear hx HT hb1 hx1 hem hdn
      go_upto_region 6 with fail
      go_cut [13, 25] from 13 to 40 (fun v13 v25 wx => v13 = .int .i64 j ∧ v25 = .bool em ∧ Hid (Below w1.heap.size w1 wx))
      case first =>
        cases hdd : dn0 with
        | true =>
          have hs : em = false := by rw [HEM.out.1, hdd]; rfl
          subst hdd
          go_wp2_with fail
          go_meet
          exact ⟨rfl, by rw [hs], by rw [← hw1]; exact Below.refl _ _⟩
        | false =>
          have hs : em = !lt x.1 key := by rw [HEM.out.1, hdd]; rfl
          subst hdd
          go_wp2_with (first
            | (go_at_call 50; rw [← hw1]; refine (rless_any x.1 key w1 hk).mono ?_; rintro e w2 ⟨rfl, hb2⟩; have HB2 : Hid (Below w1.heap.size w1 w2) := hb2; clear hb2)
            | fail)
          go_meet
          exact ⟨rfl, by rw [hs], HB2.out⟩
      case rest =>
      obtain ⟨rfl, rfl, HBC⟩ := hcut
      have HC : Hid (OwnE w.heap.size wc u7 out ∧ Below w.heap.size w wc ∧ wc.heap[wr.heap.size]? = some (.cells #[.string x.1, .string x.2] 41 (0, 0))) := ⟨H1.out.1.on HBC.out, H1.out.2.1.trans (HBC.out.mono H1.out.2.1.size), (HBC.out.block _ (heap_lt H1.out.2.2)).trans H1.out.2.2⟩
      have s0 : wc.cell? ⟨wr.heap.size, 0, none⟩ = some (.string x.1) := cell_at HC.out.2.2 0
      have s1 : wc.cell? ⟨wr.heap.size, 1, none⟩ = some (.string x.2) := cell_at HC.out.2.2 1
      clear HBC H1 hw1
      cases em with
      | true =>
        have hdt : dn = true := by have := HEM.out; rw [this.2]; revert this; cases dn0 <;> cases lt x.1 key <;> simp
        have HG2 : Hid ((out ++ [(key, val)]) ++ ((if nek key x = true then [x] else []) ++ refPutL key val dn (l.drop (j + 1))) = refPutL key val false l) := by show _ = _; have := HG.out; simpa using this
        have HA0 : Hid (App w wc u7 out (key, val)) := App.of HC.out.1 HC.out.2.1 (key, val)
        clear HG
        go_wp2_with (first
          | (at_builtin; refine wpList_append_ent rfl _ _ rfl w.heap.size HA0.out.base _ _ rfl HA0.out.own _ (key, val) rfl HA0.out.c0 HA0.out.c1 (by omega) ?_)
          | fail)
        intro uz wz hownz hgz hatz
        have hcg := grown_chg hgz
        have hbz := HA0.out.done hgz
        have hxz : wz.heap[wr.heap.size]? = some (.cells #[.string x.1, .string x.2] 41 (0, 0)) := by
          have hbb : Below wc.heap.size wc (wc.alloc (.cells #[.string key, .string val] 41)) := (Below.refl _ _).alloc (Nat.le_refl _) _
          refine (hcg.block _ (Nat.lt_of_lt_of_le (heap_lt HC.out.2.2) hbb.size) (fun hm => ?_)).trans ((hbb.block _ (heap_lt HC.out.2.2)).trans HC.out.2.2)
          have := HNE.out _ (show u7.ownBlock = some wr.heap.size by simpa using hm)
          omega
        have HZ : Hid (OwnE w.heap.size wz uz (out ++ [(key, val)]) ∧ Below w.heap.size w wz ∧ wz.heap[wr.heap.size]? = some (.cells #[.string x.1, .string x.2] 41 (0, 0))) := ⟨hownz, hbz, hxz⟩
        have t0 : wz.cell? ⟨wr.heap.size, 0, none⟩ = some (.string x.1) := cell_at hxz 0
        have t1 : wz.cell? ⟨wr.heap.size, 1, none⟩ = some (.string x.2) := cell_at hxz 1
        clear hownz hgz hatz hcg hbz hxz s0 s1
        have hkl : (out ++ [(key, val)]).length ≤ 1048576 * 2 := by simp only [List.length_append, List.length_cons, List.length_nil]; omega
        cases hnk : nek key x with
        | true =>
          have hkn : (!(x.1.toList == key.toList)) = true := hnk
          have HR : Hid ((out ++ [(key, val)] ++ [x]) ++ refPutL key val dn (l.drop (j + 1)) = refPutL key val false l) := by show _ = _; have := HG2.out; rw [hnk] at this; simpa using this
          have HA : Hid (App w wz uz (out ++ [(key, val)]) x) := App.of HZ.out.1 HZ.out.2.1 x
          clear HG2 hnk
          go_wp2_with (first
            | (at_builtin; refine wpList_append_ent rfl _ _ rfl w.heap.size HA.out.base _ _ rfl HA.out.own _ x rfl HA.out.c0 HA.out.c1 (by simp only [List.length_append, List.length_cons, List.length_nil]; omega) ?_)
            | fail)
          intro v7 w4 hown4 hg4 hat4
          have hbw := HA.out.done hg4
          have H4 : Hid (OwnE w.heap.size w4 v7 (out ++ [(key, val)] ++ [x]) ∧ Below w.heap.size w w4) := ⟨by simpa using hown4, hbw⟩
          clear hown4 hg4 hat4 hbw
          go_wp2_with fail
          go_roundw
          case rel => exact ⟨j + 1, by omega, by go_num, dn, (by rw [hdt]), out ++ [(key, val)] ++ [x], by first | omega | (simp only [List.length_append, List.length_cons, List.length_nil]; omega), H4.out.1, H4.out.2, HR.out⟩
          case measure => simp [intOf]; omega
        | false =>
          have hkn : (!(x.1.toList == key.toList)) = false := hnk
          have HR : Hid ((out ++ [(key, val)]) ++ refPutL key val dn (l.drop (j + 1)) = refPutL key val false l) := by show _ = _; have := HG2.out; rw [hnk] at this; simpa using this
          clear HG2 hnk
          go_wp2_with fail
          go_roundw
          case rel => exact ⟨j + 1, by omega, by go_num, dn, (by rw [hdt]), out ++ [(key, val)], by first | omega | (simp only [List.length_append, List.length_cons, List.length_nil]; omega), HZ.out.1, HZ.out.2.1, HR.out⟩
          case measure => simp [intOf]; omega
      | false =>
        have hdt : dn = dn0 := by have := HEM.out; rw [this.2]; revert this; cases dn0 <;> cases lt x.1 key <;> simp
        have HG2 : Hid (out ++ ((if nek key x = true then [x] else []) ++ refPutL key val dn (l.drop (j + 1))) = refPutL key val false l) := by show _ = _; have := HG.out; simpa using this
        obtain ⟨wz, hwz⟩ : ∃ wz, wz = wc := ⟨_, rfl⟩
        obtain ⟨uz, huz⟩ : ∃ uz, uz = u7 := ⟨_, rfl⟩
        subst hwz huz
        have HZ := HC
        clear HG
        have hkl : (out).length ≤ 1048576 * 2 := by omega
        cases hnk : nek key x with
        | true =>
          have hkn : (!(x.1.toList == key.toList)) = true := hnk
          have HR : Hid ((out ++ [x]) ++ refPutL key val dn (l.drop (j + 1)) = refPutL key val false l) := by show _ = _; have := HG2.out; rw [hnk] at this; simpa using this
          have HA : Hid (App w wz uz (out) x) := App.of HZ.out.1 HZ.out.2.1 x
          clear HG2 hnk
          go_wp2_with (first
            | (at_builtin; refine wpList_append_ent rfl _ _ rfl w.heap.size HA.out.base _ _ rfl HA.out.own _ x rfl HA.out.c0 HA.out.c1 (by omega) ?_)
            | fail)
          intro v7 w4 hown4 hg4 hat4
          have hbw := HA.out.done hg4
          have H4 : Hid (OwnE w.heap.size w4 v7 (out ++ [x]) ∧ Below w.heap.size w w4) := ⟨by simpa using hown4, hbw⟩
          clear hown4 hg4 hat4 hbw
          go_wp2_with fail
          go_roundw
          case rel => exact ⟨j + 1, by omega, by go_num, dn, (by rw [hdt]), out ++ [x], by first | omega | (simp only [List.length_append, List.length_cons, List.length_nil]; omega), H4.out.1, H4.out.2, HR.out⟩
          case measure => simp [intOf]; omega
        | false =>
          have hkn : (!(x.1.toList == key.toList)) = false := hnk
          have HR : Hid ((out) ++ refPutL key val dn (l.drop (j + 1)) = refPutL key val false l) := by show _ = _; have := HG2.out; rw [hnk] at this; simpa using this
          clear HG2 hnk
          go_wp2_with fail
          go_roundw
          case rel => exact ⟨j + 1, by omega, by go_num, dn, (by rw [hdt]), out, by first | omega | (simp only [List.length_append, List.length_cons, List.length_nil]; omega), HZ.out.1, HZ.out.2.1, HR.out⟩
          case measure => simp [intOf]; omega
    · have hlt' : ¬ (j : Int) < (l.length : Int) := by omega
      have HE : Hid (out ++ (if dn0 = true then [] else [(key, val)]) = refPutL key val false l) := by
        have := HT.out.2.2
        rw [List.drop_of_length_le (by omega), refPutL] at this
        exact this
      cases dn0 with
      | true =>
        have HR : Hid (refPutL key val false l = out) := by show _ = _; rw [← HE.out]; simp
        clear HE
        go_wp2_with fail
        go_ret
        exact ⟨_, rfl, by rw [HR.out]; exact HT.out.1, HT.out.2.1⟩
      | false =>
        have HR : Hid (refPutL key val false l = out ++ [(key, val)]) := by show _ = _; rw [← HE.out]; simp
        have HA0 : Hid (App w wr u7 out (key, val)) := App.of HT.out.1 HT.out.2.1 (key, val)
        clear HE
        go_wp2_with (first
          | (at_builtin; refine wpList_append_ent rfl _ _ rfl w.heap.size HA0.out.base _ _ rfl HA0.out.own _ (key, val) rfl HA0.out.c0 HA0.out.c1 (by omega) ?_)
          | fail)
        intro uz wz hownz hgz hatz
        have hbz := HA0.out.done hgz
        have HZ : Hid (OwnE w.heap.size wz uz (out ++ [(key, val)]) ∧ Below w.heap.size w wz) := ⟨hownz, hbz⟩
        clear hownz hgz hatz hbz
        go_wp2_with fail
        go_ret
        exact ⟨_, rfl, by rw [HR.out]; exact HZ.out.1, HZ.out.2⟩
end Go.Proofs.YtadmecjdihfmeaaGreat.Tre

/- Layer 7: fresh. -/
namespace Go.Proofs.YtadmecjdihfmeaaGreat.Tre
set_option linter.unusedVariables false
set_option linter.unusedSimpArgs false
set_option maxRecDepth 100000
open Go.RowKit Go.Lib Go.Proofs.YtadmecjdihfmeaaGreat.Mem Go.Proofs.YtadmecjdihfmeaaGreat.Oct Go.Proofs.YtadmecjdihfmeaaGreat.Dev Go.Proofs.YtadmecjdihfmeaaGreat.Sto

def FreshIs (w : World) (n : Nat) (e : Ending) (w' : World) : Prop := ∃ B D, e = .returned (.pointer (some ⟨B.s, 0, none⟩)) ∧ Sc w B (StS.fresh nil8) D w' ∧ St n 0 (StS.fresh nil8) D [(0, [])]
theorem fresh_st {n : Nat} {D : DevS} (h : Run n 0 (StS.fresh nil8) D) : St n 0 (StS.fresh nil8) D [(0, [])] := by
  refine ⟨h, fun i hi => (by cases hi), fun i hi => (by cases hi), fun i => rfl, fun p hp => ?_⟩
  simp at hp
  subst hp
  exact ⟨List.Pairwise.nil, fun h0 => absurd rfl h0, fun _ => rfl⟩
set_option maxHeartbeats 4000000 in
theorem fresh_any (w : World) (n : Nat) (hn : 8 ≤ n ∧ n ≤ 4096) : Calls Tryz.prog 12 #[.int .i64 n] w (FreshIs w n) := by
  go_enter Tryz.func12, Tryz.ntmps12
  go_wp2_with fail
  refine (new_yes w n ⟨by omega, by omega⟩).mono ?_
  rintro e w1 ⟨b, bk, bd, rfl, hat, hb, h1, h2, h3⟩
  have HA : Hid (At w1 b bk bd (DevS.new n) ∧ Below w.heap.size w w1 ∧ w.heap.size ≤ b ∧ w.heap.size ≤ bk ∧ w.heap.size ≤ bd) := ⟨hat, hb, h1, h2, h3⟩
  clear hat hb h1 h2 h3
  go_wp2_with fail
  refine (format_sc (w0 := w) hn (note := nil8) (by decide) HA.out.1 HA.out.2.1 HA.out.2.2.1 HA.out.2.2.2.1 HA.out.2.2.2.2).mono ?_
  rintro e w2 ⟨B, D, rfl, hd, hsc, hrun⟩
  have HS : Hid (Sc w B (StS.fresh nil8) D w2 ∧ Run n 0 (StS.fresh nil8) D) := ⟨hsc, hrun⟩
  clear hd hsc hrun
  go_wp2_with fail
  go_ret
  exact ⟨B, D, rfl, HS.out.1, fresh_st HS.out.2⟩
end Go.Proofs.YtadmecjdihfmeaaGreat.Tre

