/- TreKid TreOpen TreRawP TreRawS TreLawF TreLawsRaw: several texts of one proof, laid as one file (a claim has at most 60 files). No condition. -/
import Derived.Test.YtadmecjdihfmeaaGreatTG4
import Derived.Maps.AppendAt
import Derived.Test.YtadmecjdihfmeaaGreatTG7
import Derived.Test.YtadmecjdihfmeaaGreatTG3
import Derived.Test.YtadmecjdihfmeaaGreatTG9
import Derived.Test.YtadmecjdihfmeaaGreatTG13
import Derived.Test.YtadmecjdihfmeaaGreatRows
import Derived.Test.YtadmecjdihfmeaaGreatLaw
import Derived.Test.YtadmecjdihfmeaaGreatRead
import Derived.ChangeSame
import Derived.Deep.Strs
import Derived.Lib.SmallJoins
/- Layer 7: rows of kids (key, block) in memory. -/
namespace Go.Proofs.YtadmecjdihfmeaaGreat.Tre
set_option linter.unusedVariables false
set_option linter.unusedSimpArgs false
set_option maxRecDepth 100000
open Go.RowKit Go.Lib Go.Proofs.YtadmecjdihfmeaaGreat.Mem Go.Proofs.YtadmecjdihfmeaaGreat.Oct Go.Proofs.YtadmecjdihfmeaaGreat.Dev Go.Proofs.YtadmecjdihfmeaaGreat.Sto

abbrev Kd := ByteArray × Int
abbrev kdL (x : Kd) : List Value := [.string x.1, .int .i64 x.2]
/-- kids of a call's own -/
def OwnK (base : Nat) (w : World) (v : Value) (l : List Kd) : Prop := w.ownsRow base 39 2 v l.length (l.flatMap kdL)
theorem OwnK.nil (base : Nat) (w : World) : OwnK base w (.slice none 0 0) [] := ⟨rfl, .inl ⟨rfl, rfl⟩⟩
theorem OwnK.form {base : Nat} {w : World} {v : Value} {l : List Kd} (h : OwnK base w v l) : ∃ a c, v = .slice a l.length c := by
  rcases h.2 with ⟨rfl, h0⟩ | ⟨g, cap, cur, rfl, _⟩
  · exact ⟨none, 0, by rw [h0]⟩
  · exact ⟨_, _, rfl⟩
theorem OwnK.mono {base base' : Nat} {w : World} {v : Value} {l : List Kd} (h : OwnK base w v l) (hb : base' ≤ base) : OwnK base' w v l := own_base h hb
theorem OwnK.chg {base : Nat} {w w' : World} {v : Value} {l : List Kd} {T : List Nat} (h : OwnK base w v l) (hc : Chg T w w') (hT : ∀ t ∈ T, v.ownBlock ≠ some t) : OwnK base w' v l := own_chg h hc hT
theorem OwnK.on {base : Nat} {w w' : World} {v : Value} {l : List Kd} (h : OwnK base w v l) (hb : Below w.heap.size w w') : OwnK base w' v l := h.chg (Chg.of_below hb : Chg [] w w') (by simp)
theorem info_kdl : (Tryz.prog.info? 39).map (fun i => (i.zero, i.size, i.bytes)) = some (some (.agg #[.string ⟨#[]⟩, .int .i64 0]), 2, 24) := by kernel_rfl
theorem kdl_len (l : List Kd) : (l.flatMap kdL).length = l.length * 2 := by
  induction l with
  | nil => rfl
  | cons x l ih => rw [List.flatMap_cons, List.length_append, ih, List.length_cons]; simp; omega
theorem kdl_at (l : List Kd) (j q : Nat) (hj : j < l.length) (hq : q < 2) : (l.flatMap kdL)[j * 2 + q]? = (kdL l[j])[q]? := by
  induction l generalizing j with
  | nil => simp at hj
  | cons x l ih =>
    rw [List.flatMap_cons]
    match j with
    | 0 =>
      rw [List.getElem?_append_left (by simp; omega)]
      simp
    | j + 1 =>
      rw [List.getElem?_append_right (by simp; omega)]
      have := ih j (by simpa using hj)
      simp only [List.getElem_cons_succ]
      rw [← this]
      congr 1
      simp; omega
/-- 'append(out, e)', out the call's own -/
theorem wpList_append_kid {w : World} {ops : Array Oper} {rest : List Oper} {o : Oper} {a : Act} {Q : Exit → Act → World → Prop} (hgd : o.guard = none) (s x : Operand)
    (ho : o.op = .call { callee := .builtin .append, args := #[s, x], argTypes := #[33, 33] }) (base : Nat) (hbase : base ≤ w.heap.size)
    (v : Value) (l : List Kd) (hs : a.eval s = v) (hown : OwnK base w v l) (b : Nat) (y : Kd) (hx : a.eval x = .slice (some ⟨b, 0, none⟩) 1 1) (h0 : w.cell? ⟨b, 0, none⟩ = some (.string y.1)) (h1 : w.cell? ⟨b, 1, none⟩ = some (.int .i64 y.2)) (hl : l.length ≤ 1048576)
    (h : ∀ v' w', OwnK base w' v' (l ++ [y]) → w.grownBy w' v.ownBlock → (v'.ownBlock = v.ownBlock ∨ v'.ownBlock = some w.heap.size) → wpList Tryz.prog ops Q rest (a.put o.dst v') w') : wpList Tryz.prog ops Q (o :: rest) a w := by
  obtain ⟨i0, hi0, hz0, hz1, hz2⟩ := info_parts info_kdl
  refine wpList_append_own_at _ hgd s x 33 ho base 39 i0 (.agg #[.string ⟨#[]⟩, .int .i64 0]) 2 24 Tryz.underlying33 hi0 hz0 hz1 hz2 rfl (by decide) v _ _ hs hown ⟨b, 0, none⟩ 1 1 (kdL y) hx rfl (fun j u hj => ?_) (fun u hu => ?_) (by unfold maxLen; omega) (by omega) hbase (fun v' w' g1 g2 _ g3 => h v' w' ?_ g2 g3)
  · match j with
    | 0 => simp at hj; rw [← hj]; exact h0
    | 1 => simp at hj; rw [← hj]; exact h1
    | j + 2 => simp at hj
  · simp at hu
    rcases hu with rfl | rfl <;> rfl
  · unfold OwnK
    simpa using g1
/-- 'append(out, e)' in a region that draws its order -/
theorem step_append_kid {ops : Array Oper} {o : Oper} {a : Act} {w : World} {K : Act → World → Prop} {Q : Exit → Act → World → Prop} {E : Prop} (hgd : o.guard = none) (s x : Operand)
    (ho : o.op = .call { callee := .builtin .append, args := #[s, x], argTypes := #[33, 33] }) (base : Nat) (hbase : base ≤ w.heap.size)
    (v : Value) (l : List Kd) (hs : a.eval s = v) (hown : OwnK base w v l) (b : Nat) (y : Kd) (hx : a.eval x = .slice (some ⟨b, 0, none⟩) 1 1) (h0 : w.cell? ⟨b, 0, none⟩ = some (.string y.1)) (h1 : w.cell? ⟨b, 1, none⟩ = some (.int .i64 y.2)) (hl : l.length ≤ 1048576)
    (h : ∀ v' w', OwnK base w' v' (l ++ [y]) → w.grownBy w' v.ownBlock → (v'.ownBlock = v.ownBlock ∨ v'.ownBlock = some w.heap.size) → K (a.put o.dst v') w') : if Region.wanted o (yielded ops a.tmps) = true then Oper.wp Tryz.prog o a w K Q else E := by
  have hw : Region.wanted o (yielded ops a.tmps) = true := by simp [Region.wanted, hgd]
  rw [if_pos hw]
  obtain ⟨i0, hi0, hz0, hz1, hz2⟩ := info_parts info_kdl
  obtain ⟨v', w', hr, g1, g2, _, g3⟩ := run_append_own_at (P := Tryz.prog) w base 33 o.type 39 i0 (.agg #[.string ⟨#[]⟩, .int .i64 0]) 2 24 Tryz.underlying33 hi0 hz0 hz1 hz2 rfl (by decide) v _ _ hown ⟨b, 0, none⟩ 1 1 (kdL y) rfl (fun j u hj => by
    match j with
    | 0 => simp at hj; rw [← hj]; exact h0
    | 1 => simp at hj; rw [← hj]; exact h1
    | j + 2 => simp at hj) (fun u hu => by
    simp at hu
    rcases hu with rfl | rfl <;> rfl) (by unfold maxLen; omega) (by omega) hbase
  unfold Oper.wp execOp
  simp only [ho, resolve, invoke, builtin, Sem.run_bind, Sem.run_pure, Result.andThen_ok, List.map_toArray, List.map_cons, List.map_nil, hs, hx, hr]
  refine h v' w' ?_ g2 g3
  unfold OwnK
  simpa using g1
/-- kids that nobody turns any more -/
def KdR (w : World) (cs : List Value) (x : Kd) : Prop := cs = kdL x
def Kds (p : Nat → Prop) (w : World) (v : Value) (l : List Kd) : Prop := SliceOf 2 KdR p w v l
theorem Kds.chg {p : Nat → Prop} {T : List Nat} {w w' : World} {v : Value} {l : List Kd} (h : Kds p w v l) (ht : Chg T w w') (hd : ∀ k, p k → k ∉ T) : Kds p w' v l := by
  rcases h with h | ⟨b, o, c, e, hp, hm, hc⟩
  · exact .inl h
  · refine .inr ⟨b, o, c, e, hp, hm, fun j hj => ?_⟩
    obtain ⟨cs, h1, h2, h3⟩ := hc j hj
    refine ⟨cs, h1, fun q hq => ?_, h3⟩
    have h4 := h2 q hq
    rw [List.getElem?_eq_getElem (by omega)] at h4 ⊢
    exact ht.cell (hd b hp) h4
theorem Kds.on {p : Nat → Prop} {w w' : World} {v : Value} {l : List Kd} (h : Kds p w v l) (hb : Below w.heap.size w w') : Kds p w' v l := h.chg (T := []) (Chg.of_below hb) (by simp)
theorem Kds.mono {p q : Nat → Prop} {w : World} {v : Value} {l : List Kd} (h : Kds p w v l) (hq : ∀ k, p k → q k) : Kds q w v l := by
  rcases h with h | ⟨b, o, c, e, hp, hm, hc⟩
  · exact .inl h
  · exact .inr ⟨b, o, c, e, hq b hp, hm, hc⟩
theorem Kds.form {p : Nat → Prop} {w : World} {v : Value} {l : List Kd} (h : Kds p w v l) : ∃ a c, v = .slice a l.length c ∧ l.length ≤ 9223372036854775807 := by
  rcases h with ⟨rfl, a, c, e⟩ | ⟨b, o, c, e, hp, hm, hc⟩
  · exact ⟨a, c, e, by simp⟩
  · exact ⟨_, _, e, hm⟩
theorem Kds.at {p : Nat → Prop} {w : World} {a : Option Addr} {n c : Nat} {l : List Kd} (h : Kds p w (.slice a n c) l) (j : Nat) (hj : j < l.length) : ∃ b o, a = some ⟨b, o, none⟩ ∧ p b ∧ w.cell? ⟨b, o + j * 2, none⟩ = some (.string l[j].1) ∧ w.cell? ⟨b, o + j * 2 + 1, none⟩ = some (.int .i64 l[j].2) := by
  rcases h with ⟨rfl, a, c, e⟩ | ⟨b, o, c', e, hp, hm, hc⟩
  · simp at hj
  · injection e with e1 e2 e3
    subst e1
    obtain ⟨cs, h1, h2, h3⟩ := hc j hj
    unfold KdR at h3
    subst h3
    exact ⟨b, o, rfl, hp, by simpa using h2 0 (by omega), by simpa [Nat.add_assoc] using h2 1 (by omega)⟩
theorem OwnK.kids {base : Nat} {w : World} {v : Value} {l : List Kd} (h : OwnK base w v l) (hl : l.length ≤ 9223372036854775807) : Kds (fun q => base ≤ q ∧ q < w.heap.size) w v l := by
  rcases h.2 with ⟨rfl, h0⟩ | ⟨g, cap, cur, rfl, hg, hb, hr⟩
  · exact .inl ⟨List.length_eq_zero_iff.1 h0, none, 0, rfl⟩
  · refine .inr ⟨g, 0, cap, rfl, ⟨hg, heap_lt hb⟩, hl, fun j hj => ⟨kdL l[j], rfl, fun q hq => ?_, rfl⟩⟩
    have hf := kdl_at l j q hj hq
    rw [List.getElem?_eq_getElem (by rw [kdl_len]; omega)] at hf
    rw [← hf]
    have := World.ownsRow.cells h rfl (j * 2 + q) _ (List.getElem?_eq_getElem (by rw [kdl_len]; omega))
    rw [add_at] at this
    exact this
end Go.Proofs.YtadmecjdihfmeaaGreat.Tre

/- Layer 7: Open. (Printed by wip/tools/genopen7.py.) -/
namespace Go.Proofs.YtadmecjdihfmeaaGreat.Tre
set_option linter.unusedVariables false
set_option linter.unusedSimpArgs false
set_option maxRecDepth 100000
open Go.RowKit Go.Lib Go.Proofs.YtadmecjdihfmeaaGreat.Mem Go.Proofs.YtadmecjdihfmeaaGreat.Oct Go.Proofs.YtadmecjdihfmeaaGreat.Dev Go.Proofs.YtadmecjdihfmeaaGreat.Sto

def enOf (x : It) : En := (x.key, x.val)
def kdOf (x : It) : Kd := (x.key, x.kid)
/-- what stands in a block -/
structure OpnR where
  err : Int
  ents : List En
  kids : List Kd
def OpnF (S : StS) (D : DevS) (id : Int) : OpnR := match loadF S D id with
  | .error e => ⟨e, [], []⟩
  | .ok n => ⟨0, if n.level = 0 then n.items.map enOf else [], if n.level = 0 then [] else n.items.map kdOf⟩
def OpnIs (w : World) (r : OpnR) (e : Ending) (w' : World) : Prop := ∃ v u, e = .returned (.tuple #[v, u, .int .i64 r.err]) ∧ OwnE w.heap.size w' v r.ents ∧ OwnK w.heap.size w' u r.kids ∧ Below w.heap.size w w'
set_option maxHeartbeats 8000000 in
theorem treeOpen_any (w : World) (B : Blk) (S : StS) (D : DevS) (id : Int) (h : StAt w B S D) :
    Calls Tryz.prog 15 #[.pointer (some ⟨B.s, 0, none⟩), .int .i64 id] w (OpnIs w (OpnF S D id)) := by
  have H : Hid (StAt w B S D) := h
  clear h
  go_enter Tryz.func15, Tryz.ntmps15
  go_wp2_with fail
  refine (load_any w B S D id H.out).mono ?_
  rintro e w1 ⟨v, rfl, hI, hb⟩
  obtain ⟨a, c, rfl, _, _⟩ := hI.form
  rcases ndOf_cases (loadF S D id) (fun e he => loadF_ne he) with ⟨n, hr, hn, he⟩ | ⟨er, hr, hn, he, hz⟩
  · have hok := (loadF_ok hr).1
    rw [hn] at hI
    obtain ⟨z, hz⟩ : ∃ z : Int, z = n.level := ⟨_, rfl⟩
    obtain ⟨w2, hw2⟩ : ∃ w2, w2 = w1.alloc (.cells #[.int .i64 z, .slice a n.items.length c] 79) := ⟨_, rfl⟩
    obtain ⟨nb, hnb⟩ : ∃ nb, nb = w1.heap.size := ⟨_, rfl⟩
    have hb2 : Below w1.heap.size w1 w2 := by rw [hw2]; exact (Below.refl _ _).alloc (Nat.le_refl _) _
    have hx2 : w2.heap[nb]? = some (.cells #[.int .i64 z, .slice a n.items.length c] 79 (0, 0)) := by rw [hw2, hnb]; exact heap_alloc_last _ _
    have HB2 : Hid (Below w.heap.size w w2) := hb.trans (hb2.mono hb.size)
    have y1 : w2.cell? ⟨nb, 1, none⟩ = some (.slice a n.items.length c) := cell_at hx2 1
    have hlen : n.items.length ≤ 1048576 := by have := hok.len; omega
    have HC : Hid (Its (fun q => w.heap.size ≤ q) w2 (.slice a n.items.length c) n.items ∧ w2.cell? ⟨nb, 0, none⟩ = some (.int .i64 z) ∧ n.items.length ≤ 1048576) := ⟨hI.on hb2, cell_at hx2 0, hlen⟩
    rcases Nat.eq_zero_or_pos n.level with h0 | h0
    · have HF : Hid (OpnF S D id = ⟨0, n.items.map enOf, []⟩) := by show _ = _; unfold OpnF; rw [hr]; dsimp only; rw [if_pos h0, if_pos h0]
      have hz0 : z = 0 := by omega
      rw [hn, he, ← hz]
      clear hz
      subst hz0
      clear hr hn he hb hI hok hb2 hx2 h0
      go_wp2_with fail
      rw [← hnb, ← hw2]
      clear hnb hw2
      go_wp2_with fail

      go_loopw [9, 10, 25] (fun v9 v10 v25 wr => ∃ j : Nat, j ≤ n.items.length ∧ v25 = .int .i64 j ∧ v10 = .slice none 0 0 ∧ Hid (OwnE w2.heap.size wr v9 ((n.items.take j).map enOf) ∧ Below w2.heap.size w2 wr)) (fun _ _ v25 _ => n.items.length - (intOf v25).toNat)
      case atStart => exact ⟨0, by omega, rfl, rfl, by have := OwnE.nil w2.heap.size w2; simpa using this, Below.refl _ _⟩
      case round =>
        obtain ⟨j, hj, rfl, rfl, HT⟩ := hrel
        by_cases hlt : j < n.items.length
        · have hlt' : (j : Int) < (n.items.length : Int) := by omega
          obtain ⟨b, o, rfl, _, q0, q1, q2⟩ := (HC.out.1.on HT.out.2).at j hlt
          obtain ⟨x, hx⟩ : ∃ x, x = n.items[j] := ⟨_, rfl⟩
          rw [← hx] at q0 q1 q2
          have hol : ((n.items.take j).map enOf).length ≤ 1048576 := by rw [List.length_map, List.length_take]; have := HC.out.2.2; omega
          have HR : Hid ((n.items.take (j + 1)).map enOf = (n.items.take j).map enOf ++ [enOf x]) := by
            show _ = _
            rw [List.take_succ_eq_append_getElem hlt, List.map_append, ← hx]
            rfl
          obtain ⟨w3, hw3⟩ : ∃ w3, w3 = wr.alloc (.cells #[.string x.key, .string x.val, .int .i64 x.kid] 83) := ⟨_, rfl⟩
          have hb3 : Below wr.heap.size wr w3 := by rw [hw3]; exact (Below.refl _ _).alloc (Nat.le_refl _) _
          have hx3 : w3.heap[wr.heap.size]? = some (.cells #[.string x.key, .string x.val, .int .i64 x.kid] 83 (0, 0)) := by rw [hw3]; exact heap_alloc_last _ _
          have y0 : w3.cell? ⟨nb, 0, none⟩ = some (.int .i64 0) := cell_on (HT.out.2.trans (hb3.mono HT.out.2.size)) HC.out.2.1
          have z0 : w3.cell? ⟨wr.heap.size, 0, none⟩ = some (.string x.key) := cell_at hx3 0
          have z1 : w3.cell? ⟨wr.heap.size, 1, none⟩ = some (.string x.val) := cell_at hx3 1
          have z2 : w3.cell? ⟨wr.heap.size, 2, none⟩ = some (.int .i64 x.kid) := cell_at hx3 2
          have hb4 : Below w3.heap.size w3 (w3.alloc (.cells #[.string x.key, .string x.val] 41)) := (Below.refl _ _).alloc (Nat.le_refl _) _
          have hx4 := heap_alloc_last w3 (.cells #[.string x.key, .string x.val] 41)
          have hbr : Below w2.heap.size w2 w3 := HT.out.2.trans (hb3.mono HT.out.2.size)
          have hbr4 : Below w2.heap.size w2 (w3.alloc (.cells #[.string x.key, .string x.val] 41)) := hbr.trans (hb4.mono hbr.size)
          have HA : Hid (OwnE w2.heap.size (w3.alloc (.cells #[.string x.key, .string x.val] 41)) u9 ((n.items.take j).map enOf) ∧ w2.heap.size ≤ (w3.alloc (.cells #[.string x.key, .string x.val] 41)).heap.size ∧
              (w3.alloc (.cells #[.string x.key, .string x.val] 41)).cell? ⟨w3.heap.size, 0, none⟩ = some (.string (enOf x).1) ∧ (w3.alloc (.cells #[.string x.key, .string x.val] 41)).cell? ⟨w3.heap.size, 1, none⟩ = some (.string (enOf x).2) ∧ Below w2.heap.size w2 (w3.alloc (.cells #[.string x.key, .string x.val] 41))) :=
            ⟨(HT.out.1.on hb3).on hb4, hbr4.size, cell_at hx4 0, cell_at hx4 1, hbr4⟩
          have hz1 : w3.heap.size = wr.heap.size + 1 := by rw [hw3]; simp
          rw [hz1, hw3] at HA
          rw [hw3] at y0 z0 z1 z2
          clear hx HT hb3 hx3 hb4 hx4 hbr hbr4 hz1 hw3
          go_wp2_with (first
            | (at_builtin; refine wpList_append_ent rfl _ _ rfl w2.heap.size HA.out.2.1 _ _ rfl HA.out.1 _ (enOf x) rfl HA.out.2.2.1 HA.out.2.2.2.1 hol ?_)
            | fail)
          intro v7 w4 hown4 hg4 hat4
          have hbw : Below w2.heap.size w2 w4 := HA.out.2.2.2.2.trans ((grown_chg hg4).below HA.out.2.1 (fun q hq => (World.ownsRow.lt HA.out.1 q (by simpa using hq)).1))
          have H4 : Hid (OwnE w2.heap.size w4 v7 ((n.items.take j).map enOf ++ [enOf x]) ∧ Below w2.heap.size w2 w4) := ⟨by rw [List.map_take]; exact hown4, hbw⟩
          clear hown4 hg4 hat4 hbw
          go_wp2_with fail
          go_roundw
          case rel => exact ⟨j + 1, by omega, by go_num, rfl, by rw [HR.out]; exact H4.out.1, H4.out.2⟩
          case measure => simp [intOf]; omega
        · have HR : Hid (n.items.take j = n.items) := by show _ = _; rw [List.take_of_length_le (by omega)]
          have hlt' : ¬ (j : Int) < (n.items.length : Int) := by omega
          go_wp2_with fail
          go_ret3
          have ho := HT.out.1
          rw [HR.out] at ho
          exact ⟨_, _, by rw [HF.out]; rfl, by rw [HF.out]; exact ho.mono HB2.out.size, by rw [HF.out]; exact OwnK.nil _ _, HB2.out.trans (HT.out.2.mono HB2.out.size)⟩

    · have HF : Hid (OpnF S D id = ⟨0, [], n.items.map kdOf⟩) := by show _ = _; unfold OpnF; rw [hr]; dsimp only; rw [if_neg (by omega), if_neg (by omega)]
      have hlv : 0 < z := by omega
      rw [hn, he, ← hz]
      clear hz
      clear hr hn he hb hI hok hb2 hx2 h0
      go_wp2_with fail
      rw [← hnb, ← hw2]
      clear hnb hw2
      go_wp2_with fail

      go_loopw [9, 10, 25] (fun v9 v10 v25 wr => ∃ j : Nat, j ≤ n.items.length ∧ v25 = .int .i64 j ∧ v9 = .slice none 0 0 ∧ Hid (OwnK w2.heap.size wr v10 ((n.items.take j).map kdOf) ∧ Below w2.heap.size w2 wr)) (fun _ _ v25 _ => n.items.length - (intOf v25).toNat)
      case atStart => exact ⟨0, by omega, rfl, rfl, by have := OwnK.nil w2.heap.size w2; simpa using this, Below.refl _ _⟩
      case round =>
        obtain ⟨j, hj, rfl, rfl, HT⟩ := hrel
        by_cases hlt : j < n.items.length
        · have hlt' : (j : Int) < (n.items.length : Int) := by omega
          obtain ⟨b, o, rfl, _, q0, q1, q2⟩ := (HC.out.1.on HT.out.2).at j hlt
          obtain ⟨x, hx⟩ : ∃ x, x = n.items[j] := ⟨_, rfl⟩
          rw [← hx] at q0 q1 q2
          have hol : ((n.items.take j).map kdOf).length ≤ 1048576 := by rw [List.length_map, List.length_take]; have := HC.out.2.2; omega
          have HR : Hid ((n.items.take (j + 1)).map kdOf = (n.items.take j).map kdOf ++ [kdOf x]) := by
            show _ = _
            rw [List.take_succ_eq_append_getElem hlt, List.map_append, ← hx]
            rfl
          obtain ⟨w3, hw3⟩ : ∃ w3, w3 = wr.alloc (.cells #[.string x.key, .string x.val, .int .i64 x.kid] 83) := ⟨_, rfl⟩
          have hb3 : Below wr.heap.size wr w3 := by rw [hw3]; exact (Below.refl _ _).alloc (Nat.le_refl _) _
          have hx3 : w3.heap[wr.heap.size]? = some (.cells #[.string x.key, .string x.val, .int .i64 x.kid] 83 (0, 0)) := by rw [hw3]; exact heap_alloc_last _ _
          have y0 : w3.cell? ⟨nb, 0, none⟩ = some (.int .i64 z) := cell_on (HT.out.2.trans (hb3.mono HT.out.2.size)) HC.out.2.1
          have z0 : w3.cell? ⟨wr.heap.size, 0, none⟩ = some (.string x.key) := cell_at hx3 0
          have z1 : w3.cell? ⟨wr.heap.size, 1, none⟩ = some (.string x.val) := cell_at hx3 1
          have z2 : w3.cell? ⟨wr.heap.size, 2, none⟩ = some (.int .i64 x.kid) := cell_at hx3 2
          have hb4 : Below w3.heap.size w3 (w3.alloc (.cells #[.string x.key, .int .i64 x.kid] 39)) := (Below.refl _ _).alloc (Nat.le_refl _) _
          have hx4 := heap_alloc_last w3 (.cells #[.string x.key, .int .i64 x.kid] 39)
          have hbr : Below w2.heap.size w2 w3 := HT.out.2.trans (hb3.mono HT.out.2.size)
          have hbr4 : Below w2.heap.size w2 (w3.alloc (.cells #[.string x.key, .int .i64 x.kid] 39)) := hbr.trans (hb4.mono hbr.size)
          have HA : Hid (OwnK w2.heap.size (w3.alloc (.cells #[.string x.key, .int .i64 x.kid] 39)) u10 ((n.items.take j).map kdOf) ∧ w2.heap.size ≤ (w3.alloc (.cells #[.string x.key, .int .i64 x.kid] 39)).heap.size ∧
              (w3.alloc (.cells #[.string x.key, .int .i64 x.kid] 39)).cell? ⟨w3.heap.size, 0, none⟩ = some (.string (kdOf x).1) ∧ (w3.alloc (.cells #[.string x.key, .int .i64 x.kid] 39)).cell? ⟨w3.heap.size, 1, none⟩ = some (.int .i64 (kdOf x).2) ∧ Below w2.heap.size w2 (w3.alloc (.cells #[.string x.key, .int .i64 x.kid] 39))) :=
            ⟨(HT.out.1.on hb3).on hb4, hbr4.size, cell_at hx4 0, cell_at hx4 1, hbr4⟩
          have hz1 : w3.heap.size = wr.heap.size + 1 := by rw [hw3]; simp
          rw [hz1, hw3] at HA
          rw [hw3] at y0 z0 z1 z2
          clear hx HT hb3 hx3 hb4 hx4 hbr hbr4 hz1 hw3
          go_wp2_with (first
            | (at_builtin; refine wpList_append_kid rfl _ _ rfl w2.heap.size HA.out.2.1 _ _ rfl HA.out.1 _ (kdOf x) rfl HA.out.2.2.1 HA.out.2.2.2.1 hol ?_)
            | fail)
          intro v7 w4 hown4 hg4 hat4
          have hbw : Below w2.heap.size w2 w4 := HA.out.2.2.2.2.trans ((grown_chg hg4).below HA.out.2.1 (fun q hq => (World.ownsRow.lt HA.out.1 q (by simpa using hq)).1))
          have H4 : Hid (OwnK w2.heap.size w4 v7 ((n.items.take j).map kdOf ++ [kdOf x]) ∧ Below w2.heap.size w2 w4) := ⟨by rw [List.map_take]; exact hown4, hbw⟩
          clear hown4 hg4 hat4 hbw
          go_wp2_with fail
          go_roundw
          case rel => exact ⟨j + 1, by omega, by go_num, rfl, by rw [HR.out]; exact H4.out.1, H4.out.2⟩
          case measure => simp [intOf]; omega
        · have HR : Hid (n.items.take j = n.items) := by show _ = _; rw [List.take_of_length_le (by omega)]
          have hlt' : ¬ (j : Int) < (n.items.length : Int) := by omega
          go_wp2_with fail
          go_ret3
          have ho := HT.out.1
          rw [HR.out] at ho
          exact ⟨_, _, by rw [HF.out]; rfl, by rw [HF.out]; exact OwnE.nil _ _, by rw [HF.out]; exact ho.mono HB2.out.size, HB2.out.trans (HT.out.2.mono HB2.out.size)⟩

  · have HR : Hid (OpnF S D id = ⟨er, [], []⟩) := by show _ = _; unfold OpnF; rw [hr]
    have hz' : (er != 0) = true := by simpa using hz
    have HB : Hid (Below w.heap.size w w1) := hb
    rw [hn, he]
    clear hr hn he hz hb hI
    go_wp2_with fail
    go_ret3
    exact ⟨.slice none 0 0, .slice none 0 0, by rw [HR.out]; rfl, by rw [HR.out]; exact OwnE.nil _ _, by rw [HR.out]; exact OwnK.nil _ _, HB.out.alloc HB.out.size _⟩
end Go.Proofs.YtadmecjdihfmeaaGreat.Tre

/- Layer 7 in plain Lean: what Check calls well formed is a tree, of whatever blocks. -/
namespace Go.Proofs.YtadmecjdihfmeaaGreat.Tre
set_option linter.unusedVariables false
set_option linter.unusedSimpArgs false
open Go.RowKit Go.Proofs.YtadmecjdihfmeaaGreat.Mem Go.Proofs.YtadmecjdihfmeaaGreat.Oct Go.Proofs.YtadmecjdihfmeaaGreat.Dev Go.Proofs.YtadmecjdihfmeaaGreat.Sto

/-! ### highs are exact where nothing goes -/
def ExactH (S : StS) : Prop := ∀ i c, S.cells i = some c → c.high = S.highOf c.kids + 1
def FadeH (S S' : StS) : Prop := ∀ j c', S'.cells j = some c' → ∃ c, S.cells j = some c ∧ c'.high = c.high ∧ c'.kids = c.kids
theorem fade_high {S S' : StS} (h : Fade S S') : FadeH S S' := fun j c' hj => by
  obtain ⟨c, h1, h2, h3, _⟩ := h.cells j c' hj
  exact ⟨c, h1, h2, h3⟩
theorem highOf_congr {S T : StS} {l : List Int} (h : ∀ k ∈ l, (T.cel k).high = (S.cel k).high) : T.highOf l = S.highOf l := by
  have key : ∀ (l : List Int) (x : Int), (∀ k ∈ l, (T.cel k).high = (S.cel k).high) → l.foldl (fun h k => max h (T.cel k).high) x = l.foldl (fun h k => max h (S.cel k).high) x := by
    intro l
    induction l with
    | nil => intro x _; rfl
    | cons k l ih =>
      intro x hk
      rw [List.foldl_cons, List.foldl_cons, hk k (by simp)]
      exact ih _ (fun q hq => hk q (by simp [hq]))
  exact key l 0 h
theorem setC_cel' (S : StS) {i j : Int} (o : Option Cel) (h : j ≠ i) : (S.setC i o).cel j = S.cel j := by show (upd S.cells i o j).getD noCel = _; rw [upd_other _ _ _ h]; rfl
theorem ExactH.fade {S S' : StS} {n : Nat} {pd : List Int} (h : ExactH S) (f : FadeH S S') (hw : WF n S' pd) : ExactH S' := by
  intro i c' hc'
  obtain ⟨c, hc, e1, e2⟩ := f i c' hc'
  rw [e1, h i c hc, e2]
  congr 1
  refine (highOf_congr (fun k hk => ?_)).symm
  obtain ⟨d', hd'⟩ := has_iff.1 (hw.kids i c' hc' k (by rw [e2]; exact hk))
  obtain ⟨d, hd, e3, _⟩ := f k d' hd'
  rw [cel_some hd', cel_some hd, e3]
theorem fadeH_hold {S : StS} {i : Int} (hs : S.has i = true) (b : Int) : FadeH S (S.hold i b) := by
  obtain ⟨c, hc⟩ := has_iff.1 hs
  intro j c' hj
  have hj' : upd S.cells i (some { S.cel i with held := (S.cel i).held + b }) j = some c' := hj
  by_cases hji : j = i
  · subst hji
    rw [upd_same] at hj'; cases hj'
    rw [cel_some hc]
    exact ⟨c, hc, rfl, rfl⟩
  · rw [upd_other _ _ _ hji] at hj'
    exact ⟨c', hj', rfl, rfl⟩
theorem put_exact {S : StS} {i : Int} {kids : List Int} (h : ExactH S) (hk : ∀ k ∈ kids, S.has k = true) (hi : S.has i = false) {n : Nat} (hw : WF n S []) : ExactH ((S.names kids).setC i (some ⟨0, 0, S.highOf kids + 1, kids⟩)) := by
  have hf := fade_high (fade_names kids S hk)
  have hhi : ∀ x, x ≠ i → S.has x = true → (((S.names kids).setC i (some ⟨0, 0, S.highOf kids + 1, kids⟩)).cel x).high = (S.cel x).high := fun x hx hs => by
    rw [setC_cel' _ _ hx]
    have h1 := (names_has kids S hk x).trans hs
    obtain ⟨d', hd'⟩ := has_iff.1 h1
    obtain ⟨d, hd, e, _⟩ := hf x d' hd'
    rw [cel_some hd', cel_some hd, e]
  have hne : ∀ x, S.has x = true → x ≠ i := fun x hx e => by rw [e, hi] at hx; cases hx
  intro j c' hj
  have hj' : upd (S.names kids).cells i (some ⟨0, 0, S.highOf kids + 1, kids⟩) j = some c' := hj
  by_cases hji : j = i
  · subst hji
    rw [upd_same] at hj'; cases hj'
    show S.highOf kids + 1 = _
    congr 1
    exact (highOf_congr (fun k hk2 => hhi k (hne k (hk k hk2)) (hk k hk2))).symm
  · rw [upd_other _ _ _ hji] at hj'
    obtain ⟨c, hc, e1, e2⟩ := hf j c' hj'
    rw [e1, e2, h j c hc]
    congr 1
    exact (highOf_congr (fun k hk2 => hhi k (hne k (hw.kids j c hc k hk2)) (hw.kids j c hc k hk2))).symm
/-- a block's high, of what stands in it -/
theorem high_ok {n m : Nat} {S : StS} {D : DevS} (hr : Run n m S D) (hx : ExactH S) {i : Int} {nd : Nd} (hl : loadF S D i = .ok nd) (ho : OkF S D nd.level nd.items) : (S.cel i).high ≤ nd.level + 1 := by
  obtain ⟨c, hc, hk⟩ := load_kids hr hl
  rw [cel_some hc, hx i c hc, hk]
  have : S.highOf nd.kids ≤ nd.level := by
    refine highOf_le (by omega) (fun k hk => ?_)
    unfold Nd.kids at hk
    split at hk
    · cases hk
    · rename_i h0
      obtain ⟨y, hy, rfl⟩ := List.mem_map.1 hk
      obtain ⟨f, hf⟩ : ∃ f, nd.level = f + 1 := ⟨nd.level - 1, by omega⟩
      rw [hf] at ho ⊢
      obtain ⟨_, _, _, _, _, _, _, _, _, h10⟩ := (ho y hy).succ
      omega
  omega
/-! ### Check -/
theorem node_err {go : List It → ByteArray → Int × Nat} {load : Int → Except Int Nd} {stop : ByteArray} : ∀ (l : List It) (sum : Nat), (nodeC go load stop l sum).1 ≠ 0 → (nodeC go load stop l sum).2 = 0
  | [], sum, h => absurd rfl h
  | x :: l, sum, h => by
    unfold nodeC at h ⊢
    split
    · rfl
    · split
      · rfl
      · split
        · rfl
        · rename_i k hk h1 h2
          rw [hk] at h
          dsimp only at h
          rw [if_neg h1, if_neg h2] at h
          exact node_err l _ h
theorem check_err {S : StS} {D : DevS} (f : Nat) (l : List It) (stop : ByteArray) (h : (checkedF S D f l stop).1 ≠ 0) : (checkedF S D f l stop).2 = 0 := by
  cases f with
  | zero =>
    unfold checkedF at h ⊢
    split
    · rfl
    · rename_i hl; rw [if_neg hl] at h; exact absurd rfl h
  | succ f =>
    unfold checkedF at h ⊢
    split
    · rfl
    · rename_i hl; rw [if_neg hl] at h; exact node_err _ _ h
theorem CheckF_err {S : StS} {D : DevS} {root : Int} (h : (CheckF S D root).1 ≠ 0) : (CheckF S D root).2 = 0 := by
  unfold CheckF at h ⊢
  split
  · rfl
  · rename_i h0
    rw [if_neg h0] at h
    split
    · rfl
    · rename_i nd hn
      rw [hn] at h
      dsimp only at h
      split
      · rfl
      · rename_i h2
        rw [if_neg h2] at h
        exact check_err _ _ _ h
/-- what Check finds of items -/
structure Ckd (S : StS) (D : DevS) (f : Nat) (l : List It) (stop : ByteArray) (c : Nat) : Prop where
  ok : OkF S D f l
  sort : SortE (entsF S D f l)
  cnt : c = (entsF S D f l).length
  stop : stop.toList.isEmpty = false → ∀ y ∈ entsF S D f l, lt y.1 stop = true
  head : ∀ x l', l = x :: l' → ∃ v r, entsF S D f l = (x.key, v) :: r
theorem load_no {S : StS} {D : DevS} {i : Int} (h : S.has i = false) : loadF S D i = .error 22 := by
  unfold loadF StS.getR
  rw [h]
  rfl
theorem node_ok {n m : Nat} {S : StS} {D : DevS} (hr : Run n m S D) (hx : ExactH S) {f : Nat} {stop : ByteArray} (go : ∀ (k : Nd) (st : ByteArray), NdOk k → k.level = f → (checkedF S D f k.items st).1 = 0 → Ckd S D f k.items st (checkedF S D f k.items st).2) :
    ∀ (l : List It) (sum : Nat), (∀ x ∈ l, x.key.toList.isEmpty = false) → (nodeC (checkedF S D f) (belowF S D (f + 1)) stop l sum).1 = 0 → ∃ c, (nodeC (checkedF S D f) (belowF S D (f + 1)) stop l sum).2 = sum + c ∧ Ckd S D (f + 1) l stop c
  | [], sum, _, h => ⟨0, rfl, fun x hx => (by cases hx), List.Pairwise.nil, rfl, fun _ y hy => (by cases hy), fun x l' e => (by cases e)⟩
  | x :: l, sum, hk, h => by
    unfold nodeC at h ⊢
    split at h
    · rename_i e he
      have : e ≠ 0 := by
        unfold belowF at he
        split at he
        · rename_i e' he'
          injection he with he
          rw [← he]
          exact loadF_ne he'
        · split at he
          · cases he
          · injection he with he; rw [← he]; decide
      exact absurd h this
    · rename_i k hb
      have hld : loadF S D x.kid = .ok k ∧ k.level + 1 = f + 1 := by
        unfold belowF at hb
        split at hb
        · cases hb
        · rename_i k' hk'
          split at hb
          · rename_i hl
            injection hb with hb
            subst hb
            exact ⟨hk', hl⟩
          · cases hb
      split at h
      · exact absurd h (by decide)
      · rename_i h4
        rw [if_neg h4]
        split at h
        · rename_i hg; exact absurd h hg
        · rename_i hg
          rw [if_neg hg]
          have hg0 : (checkedF S D f k.items (nextK stop l)).1 = 0 := Decidable.byContradiction hg
          have hlf := loadF_ok hld.1
          have hck := go k (nextK stop l) hlf.1 (by omega) hg0
          obtain ⟨c, e1, hc⟩ := node_ok hr hx go l _ (fun y hy => hk y (by simp [hy])) h
          obtain ⟨y0, l0, hy0⟩ := List.exists_cons_of_length_pos (show 0 < k.items.length by have := hlf.1.len; omega)
          have hh4 : 4 ≤ k.items.length ∧ headK k.items = x.key := by
            refine ⟨by omega, ?_⟩
            exact Decidable.byContradiction fun hn => h4 (.inr hn)
          have hkey0 : y0.key = x.key := by
            have := hh4.2
            rw [hy0] at this
            exact this
          have hfl : k.level = f := by omega
          have hok : OkI S D (f + 1) x := by
            refine ⟨?_, ?_, k, hld.1, hfl, hh4.1, hh4.2, hck.ok⟩
            · cases hh : S.has x.kid with
              | true => rfl
              | false => rw [load_no hh] at hld; cases hld.1
            · have := high_ok hr hx hld.1 (by rw [hfl]; exact hck.ok)
              omega
          have hit : itE S D (f + 1) x = entsF S D f k.items := by
            obtain ⟨n', g1, _, _, _, _, _, g7, _⟩ := hok.succ
            rw [hld.1] at g1
            injection g1 with g1
            rw [g7, g1]
          have hent : entsF S D (f + 1) (x :: l) = entsF S D f k.items ++ entsF S D (f + 1) l := by rw [entsF_cons, hit]
          refine ⟨(checkedF S D f k.items (nextK stop l)).2 + c, by rw [e1]; omega, fun y hy => ?_, ?_, ?_, fun hs y hy => ?_, fun x' l' e => ?_⟩
          · rcases List.mem_cons.1 hy with rfl | hy
            · exact hok
            · exact hc.ok y hy
          · rw [hent]
            refine List.pairwise_append.2 ⟨hck.sort, hc.sort, fun a ha b hb => ?_⟩
            cases l with
            | nil => cases hb
            | cons z l2 =>
              have h1 := hck.stop (hk z (by simp)) a ha
              obtain ⟨v, r, hv⟩ := hc.head z l2 rfl
              have hs := hc.sort
              rw [hv] at hb hs
              rcases List.mem_cons.1 hb with rfl | hb
              · exact h1
              · exact lt_trans h1 ((List.pairwise_cons.1 hs).1 b hb)
          · rw [hent, List.length_append, ← hck.cnt, ← hc.cnt]
          · rw [hent] at hy
            rcases List.mem_append.1 hy with hy1 | hy1
            · cases l with
              | nil => exact hck.stop hs y hy1
              | cons z l2 =>
                have h1 := hck.stop (hk z (by simp)) y hy1
                obtain ⟨v, r, hv⟩ := hc.head z l2 rfl
                have h2 := hc.stop hs (z.key, v) (by rw [hv]; simp)
                exact lt_trans h1 h2
            · exact hc.stop hs y hy1
          · injection e with e0 e2
            subst e0 e2
            obtain ⟨v, r, hv⟩ := hck.head y0 l0 hy0
            exact ⟨v, r ++ entsF S D (f + 1) l, by rw [hent, hv, hkey0]; rfl⟩
theorem right_some {k : ByteArray} (h : rightK k = true) : k.toList.isEmpty = false := by
  have h1 : k.size ≠ 0 := by
    intro h0
    unfold rightK at h
    simp [h0] at h
  cases he : k.toList.isEmpty with
  | false => rfl
  | true =>
    have h2 : k.toList = [] := List.isEmpty_iff.1 he
    have h3 : k.size = k.toList.length := by rw [toList_data, Array.length_toList]; rfl
    rw [h2] at h3
    exact absurd h3 h1
theorem ents_leaf (S : StS) (D : DevS) (l : List It) : entsF S D 0 l = l.map fun x => (x.key, x.val) := by
  induction l with
  | nil => rfl
  | cons z l ih => rw [entsF_cons, ih]; rfl
theorem check_ok {n m : Nat} {S : StS} {D : DevS} (hr : Run n m S D) (hx : ExactH S) : ∀ (f : Nat) (l : List It) (stop : ByteArray), ItsOk f l → (checkedF S D f l stop).1 = 0 → Ckd S D f l stop (checkedF S D f l stop).2
  | 0, l, stop, hi, h => by
    unfold checkedF at h ⊢
    split at h
    · exact absurd h (by decide)
    · rename_i hl
      rw [if_neg hl]
      refine ⟨fun x hx => trivial, ?_, ?_, fun hs y hy => ?_, fun x l' e => ?_⟩
      · rw [ents_leaf]
        unfold SortE
        rw [List.pairwise_map]
        exact hi.rise
      · rw [ents_leaf, List.length_map]
      · rw [ents_leaf] at hy
        obtain ⟨x, hxl, rfl⟩ := List.mem_map.1 hy
        have h2 : lateC stop l = false := by cases hc : lateC stop l with | false => rfl | true => exact absurd hc hl
        unfold lateC at h2
        rw [hs] at h2
        have hne : l ≠ [] := fun e => by rw [e] at hxl; cases hxl
        have h3 : lt ((l.getLast?.getD default).key) stop = true := by simpa using h2
        rw [List.getLast?_eq_some_getLast hne] at h3
        have hd := List.dropLast_concat_getLast hne
        have hri : Rise l := hi.rise
        rw [← hd] at hxl hri
        rcases List.mem_append.1 hxl with hx1 | hx1
        · exact lt_trans ((List.pairwise_append.1 hri).2.2 x hx1 (l.getLast hne) (by simp)) h3
        · have : x = l.getLast hne := by simpa using hx1
          rw [this]
          exact h3
      · subst e
        exact ⟨x.val, _, by rw [ents_leaf]; rfl⟩
  | f + 1, l, stop, hi, h => by
    unfold checkedF at h ⊢
    split at h
    · exact absurd h (by decide)
    · rename_i hl
      rw [if_neg hl]
      obtain ⟨c, e, hc⟩ := node_ok hr hx (fun k st h1 h2 h3 => check_ok hr hx f k.items st (by rw [← h2]; exact h1.its) h3) l 0 (fun x hx => right_some (hi.fit x hx).1) h
      rw [e, Nat.zero_add]
      exact hc
/-! ### how many entries there may be -/
theorem nodup_le {α : Type} [BEq α] [LawfulBEq α] : ∀ (l m : List α), l.Nodup → (∀ x ∈ l, x ∈ m) → l.length ≤ m.length
  | [], m, _, _ => by simp
  | x :: l, m, hn, hm => by
    obtain ⟨h1, h2⟩ := List.nodup_cons.1 hn
    have hx := hm x (by simp)
    have := nodup_le l (m.erase x) h2 (fun y hy => (List.mem_erase_of_ne (fun e => h1 (by rw [← e]; exact hy))).2 (hm y (by simp [hy])))
    rw [List.length_erase_of_mem hx] at this
    have h3 : 0 < m.length := List.length_pos_of_mem hx
    rw [List.length_cons]
    omega
theorem first_ent {S : StS} {D : DevS} : ∀ (f : Nat) (y : It) (l : List It), OkF S D f (y :: l) → ∃ v r, entsF S D f (y :: l) = (y.key, v) :: r
  | 0, y, l, _ => ⟨y.val, _, by rw [ents_leaf]; rfl⟩
  | f + 1, y, l, h => by
    obtain ⟨nd, h1, h2, h3, h4, h5, h6, h7, h8, h9, _⟩ := (h y (by simp)).succ
    obtain ⟨z, l2, hz⟩ := List.exists_cons_of_length_pos (show 0 < nd.items.length by omega)
    rw [hz] at h5 h4
    obtain ⟨v, r, hv⟩ := first_ent f z l2 h5
    refine ⟨v, r ++ entsF S D (f + 1) l, ?_⟩
    rw [entsF_cons, h7, hz, hv]
    have : z.key = y.key := h4
    rw [this]
    rfl
theorem ids_key {S : StS} {D : DevS} : ∀ (lv : Nat) (x : It), OkI S D lv x → ∀ j ∈ itI S D lv x, S.has j = true ∧ ∃ nd, loadF S D j = .ok nd ∧ nd.level < lv ∧ ∃ e ∈ itE S D lv x, e.1 = headK nd.items
  | 0, x, _, j, hj => by simp [itI] at hj
  | f + 1, x, h, j, hj => by
    obtain ⟨nd, h1, h2, h3, h4, h5, h6, h7, h8, h9, _⟩ := h.succ
    rw [h8] at hj
    rw [h7]
    rcases List.mem_cons.1 hj with rfl | hj
    · refine ⟨h9, nd, h1, by omega, ?_⟩
      obtain ⟨y, l, hy⟩ := List.exists_cons_of_length_pos (show 0 < nd.items.length by omega)
      rw [hy] at h5 ⊢
      obtain ⟨v, r, hv⟩ := first_ent f y l (h5)
      exact ⟨(y.key, v), by rw [hv]; simp, rfl⟩
    · obtain ⟨y, hy, hjy⟩ := List.mem_flatMap.1 hj
      obtain ⟨hh, nd', g1, g2, e, he, g3⟩ := ids_key f y (h5 y hy) j hjy
      exact ⟨hh, nd', g1, by omega, e, List.mem_flatMap.2 ⟨y, hy, he⟩, g3⟩
theorem nodup_of {S : StS} {D : DevS} (lv : Nat) (hone : ∀ x, OkI S D lv x → SortE (itE S D lv x) → (itI S D lv x).Nodup) : ∀ (l : List It), OkF S D lv l → SortE (entsF S D lv l) → (idsF S D lv l).Nodup
  | [], _, _ => List.nodup_nil
  | x :: l, h, hs => by
    rw [entsF_cons] at hs
    have hs2 := List.pairwise_append.1 hs
    have hi : idsF S D lv (x :: l) = itI S D lv x ++ idsF S D lv l := rfl
    rw [hi]
    refine List.nodup_append.2 ⟨hone x (h x (by simp)) hs2.1, nodup_of lv hone l (fun y hy => h y (by simp [hy])) hs2.2.1, fun a ha b hb e => ?_⟩
    subst e
    obtain ⟨y, hy, hjy⟩ := List.mem_flatMap.1 hb
    obtain ⟨_, n1, g1, _, e1, he1, k1⟩ := ids_key lv x (h x (by simp)) a ha
    obtain ⟨_, n2, g2, _, e2, he2, k2⟩ := ids_key lv y (h y (by simp [hy])) a hjy
    rw [g1] at g2
    injection g2 with g2
    have hlt := hs2.2.2 e1 he1 e2 (List.mem_flatMap.2 ⟨y, hy, he2⟩)
    rw [k1, k2, g2, lt_irrefl] at hlt
    cases hlt
theorem ids_nodup1 {S : StS} {D : DevS} : ∀ (lv : Nat) (x : It), OkI S D lv x → SortE (itE S D lv x) → (itI S D lv x).Nodup
  | 0, x, _, _ => by simp [itI]
  | f + 1, x, h, hs => by
    obtain ⟨nd, h1, h2, h3, h4, h5, h6, h7, h8, h9, _⟩ := h.succ
    rw [h8]
    rw [h7] at hs
    refine List.nodup_cons.2 ⟨fun hm => ?_, nodup_of f (ids_nodup1 f) nd.items h5 hs⟩
    obtain ⟨y, hy, hjy⟩ := List.mem_flatMap.1 hm
    obtain ⟨_, nd', g1, g2, _⟩ := ids_key f y (h5 y hy) _ hjy
    rw [h1] at g1
    injection g1 with g1
    rw [← g1] at g2
    omega
theorem ids_nodup {S : StS} {D : DevS} (lv : Nat) (l : List It) (h : OkF S D lv l) (hs : SortE (entsF S D lv l)) : (idsF S D lv l).Nodup := nodup_of lv (ids_nodup1 lv) l h hs
theorem ents_le {S : StS} {D : DevS} : ∀ (lv : Nat) (l : List It), OkF S D lv l → l.length ≤ 8 → (entsF S D lv l).length ≤ 8 * (idsF S D lv l).length + 8
  | 0, l, _, hl => by rw [ents_leaf, List.length_map]; omega
  | f + 1, l, h, _ => by
    have key : ∀ l : List It, OkF S D (f + 1) l → (entsF S D (f + 1) l).length ≤ 8 * (idsF S D (f + 1) l).length := by
      intro l
      induction l with
      | nil => intro _; simp [entsF]
      | cons x l ih =>
        intro h
        have h0 := ih (fun y hy => h y (by simp [hy]))
        obtain ⟨nd, h1, h2, h3, h4, h5, h6, h7, h8, h9, _⟩ := (h x (by simp)).succ
        have h10 := ents_le f nd.items h5 h6.len.2
        have hi : idsF S D (f + 1) (x :: l) = itI S D (f + 1) x ++ idsF S D (f + 1) l := rfl
        rw [entsF_cons, hi, List.length_append, List.length_append, h7, h8, List.length_cons]
        omega
    have := key l h
    omega
/-- what Check calls well formed is a tree, of few entries -/
theorem raw_tree {n m : Nat} {S : StS} {D : DevS} {root : Int} {ids : List Int} (hr : Run n m S D) (hx : ExactH S) (hids : ∀ i, S.has i = true → i ∈ ids) (hl : ids.length ≤ 60) (h : (CheckF S D root).1 = 0) :
    ∃ es, Tree S D root es ∧ es.length ≤ 488 ∧ (CheckF S D root).2 = es.length := by
  by_cases h0 : root = 0
  · refine ⟨[], ⟨List.Pairwise.nil, fun h => absurd h0 h, fun _ => rfl⟩, by simp, ?_⟩
    unfold CheckF
    rw [if_pos h0]
    rfl
  · unfold CheckF at h ⊢
    rw [if_neg h0] at h ⊢
    cases hld : loadF S D root with
    | error e =>
      rw [hld] at h
      exact absurd h (loadF_ne hld)
    | ok nd =>
      rw [hld] at h
      dsimp only at h ⊢
      split at h
      · exact absurd h (by decide)
      · rename_i h2
        rw [if_neg h2]
        have hnd := (loadF_ok hld).1
        have hc := check_ok hr hx nd.level nd.items nil8 hnd.its h
        have hh : S.has root = true := by
          cases hh : S.has root with
          | true => rfl
          | false => rw [load_no hh] at hld; cases hld
        refine ⟨entsF S D nd.level nd.items, ⟨hc.sort, fun _ => ⟨nd, hh, hld, ?_, fun h3 => by omega, hc.ok, rfl⟩, fun h3 => absurd h3 h0⟩, ?_, hc.cnt⟩
        · have := high_ok hr hx hld hc.ok
          omega
        · have h3 := ents_le nd.level nd.items hc.ok hnd.len.2
          have h4 := nodup_le _ ids (ids_nodup nd.level nd.items hc.ok hc.sort) (fun j hj => by
            obtain ⟨y, hy, hjy⟩ := List.mem_flatMap.1 hj
            exact hids j (ids_key nd.level y (hc.ok y hy) j hjy).1)
          omega
end Go.Proofs.YtadmecjdihfmeaaGreat.Tre

/- Layer 7 in plain Lean: a store into which any blocks are put, all of them held. -/
namespace Go.Proofs.YtadmecjdihfmeaaGreat.Tre
set_option linter.unusedVariables false
set_option linter.unusedSimpArgs false
open Go.RowKit Go.Proofs.YtadmecjdihfmeaaGreat.Mem Go.Proofs.YtadmecjdihfmeaaGreat.Oct Go.Proofs.YtadmecjdihfmeaaGreat.Dev Go.Proofs.YtadmecjdihfmeaaGreat.Sto

structure RawSt (n m : Nat) (S : StS) (D : DevS) (ids : List Int) : Prop where
  run : Run n m S D
  exact : ExactH S
  ids : ∀ i, S.has i = true → i ∈ ids
theorem run_more {n m k : Nat} {S : StS} {D : DevS} (h : Run n m S D) (hk : m ≤ k) : Run n k S D := ⟨h.good, h.inv.more hk, h.pow⟩
theorem raw_fresh {n : Nat} {D : DevS} (h : Run n 0 (StS.fresh nil8) D) : RawSt n 0 (StS.fresh nil8) D [] :=
  ⟨h, fun i c hc => (by cases hc), fun i hi => (by cases hi)⟩
theorem put_st (S : StS) (D : DevS) (kids : List Int) (data : ByteArray) : (doesOut S D ⟨0, 0, kids, data⟩).st = (putOut S D kids data).2.2.1 ∧ (doesOut S D ⟨0, 0, kids, data⟩).dv = (putOut S D kids data).2.2.2 := by
  have h0 : (⟨0, 0, kids, data⟩ : DoT).opn = 0 := rfl
  unfold doesOut
  rw [h0]
  exact ⟨rfl, rfl⟩
theorem raw_put {n m : Nat} (hn : 8 ≤ n ∧ n ≤ 4096) (hm : m < 1099511627776) {S : StS} {D : DevS} {ids : List Int} (h : RawSt n m S D ids) (kids : List Int) (data : ByteArray) :
    ((putOut S D kids data).2.1 = 0 → RawSt n (m + 1) (putOut S D kids data).2.2.1 (putOut S D kids data).2.2.2 (ids ++ [(putOut S D kids data).1]) ∧ (putOut S D kids data).2.2.1.has (putOut S D kids data).1 = true) ∧
    ((putOut S D kids data).2.1 ≠ 0 → RawSt n (m + 1) (putOut S D kids data).2.2.1 (putOut S D kids data).2.2.2 ids) := by
  have hrun := h.run.does hn hm (k := ⟨0, 0, kids, data⟩) (by show (0 : Int) < 11; decide)
  rw [(put_st S D kids data).1, (put_st S D kids data).2] at hrun
  revert hrun
  unfold putOut
  split
  · intro hrun
    exact ⟨fun e => absurd (show (22 : Int) = 0 from e) (by decide), fun _ => ⟨hrun, h.exact, h.ids⟩⟩
  · rename_i hbad
    split
    · intro hrun
      exact ⟨fun e => absurd (show (28 : Int) = 0 from e) (by decide), fun _ => ⟨hrun, h.exact, h.ids⟩⟩
    · rename_i hfree
      split
      · rename_i hw
        intro hrun
        exact ⟨fun e => absurd e hw, fun _ => ⟨hrun, h.exact, h.ids⟩⟩
      · intro hrun
        refine ⟨fun _ => ?_, fun e => absurd rfl e⟩
        have hk : ∀ k ∈ kids, S.has k = true := fun k hk => by
          have hb : kids.any S.badKid = false := by
            cases hb : kids.any S.badKid with
            | false => rfl
            | true => exact absurd (.inr (.inr hb)) hbad
          have h3 := List.any_eq_false.1 hb k hk
          unfold StS.badKid at h3
          cases hh : S.has k with
          | true => rfl
          | false => rw [hh] at h3; simp at h3
        have hfo := free_ok hfree
        refine ⟨⟨hrun, put_exact h.exact hk hfo.2.2.1 h.run.inv.wf, fun i hi => ?_⟩, ?_⟩
        · by_cases hi2 : i = S.free D.n
          · rw [hi2]; simp
          · have h2 : (S.names kids).has i = true := by
              have h3 : (upd (S.names kids).cells (S.free D.n) _ i).isSome = true := hi
              rw [upd_other _ _ _ hi2] at h3
              exact h3
            rw [names_has kids S hk] at h2
            exact List.mem_append_left _ (h.ids i h2)
        · show (upd (S.names kids).cells (S.free D.n) _ (S.free D.n)).isSome = true
          rw [upd_same]; rfl
theorem raw_hold {n m : Nat} (hm : m < 1099511627776) {S : StS} {D : DevS} {ids : List Int} (h : RawSt n m S D ids) {i : Int} (hi : S.has i = true) : RawSt n (m + 1) (S.holds i) D ids := by
  have hr := run_hold h.run hm hi
  have e : S.holds i = S.hold i 1 := by unfold StS.holds; rw [if_pos hi]
  rw [e]
  exact ⟨hr, h.exact.fade (fadeH_hold hi 1) hr.inv.wf, fun j hj => h.ids j (by rw [hold_has hi] at hj; exact hj)⟩
end Go.Proofs.YtadmecjdihfmeaaGreat.Tre

/- Layer 7: TreeRaw, walked. (Printed by wip/tools/genlawf.py.) -/
namespace Go.Proofs.YtadmecjdihfmeaaGreat.Tre
set_option linter.unusedVariables false
set_option linter.unusedSimpArgs false
set_option maxRecDepth 100000
open Go.RowKit Go.Lib Go.Proofs.YtadmecjdihfmeaaGreat.Mem Go.Proofs.YtadmecjdihfmeaaGreat.Oct Go.Proofs.YtadmecjdihfmeaaGreat.Dev Go.Proofs.YtadmecjdihfmeaaGreat.Sto

structure RwT where
  kids : List Int
  s : ByteArray
instance : Inhabited RwT := ⟨⟨[], ⟨#[]⟩⟩⟩
/-- a raw block, as it lies in memory -/
def RwIs (p : Nat → Prop) (w : World) (cs : List Value) (k : RwT) : Prop := ∃ a c, cs = [.slice a k.kids.length c, .string k.s] ∧ (k.s.size ≤ 140737488351232 ∧ k.kids.length ≤ 140737488351232) ∧ Ints p w (.slice a k.kids.length c) k.kids ∧ k.kids.length ≤ c ∧ c ≤ 9223372036854775807
def Rawl (p : Nat → Prop) (w : World) (v : Value) (l : List RwT) : Prop := SliceOf 2 (RwIs p) p w v l
theorem Rawl.on {p : Nat → Prop} {w w' : World} {v : Value} {l : List RwT} (h : Rawl p w v l) (hb : Below w.heap.size w w') : Rawl p w' v l := by
  rcases h with h | ⟨b, o, c, e, hp, hm, hc⟩
  · exact .inl h
  · refine .inr ⟨b, o, c, e, hp, hm, fun j hj => ?_⟩
    obtain ⟨cs, h1, h2, a, c', h3, h4, h5, h6⟩ := hc j hj
    refine ⟨cs, h1, fun q hq => ?_, a, c', h3, h4, Ints.on h5 hb, h6⟩
    have h7 := h2 q hq
    rw [List.getElem?_eq_getElem (by omega)] at h7 ⊢
    exact cell_on hb h7
theorem Rawl.len {p : Nat → Prop} {w : World} {v : Value} {l : List RwT} (h : Rawl p w v l) : ∃ a c, v = .slice a l.length c ∧ l.length ≤ 9223372036854775807 := by
  obtain ⟨a, c, e, hm, _⟩ := SliceOf.form h
  exact ⟨a, c, e, hm⟩
theorem Rawl.item {p : Nat → Prop} {w : World} {a : Option Addr} {c : Nat} {l : List RwT} (h : Rawl p w (.slice a l.length c) l) (j : Nat) (hj : j < l.length) : ∃ (k : RwT) (b o : Nat) (ka : Option Addr) (kc : Nat), a = some ⟨b, o, none⟩ ∧
    w.cell? ⟨b, o + j * 2, none⟩ = some (.slice ka k.kids.length kc) ∧ w.cell? ⟨b, o + j * 2 + 1, none⟩ = some (.string k.s) ∧ (k.s.size ≤ 140737488351232 ∧ k.kids.length ≤ 140737488351232) ∧ Ints p w (.slice ka k.kids.length kc) k.kids ∧ k.kids.length ≤ kc ∧ kc ≤ 9223372036854775807 := by
  obtain ⟨a', c', e, _, hc⟩ := SliceOf.form h
  injection e with e _ _
  subst e
  obtain ⟨b, o, h1, h2, cs, h3, h4, ka, kc, h5, h6, h7, h8, h9⟩ := hc j hj
  subst h5
  exact ⟨l[j], b, o, ka, kc, h1, h4 0 (by omega), h4 1 (by omega), h6, h7, h8, h9⟩
theorem top_wok {S : StS} {D : DevS} (h : Wok S D) (lv : Nat) (l : List It) : Wok (topF S D lv l).st (topF S D lv l).dv := h.save lv l
theorem del_wok {S : StS} {D : DevS} (h : Wok S D) (root : Int) (key : ByteArray) : Wok (DelF S D root key).st (DelF S D root key).dv := by
  unfold DelF
  split
  · exact h
  · split
    · exact h
    · split
      · exact h
      · rename_i n hn
        have hnd := (loadF_ok hn).1
        have hc := (cut_fit key n.level S D n.items h hnd.its.fitI hnd.len).1
        split
        · exact hc
        · split
          · exact hc
          · split
            · exact hc
            · split
              · exact hc
              · exact top_wok hc _ _
/-- a row's block is kept from kids -/
def Shut (X : List Nat) (v : Value) : Prop := ∀ g, v.ownBlock = some g → g ∈ X
theorem sc_bares {w0 w : World} {B : Blk} {S : StS} {D : DevS} {X : List Nat} (h : Sc w0 (B.off X) S D w) : Sc w0 B S D w := ⟨h.below, h.st.bares, h.base⟩
theorem shield2 {w w' : World} {B : Blk} {S : StS} {D : DevS} {g0 g : Nat} (h : StAt w B S D) (hg0 : g0 ∈ B.x) (hn0 : g0 ∉ B.all) (hc : Chg [g0] w w') (hg : w.heap.size ≤ g ∧ g < w'.heap.size) : StAt w' (B.keep g) S D := by
  have h1 := StAt.off4 h hg0 hn0 hc
  have hn0' := hn0
  simp only [Blk.all, List.mem_cons, List.mem_nil_iff, or_false, not_or] at hn0'
  obtain ⟨mm, hm⟩ := h.cells
  refine ⟨h1.box, h1.dev, ⟨mm, ⟨hm.is.touch hc (by simp; exact fun e => hn0'.2.2.2.2.1 e.symm), hm.eq, fun i c a k hi => ?_⟩⟩, h1.kept, h1.nd, h1.small, fun q hq => ?_⟩
  · refine Ints.mono (Ints.chg (T := [g0]) (Ints.real (hm.kids i c a k hi)) hc (fun k hk hm2 => ?_)) (fun q hq => ⟨hq.1.1, fun hm2 => ?_⟩)
    · have : k = g0 := by simpa using hm2
      subst this
      exact hk.1.2 hg0
    · rcases List.mem_cons.1 hm2 with h2 | h2
      · have := hq.2; omega
      · exact hq.1.2 h2
  · rcases List.mem_cons.1 hq with h2 | h2
    · subst h2; exact hg.2
    · have := h.low q h2; have := hc.size; omega
/-- 'append(out, y)' of numbers; and where the row lies behind it -/
theorem wpList_append_int_at {w : World} {ops : Array Oper} {rest : List Oper} {o : Oper} {a : Act} {Q : Exit → Act → World → Prop} (hgd : o.guard = none) (s x : Operand)
    (ho : o.op = .call { callee := .builtin .append, args := #[s, x], argTypes := #[65, 65] }) (base : Nat) (hbase : base ≤ w.heap.size)
    (v : Value) (l : List Int) (hs : a.eval s = v) (hown : OwnI base w v l) (b : Nat) (y : Int) (hx : a.eval x = .slice (some ⟨b, 0, none⟩) 1 1) (hc : w.cell? ⟨b, 0, none⟩ = some (.int .i64 y)) (hl : l.length ≤ 1048576)
    (h : ∀ v' w', OwnI base w' v' (l ++ [y]) → w.grownBy w' v.ownBlock → (v'.ownBlock = v.ownBlock ∨ v'.ownBlock = some w.heap.size) → wpList Tryz.prog ops Q rest (a.put o.dst v') w') : wpList Tryz.prog ops Q (o :: rest) a w := by
  obtain ⟨i0, hi, hz0, hz1, hz2⟩ := info_parts info_int
  refine wpList_append_own_at _ hgd s x 65 ho base 3 i0 (.int .i64 0) 1 8 Tryz.underlying65 hi hz0 hz1 hz2 rfl (by decide) v _ _ hs hown ⟨b, 0, none⟩ 1 1 [.int .i64 y] hx rfl (fun j u hj => ?_) (fun u hu => ?_) (by unfold maxLen; omega) (by omega) hbase (fun v' w' g1 g2 _ g3 => h v' w' ?_ g2 g3)
  · match j, hj with
    | 0, hj => simp at hj; rw [← hj]; exact hc
    | j + 1, hj => simp at hj
  · simp at hu
    subst hu
    rfl
  · unfold OwnI
    simpa using g1
/-- blocks put one by one: what there is -/
structure RawW (w1 : World) (B : Blk) (wL : World) (j : Nat) (ids : List Int) (v : Value) (w : World) : Prop where
  ex : ∃ S D X, Sc w1 (B.off X) S D w ∧ RawSt 700 (2 * j) S D ids ∧ Shut X v
  len : ids.length ≤ j
  own : OwnI wL.heap.size w v ids
  low : wL.heap.size ≤ w.heap.size
theorem RawW.on {w1 : World} {B : Blk} {wL : World} {j : Nat} {ids : List Int} {v : Value} {w w' : World} (h : RawW w1 B wL j ids v w) (hb : Below w.heap.size w w') : RawW w1 B wL j ids v w' := by
  obtain ⟨S, D, X, h1, h2, h3⟩ := h.ex
  exact ⟨⟨S, D, X, h1.on hb, h2, h3⟩, h.len, h.own.chg (T := []) (Chg.of_below hb) (by simp), Nat.le_trans h.low hb.size⟩
theorem RawW.below {w1 : World} {B : Blk} {wL : World} {j : Nat} {ids : List Int} {v : Value} {w : World} (h : RawW w1 B wL j ids v w) : Below w1.heap.size w1 w := by
  obtain ⟨S, D, X, h1, _⟩ := h.ex
  exact h1.below
/-- behind a Put -/
def RawPutR (w1 : World) (B : Blk) (wL : World) (j : Nat) (ids : List Int) (v : Value) (e : Ending) (w' : World) : Prop :=
  ∃ id er, e = .returned (.tuple #[.int .i64 id, .int .i64 er]) ∧ OwnI wL.heap.size w' v ids ∧ wL.heap.size ≤ w'.heap.size ∧
    (er = 0 → ∃ S D X, Sc w1 (B.off X) S D w' ∧ RawSt 700 (2 * j + 1) S D (ids ++ [id]) ∧ S.has id = true ∧ Shut X v) ∧ (er ≠ 0 → ∃ S D X, Sc w1 (B.off X) S D w' ∧ RawSt 700 (2 * j + 1) S D ids ∧ Shut X v)
theorem RawW.put {w1 : World} {B : Blk} {wL : World} {j : Nat} {ids : List Int} {v : Value} {w : World} (h : RawW w1 B wL j ids v w) (hB : ∀ q ∈ B.all, q < wL.heap.size) (hj : j < 1000) {base : Nat} (hbase : wL.heap.size ≤ base) {u : Value} {kids : List Int} (hu : OwnI base w u kids) (hk : kids.length ≤ 1000) (s : ByteArray) :
    Calls Tryz.prog 33 #[.pointer (some ⟨B.s, 0, none⟩), u, .string s] w (RawPutR w1 B wL j ids v) := by
  obtain ⟨S, D, X, h1, h2, h3⟩ := h.ex
  have hf := St.frees (by omega) h2.run
  have hp := raw_put (by omega) (by omega) h2 kids s
  refine (storePut_any w (B.off X) S D u kids s h1.st (by rw [hf.1]; exact h2.run.inv.wf) ((hu.ints (by omega)).mono (fun k hk hm => by have := hB k hm; have := hk.1; omega))).mono ?_
  rintro e w' ⟨rfl, hs, hc⟩
  have hsc := h1.turn (Blk.Next.refl _ _) hs hc
  exact ⟨_, _, rfl, h.own.chg hc hB, Nat.le_trans h.low hc.size, fun he => ⟨_, _, X, hsc, (hp.1 he).1, (hp.1 he).2, h3⟩, fun he => ⟨_, _, X, hsc, hp.2 he, h3⟩⟩
theorem raw_held {w1 : World} {B : Blk} {wL : World} {j : Nat} {ids : List Int} {v : Value} {w : World} {id : Int} {l : List Int} (h : ∃ S D X, Sc w1 (B.off X) S D w ∧ RawSt 700 (2 * j + 1) S D ids ∧ S.has id = true ∧ Shut X v) (ho : OwnI wL.heap.size w v l) (hl : wL.heap.size ≤ w.heap.size) (hB : ∀ q ∈ B.all, q < wL.heap.size) (hj : j < 1000) :
    Calls Tryz.prog 28 #[.pointer (some ⟨B.s, 0, none⟩), .int .i64 id] w fun e w' => ∃ er, e = .returned (.int .i64 er) ∧ (∃ S D X, Sc w1 (B.off X) S D w' ∧ RawSt 700 (2 * (j + 1)) S D ids ∧ Shut X v) ∧ OwnI wL.heap.size w' v l ∧ wL.heap.size ≤ w'.heap.size := by
  obtain ⟨S, D, X, h1, h2, h3, h4⟩ := h
  refine (storeHold_any w (B.off X) S D id h1.st (held_small h2.run.inv (by omega) id)).mono ?_
  rintro e w' ⟨rfl, hs, hc⟩
  exact ⟨_, rfl, ⟨_, _, X, h1.turn (Blk.Next.refl _ _) hs hc, raw_hold (by omega) h2 h3, h4⟩, ho.chg hc hB, Nat.le_trans hl hc.size⟩
theorem RawSt.more {n m k : Nat} {S : StS} {D : DevS} {ids : List Int} (h : RawSt n m S D ids) (hk : m ≤ k) : RawSt n k S D ids := ⟨run_more h.run hk, h.exact, h.ids⟩
theorem u64_len (n : Nat) (h : n ≤ 1000) : IntKind.u64.wrap (n : Int) = n := by rw [IntKind.wrap_u64]; omega
theorem rem_idx (y : Int) (m : Nat) (h0 : 0 < m) (hm : m ≤ 1000) : ∃ z : Nat, wrap64 ((IntKind.u64.wrap y).tmod (m : Int)) = z ∧ z < m := by
  have hu : 0 ≤ IntKind.u64.wrap y := by rw [IntKind.wrap_u64]; omega
  rw [Int.tmod_eq_emod_of_nonneg hu]
  have h1 := Int.emod_nonneg (IntKind.u64.wrap y) (show (m : Int) ≠ 0 by omega)
  have h2 := Int.emod_lt_of_pos (IntKind.u64.wrap y) (show 0 < (m : Int) by omega)
  obtain ⟨r, hr⟩ : ∃ r, r = IntKind.u64.wrap y % (m : Int) := ⟨_, rfl⟩
  rw [← hr] at h1 h2 ⊢
  exact ⟨r.toNat, by unfold wrap64; omega, by omega⟩
theorem raw_grown {w1 : World} {B : Blk} {S : StS} {D : DevS} {X : List Nat} {w w' : World} {N : Nat} {v v' : Value} {l l' : List Int} (h : Sc w1 (B.off X) S D w) (hX : Shut X v) (hB : ∀ q ∈ B.all, q < N) (hN : w1.heap.size ≤ N) (ho1 : OwnI N w v l) (hl : N ≤ w.heap.size) (ho : OwnI N w' v' l') (hg : w.grownBy w' v.ownBlock) (hat : v'.ownBlock = v.ownBlock ∨ v'.ownBlock = some w.heap.size) :
    ∃ X', Sc w1 (B.off X') S D w' ∧ Shut X' v' := by
  have hc := grown_chg hg
  have hbelow : Below w1.heap.size w1 w' := h.below.trans (hc.below h.below.size (fun q hq => by
    have := (World.ownsRow.lt ho1 q (by simpa using hq)).1
    omega))
  cases hv : v.ownBlock with
  | none =>
    rw [hv] at hc hat
    have hb : Below w.heap.size w w' := hc.below (Nat.le_refl _) (fun q hq => by simp at hq)
    rcases hat with h1 | h1
    · exact ⟨X, ⟨hbelow, h.st.on hb, h.base⟩, fun g hg => by rw [h1] at hg; cases hg⟩
    · exact ⟨w.heap.size :: X, ⟨hbelow, h.st.shield hb ⟨Nat.le_refl _, (World.ownsRow.lt ho _ h1).2⟩, h.base⟩, fun g hg => by
        rw [h1] at hg; injection hg with hg; subst hg; simp⟩
  | some g0 =>
    rw [hv] at hc hat
    have hc0 : Chg [g0] w w' := by simpa using hc
    have hm0 : g0 ∈ (B.off X).x := List.mem_append_left _ (hX g0 hv)
    have hn0 : g0 ∉ (B.off X).all := fun hm => by
      have h1 := hB g0 hm
      have h2 := (World.ownsRow.lt ho1 g0 hv).1
      omega
    rcases hat with h1 | h1
    · exact ⟨X, ⟨hbelow, StAt.off4 h.st hm0 hn0 hc0, h.base⟩, fun g hg => by rw [h1] at hg; injection hg with hg; subst hg; exact hX _ hv⟩
    · exact ⟨w.heap.size :: X, ⟨hbelow, shield2 h.st hm0 hn0 hc0 ⟨Nat.le_refl _, (World.ownsRow.lt ho _ h1).2⟩, h.base⟩, fun g hg => by
        rw [h1] at hg; injection hg with hg; subst hg; simp⟩
theorem rem_int (n : Int) (m : Nat) (h0 : 0 < m) (hn : 0 ≤ n) (hm : m ≤ 1000) (hn2 : n ≤ 9223372036854775807) : ∃ z : Nat, n % (m : Int) = z ∧ z < m := by
  have h1 := Int.emod_nonneg n (show (m : Int) ≠ 0 by omega)
  have h2 := Int.emod_lt_of_pos n (show 0 < (m : Int) by omega)
  obtain ⟨r, hr⟩ : ∃ r, r = n % (m : Int) := ⟨_, rfl⟩
  rw [← hr] at h1 h2 ⊢
  exact ⟨r.toNat, by omega, by omega⟩
theorem range_err {S : StS} {D : DevS} {root : Int} {frm upt : ByteArray} {most : Int} (h : (RangeF S D root frm upt most).1 ≠ 0) : (RangeF S D root frm upt most).2.length = 0 := by
  unfold RangeF at h ⊢
  split
  · rfl
  · rename_i h0
    rw [if_neg h0] at h
    split
    · rfl
    · rename_i nd hn
      rw [hn] at h
      dsimp only at h
      split
      · rfl
      · rename_i h2
        rw [if_neg h2] at h
        exact absurd rfl h
theorem range_len (S : StS) (D : DevS) (root : Int) : (RangeF S D root nil8 nil8 1000).2.length ≤ 1000 := by
  unfold RangeF
  split
  · simp
  · split
    · simp
    · rename_i nd hn
      split
      · simp
      · exact walk_le S D nil8 nil8 1000 (n := 1000) (by omega) nd.level nd.items [] (by simp)
theorem wok_run {n m : Nat} (hn : 8 ≤ n ∧ n ≤ 4096) {S : StS} {D : DevS} (h : Run n m S D) : Wok S D := by
  have hd := h.good.dn
  have e : D.n.toNat = n := by omega
  exact ⟨by rw [e]; exact h.inv.wf, by omega, by omega⟩
set_option maxHeartbeats 32000000 in
theorem treeRaw_any (w : World) (v : Value) (l : List RwT) (key val : ByteArray) (n : Int) (hnr : -9223372036854775808 ≤ n ∧ n ≤ 9223372036854775807) (h : Rawl (· < w.heap.size) w v l) : Calls Tryz.prog 9 #[v, .string key, .string val, .int .i64 n] w (LawIs w) := by
  obtain ⟨a, c, rfl, hm⟩ := h.len
  have H : Hid (Rawl (· < w.heap.size) w (.slice a l.length c) l ∧ (8 ≤ 700 ∧ 700 ≤ 4096) ∧ (-9223372036854775808 ≤ n ∧ n ≤ 9223372036854775807)) := ⟨h, by omega, hnr⟩
  clear h hnr
  go_enter Tryz.func9, Tryz.ntmps9
  go_wp2
  go_loopw [9, 10] (fun x i wr => ∃ (j : Nat) (xi : Int), j ≤ l.length ∧ i = .int .i64 j ∧ x = .int .i64 xi ∧ Hid (Below w.heap.size w wr)) (fun _ i _ => l.length - (intOf i).toNat)
  case atStart => exact ⟨0, _, by omega, rfl, rfl, Below.refl _ _⟩
  case round =>
    obtain ⟨j, xi, hj, rfl, rfl, hT⟩ := hrel
    by_cases hlt : j < l.length
    · by_cases h3 : (j : Int) ≤ 60
      · by_cases h8 : xi ≤ 16384
        · obtain ⟨k, b, o, ka, kc, rfl, h1, h2, ⟨hs1, hs2⟩, _⟩ := H.out.1.item j hlt
          obtain ⟨kn, hkn⟩ : ∃ kn, kn = k.kids.length := ⟨_, rfl⟩
          obtain ⟨s, hs⟩ : ∃ s, s = k.s := ⟨_, rfl⟩
          rw [← hkn] at h1 hs2
          rw [← hs] at h2 hs1
          clear hkn hs
          have h1' : wr.cell? ⟨b, o + j * 2, none⟩ = some (.slice ka kn kc) := cell_on hT.out h1
          have h2' : wr.cell? ⟨b, o + j * 2 + 1, none⟩ = some (.string s) := cell_on hT.out h2
          clear h1 h2
          go_wp2_with fail
          go_quiet (fail)
          go_wp2
          go_roundw
          case rel => exact ⟨j + 1, _, by omega, by go_num, rfl, hT.out.trans (Joins.below_draws _ _ _)⟩
          case measure => simp [intOf]; omega
        · by_cases hm3 : 60 < (l.length : Int)
          · go_wp2_with fail
            refine (awake_any wr).mono ?_
            rintro e w19 ⟨rfl, hb⟩
            have H19 : Hid (Below w.heap.size w w19) := hT.out.trans (hb.mono hT.out.size)
            clear hb
            go_wp2_with fail
            go_ret
            exact ⟨rfl, H19.out⟩
          · go_wp2_with fail
            refine (awake_any wr).mono ?_
            rintro e w19 ⟨rfl, hb⟩
            have H19 : Hid (Below w.heap.size w w19) := hT.out.trans (hb.mono hT.out.size)
            clear hb
            go_wp2_with fail
            go_ret
            exact ⟨rfl, H19.out⟩
      · have hm3 : 60 < (l.length : Int) := by omega
        go_wp2_with fail
        refine (awake_any wr).mono ?_
        rintro e w19 ⟨rfl, hb⟩
        have H19 : Hid (Below w.heap.size w w19) := hT.out.trans (hb.mono hT.out.size)
        clear hb
        go_wp2_with fail
        go_ret
        exact ⟨rfl, H19.out⟩
    · by_cases hm3 : 60 < (l.length : Int)
      · go_wp2_with fail
        refine (awake_any wr).mono ?_
        rintro e w19 ⟨rfl, hb⟩
        have H19 : Hid (Below w.heap.size w w19) := hT.out.trans (hb.mono hT.out.size)
        clear hb
        go_wp2_with fail
        go_ret
        exact ⟨rfl, H19.out⟩
      · by_cases h8 : 16384 < xi
        · go_wp2_with fail
          refine (awake_any wr).mono ?_
          rintro e w19 ⟨rfl, hb⟩
          have H19 : Hid (Below w.heap.size w w19) := hT.out.trans (hb.mono hT.out.size)
          clear hb
          go_wp2_with fail
          go_ret
          exact ⟨rfl, H19.out⟩
        · by_cases hk1 : 16384 < (key.size : Int)
          · go_wp2_with fail
            refine (awake_any wr).mono ?_
            rintro e w19 ⟨rfl, hb⟩
            have H19 : Hid (Below w.heap.size w w19) := hT.out.trans (hb.mono hT.out.size)
            clear hb
            go_wp2_with fail
            go_ret
            exact ⟨rfl, H19.out⟩
          · by_cases hv1 : 16384 < (val.size : Int)
            · go_wp2_with fail
              refine (awake_any wr).mono ?_
              rintro e w19 ⟨rfl, hb⟩
              have H19 : Hid (Below w.heap.size w w19) := hT.out.trans (hb.mono hT.out.size)
              clear hb
              go_wp2_with fail
              go_ret
              exact ⟨rfl, H19.out⟩
            · have HL : Hid (l.length ≤ 60) := by show _ ≤ _; omega
              obtain ⟨w1, hw1⟩ : ∃ w1, w1 = wr := ⟨_, rfl⟩
              have H1 : Hid (Rawl (· < w.heap.size) w1 (.slice a l.length c) l ∧ Below w.heap.size w w1) := by rw [hw1]; exact ⟨H.out.1.on hT.out, hT.out⟩
              go_wp2_with fail
              rw [← hw1]
              clear hw1 hT hk1 hv1 h8 hm3 hlt hj
              as_aux_lemma =>
                refine (fresh_any w1 700 H.out.2.1).mono ?_
                rintro e w2 ⟨B, D, rfl, hsc, hst⟩
                have H2 : Hid (RawW w1 B w2 0 [] (.slice none 0 0) w2 ∧ ∀ q ∈ B.all, q < w2.heap.size) := ⟨⟨⟨_, _, [], hsc, raw_fresh hst.run, fun g hg => by simp [Value.ownBlock] at hg⟩, by simp, OwnI.nil _ _, Nat.le_refl _⟩, blk_lt hsc⟩
                clear hsc hst
                go_wp2_with fail
                go_loopw [12, 84] (fun v12 v84 wr => ∃ (j : Nat) (ids : List Int), j ≤ l.length ∧ v84 = .int .i64 j ∧ Hid (RawW w1 B w2 j ids v12 wr)) (fun _ v84 _ => l.length - (intOf v84).toNat)
                case atStart => exact ⟨0, [], by omega, rfl, H2.out.1⟩
                case round =>
                  obtain ⟨j, ids, hj, rfl, HT⟩ := hrel
                  by_cases hlt : j < l.length
                  · have hlt' : (j : Int) < (l.length : Int) := by omega
                    have hbq : Below w1.heap.size w1 wr := HT.out.below
                    obtain ⟨k, b, o, ka, kc, rfl, h1, h2, ⟨hs1, hs2⟩, hki, hkc1, hkc2⟩ := (H1.out.1.on hbq).item j hlt
                    obtain ⟨kn, hkn⟩ : ∃ kn, kn = k.kids.length := ⟨_, rfl⟩
                    obtain ⟨s, hs⟩ : ∃ s, s = k.s := ⟨_, rfl⟩
                    obtain ⟨kl, hkl⟩ : ∃ kl, kl = k.kids := ⟨_, rfl⟩
                    rw [← hkl] at hkn hki
                    rw [← hkl, ← hkn] at h1 hs2 hkc1
                    rw [← hkn] at hki
                    rw [← hs] at h2 hs1
                    clear hs hkl
                    obtain ⟨w3, hw3⟩ : ∃ w3, w3 = wr.alloc (.cells #[.slice ka kn kc, .string s] 67) := ⟨_, rfl⟩
                    obtain ⟨kb, hkb⟩ : ∃ kb, kb = wr.heap.size := ⟨_, rfl⟩
                    have hb3 : Below wr.heap.size wr w3 := by rw [hw3]; exact (Below.refl _ _).alloc (Nat.le_refl _) _
                    have hx3 : w3.heap[kb]? = some (.cells #[.slice ka kn kc, .string s] 67 (0, 0)) := by rw [hw3, hkb]; exact heap_alloc_last _ _
                    obtain ⟨q, hq⟩ : ∃ q : Nat, min (kn : Int) 20 = q ∧ q ≤ 20 ∧ q ≤ kn := ⟨min kn 20, by omega, by omega, by omega⟩
                    have hmin := hq.1
                    have hq1 : (q : Int) ≤ (kc : Int) := by omega
                    have hq0 : (0 : Int) ≤ (q : Int) := by omega
                    have H3 : Hid (RawW w1 B w2 j ids u12 w3 ∧ w3.heap[kb]? = some (.cells #[.slice ka kn kc, .string s] 67 (0, 0)) ∧ Ints (· < w.heap.size) w3 (.slice ka kn kc) kl ∧ kn = kl.length ∧ q ≤ kn ∧ q ≤ 20 ∧ kb = wr.heap.size ∧ j < l.length ∧ kb < w3.heap.size) := ⟨HT.out.on hb3, hx3, Ints.on hki hb3, hkn, hq.2.2, hq.2.1, hkb, hlt, heap_lt hx3⟩
                    have z0 : w3.cell? ⟨kb, 0, none⟩ = some (.slice ka kn kc) := cell_at hx3 0
                    clear HT hki hkn hb3 hx3 hbq hq hlt
                    go_wp2_with fail
                    rw [← hkb, ← hw3]
                    clear hkb hw3 h1 h2
                    go_wp2_with fail
                    obtain ⟨a12, c12, hu12⟩ := H3.out.1.own.form
                    subst hu12
                    obtain ⟨m, hm0⟩ : ∃ m, m = ids.length := ⟨_, rfl⟩
                    have hml : m ≤ j := by rw [hm0]; exact H3.out.1.len
                    rw [← hm0] at H3 ⊢
                    have HM : Hid (m = ids.length ∧ m ≤ 60) := ⟨hm0, by have := HL.out; have := H3.out.2.2.2.2.2.2.2.1; omega⟩
                    have hm60 := HM.out.2
                    clear hm0 hml
                    go_loopw [15, 17, 96] (fun v15 v17 v96 wx => ∃ (i : Nat) (kids : List Int), i ≤ q ∧ v96 = .int .i64 i ∧ Hid (OwnI w3.heap.size wx v15 kids ∧ kids.length ≤ i ∧ Below w3.heap.size w3 wx)) (fun _ _ v96 _ => q - (intOf v96).toNat)
                    case atStart => exact ⟨0, [], by omega, rfl, OwnI.nil _ _, by simp, Below.refl _ _⟩
                    case round =>
                      obtain ⟨i, kids, hi, rfl, HI⟩ := hrel
                      by_cases hlt : i < q
                      · have hlt' : (i : Int) < (q : Int) := by omega
                        obtain ⟨aa, cc, hkk, _, hcell⟩ := (Ints.on H3.out.2.2.1 HI.out.2.2).form
                        injection hkk with hk0 hk1 hk2
                        obtain ⟨kb1, ko, hka, p0⟩ := hcell i (by have := H3.out.2.2.2; omega)
                        subst hk0
                        subst hka
                        obtain ⟨y, hy⟩ : ∃ y, y = kl[i]'(by have := H3.out.2.2.2; omega) := ⟨_, rfl⟩
                        rw [← hy] at p0
                        clear hy hk1 hk2 hcell
                        rcases Nat.eq_zero_or_pos m with h0 | h0
                        · have hmz : ¬ 0 < (m : Int) := by omega
                          have H4 : Hid (OwnI w3.heap.size wr u15 kids ∧ kids.length ≤ i + 1 ∧ Below w3.heap.size w3 wr) := ⟨HI.out.1, by have := HI.out.2.1; omega, HI.out.2.2⟩
                          go_wp2_with fail
                          go_roundw
                          case rel => exact ⟨i + 1, kids, by omega, by go_num, H4⟩
                          case measure => simp [intOf]; omega
                        · have hmz : 0 < (m : Int) := by omega
                          obtain ⟨z, hz, hzm⟩ := rem_idx y m h0 (by omega)
                          have hz' : (z : Int) < (m : Int) := by omega
                          obtain ⟨ab, cb, hab, _, hcell⟩ := (OwnI.ints (H3.out.1.own.chg (T := []) (Chg.of_below HI.out.2.2) (by simp)) (by have := HM.out; omega)).form
                          injection hab with hk0 hk1 hk2
                          obtain ⟨gb, go, hka, p1⟩ := hcell z (by have := HM.out; omega)
                          subst hk0
                          subst hka
                          obtain ⟨x, hx⟩ : ∃ x, x = ids[z]'(by have := HM.out; omega) := ⟨_, rfl⟩
                          rw [← hx] at p1
                          clear hx hk1 hk2 hcell
                          have HA : Hid (OwnI w3.heap.size (wr.alloc (.cells #[.int .i64 x] 3)) u15 kids ∧ w3.heap.size ≤ (wr.alloc (.cells #[.int .i64 x] 3)).heap.size ∧ (wr.alloc (.cells #[.int .i64 x] 3)).cell? ⟨wr.heap.size, 0, none⟩ = some (.int .i64 x) ∧ Below w3.heap.size w3 (wr.alloc (.cells #[.int .i64 x] 3)) ∧ kids.length ≤ i ∧ i < q ∧ q ≤ 20) := by
                            have hb := HI.out.2.2.alloc HI.out.2.2.size (.cells #[.int .i64 x] 3)
                            exact ⟨HI.out.1.alloc _, hb.size, cell_at (heap_alloc_last wr _) 0, hb, HI.out.2.1, hlt, H3.out.2.2.2.2.2.1⟩
                          go_wp2_with (first
                            | (at_builtin; refine wpList_append_i64 rfl _ _ rfl w3.heap.size HA.out.2.1 _ kids rfl HA.out.1 _ x rfl HA.out.2.2.1 (by have := HA.out; omega) ?_)
                            | fail)
                          intro v5 w5 ho5 hb5 hg5
                          have H4 : Hid (OwnI w3.heap.size w5 v5 (kids ++ [x]) ∧ (kids ++ [x]).length ≤ i + 1 ∧ Below w3.heap.size w3 w5) := ⟨ho5, by have := HA.out.2.2.2.2.1; simp; omega, HA.out.2.2.2.1.trans hb5⟩
                          clear ho5 hb5 hg5 HA
                          go_wp2_with fail
                          go_roundw
                          case rel => exact ⟨i + 1, _, by omega, by go_num, H4⟩
                          case measure => simp [intOf]; omega
                      · have hiq : i = q := by omega
                        subst hiq
                        have hx4 : wr.heap[kb]? = some (.cells #[.slice ka kn kc, .string s] 67 (0, 0)) := (HI.out.2.2.block _ H3.out.2.2.2.2.2.2.2.2).trans H3.out.2.1
                        have z1 : wr.cell? ⟨kb, 1, none⟩ = some (.string s) := cell_at hx4 1
                        have H4 : Hid (RawW w1 B w2 j ids (.slice a12 m c12) wr ∧ OwnI w3.heap.size wr u15 kids ∧ kids.length ≤ 20 ∧ w2.heap.size ≤ w3.heap.size ∧ j < 60) := ⟨H3.out.1.on HI.out.2.2, HI.out.1, by have := HI.out.2.1; have := H3.out.2.2.2; omega, H3.out.1.low, by have := HL.out; have := H3.out.2.2.2; omega⟩
                        clear hx4 HI
                        go_wp2_with fail
                        refine (H4.out.1.put H2.out.2 (by have := H4.out; omega) H4.out.2.2.2.1 H4.out.2.1 (by have := H4.out; omega) s).mono ?_
                        rintro e w5 ⟨id, er, rfl, ho5, hl5, hok5, hno5⟩
                        have H5 : Hid (OwnI w2.heap.size w5 (.slice a12 m c12) ids ∧ w2.heap.size ≤ w5.heap.size ∧ (er = 0 → ∃ S D X, Sc w1 (B.off X) S D w5 ∧ RawSt 700 (2 * j + 1) S D (ids ++ [id]) ∧ S.has id = true ∧ Shut X (.slice a12 m c12)) ∧ (er ≠ 0 → ∃ S D X, Sc w1 (B.off X) S D w5 ∧ RawSt 700 (2 * j + 1) S D ids ∧ Shut X (.slice a12 m c12)) ∧ ids.length ≤ j ∧ j < l.length ∧ j < 60) := ⟨ho5, hl5, hok5, hno5, H4.out.1.len, H3.out.2.2.2.2.2.2.2.1, H4.out.2.2.2.2⟩
                        clear ho5 hl5 hok5 hno5 H4 z1
                        by_cases he0 : er = 0
                        · have HE : Hid (∃ S D X, Sc w1 (B.off X) S D w5 ∧ RawSt 700 (2 * j + 1) S D (ids ++ [id]) ∧ S.has id = true ∧ Shut X (.slice a12 m c12)) := H5.out.2.2.1 he0
                          subst he0
                          go_wp2_with fail
                          refine (raw_held HE.out H5.out.1 H5.out.2.1 H2.out.2 (by have := H5.out; omega)).mono ?_
                          rintro e w6 ⟨er6, rfl, hs6, ho6, hl6⟩
                          have HA : Hid (OwnI w2.heap.size (w6.alloc (.cells #[.int .i64 id] 3)) (.slice a12 m c12) ids ∧ w2.heap.size ≤ (w6.alloc (.cells #[.int .i64 id] 3)).heap.size ∧ (w6.alloc (.cells #[.int .i64 id] 3)).cell? ⟨w6.heap.size, 0, none⟩ = some (.int .i64 id) ∧ (∃ S D X, Sc w1 (B.off X) S D (w6.alloc (.cells #[.int .i64 id] 3)) ∧ RawSt 700 (2 * (j + 1)) S D (ids ++ [id]) ∧ Shut X (.slice a12 m c12))) := by
                            have hb : Below w6.heap.size w6 (w6.alloc (.cells #[.int .i64 id] 3)) := (Below.refl _ _).alloc (Nat.le_refl _) _
                            obtain ⟨S, D, X, g1, g2, g3⟩ := hs6
                            exact ⟨ho6.alloc _, Nat.le_trans hl6 hb.size, cell_at (heap_alloc_last w6 _) 0, S, D, X, g1.on hb, g2, g3⟩
                          clear hs6 ho6 hl6 HE
                          go_wp2_with (first
                            | (at_builtin; refine wpList_append_int_at rfl _ _ rfl w2.heap.size HA.out.2.1 _ ids rfl HA.out.1 _ id rfl HA.out.2.2.1 (by have := H5.out; omega) ?_)
                            | fail)
                          intro v7 w7 ho7 hg7 hat7
                          have H7 : Hid (RawW w1 B w2 (j + 1) (ids ++ [id]) v7 w7) := by
                            obtain ⟨S, D, X, g1, g2, g3⟩ := HA.out.2.2.2
                            obtain ⟨X', k1, k2⟩ := raw_grown g1 g3 H2.out.2 H2.out.1.below.size HA.out.1 HA.out.2.1 ho7 hg7 (by simpa using hat7)
                            exact ⟨⟨S, D, X', k1, g2, k2⟩, by have := H5.out; simp; omega, ho7, Nat.le_trans HA.out.2.1 (grown_chg hg7).size⟩
                          clear ho7 hg7 hat7 HA
                          go_wp2_with fail
                          go_roundw
                          case rel => exact ⟨j + 1, _, by have := H5.out; omega, by go_num, H7⟩
                          case measure => have := H5.out; simp [intOf]; omega
                        · have he0' : (er == 0) = false := by simpa using he0
                          have H7 : Hid (RawW w1 B w2 (j + 1) ids (.slice a12 m c12) w5) := by
                            obtain ⟨S, D, X, g1, g2, g3⟩ := H5.out.2.2.2.1 he0
                            exact ⟨⟨S, D, X, g1, g2.more (by omega), g3⟩, by have := H5.out; omega, H5.out.1, H5.out.2.1⟩
                          clear he0
                          go_wp2_with fail
                          go_roundw
                          case rel => exact ⟨j + 1, ids, by have := H5.out; omega, by go_num, H7⟩
                          case measure => have := H5.out; simp [intOf]; omega
                  · have hjl : j = l.length := by omega
                    subst hjl
                    have hbase := HT.out.below
                    obtain ⟨a12, c12, hu12⟩ := HT.out.own.form
                    subst hu12
                    obtain ⟨S, D, X, hsc, hrs, _⟩ := HT.out.ex
                    have hscb := sc_bares hsc
                    have HS : Hid (Sc w1 B S D wr ∧ RawSt 700 (2 * l.length) S D ids ∧ ids.length ≤ 60 ∧ Wok S D) := ⟨hscb, hrs, by have := HT.out.len; have := HL.out; omega, wok_run (by omega) hrs.run⟩
                    obtain ⟨m, hm0⟩ : ∃ m, m = ids.length := ⟨_, rfl⟩
                    have hm60 : m ≤ 60 := by have := HS.out.2.2.1; omega
                    have HI : Hid (OwnI w2.heap.size wr (.slice a12 m c12) ids ∧ m = ids.length) := ⟨by rw [hm0]; exact HT.out.own, hm0⟩
                    rw [← hm0]
                    clear hsc hrs hscb hbase HT hm0
                    have hnr := H.out.2.2
                    rcases Nat.eq_zero_or_pos m with h0 | h0
                    · have hmz : ¬ 0 < (m : Int) := by omega
                      clear h0
                      as_aux_lemma =>
                        go_wp2_with fail
                        refine (treeCheck_any wr B S D n HS.out.1.st).mono ?_
                        rintro e w5 ⟨rfl, hb5⟩
                        obtain ⟨ck, hck⟩ : ∃ ck, ck = CheckF S D n := ⟨_, rfl⟩
                        rw [← hck]
                        obtain ⟨ce, hce⟩ : ∃ ce, ce = ck.1 := ⟨_, rfl⟩
                        obtain ⟨cn, hcn⟩ : ∃ cn, cn = IntKind.i64.wrap (ck.2 : Nat) := ⟨_, rfl⟩
                        rw [← hce, ← hcn]
                        have HC : Hid (ck = CheckF S D n ∧ ce = ck.1 ∧ cn = IntKind.i64.wrap (ck.2 : Nat)) := ⟨hck, hce, hcn⟩
                        have H5 : Hid (Sc w1 B S D w5) := HS.out.1.on hb5
                        clear hb5 hck hce hcn
                        go_wp2_with fail
                        refine (treeRange_any w5 B S D n nil8 nil8 1000 H5.out.st (fun nd _ => walk_le S D nil8 nil8 1000 (n := 1048576) (by omega) nd.level nd.items [] (by simp))).mono ?_
                        rintro e w6 ⟨v6, rfl, ho6, hb6⟩
                        obtain ⟨rg, hrg⟩ : ∃ rg, rg = RangeF S D n nil8 nil8 1000 := ⟨_, rfl⟩
                        rw [← hrg] at ho6 ⊢
                        obtain ⟨re, hre⟩ : ∃ re, re = rg.1 := ⟨_, rfl⟩
                        obtain ⟨xs, hxs⟩ : ∃ xs, xs = rg.2 := ⟨_, rfl⟩
                        rw [← hre]
                        rw [← hxs] at ho6
                        obtain ⟨a6, c6, hv6⟩ := ho6.form
                        subst hv6
                        have HR : Hid (rg = RangeF S D n nil8 nil8 1000 ∧ re = rg.1 ∧ xs = rg.2) := ⟨hrg, hre, hxs⟩
                        have hx1000 : xs.length ≤ 1000 := by rw [hxs, hrg]; exact range_len S D n
                        have H6 : Hid (Sc w1 B S D w6 ∧ Ents (Oth w1 B w6) w6 (.slice a6 xs.length c6) xs) := ⟨H5.out.on hb6, (ho6.ents (by omega)).mono (fun q hq => ⟨Nat.le_trans H5.out.below.size hq.1, hq.2, fun hm => absurd (blk_lt H5.out q hm) (by have := hq.1; omega)⟩)⟩
                        clear ho6 hb6 hrg hre hxs H5
                        go_wp2_with fail
                        refine (treeGet_any w6 B S D n key H6.out.1.st).mono ?_
                        rintro e w7 ⟨rfl, hb7⟩
                        obtain ⟨gt, hgt⟩ : ∃ gt, gt = GetF S D n key := ⟨_, rfl⟩
                        rw [← hgt]
                        obtain ⟨gs, hgs⟩ : ∃ gs, gs = (valOf gt).1 := ⟨_, rfl⟩
                        obtain ⟨gb, hgb⟩ : ∃ gb, gb = (valOf gt).2 := ⟨_, rfl⟩
                        obtain ⟨ge, hge⟩ : ∃ ge, ge = erOf gt := ⟨_, rfl⟩
                        rw [← hgs, ← hgb, ← hge]
                        have HG : Hid (gt = GetF S D n key ∧ gs = (valOf gt).1 ∧ gb = (valOf gt).2 ∧ ge = erOf gt) := ⟨hgt, hgs, hgb, hge⟩
                        have H7 : Hid (Sc w1 B S D w7 ∧ Ents (Oth w1 B w7) w7 (.slice a6 xs.length c6) xs) := ⟨H6.out.1.on hb7, H6.out.2.oth (Chg.of_below hb7)⟩
                        clear hb7 hgt hgs hgb hge H6
                        go_wp2_with fail
                        refine (height_any w7 B S D n H7.out.1.st).mono ?_
                        rintro e w8 ⟨rfl, hb8⟩
                        obtain ⟨hg, hhg⟩ : ∃ hg, hg = HeightF S D n := ⟨_, rfl⟩
                        rw [← hhg]
                        obtain ⟨hh, hhh⟩ : ∃ hh, hh = hOf hg := ⟨_, rfl⟩
                        obtain ⟨he, hhe⟩ : ∃ he, he = erOf hg := ⟨_, rfl⟩
                        rw [← hhh, ← hhe]
                        have HH : Hid (hg = HeightF S D n ∧ hh = hOf hg ∧ he = erOf hg) := ⟨hhg, hhh, hhe⟩
                        have H8 : Hid (Sc w1 B S D w8 ∧ Ents (Oth w1 B w8) w8 (.slice a6 xs.length c6) xs) := ⟨H7.out.1.on hb8, H7.out.2.oth (Chg.of_below hb8)⟩
                        clear hb8 hhg hhh hhe H7
                        go_wp2_with fail
                        refine (treeDel_any w8 B S D n key H8.out.1.st HS.out.2.2.2).mono ?_
                        rintro e w9 ⟨rfl, hs9, hc9⟩
                        obtain ⟨r9, hr9⟩ : ∃ r9, r9 = DelF S D n key := ⟨_, rfl⟩
                        have hw9 := del_wok HS.out.2.2.2 n key
                        rw [← hr9] at hs9 hw9 ⊢
                        have H9 : Hid (Sc w1 B r9.st r9.dv w9 ∧ Ents (Oth w1 B w9) w9 (.slice a6 xs.length c6) xs ∧ Wok r9.st r9.dv) := ⟨H8.out.1.turn (Blk.Next.refl _ _) hs9 hc9, H8.out.2.oth hc9, hw9⟩
                        clear hs9 hc9 hr9 hw9 H8
                        go_wp2_with fail
                        refine (treePut_any w9 B r9.st r9.dv n key val H9.out.1.st H9.out.2.2).mono ?_
                        rintro e w10 ⟨rfl, hs10, hc10⟩
                        obtain ⟨r10, hr10⟩ : ∃ r10, r10 = PutF r9.st r9.dv n key val := ⟨_, rfl⟩
                        rw [← hr10] at hs10 ⊢
                        have H10 : Hid (Sc w1 B r10.st r10.dv w10 ∧ Ents (Oth w1 B w10) w10 (.slice a6 xs.length c6) xs) := ⟨H9.out.1.turn (Blk.Next.refl _ _) hs10 hc10, H9.out.2.1.oth hc10⟩
                        clear hs10 hc10 hr10 H9
                        go_wp2_with fail
                        refine (top_any w10 B r10.st r10.dv n H10.out.1.st).mono ?_
                        rintro e w11 ⟨rfl, hb11⟩
                        have H11 : Hid (Sc w1 B r10.st r10.dv w11 ∧ Ents (Oth w1 B w11) w11 (.slice a6 xs.length c6) xs) := ⟨H10.out.1.on hb11, H10.out.2.oth (Chg.of_below hb11)⟩
                        clear hb11 H10
                        go_wp2_with fail
                        refine (treeOpen_any w11 B r10.st r10.dv n H11.out.1.st).mono ?_
                        rintro e w12 ⟨v12, u12b, rfl, _, _, hb12⟩
                        have H12 : Hid (Sc w1 B r10.st r10.dv w12 ∧ Ents (Oth w1 B w12) w12 (.slice a6 xs.length c6) xs ∧ Below w.heap.size w w12) := ⟨H11.out.1.on hb12, H11.out.2.oth (Chg.of_below hb12), by
                          have h1 := (H11.out.1.on hb12).below
                          exact H1.out.2.trans (h1.mono H1.out.2.size)⟩
                        clear hb12 H11
                        by_cases hce0 : ce = 0
                        · obtain ⟨es, ht, hel, hcnt⟩ := raw_tree HS.out.2.1.run HS.out.2.1.exact HS.out.2.1.ids HS.out.2.2.1 (by rw [← HC.out.1, ← HC.out.2.1]; exact hce0)
                          have hrr : RangeF S D n nil8 nil8 1000 = (0, es) := by rw [RangeF_ok ht, rangeE_all es 1000 (by omega)]
                          have e1 : re = 0 := by rw [HR.out.2.1, HR.out.1, hrr]
                          have e2 : xs = es := by rw [HR.out.2.2, HR.out.1, hrr]
                          have e3 : cn = xs.length := by rw [HC.out.2.2, HC.out.1, hcnt, e2]; exact wrap_len (by omega)
                          have hgg : gt = .ok (getE es key) := by rw [HG.out.1]; exact GetF_ok ht key
                          have e4 : ge = 0 := by rw [HG.out.2.2.2, hgg]; rfl
                          have e5 : he = 0 := by rw [HH.out.2.2, HH.out.1, HeightF_ok ht]; rfl
                          have HV : Hid ((valOf (.ok (getE xs key))).1 = gs ∧ (valOf (.ok (getE xs key))).2 = gb) := ⟨by rw [HG.out.2.1, hgg, e2], by rw [HG.out.2.2.1, hgg, e2]⟩
                          clear HC HR HG HH hrr e2 hgg ht hel hcnt
                          subst hce0 e1 e3 e4 e5
                          go_wp2_with fail
                          refine (refGet_any _ w12 _ xs key H12.out.2.1).mono ?_
                          rintro e w13 ⟨rfl, hb13⟩
                          rw [HV.out.1, HV.out.2]
                          have H13 : Hid (Below w.heap.size w w13) := H12.out.2.2.trans (hb13.mono H12.out.2.2.size)
                          clear hb13 HV H12
                          cases gb
                          all_goals
                            go_wp2_with fail
                            refine (awake_any w13).mono ?_
                            rintro e w19 ⟨rfl, hb⟩
                            have H19 : Hid (Below w.heap.size w w19) := H13.out.trans (hb.mono H13.out.size)
                            clear hb
                            go_wp2_with fail
                            go_ret
                            exact ⟨rfl, H19.out⟩
                        · have hce0' : (ce != 0) = true := by simpa using hce0
                          have hc2 : ck.2 = 0 := by
                            rw [HC.out.1]
                            exact CheckF_err (by rw [← HC.out.1, ← HC.out.2.1]; exact hce0)
                          have e3 : cn = 0 := by rw [HC.out.2.2, hc2]; rfl
                          have hx0 : re ≠ 0 → xs.length = 0 := fun hre0 => by
                            rw [HR.out.2.2, HR.out.1]
                            exact range_err (by rw [← HR.out.1, ← HR.out.2.1]; exact hre0)
                          have hh0 : he ≠ 0 → hh = 0 := fun hhe0 => by
                            have := HH.out
                            rw [this.2.1]
                            rw [this.2.2] at hhe0
                            cases hg with
                            | ok x => exact absurd rfl hhe0
                            | error x => rfl
                          have HX : Hid (re ≠ 0 → xs.length = 0) := hx0
                          have HHH : Hid (he ≠ 0 → hh = 0) := hh0
                          subst e3
                          clear HC HR HG HH hce0 hc2 hx0 hh0
                          by_cases hre0 : re = 0
                          · subst hre0
                            by_cases hhe0 : he = 0
                            · subst hhe0
                              go_wp2_with fail
                              refine (awake_any w12).mono ?_
                              rintro e w19 ⟨rfl, hb⟩
                              have H19 : Hid (Below w.heap.size w w19) := H12.out.2.2.trans (hb.mono H12.out.2.2.size)
                              clear hb
                              go_wp2_with fail
                              go_ret
                              exact ⟨rfl, H19.out⟩
                            · have hhz := HHH.out hhe0
                              have hhe1 : (he == 0) = false := by simpa using hhe0
                              subst hhz
                              clear hhe0
                              go_wp2_with fail
                              refine (awake_any w12).mono ?_
                              rintro e w19 ⟨rfl, hb⟩
                              have H19 : Hid (Below w.heap.size w w19) := H12.out.2.2.trans (hb.mono H12.out.2.2.size)
                              clear hb
                              go_wp2_with fail
                              go_ret
                              exact ⟨rfl, H19.out⟩
                          · have hxz := HX.out hre0
                            have hre1 : (re == 0) = false := by simpa using hre0
                            rw [hxz]
                            clear hre0
                            by_cases hhe0 : he = 0
                            · subst hhe0
                              go_wp2_with fail
                              refine (awake_any w12).mono ?_
                              rintro e w19 ⟨rfl, hb⟩
                              have H19 : Hid (Below w.heap.size w w19) := H12.out.2.2.trans (hb.mono H12.out.2.2.size)
                              clear hb
                              go_wp2_with fail
                              go_ret
                              exact ⟨rfl, H19.out⟩
                            · have hhz := HHH.out hhe0
                              have hhe1 : (he == 0) = false := by simpa using hhe0
                              subst hhz
                              clear hhe0
                              go_wp2_with fail
                              refine (awake_any w12).mono ?_
                              rintro e w19 ⟨rfl, hb⟩
                              have H19 : Hid (Below w.heap.size w w19) := H12.out.2.2.trans (hb.mono H12.out.2.2.size)
                              clear hb
                              go_wp2_with fail
                              go_ret
                              exact ⟨rfl, H19.out⟩
                    · have hmz : 0 < (m : Int) := by omega
                      by_cases hn0 : 0 ≤ n
                      · obtain ⟨z, hz, hzm⟩ := rem_int n m h0 hn0 (by omega) hnr.2
                        have hz' : (z : Int) < (m : Int) := by omega
                        obtain ⟨ab, cb, hab, _, hcell⟩ := (OwnI.ints HI.out.1 (by have := HI.out; omega)).form
                        injection hab with hk0 hk1 hk2
                        obtain ⟨gb, go, hka, p1⟩ := hcell z (by have := HI.out; omega)
                        subst hk0
                        subst hka
                        obtain ⟨root, hx⟩ : ∃ x, x = ids[z]'(by have := HI.out; omega) := ⟨_, rfl⟩
                        rw [← hx] at p1
                        clear hx hk1 hk2 hcell
                        as_aux_lemma =>
                          go_wp2_with fail
                          refine (treeCheck_any wr B S D root HS.out.1.st).mono ?_
                          rintro e w5 ⟨rfl, hb5⟩
                          obtain ⟨ck, hck⟩ : ∃ ck, ck = CheckF S D root := ⟨_, rfl⟩
                          rw [← hck]
                          obtain ⟨ce, hce⟩ : ∃ ce, ce = ck.1 := ⟨_, rfl⟩
                          obtain ⟨cn, hcn⟩ : ∃ cn, cn = IntKind.i64.wrap (ck.2 : Nat) := ⟨_, rfl⟩
                          rw [← hce, ← hcn]
                          have HC : Hid (ck = CheckF S D root ∧ ce = ck.1 ∧ cn = IntKind.i64.wrap (ck.2 : Nat)) := ⟨hck, hce, hcn⟩
                          have H5 : Hid (Sc w1 B S D w5) := HS.out.1.on hb5
                          clear hb5 hck hce hcn
                          go_wp2_with fail
                          refine (treeRange_any w5 B S D root nil8 nil8 1000 H5.out.st (fun nd _ => walk_le S D nil8 nil8 1000 (n := 1048576) (by omega) nd.level nd.items [] (by simp))).mono ?_
                          rintro e w6 ⟨v6, rfl, ho6, hb6⟩
                          obtain ⟨rg, hrg⟩ : ∃ rg, rg = RangeF S D root nil8 nil8 1000 := ⟨_, rfl⟩
                          rw [← hrg] at ho6 ⊢
                          obtain ⟨re, hre⟩ : ∃ re, re = rg.1 := ⟨_, rfl⟩
                          obtain ⟨xs, hxs⟩ : ∃ xs, xs = rg.2 := ⟨_, rfl⟩
                          rw [← hre]
                          rw [← hxs] at ho6
                          obtain ⟨a6, c6, hv6⟩ := ho6.form
                          subst hv6
                          have HR : Hid (rg = RangeF S D root nil8 nil8 1000 ∧ re = rg.1 ∧ xs = rg.2) := ⟨hrg, hre, hxs⟩
                          have hx1000 : xs.length ≤ 1000 := by rw [hxs, hrg]; exact range_len S D root
                          have H6 : Hid (Sc w1 B S D w6 ∧ Ents (Oth w1 B w6) w6 (.slice a6 xs.length c6) xs) := ⟨H5.out.on hb6, (ho6.ents (by omega)).mono (fun q hq => ⟨Nat.le_trans H5.out.below.size hq.1, hq.2, fun hm => absurd (blk_lt H5.out q hm) (by have := hq.1; omega)⟩)⟩
                          clear ho6 hb6 hrg hre hxs H5
                          go_wp2_with fail
                          refine (treeGet_any w6 B S D root key H6.out.1.st).mono ?_
                          rintro e w7 ⟨rfl, hb7⟩
                          obtain ⟨gt, hgt⟩ : ∃ gt, gt = GetF S D root key := ⟨_, rfl⟩
                          rw [← hgt]
                          obtain ⟨gs, hgs⟩ : ∃ gs, gs = (valOf gt).1 := ⟨_, rfl⟩
                          obtain ⟨gb, hgb⟩ : ∃ gb, gb = (valOf gt).2 := ⟨_, rfl⟩
                          obtain ⟨ge, hge⟩ : ∃ ge, ge = erOf gt := ⟨_, rfl⟩
                          rw [← hgs, ← hgb, ← hge]
                          have HG : Hid (gt = GetF S D root key ∧ gs = (valOf gt).1 ∧ gb = (valOf gt).2 ∧ ge = erOf gt) := ⟨hgt, hgs, hgb, hge⟩
                          have H7 : Hid (Sc w1 B S D w7 ∧ Ents (Oth w1 B w7) w7 (.slice a6 xs.length c6) xs) := ⟨H6.out.1.on hb7, H6.out.2.oth (Chg.of_below hb7)⟩
                          clear hb7 hgt hgs hgb hge H6
                          go_wp2_with fail
                          refine (height_any w7 B S D root H7.out.1.st).mono ?_
                          rintro e w8 ⟨rfl, hb8⟩
                          obtain ⟨hg, hhg⟩ : ∃ hg, hg = HeightF S D root := ⟨_, rfl⟩
                          rw [← hhg]
                          obtain ⟨hh, hhh⟩ : ∃ hh, hh = hOf hg := ⟨_, rfl⟩
                          obtain ⟨he, hhe⟩ : ∃ he, he = erOf hg := ⟨_, rfl⟩
                          rw [← hhh, ← hhe]
                          have HH : Hid (hg = HeightF S D root ∧ hh = hOf hg ∧ he = erOf hg) := ⟨hhg, hhh, hhe⟩
                          have H8 : Hid (Sc w1 B S D w8 ∧ Ents (Oth w1 B w8) w8 (.slice a6 xs.length c6) xs) := ⟨H7.out.1.on hb8, H7.out.2.oth (Chg.of_below hb8)⟩
                          clear hb8 hhg hhh hhe H7
                          go_wp2_with fail
                          refine (treeDel_any w8 B S D root key H8.out.1.st HS.out.2.2.2).mono ?_
                          rintro e w9 ⟨rfl, hs9, hc9⟩
                          obtain ⟨r9, hr9⟩ : ∃ r9, r9 = DelF S D root key := ⟨_, rfl⟩
                          have hw9 := del_wok HS.out.2.2.2 root key
                          rw [← hr9] at hs9 hw9 ⊢
                          have H9 : Hid (Sc w1 B r9.st r9.dv w9 ∧ Ents (Oth w1 B w9) w9 (.slice a6 xs.length c6) xs ∧ Wok r9.st r9.dv) := ⟨H8.out.1.turn (Blk.Next.refl _ _) hs9 hc9, H8.out.2.oth hc9, hw9⟩
                          clear hs9 hc9 hr9 hw9 H8
                          go_wp2_with fail
                          refine (treePut_any w9 B r9.st r9.dv root key val H9.out.1.st H9.out.2.2).mono ?_
                          rintro e w10 ⟨rfl, hs10, hc10⟩
                          obtain ⟨r10, hr10⟩ : ∃ r10, r10 = PutF r9.st r9.dv root key val := ⟨_, rfl⟩
                          rw [← hr10] at hs10 ⊢
                          have H10 : Hid (Sc w1 B r10.st r10.dv w10 ∧ Ents (Oth w1 B w10) w10 (.slice a6 xs.length c6) xs) := ⟨H9.out.1.turn (Blk.Next.refl _ _) hs10 hc10, H9.out.2.1.oth hc10⟩
                          clear hs10 hc10 hr10 H9
                          go_wp2_with fail
                          refine (top_any w10 B r10.st r10.dv root H10.out.1.st).mono ?_
                          rintro e w11 ⟨rfl, hb11⟩
                          have H11 : Hid (Sc w1 B r10.st r10.dv w11 ∧ Ents (Oth w1 B w11) w11 (.slice a6 xs.length c6) xs) := ⟨H10.out.1.on hb11, H10.out.2.oth (Chg.of_below hb11)⟩
                          clear hb11 H10
                          go_wp2_with fail
                          refine (treeOpen_any w11 B r10.st r10.dv root H11.out.1.st).mono ?_
                          rintro e w12 ⟨v12, u12b, rfl, _, _, hb12⟩
                          have H12 : Hid (Sc w1 B r10.st r10.dv w12 ∧ Ents (Oth w1 B w12) w12 (.slice a6 xs.length c6) xs ∧ Below w.heap.size w w12) := ⟨H11.out.1.on hb12, H11.out.2.oth (Chg.of_below hb12), by
                            have h1 := (H11.out.1.on hb12).below
                            exact H1.out.2.trans (h1.mono H1.out.2.size)⟩
                          clear hb12 H11
                          by_cases hce0 : ce = 0
                          · obtain ⟨es, ht, hel, hcnt⟩ := raw_tree HS.out.2.1.run HS.out.2.1.exact HS.out.2.1.ids HS.out.2.2.1 (by rw [← HC.out.1, ← HC.out.2.1]; exact hce0)
                            have hrr : RangeF S D root nil8 nil8 1000 = (0, es) := by rw [RangeF_ok ht, rangeE_all es 1000 (by omega)]
                            have e1 : re = 0 := by rw [HR.out.2.1, HR.out.1, hrr]
                            have e2 : xs = es := by rw [HR.out.2.2, HR.out.1, hrr]
                            have e3 : cn = xs.length := by rw [HC.out.2.2, HC.out.1, hcnt, e2]; exact wrap_len (by omega)
                            have hgg : gt = .ok (getE es key) := by rw [HG.out.1]; exact GetF_ok ht key
                            have e4 : ge = 0 := by rw [HG.out.2.2.2, hgg]; rfl
                            have e5 : he = 0 := by rw [HH.out.2.2, HH.out.1, HeightF_ok ht]; rfl
                            have HV : Hid ((valOf (.ok (getE xs key))).1 = gs ∧ (valOf (.ok (getE xs key))).2 = gb) := ⟨by rw [HG.out.2.1, hgg, e2], by rw [HG.out.2.2.1, hgg, e2]⟩
                            clear HC HR HG HH hrr e2 hgg ht hel hcnt
                            subst hce0 e1 e3 e4 e5
                            go_wp2_with fail
                            refine (refGet_any _ w12 _ xs key H12.out.2.1).mono ?_
                            rintro e w13 ⟨rfl, hb13⟩
                            rw [HV.out.1, HV.out.2]
                            have H13 : Hid (Below w.heap.size w w13) := H12.out.2.2.trans (hb13.mono H12.out.2.2.size)
                            clear hb13 HV H12
                            cases gb
                            all_goals
                              go_wp2_with fail
                              refine (awake_any w13).mono ?_
                              rintro e w19 ⟨rfl, hb⟩
                              have H19 : Hid (Below w.heap.size w w19) := H13.out.trans (hb.mono H13.out.size)
                              clear hb
                              go_wp2_with fail
                              go_ret
                              exact ⟨rfl, H19.out⟩
                          · have hce0' : (ce != 0) = true := by simpa using hce0
                            have hc2 : ck.2 = 0 := by
                              rw [HC.out.1]
                              exact CheckF_err (by rw [← HC.out.1, ← HC.out.2.1]; exact hce0)
                            have e3 : cn = 0 := by rw [HC.out.2.2, hc2]; rfl
                            have hx0 : re ≠ 0 → xs.length = 0 := fun hre0 => by
                              rw [HR.out.2.2, HR.out.1]
                              exact range_err (by rw [← HR.out.1, ← HR.out.2.1]; exact hre0)
                            have hh0 : he ≠ 0 → hh = 0 := fun hhe0 => by
                              have := HH.out
                              rw [this.2.1]
                              rw [this.2.2] at hhe0
                              cases hg with
                              | ok x => exact absurd rfl hhe0
                              | error x => rfl
                            have HX : Hid (re ≠ 0 → xs.length = 0) := hx0
                            have HHH : Hid (he ≠ 0 → hh = 0) := hh0
                            subst e3
                            clear HC HR HG HH hce0 hc2 hx0 hh0
                            by_cases hre0 : re = 0
                            · subst hre0
                              by_cases hhe0 : he = 0
                              · subst hhe0
                                go_wp2_with fail
                                refine (awake_any w12).mono ?_
                                rintro e w19 ⟨rfl, hb⟩
                                have H19 : Hid (Below w.heap.size w w19) := H12.out.2.2.trans (hb.mono H12.out.2.2.size)
                                clear hb
                                go_wp2_with fail
                                go_ret
                                exact ⟨rfl, H19.out⟩
                              · have hhz := HHH.out hhe0
                                have hhe1 : (he == 0) = false := by simpa using hhe0
                                subst hhz
                                clear hhe0
                                go_wp2_with fail
                                refine (awake_any w12).mono ?_
                                rintro e w19 ⟨rfl, hb⟩
                                have H19 : Hid (Below w.heap.size w w19) := H12.out.2.2.trans (hb.mono H12.out.2.2.size)
                                clear hb
                                go_wp2_with fail
                                go_ret
                                exact ⟨rfl, H19.out⟩
                            · have hxz := HX.out hre0
                              have hre1 : (re == 0) = false := by simpa using hre0
                              rw [hxz]
                              clear hre0
                              by_cases hhe0 : he = 0
                              · subst hhe0
                                go_wp2_with fail
                                refine (awake_any w12).mono ?_
                                rintro e w19 ⟨rfl, hb⟩
                                have H19 : Hid (Below w.heap.size w w19) := H12.out.2.2.trans (hb.mono H12.out.2.2.size)
                                clear hb
                                go_wp2_with fail
                                go_ret
                                exact ⟨rfl, H19.out⟩
                              · have hhz := HHH.out hhe0
                                have hhe1 : (he == 0) = false := by simpa using hhe0
                                subst hhz
                                clear hhe0
                                go_wp2_with fail
                                refine (awake_any w12).mono ?_
                                rintro e w19 ⟨rfl, hb⟩
                                have H19 : Hid (Below w.heap.size w w19) := H12.out.2.2.trans (hb.mono H12.out.2.2.size)
                                clear hb
                                go_wp2_with fail
                                go_ret
                                exact ⟨rfl, H19.out⟩
                      · clear h0
                        as_aux_lemma =>
                          go_wp2_with fail
                          refine (treeCheck_any wr B S D n HS.out.1.st).mono ?_
                          rintro e w5 ⟨rfl, hb5⟩
                          obtain ⟨ck, hck⟩ : ∃ ck, ck = CheckF S D n := ⟨_, rfl⟩
                          rw [← hck]
                          obtain ⟨ce, hce⟩ : ∃ ce, ce = ck.1 := ⟨_, rfl⟩
                          obtain ⟨cn, hcn⟩ : ∃ cn, cn = IntKind.i64.wrap (ck.2 : Nat) := ⟨_, rfl⟩
                          rw [← hce, ← hcn]
                          have HC : Hid (ck = CheckF S D n ∧ ce = ck.1 ∧ cn = IntKind.i64.wrap (ck.2 : Nat)) := ⟨hck, hce, hcn⟩
                          have H5 : Hid (Sc w1 B S D w5) := HS.out.1.on hb5
                          clear hb5 hck hce hcn
                          go_wp2_with fail
                          refine (treeRange_any w5 B S D n nil8 nil8 1000 H5.out.st (fun nd _ => walk_le S D nil8 nil8 1000 (n := 1048576) (by omega) nd.level nd.items [] (by simp))).mono ?_
                          rintro e w6 ⟨v6, rfl, ho6, hb6⟩
                          obtain ⟨rg, hrg⟩ : ∃ rg, rg = RangeF S D n nil8 nil8 1000 := ⟨_, rfl⟩
                          rw [← hrg] at ho6 ⊢
                          obtain ⟨re, hre⟩ : ∃ re, re = rg.1 := ⟨_, rfl⟩
                          obtain ⟨xs, hxs⟩ : ∃ xs, xs = rg.2 := ⟨_, rfl⟩
                          rw [← hre]
                          rw [← hxs] at ho6
                          obtain ⟨a6, c6, hv6⟩ := ho6.form
                          subst hv6
                          have HR : Hid (rg = RangeF S D n nil8 nil8 1000 ∧ re = rg.1 ∧ xs = rg.2) := ⟨hrg, hre, hxs⟩
                          have hx1000 : xs.length ≤ 1000 := by rw [hxs, hrg]; exact range_len S D n
                          have H6 : Hid (Sc w1 B S D w6 ∧ Ents (Oth w1 B w6) w6 (.slice a6 xs.length c6) xs) := ⟨H5.out.on hb6, (ho6.ents (by omega)).mono (fun q hq => ⟨Nat.le_trans H5.out.below.size hq.1, hq.2, fun hm => absurd (blk_lt H5.out q hm) (by have := hq.1; omega)⟩)⟩
                          clear ho6 hb6 hrg hre hxs H5
                          go_wp2_with fail
                          refine (treeGet_any w6 B S D n key H6.out.1.st).mono ?_
                          rintro e w7 ⟨rfl, hb7⟩
                          obtain ⟨gt, hgt⟩ : ∃ gt, gt = GetF S D n key := ⟨_, rfl⟩
                          rw [← hgt]
                          obtain ⟨gs, hgs⟩ : ∃ gs, gs = (valOf gt).1 := ⟨_, rfl⟩
                          obtain ⟨gb, hgb⟩ : ∃ gb, gb = (valOf gt).2 := ⟨_, rfl⟩
                          obtain ⟨ge, hge⟩ : ∃ ge, ge = erOf gt := ⟨_, rfl⟩
                          rw [← hgs, ← hgb, ← hge]
                          have HG : Hid (gt = GetF S D n key ∧ gs = (valOf gt).1 ∧ gb = (valOf gt).2 ∧ ge = erOf gt) := ⟨hgt, hgs, hgb, hge⟩
                          have H7 : Hid (Sc w1 B S D w7 ∧ Ents (Oth w1 B w7) w7 (.slice a6 xs.length c6) xs) := ⟨H6.out.1.on hb7, H6.out.2.oth (Chg.of_below hb7)⟩
                          clear hb7 hgt hgs hgb hge H6
                          go_wp2_with fail
                          refine (height_any w7 B S D n H7.out.1.st).mono ?_
                          rintro e w8 ⟨rfl, hb8⟩
                          obtain ⟨hg, hhg⟩ : ∃ hg, hg = HeightF S D n := ⟨_, rfl⟩
                          rw [← hhg]
                          obtain ⟨hh, hhh⟩ : ∃ hh, hh = hOf hg := ⟨_, rfl⟩
                          obtain ⟨he, hhe⟩ : ∃ he, he = erOf hg := ⟨_, rfl⟩
                          rw [← hhh, ← hhe]
                          have HH : Hid (hg = HeightF S D n ∧ hh = hOf hg ∧ he = erOf hg) := ⟨hhg, hhh, hhe⟩
                          have H8 : Hid (Sc w1 B S D w8 ∧ Ents (Oth w1 B w8) w8 (.slice a6 xs.length c6) xs) := ⟨H7.out.1.on hb8, H7.out.2.oth (Chg.of_below hb8)⟩
                          clear hb8 hhg hhh hhe H7
                          go_wp2_with fail
                          refine (treeDel_any w8 B S D n key H8.out.1.st HS.out.2.2.2).mono ?_
                          rintro e w9 ⟨rfl, hs9, hc9⟩
                          obtain ⟨r9, hr9⟩ : ∃ r9, r9 = DelF S D n key := ⟨_, rfl⟩
                          have hw9 := del_wok HS.out.2.2.2 n key
                          rw [← hr9] at hs9 hw9 ⊢
                          have H9 : Hid (Sc w1 B r9.st r9.dv w9 ∧ Ents (Oth w1 B w9) w9 (.slice a6 xs.length c6) xs ∧ Wok r9.st r9.dv) := ⟨H8.out.1.turn (Blk.Next.refl _ _) hs9 hc9, H8.out.2.oth hc9, hw9⟩
                          clear hs9 hc9 hr9 hw9 H8
                          go_wp2_with fail
                          refine (treePut_any w9 B r9.st r9.dv n key val H9.out.1.st H9.out.2.2).mono ?_
                          rintro e w10 ⟨rfl, hs10, hc10⟩
                          obtain ⟨r10, hr10⟩ : ∃ r10, r10 = PutF r9.st r9.dv n key val := ⟨_, rfl⟩
                          rw [← hr10] at hs10 ⊢
                          have H10 : Hid (Sc w1 B r10.st r10.dv w10 ∧ Ents (Oth w1 B w10) w10 (.slice a6 xs.length c6) xs) := ⟨H9.out.1.turn (Blk.Next.refl _ _) hs10 hc10, H9.out.2.1.oth hc10⟩
                          clear hs10 hc10 hr10 H9
                          go_wp2_with fail
                          refine (top_any w10 B r10.st r10.dv n H10.out.1.st).mono ?_
                          rintro e w11 ⟨rfl, hb11⟩
                          have H11 : Hid (Sc w1 B r10.st r10.dv w11 ∧ Ents (Oth w1 B w11) w11 (.slice a6 xs.length c6) xs) := ⟨H10.out.1.on hb11, H10.out.2.oth (Chg.of_below hb11)⟩
                          clear hb11 H10
                          go_wp2_with fail
                          refine (treeOpen_any w11 B r10.st r10.dv n H11.out.1.st).mono ?_
                          rintro e w12 ⟨v12, u12b, rfl, _, _, hb12⟩
                          have H12 : Hid (Sc w1 B r10.st r10.dv w12 ∧ Ents (Oth w1 B w12) w12 (.slice a6 xs.length c6) xs ∧ Below w.heap.size w w12) := ⟨H11.out.1.on hb12, H11.out.2.oth (Chg.of_below hb12), by
                            have h1 := (H11.out.1.on hb12).below
                            exact H1.out.2.trans (h1.mono H1.out.2.size)⟩
                          clear hb12 H11
                          by_cases hce0 : ce = 0
                          · obtain ⟨es, ht, hel, hcnt⟩ := raw_tree HS.out.2.1.run HS.out.2.1.exact HS.out.2.1.ids HS.out.2.2.1 (by rw [← HC.out.1, ← HC.out.2.1]; exact hce0)
                            have hrr : RangeF S D n nil8 nil8 1000 = (0, es) := by rw [RangeF_ok ht, rangeE_all es 1000 (by omega)]
                            have e1 : re = 0 := by rw [HR.out.2.1, HR.out.1, hrr]
                            have e2 : xs = es := by rw [HR.out.2.2, HR.out.1, hrr]
                            have e3 : cn = xs.length := by rw [HC.out.2.2, HC.out.1, hcnt, e2]; exact wrap_len (by omega)
                            have hgg : gt = .ok (getE es key) := by rw [HG.out.1]; exact GetF_ok ht key
                            have e4 : ge = 0 := by rw [HG.out.2.2.2, hgg]; rfl
                            have e5 : he = 0 := by rw [HH.out.2.2, HH.out.1, HeightF_ok ht]; rfl
                            have HV : Hid ((valOf (.ok (getE xs key))).1 = gs ∧ (valOf (.ok (getE xs key))).2 = gb) := ⟨by rw [HG.out.2.1, hgg, e2], by rw [HG.out.2.2.1, hgg, e2]⟩
                            clear HC HR HG HH hrr e2 hgg ht hel hcnt
                            subst hce0 e1 e3 e4 e5
                            go_wp2_with fail
                            refine (refGet_any _ w12 _ xs key H12.out.2.1).mono ?_
                            rintro e w13 ⟨rfl, hb13⟩
                            rw [HV.out.1, HV.out.2]
                            have H13 : Hid (Below w.heap.size w w13) := H12.out.2.2.trans (hb13.mono H12.out.2.2.size)
                            clear hb13 HV H12
                            cases gb
                            all_goals
                              go_wp2_with fail
                              refine (awake_any w13).mono ?_
                              rintro e w19 ⟨rfl, hb⟩
                              have H19 : Hid (Below w.heap.size w w19) := H13.out.trans (hb.mono H13.out.size)
                              clear hb
                              go_wp2_with fail
                              go_ret
                              exact ⟨rfl, H19.out⟩
                          · have hce0' : (ce != 0) = true := by simpa using hce0
                            have hc2 : ck.2 = 0 := by
                              rw [HC.out.1]
                              exact CheckF_err (by rw [← HC.out.1, ← HC.out.2.1]; exact hce0)
                            have e3 : cn = 0 := by rw [HC.out.2.2, hc2]; rfl
                            have hx0 : re ≠ 0 → xs.length = 0 := fun hre0 => by
                              rw [HR.out.2.2, HR.out.1]
                              exact range_err (by rw [← HR.out.1, ← HR.out.2.1]; exact hre0)
                            have hh0 : he ≠ 0 → hh = 0 := fun hhe0 => by
                              have := HH.out
                              rw [this.2.1]
                              rw [this.2.2] at hhe0
                              cases hg with
                              | ok x => exact absurd rfl hhe0
                              | error x => rfl
                            have HX : Hid (re ≠ 0 → xs.length = 0) := hx0
                            have HHH : Hid (he ≠ 0 → hh = 0) := hh0
                            subst e3
                            clear HC HR HG HH hce0 hc2 hx0 hh0
                            by_cases hre0 : re = 0
                            · subst hre0
                              by_cases hhe0 : he = 0
                              · subst hhe0
                                go_wp2_with fail
                                refine (awake_any w12).mono ?_
                                rintro e w19 ⟨rfl, hb⟩
                                have H19 : Hid (Below w.heap.size w w19) := H12.out.2.2.trans (hb.mono H12.out.2.2.size)
                                clear hb
                                go_wp2_with fail
                                go_ret
                                exact ⟨rfl, H19.out⟩
                              · have hhz := HHH.out hhe0
                                have hhe1 : (he == 0) = false := by simpa using hhe0
                                subst hhz
                                clear hhe0
                                go_wp2_with fail
                                refine (awake_any w12).mono ?_
                                rintro e w19 ⟨rfl, hb⟩
                                have H19 : Hid (Below w.heap.size w w19) := H12.out.2.2.trans (hb.mono H12.out.2.2.size)
                                clear hb
                                go_wp2_with fail
                                go_ret
                                exact ⟨rfl, H19.out⟩
                            · have hxz := HX.out hre0
                              have hre1 : (re == 0) = false := by simpa using hre0
                              rw [hxz]
                              clear hre0
                              by_cases hhe0 : he = 0
                              · subst hhe0
                                go_wp2_with fail
                                refine (awake_any w12).mono ?_
                                rintro e w19 ⟨rfl, hb⟩
                                have H19 : Hid (Below w.heap.size w w19) := H12.out.2.2.trans (hb.mono H12.out.2.2.size)
                                clear hb
                                go_wp2_with fail
                                go_ret
                                exact ⟨rfl, H19.out⟩
                              · have hhz := HHH.out hhe0
                                have hhe1 : (he == 0) = false := by simpa using hhe0
                                subst hhz
                                clear hhe0
                                go_wp2_with fail
                                refine (awake_any w12).mono ?_
                                rintro e w19 ⟨rfl, hb⟩
                                have H19 : Hid (Below w.heap.size w w19) := H12.out.2.2.trans (hb.mono H12.out.2.2.size)
                                clear hb
                                go_wp2_with fail
                                go_ret
                                exact ⟨rfl, H19.out⟩
end Go.Proofs.YtadmecjdihfmeaaGreat.Tre

/- Statements of layer 7: for every input the law returns true. No condition. (Printed by wip/tools/treelaws.py.) -/
namespace Go.Proofs.YtadmecjdihfmeaaGreat.Tre
set_option maxRecDepth 100000
set_option linter.unusedVariables false
set_option linter.unusedSimpArgs false
open Go.ChangeShapes Go.WideShapes Go.ChangeAt Go.RowKit Go.WideMaps Go.WideElems Go.Proofs.YtadmecjdihfmeaaGreat.Mem
open Go.ChangeMaps (open_string shut_string)

theorem own : ownKnob Tryz.prog.godebug = none := by kernel_rfl
theorem laidOut : laidOutB Tryz.prog = true := by kernel_rfl

theorem do_of {H : Type} {enc : TypeId × Value → H} {W : World} {n0 n1 n2 : Nat} {c0 c1 c2 : Value} {y0 y1 y2 : DataW H × List MemPlace}
    (h0 : DataW.trod enc Tryz.prog W 0 (fun _ => true) true n0 3 [c0] = some y0) (h1 : DataW.trod enc Tryz.prog W 0 (fun _ => true) true n1 9 [c1] = some y1)
    (h2 : DataW.trod enc Tryz.prog W 0 (fun _ => true) true n2 9 [c2] = some y2) (hw : Mem.Reached ((DataW.agg [y0.1, y1.1, y2.1]).weights Tryz.prog 45)) : ∃ k, DoIs W [c0, c1, c2] k := by
  obtain ⟨x0, q0, _, w0⟩ := DataW.trod_int Tryz.underlying3 h0
  obtain ⟨x1, q1, r1, w1⟩ := DataW.trod_string Tryz.underlying9 h1
  obtain ⟨x2, q2, r2, w2⟩ := DataW.trod_string Tryz.underlying9 h2
  rw [r1, r2] at hw
  simp only [DataW.weights, Tryz.underlying45] at hw
  have hs1 := open_str_w (t := 9) (P := Tryz.prog) (H := H) (s := x1) (fun n hn => hw n (by simp [DataW.weightsEach, hn]))
  have hs2 := open_str_w (t := 9) (P := Tryz.prog) (H := H) (s := x2) (fun n hn => hw n (by simp [DataW.weightsEach, hn]))
  simp only [List.cons.injEq, and_true] at q0 q1 q2
  subst q0 q1 q2
  exact ⟨⟨x0, x1, x2⟩, rfl, w0, hs1, hs2⟩
/-- A []Do that came in. -/
theorem open_dos {H : Type} {enc : TypeId × Value → H} {W : World} {base : Nat} {v : Value} {d : DataW H} {ps : List MemPlace} (hval : Value.okWide Tryz.prog W .any base 22 v)
    (h : DataW.Trod enc Tryz.prog W 0 (fun _ => true) true 22 v d ps) (hp : ∀ x ∈ ps, x.block < W.heap.size) (hw : Mem.Reached (d.weights Tryz.prog 22)) : ∃ l, Does (· < W.heap.size) W v l := by
  obtain ⟨a, len, cap, rfl⟩ := okWide_slice Tryz.underlying22 hval
  obtain ⟨fuel, hf⟩ := h
  obtain ⟨v', l, hv, hs, _⟩ := open_slice_w (α := DoE) (sz := 3) (R := DoIs) (p := (· < W.heap.size)) Tryz.underlying22 (by kernel_rfl) (by omega) hf hp hw (fun n cs' y htr hz hr => by
    obtain ⟨y0, y1, y2, m, rfl, hl, h0, h1, h2⟩ := Deep.trod_struct3 (f0 := _) (f1 := _) (f2 := _) Tryz.underlying45 htr
    have hl3 : cs'.length = 3 := hl
    match cs', hl3 with
    | [c0, c1, c2], _ => exact do_of h0 h1 h2 hr)
  have e : v' = .slice a len cap := by simpa [Value.cells] using hv.symm
  subst e
  exact ⟨l, hs⟩
/-- A Do that came in. -/
theorem open_do {H : Type} {enc : TypeId × Value → H} {W : World} {base : Nat} {v : Value} {d : DataW H} {ps : List MemPlace} (hval : Value.okWide Tryz.prog W .any base 45 v)
    (h : DataW.Trod enc Tryz.prog W 0 (fun _ => true) true 45 v d ps) (hw : Mem.Reached (d.weights Tryz.prog 45)) : ∃ k : DoE, v = k.v ∧ k.fits := by
  obtain ⟨c0, c1, c2, y0, y1, y2, m, rfl, rfl, rfl, h0, h1, h2⟩ := Joins.open_agg3 Tryz.underlying45 (by kernel_rfl) (by kernel_rfl) hval h
  obtain ⟨k, hcs, hf⟩ := do_of h0 h1 h2 hw
  simp only [List.cons.injEq, and_true] at hcs
  obtain ⟨rfl, rfl, rfl⟩ := hcs
  exact ⟨k, rfl, hf⟩
theorem cap_of {H : Type} {enc : TypeId × Value → H} {W : World} {n2 : Nat} {c2 : Value} {y2 : DataW H × List MemPlace} (h2 : DataW.trod enc Tryz.prog W 0 (fun _ => true) true n2 65 [c2] = some y2) : ∃ a n c, c2 = .slice a n c ∧ n ≤ c ∧ c ≤ 9223372036854775807 := by
  rcases Deep.open_slice Tryz.underlying65 h2 with ⟨e, _⟩ | ⟨a, len, cap, m, n, D, Pl, e, _, hl, hm, _⟩
  · injection e with e
    exact ⟨none, 0, 0, e, by omega, by omega⟩
  · injection e with e
    exact ⟨_, len, cap, e, hl, hm⟩
theorem raw_of {H : Type} {enc : TypeId × Value → H} {p : Nat → Prop} {W : World} {n0 n1 : Nat} {c0 c1 : Value} {y0 y1 : DataW H × List MemPlace}
    (h0 : DataW.trod enc Tryz.prog W 0 (fun _ => true) true n0 65 [c0] = some y0) (h1 : DataW.trod enc Tryz.prog W 0 (fun _ => true) true n1 9 [c1] = some y1) (hp : ∀ z ∈ y0.2, p z.block)
    (hw : Mem.Reached ((DataW.agg [y0.1, y1.1]).weights Tryz.prog 67)) : ∃ k, RwIs p W [c0, c1] k := by
  obtain ⟨a, n, c, hc, h4, h5⟩ := cap_of h0
  obtain ⟨x1, q1, r1, w1⟩ := DataW.trod_string Tryz.underlying9 h1
  rw [r1] at hw
  simp only [DataW.weights, Tryz.underlying67] at hw
  obtain ⟨v2, l2, q2, hi, _, hb⟩ := open_ints_w Tryz.underlying65 Tryz.underlying3 (by kernel_rfl) h0 hp (fun n hn => hw n (by simp [DataW.weightsEach, hn]))
  have hs := open_str_w (t := 9) (P := Tryz.prog) (H := H) (s := x1) (fun n hn => hw n (by simp [DataW.weightsEach, hn]))
  have e8 : Tryz.prog.bytesOf 3 = 8 := by kernel_rfl
  rw [e8] at hb
  simp only [List.cons.injEq, and_true] at q1 q2
  subst q1 q2
  obtain ⟨a', c', e, _⟩ := hi.form
  rw [hc] at e
  injection e with ea en ec
  subst ea en ec
  subst hc
  have hb' : l2.length * 8 ≤ 140737488351232 := by simpa [reachBytes] using hb
  exact ⟨⟨l2, x1⟩, a, c, rfl, ⟨hs, by show l2.length ≤ _; omega⟩, hi, h4, h5⟩
/-- A []Raw that came in. -/
theorem open_raws {H : Type} {enc : TypeId × Value → H} {W : World} {base : Nat} {v : Value} {d : DataW H} {ps : List MemPlace} (hval : Value.okWide Tryz.prog W .any base 64 v)
    (h : DataW.Trod enc Tryz.prog W 0 (fun _ => true) true 64 v d ps) (hp : ∀ x ∈ ps, x.block < W.heap.size) (hw : Mem.Reached (d.weights Tryz.prog 64)) : ∃ l, Rawl (· < W.heap.size) W v l := by
  obtain ⟨a, len, cap, rfl⟩ := okWide_slice Tryz.underlying64 hval
  obtain ⟨fuel, hf⟩ := h
  obtain ⟨v', l, hv, hs, _⟩ := open_slice_w (α := RwT) (sz := 2) (R := RwIs (· < W.heap.size)) (p := (· < W.heap.size)) Tryz.underlying64 (by kernel_rfl) (by omega) hf hp hw (fun n cs' y htr hz hr => by
    obtain ⟨y0, y1, m, rfl, hl, h0, h1⟩ := trod_struct2 (f0 := _) (f1 := _) Tryz.underlying67 htr
    have hl2 : cs'.length = 2 := hl
    match cs', hl2 with
    | [c0, c1], _ => exact raw_of h0 h1 (fun z hzz => hz z (by simp [hzz])) hr)
  have e : v' = .slice a len cap := by simpa [Value.cells] using hv.symm
  subst e
  exact ⟨l, hs⟩
theorem wf_range {i : Int} (h : (Lit.int .i64 i).wf = true) : -9223372036854775808 ≤ i ∧ i ≤ 9223372036854775807 := by
  simp only [Lit.wf, IntKind.min, IntKind.max, IntKind.signed, IntKind.bits, Bool.and_eq_true] at h
  simp at h
  omega

set_option maxRecDepth 100000 in
theorem treeRaw_lifted (os : Os) (started : os.Started) (H : Type) (enc : TypeId × Value → H) :
    ReturnsInHanded {} Tryz.checked os 9 .any (Rows.treeRawSpec.pre6 enc Tryz.prog Tryz.f9 Rows.treeRawRow.domain false) (Rows.treeRawSpec.post enc Tryz.prog Tryz.f9 false true false false) := by
  refine LawFrame.lifted (C := Tryz.checked) (tb := 4) own started (by kernel_rfl) Tryz.func9
    (ChangeSpec.witness6 (enc := enc) (C := Tryz.checked) false ⟨#[], #[.slice none 0 0, .string ⟨#[]⟩, .string ⟨#[]⟩, .int .i64 0], []⟩ 8 (by kernel_rfl) (by kernel_rfl) (by kernel_rfl) (by kernel_rfl))
    laidOut (by kernel_rfl) ⟨rfl, fun H ds hd => by match ds, hd with | [d0, d1, d2, d3], _ => exact ⟨rfl, rfl, rfl⟩⟩ rfl Tryz.underlying4 ?_
  intro W base args ds p hval0 hA0 hlt hfz hsz0
  have hval : ∀ (j : Nat) t v, Tryz.f9.params[j]? = some t → args[j]? = some v → Value.okWide Tryz.prog W .any base t v := hval0
  have hA : DataW.TrodAll enc Tryz.prog W 0 (fun _ => true) true Tryz.f9.params.toList args.toList ds p := hA0
  have hsz : (DataW.weightsEach Tryz.prog Tryz.f9.params.toList ds).all (· ≤ reachBytes) = true := hsz0
  rw [Tryz.params9] at hA hval hsz
  obtain ⟨args⟩ := args
  simp only at hA
  obtain ⟨v0, vs0, d0, ds0, p0, q0, rfl, rfl, rfl, h0, hA⟩ := trodAll_cons hA
  obtain ⟨v1, vs1, d1, ds1, p1, q1, rfl, rfl, rfl, h1, hA⟩ := trodAll_cons hA
  obtain ⟨v2, vs2, d2, ds2, p2, q2, rfl, rfl, rfl, h2, hA⟩ := trodAll_cons hA
  obtain ⟨v3, vs3, d3, ds3, p3, q3, rfl, rfl, rfl, h3, hA⟩ := trodAll_cons hA
  obtain ⟨rfl, rfl, rfl⟩ := trodAll_nil hA
  obtain ⟨l, Hl⟩ := open_raws (hval 0 64 v0 rfl rfl) h0 (fun x hx => hlt x (by simp [hx])) (fun n hn => of_decide_eq_true (List.all_eq_true.1 hsz n (by simp [DataW.weightsEach, hn])))
  obtain ⟨key, rfl, rfl, rfl, wkey⟩ := open_string Tryz.underlying9 (hval 1 9 v1 rfl rfl) h1
  obtain ⟨val, rfl, rfl, rfl, wval⟩ := open_string Tryz.underlying9 (hval 2 9 v2 rfl rfl) h2
  obtain ⟨n, rfl, rfl, rfl, wn⟩ := open_int Tryz.underlying3 (hval 3 3 v3 rfl rfl) h3
  exact treeRaw_any W v0 l key val n (wf_range wn) Hl
theorem treeRaw_holds : Rows.TreeRawSaid :=
  OpenClaim.holds_of_wide 9 Tryz.f9 rfl rfl rfl rfl rfl rfl rfl ⟨rfl, rfl, rfl, rfl, rfl⟩ rfl rfl rfl rfl rfl (by kernel_rfl) Tryz.func9 (by kernel_rfl)
    (of_decide_eq_true (by kernel_rfl)) (by unfold Func.isWrapper; rw [if_neg (of_decide_eq_false (by kernel_rfl))]; exact ⟨rfl, rfl⟩)
    (fun os started H enc _ => treeRaw_lifted os started H enc)

end Go.Proofs.YtadmecjdihfmeaaGreat.Tre

