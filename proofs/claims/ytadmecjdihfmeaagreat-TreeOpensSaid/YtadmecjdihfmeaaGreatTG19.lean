/- TreKid TreOpen TreClone TreOpensP TreLawE TreLawsOpens: several texts of one proof, laid as one file (a claim has at most 60 files). No condition. -/
import Derived.Test.YtadmecjdihfmeaaGreatTG4
import Derived.Maps.AppendAt
import Derived.Test.YtadmecjdihfmeaaGreatTG7
import Derived.Laws.AppendOwnNone
import Derived.Lib.SliceRun
import Derived.Lib.BufferMore
import Derived.Deep.RegionHeld3
import Derived.Test.YtadmecjdihfmeaaGreatTG3
import Derived.Test.YtadmecjdihfmeaaGreatTG13
import Derived.Test.YtadmecjdihfmeaaGreatRows
import Derived.Test.YtadmecjdihfmeaaGreatLaw
import Derived.Test.YtadmecjdihfmeaaGreatRead
import Derived.ChangeSame
import Derived.Deep.Strs
/- Layer 7: rows of kids (key, block) in memory. -/
namespace Go.Proofs.YtadmecjdihfmeaaGreat.Tre
set_option linter.unusedVariables false
set_option linter.unusedSimpArgs false
set_option maxRecDepth 100000
open Go.RowKit Go.Lib Go.Proofs.YtadmecjdihfmeaaGreat.Mem Go.Proofs.YtadmecjdihfmeaaGreat.Oct Go.Proofs.YtadmecjdihfmeaaGreat.Dev Go.Proofs.YtadmecjdihfmeaaGreat.Sto

abbrev Kd := ByteArray × Int
abbrev kdL (x : Kd) : List Value := [.string x.1, .int .i64 x.2]
/-- kids of a call's own -/
def OwnK (base : Nat) (w : World) (v : Value) (l : List Kd) : Prop := w.ownsRow base 39 2 v l.length (l.flatMap kdL)
theorem OwnK.nil (base : Nat) (w : World) : OwnK base w (.slice none 0 0) [] := ⟨rfl, .inl ⟨rfl, rfl⟩⟩
theorem OwnK.form {base : Nat} {w : World} {v : Value} {l : List Kd} (h : OwnK base w v l) : ∃ a c, v = .slice a l.length c := by
  rcases h.2 with ⟨rfl, h0⟩ | ⟨g, cap, cur, rfl, _⟩
  · exact ⟨none, 0, by rw [h0]⟩
  · exact ⟨_, _, rfl⟩
theorem OwnK.mono {base base' : Nat} {w : World} {v : Value} {l : List Kd} (h : OwnK base w v l) (hb : base' ≤ base) : OwnK base' w v l := own_base h hb
theorem OwnK.chg {base : Nat} {w w' : World} {v : Value} {l : List Kd} {T : List Nat} (h : OwnK base w v l) (hc : Chg T w w') (hT : ∀ t ∈ T, v.ownBlock ≠ some t) : OwnK base w' v l := own_chg h hc hT
theorem OwnK.on {base : Nat} {w w' : World} {v : Value} {l : List Kd} (h : OwnK base w v l) (hb : Below w.heap.size w w') : OwnK base w' v l := h.chg (Chg.of_below hb : Chg [] w w') (by simp)
theorem info_kdl : (Tryz.prog.info? 39).map (fun i => (i.zero, i.size, i.bytes)) = some (some (.agg #[.string ⟨#[]⟩, .int .i64 0]), 2, 24) := by kernel_rfl
theorem kdl_len (l : List Kd) : (l.flatMap kdL).length = l.length * 2 := by
  induction l with
  | nil => rfl
  | cons x l ih => rw [List.flatMap_cons, List.length_append, ih, List.length_cons]; simp; omega
theorem kdl_at (l : List Kd) (j q : Nat) (hj : j < l.length) (hq : q < 2) : (l.flatMap kdL)[j * 2 + q]? = (kdL l[j])[q]? := by
  induction l generalizing j with
  | nil => simp at hj
  | cons x l ih =>
    rw [List.flatMap_cons]
    match j with
    | 0 =>
      rw [List.getElem?_append_left (by simp; omega)]
      simp
    | j + 1 =>
      rw [List.getElem?_append_right (by simp; omega)]
      have := ih j (by simpa using hj)
      simp only [List.getElem_cons_succ]
      rw [← this]
      congr 1
      simp; omega
/-- 'append(out, e)', out the call's own -/
theorem wpList_append_kid {w : World} {ops : Array Oper} {rest : List Oper} {o : Oper} {a : Act} {Q : Exit → Act → World → Prop} (hgd : o.guard = none) (s x : Operand)
    (ho : o.op = .call { callee := .builtin .append, args := #[s, x], argTypes := #[33, 33] }) (base : Nat) (hbase : base ≤ w.heap.size)
    (v : Value) (l : List Kd) (hs : a.eval s = v) (hown : OwnK base w v l) (b : Nat) (y : Kd) (hx : a.eval x = .slice (some ⟨b, 0, none⟩) 1 1) (h0 : w.cell? ⟨b, 0, none⟩ = some (.string y.1)) (h1 : w.cell? ⟨b, 1, none⟩ = some (.int .i64 y.2)) (hl : l.length ≤ 1048576)
    (h : ∀ v' w', OwnK base w' v' (l ++ [y]) → w.grownBy w' v.ownBlock → (v'.ownBlock = v.ownBlock ∨ v'.ownBlock = some w.heap.size) → wpList Tryz.prog ops Q rest (a.put o.dst v') w') : wpList Tryz.prog ops Q (o :: rest) a w := by
  obtain ⟨i0, hi0, hz0, hz1, hz2⟩ := info_parts info_kdl
  refine wpList_append_own_at _ hgd s x 33 ho base 39 i0 (.agg #[.string ⟨#[]⟩, .int .i64 0]) 2 24 Tryz.underlying33 hi0 hz0 hz1 hz2 rfl (by decide) v _ _ hs hown ⟨b, 0, none⟩ 1 1 (kdL y) hx rfl (fun j u hj => ?_) (fun u hu => ?_) (by unfold maxLen; omega) (by omega) hbase (fun v' w' g1 g2 _ g3 => h v' w' ?_ g2 g3)
  · match j with
    | 0 => simp at hj; rw [← hj]; exact h0
    | 1 => simp at hj; rw [← hj]; exact h1
    | j + 2 => simp at hj
  · simp at hu
    rcases hu with rfl | rfl <;> rfl
  · unfold OwnK
    simpa using g1
/-- 'append(out, e)' in a region that draws its order -/
theorem step_append_kid {ops : Array Oper} {o : Oper} {a : Act} {w : World} {K : Act → World → Prop} {Q : Exit → Act → World → Prop} {E : Prop} (hgd : o.guard = none) (s x : Operand)
    (ho : o.op = .call { callee := .builtin .append, args := #[s, x], argTypes := #[33, 33] }) (base : Nat) (hbase : base ≤ w.heap.size)
    (v : Value) (l : List Kd) (hs : a.eval s = v) (hown : OwnK base w v l) (b : Nat) (y : Kd) (hx : a.eval x = .slice (some ⟨b, 0, none⟩) 1 1) (h0 : w.cell? ⟨b, 0, none⟩ = some (.string y.1)) (h1 : w.cell? ⟨b, 1, none⟩ = some (.int .i64 y.2)) (hl : l.length ≤ 1048576)
    (h : ∀ v' w', OwnK base w' v' (l ++ [y]) → w.grownBy w' v.ownBlock → (v'.ownBlock = v.ownBlock ∨ v'.ownBlock = some w.heap.size) → K (a.put o.dst v') w') : if Region.wanted o (yielded ops a.tmps) = true then Oper.wp Tryz.prog o a w K Q else E := by
  have hw : Region.wanted o (yielded ops a.tmps) = true := by simp [Region.wanted, hgd]
  rw [if_pos hw]
  obtain ⟨i0, hi0, hz0, hz1, hz2⟩ := info_parts info_kdl
  obtain ⟨v', w', hr, g1, g2, _, g3⟩ := run_append_own_at (P := Tryz.prog) w base 33 o.type 39 i0 (.agg #[.string ⟨#[]⟩, .int .i64 0]) 2 24 Tryz.underlying33 hi0 hz0 hz1 hz2 rfl (by decide) v _ _ hown ⟨b, 0, none⟩ 1 1 (kdL y) rfl (fun j u hj => by
    match j with
    | 0 => simp at hj; rw [← hj]; exact h0
    | 1 => simp at hj; rw [← hj]; exact h1
    | j + 2 => simp at hj) (fun u hu => by
    simp at hu
    rcases hu with rfl | rfl <;> rfl) (by unfold maxLen; omega) (by omega) hbase
  unfold Oper.wp execOp
  simp only [ho, resolve, invoke, builtin, Sem.run_bind, Sem.run_pure, Result.andThen_ok, List.map_toArray, List.map_cons, List.map_nil, hs, hx, hr]
  refine h v' w' ?_ g2 g3
  unfold OwnK
  simpa using g1
/-- kids that nobody turns any more -/
def KdR (w : World) (cs : List Value) (x : Kd) : Prop := cs = kdL x
def Kds (p : Nat → Prop) (w : World) (v : Value) (l : List Kd) : Prop := SliceOf 2 KdR p w v l
theorem Kds.chg {p : Nat → Prop} {T : List Nat} {w w' : World} {v : Value} {l : List Kd} (h : Kds p w v l) (ht : Chg T w w') (hd : ∀ k, p k → k ∉ T) : Kds p w' v l := by
  rcases h with h | ⟨b, o, c, e, hp, hm, hc⟩
  · exact .inl h
  · refine .inr ⟨b, o, c, e, hp, hm, fun j hj => ?_⟩
    obtain ⟨cs, h1, h2, h3⟩ := hc j hj
    refine ⟨cs, h1, fun q hq => ?_, h3⟩
    have h4 := h2 q hq
    rw [List.getElem?_eq_getElem (by omega)] at h4 ⊢
    exact ht.cell (hd b hp) h4
theorem Kds.on {p : Nat → Prop} {w w' : World} {v : Value} {l : List Kd} (h : Kds p w v l) (hb : Below w.heap.size w w') : Kds p w' v l := h.chg (T := []) (Chg.of_below hb) (by simp)
theorem Kds.mono {p q : Nat → Prop} {w : World} {v : Value} {l : List Kd} (h : Kds p w v l) (hq : ∀ k, p k → q k) : Kds q w v l := by
  rcases h with h | ⟨b, o, c, e, hp, hm, hc⟩
  · exact .inl h
  · exact .inr ⟨b, o, c, e, hq b hp, hm, hc⟩
theorem Kds.form {p : Nat → Prop} {w : World} {v : Value} {l : List Kd} (h : Kds p w v l) : ∃ a c, v = .slice a l.length c ∧ l.length ≤ 9223372036854775807 := by
  rcases h with ⟨rfl, a, c, e⟩ | ⟨b, o, c, e, hp, hm, hc⟩
  · exact ⟨a, c, e, by simp⟩
  · exact ⟨_, _, e, hm⟩
theorem Kds.at {p : Nat → Prop} {w : World} {a : Option Addr} {n c : Nat} {l : List Kd} (h : Kds p w (.slice a n c) l) (j : Nat) (hj : j < l.length) : ∃ b o, a = some ⟨b, o, none⟩ ∧ p b ∧ w.cell? ⟨b, o + j * 2, none⟩ = some (.string l[j].1) ∧ w.cell? ⟨b, o + j * 2 + 1, none⟩ = some (.int .i64 l[j].2) := by
  rcases h with ⟨rfl, a, c, e⟩ | ⟨b, o, c', e, hp, hm, hc⟩
  · simp at hj
  · injection e with e1 e2 e3
    subst e1
    obtain ⟨cs, h1, h2, h3⟩ := hc j hj
    unfold KdR at h3
    subst h3
    exact ⟨b, o, rfl, hp, by simpa using h2 0 (by omega), by simpa [Nat.add_assoc] using h2 1 (by omega)⟩
theorem OwnK.kids {base : Nat} {w : World} {v : Value} {l : List Kd} (h : OwnK base w v l) (hl : l.length ≤ 9223372036854775807) : Kds (fun q => base ≤ q ∧ q < w.heap.size) w v l := by
  rcases h.2 with ⟨rfl, h0⟩ | ⟨g, cap, cur, rfl, hg, hb, hr⟩
  · exact .inl ⟨List.length_eq_zero_iff.1 h0, none, 0, rfl⟩
  · refine .inr ⟨g, 0, cap, rfl, ⟨hg, heap_lt hb⟩, hl, fun j hj => ⟨kdL l[j], rfl, fun q hq => ?_, rfl⟩⟩
    have hf := kdl_at l j q hj hq
    rw [List.getElem?_eq_getElem (by rw [kdl_len]; omega)] at hf
    rw [← hf]
    have := World.ownsRow.cells h rfl (j * 2 + q) _ (List.getElem?_eq_getElem (by rw [kdl_len]; omega))
    rw [add_at] at this
    exact this
end Go.Proofs.YtadmecjdihfmeaaGreat.Tre

/- Layer 7: Open. (Printed by wip/tools/genopen7.py.) -/
namespace Go.Proofs.YtadmecjdihfmeaaGreat.Tre
set_option linter.unusedVariables false
set_option linter.unusedSimpArgs false
set_option maxRecDepth 100000
open Go.RowKit Go.Lib Go.Proofs.YtadmecjdihfmeaaGreat.Mem Go.Proofs.YtadmecjdihfmeaaGreat.Oct Go.Proofs.YtadmecjdihfmeaaGreat.Dev Go.Proofs.YtadmecjdihfmeaaGreat.Sto

def enOf (x : It) : En := (x.key, x.val)
def kdOf (x : It) : Kd := (x.key, x.kid)
/-- what stands in a block -/
structure OpnR where
  err : Int
  ents : List En
  kids : List Kd
def OpnF (S : StS) (D : DevS) (id : Int) : OpnR := match loadF S D id with
  | .error e => ⟨e, [], []⟩
  | .ok n => ⟨0, if n.level = 0 then n.items.map enOf else [], if n.level = 0 then [] else n.items.map kdOf⟩
def OpnIs (w : World) (r : OpnR) (e : Ending) (w' : World) : Prop := ∃ v u, e = .returned (.tuple #[v, u, .int .i64 r.err]) ∧ OwnE w.heap.size w' v r.ents ∧ OwnK w.heap.size w' u r.kids ∧ Below w.heap.size w w'
set_option maxHeartbeats 8000000 in
theorem treeOpen_any (w : World) (B : Blk) (S : StS) (D : DevS) (id : Int) (h : StAt w B S D) :
    Calls Tryz.prog 15 #[.pointer (some ⟨B.s, 0, none⟩), .int .i64 id] w (OpnIs w (OpnF S D id)) := by
  have H : Hid (StAt w B S D) := h
  clear h
  go_enter Tryz.func15, Tryz.ntmps15
  go_wp2_with fail
  refine (load_any w B S D id H.out).mono ?_
  rintro e w1 ⟨v, rfl, hI, hb⟩
  obtain ⟨a, c, rfl, _, _⟩ := hI.form
  rcases ndOf_cases (loadF S D id) (fun e he => loadF_ne he) with ⟨n, hr, hn, he⟩ | ⟨er, hr, hn, he, hz⟩
  · have hok := (loadF_ok hr).1
    rw [hn] at hI
    obtain ⟨z, hz⟩ : ∃ z : Int, z = n.level := ⟨_, rfl⟩
    obtain ⟨w2, hw2⟩ : ∃ w2, w2 = w1.alloc (.cells #[.int .i64 z, .slice a n.items.length c] 79) := ⟨_, rfl⟩
    obtain ⟨nb, hnb⟩ : ∃ nb, nb = w1.heap.size := ⟨_, rfl⟩
    have hb2 : Below w1.heap.size w1 w2 := by rw [hw2]; exact (Below.refl _ _).alloc (Nat.le_refl _) _
    have hx2 : w2.heap[nb]? = some (.cells #[.int .i64 z, .slice a n.items.length c] 79 (0, 0)) := by rw [hw2, hnb]; exact heap_alloc_last _ _
    have HB2 : Hid (Below w.heap.size w w2) := hb.trans (hb2.mono hb.size)
    have y1 : w2.cell? ⟨nb, 1, none⟩ = some (.slice a n.items.length c) := cell_at hx2 1
    have hlen : n.items.length ≤ 1048576 := by have := hok.len; omega
    have HC : Hid (Its (fun q => w.heap.size ≤ q) w2 (.slice a n.items.length c) n.items ∧ w2.cell? ⟨nb, 0, none⟩ = some (.int .i64 z) ∧ n.items.length ≤ 1048576) := ⟨hI.on hb2, cell_at hx2 0, hlen⟩
    rcases Nat.eq_zero_or_pos n.level with h0 | h0
    · have HF : Hid (OpnF S D id = ⟨0, n.items.map enOf, []⟩) := by show _ = _; unfold OpnF; rw [hr]; dsimp only; rw [if_pos h0, if_pos h0]
      have hz0 : z = 0 := by omega
      rw [hn, he, ← hz]
      clear hz
      subst hz0
      clear hr hn he hb hI hok hb2 hx2 h0
      go_wp2_with fail
      rw [← hnb, ← hw2]
      clear hnb hw2
      go_wp2_with fail

      go_loopw [9, 10, 25] (fun v9 v10 v25 wr => ∃ j : Nat, j ≤ n.items.length ∧ v25 = .int .i64 j ∧ v10 = .slice none 0 0 ∧ Hid (OwnE w2.heap.size wr v9 ((n.items.take j).map enOf) ∧ Below w2.heap.size w2 wr)) (fun _ _ v25 _ => n.items.length - (intOf v25).toNat)
      case atStart => exact ⟨0, by omega, rfl, rfl, by have := OwnE.nil w2.heap.size w2; simpa using this, Below.refl _ _⟩
      case round =>
        obtain ⟨j, hj, rfl, rfl, HT⟩ := hrel
        by_cases hlt : j < n.items.length
        · have hlt' : (j : Int) < (n.items.length : Int) := by omega
          obtain ⟨b, o, rfl, _, q0, q1, q2⟩ := (HC.out.1.on HT.out.2).at j hlt
          obtain ⟨x, hx⟩ : ∃ x, x = n.items[j] := ⟨_, rfl⟩
          rw [← hx] at q0 q1 q2
          have hol : ((n.items.take j).map enOf).length ≤ 1048576 := by rw [List.length_map, List.length_take]; have := HC.out.2.2; omega
          have HR : Hid ((n.items.take (j + 1)).map enOf = (n.items.take j).map enOf ++ [enOf x]) := by
            show _ = _
            rw [List.take_succ_eq_append_getElem hlt, List.map_append, ← hx]
            rfl
          obtain ⟨w3, hw3⟩ : ∃ w3, w3 = wr.alloc (.cells #[.string x.key, .string x.val, .int .i64 x.kid] 83) := ⟨_, rfl⟩
          have hb3 : Below wr.heap.size wr w3 := by rw [hw3]; exact (Below.refl _ _).alloc (Nat.le_refl _) _
          have hx3 : w3.heap[wr.heap.size]? = some (.cells #[.string x.key, .string x.val, .int .i64 x.kid] 83 (0, 0)) := by rw [hw3]; exact heap_alloc_last _ _
          have y0 : w3.cell? ⟨nb, 0, none⟩ = some (.int .i64 0) := cell_on (HT.out.2.trans (hb3.mono HT.out.2.size)) HC.out.2.1
          have z0 : w3.cell? ⟨wr.heap.size, 0, none⟩ = some (.string x.key) := cell_at hx3 0
          have z1 : w3.cell? ⟨wr.heap.size, 1, none⟩ = some (.string x.val) := cell_at hx3 1
          have z2 : w3.cell? ⟨wr.heap.size, 2, none⟩ = some (.int .i64 x.kid) := cell_at hx3 2
          have hb4 : Below w3.heap.size w3 (w3.alloc (.cells #[.string x.key, .string x.val] 41)) := (Below.refl _ _).alloc (Nat.le_refl _) _
          have hx4 := heap_alloc_last w3 (.cells #[.string x.key, .string x.val] 41)
          have hbr : Below w2.heap.size w2 w3 := HT.out.2.trans (hb3.mono HT.out.2.size)
          have hbr4 : Below w2.heap.size w2 (w3.alloc (.cells #[.string x.key, .string x.val] 41)) := hbr.trans (hb4.mono hbr.size)
          have HA : Hid (OwnE w2.heap.size (w3.alloc (.cells #[.string x.key, .string x.val] 41)) u9 ((n.items.take j).map enOf) ∧ w2.heap.size ≤ (w3.alloc (.cells #[.string x.key, .string x.val] 41)).heap.size ∧
              (w3.alloc (.cells #[.string x.key, .string x.val] 41)).cell? ⟨w3.heap.size, 0, none⟩ = some (.string (enOf x).1) ∧ (w3.alloc (.cells #[.string x.key, .string x.val] 41)).cell? ⟨w3.heap.size, 1, none⟩ = some (.string (enOf x).2) ∧ Below w2.heap.size w2 (w3.alloc (.cells #[.string x.key, .string x.val] 41))) :=
            ⟨(HT.out.1.on hb3).on hb4, hbr4.size, cell_at hx4 0, cell_at hx4 1, hbr4⟩
          have hz1 : w3.heap.size = wr.heap.size + 1 := by rw [hw3]; simp
          rw [hz1, hw3] at HA
          rw [hw3] at y0 z0 z1 z2
          clear hx HT hb3 hx3 hb4 hx4 hbr hbr4 hz1 hw3
          go_wp2_with (first
            | (at_builtin; refine wpList_append_ent rfl _ _ rfl w2.heap.size HA.out.2.1 _ _ rfl HA.out.1 _ (enOf x) rfl HA.out.2.2.1 HA.out.2.2.2.1 hol ?_)
            | fail)
          intro v7 w4 hown4 hg4 hat4
          have hbw : Below w2.heap.size w2 w4 := HA.out.2.2.2.2.trans ((grown_chg hg4).below HA.out.2.1 (fun q hq => (World.ownsRow.lt HA.out.1 q (by simpa using hq)).1))
          have H4 : Hid (OwnE w2.heap.size w4 v7 ((n.items.take j).map enOf ++ [enOf x]) ∧ Below w2.heap.size w2 w4) := ⟨by rw [List.map_take]; exact hown4, hbw⟩
          clear hown4 hg4 hat4 hbw
          go_wp2_with fail
          go_roundw
          case rel => exact ⟨j + 1, by omega, by go_num, rfl, by rw [HR.out]; exact H4.out.1, H4.out.2⟩
          case measure => simp [intOf]; omega
        · have HR : Hid (n.items.take j = n.items) := by show _ = _; rw [List.take_of_length_le (by omega)]
          have hlt' : ¬ (j : Int) < (n.items.length : Int) := by omega
          go_wp2_with fail
          go_ret3
          have ho := HT.out.1
          rw [HR.out] at ho
          exact ⟨_, _, by rw [HF.out]; rfl, by rw [HF.out]; exact ho.mono HB2.out.size, by rw [HF.out]; exact OwnK.nil _ _, HB2.out.trans (HT.out.2.mono HB2.out.size)⟩

    · have HF : Hid (OpnF S D id = ⟨0, [], n.items.map kdOf⟩) := by show _ = _; unfold OpnF; rw [hr]; dsimp only; rw [if_neg (by omega), if_neg (by omega)]
      have hlv : 0 < z := by omega
      rw [hn, he, ← hz]
      clear hz
      clear hr hn he hb hI hok hb2 hx2 h0
      go_wp2_with fail
      rw [← hnb, ← hw2]
      clear hnb hw2
      go_wp2_with fail

      go_loopw [9, 10, 25] (fun v9 v10 v25 wr => ∃ j : Nat, j ≤ n.items.length ∧ v25 = .int .i64 j ∧ v9 = .slice none 0 0 ∧ Hid (OwnK w2.heap.size wr v10 ((n.items.take j).map kdOf) ∧ Below w2.heap.size w2 wr)) (fun _ _ v25 _ => n.items.length - (intOf v25).toNat)
      case atStart => exact ⟨0, by omega, rfl, rfl, by have := OwnK.nil w2.heap.size w2; simpa using this, Below.refl _ _⟩
      case round =>
        obtain ⟨j, hj, rfl, rfl, HT⟩ := hrel
        by_cases hlt : j < n.items.length
        · have hlt' : (j : Int) < (n.items.length : Int) := by omega
          obtain ⟨b, o, rfl, _, q0, q1, q2⟩ := (HC.out.1.on HT.out.2).at j hlt
          obtain ⟨x, hx⟩ : ∃ x, x = n.items[j] := ⟨_, rfl⟩
          rw [← hx] at q0 q1 q2
          have hol : ((n.items.take j).map kdOf).length ≤ 1048576 := by rw [List.length_map, List.length_take]; have := HC.out.2.2; omega
          have HR : Hid ((n.items.take (j + 1)).map kdOf = (n.items.take j).map kdOf ++ [kdOf x]) := by
            show _ = _
            rw [List.take_succ_eq_append_getElem hlt, List.map_append, ← hx]
            rfl
          obtain ⟨w3, hw3⟩ : ∃ w3, w3 = wr.alloc (.cells #[.string x.key, .string x.val, .int .i64 x.kid] 83) := ⟨_, rfl⟩
          have hb3 : Below wr.heap.size wr w3 := by rw [hw3]; exact (Below.refl _ _).alloc (Nat.le_refl _) _
          have hx3 : w3.heap[wr.heap.size]? = some (.cells #[.string x.key, .string x.val, .int .i64 x.kid] 83 (0, 0)) := by rw [hw3]; exact heap_alloc_last _ _
          have y0 : w3.cell? ⟨nb, 0, none⟩ = some (.int .i64 z) := cell_on (HT.out.2.trans (hb3.mono HT.out.2.size)) HC.out.2.1
          have z0 : w3.cell? ⟨wr.heap.size, 0, none⟩ = some (.string x.key) := cell_at hx3 0
          have z1 : w3.cell? ⟨wr.heap.size, 1, none⟩ = some (.string x.val) := cell_at hx3 1
          have z2 : w3.cell? ⟨wr.heap.size, 2, none⟩ = some (.int .i64 x.kid) := cell_at hx3 2
          have hb4 : Below w3.heap.size w3 (w3.alloc (.cells #[.string x.key, .int .i64 x.kid] 39)) := (Below.refl _ _).alloc (Nat.le_refl _) _
          have hx4 := heap_alloc_last w3 (.cells #[.string x.key, .int .i64 x.kid] 39)
          have hbr : Below w2.heap.size w2 w3 := HT.out.2.trans (hb3.mono HT.out.2.size)
          have hbr4 : Below w2.heap.size w2 (w3.alloc (.cells #[.string x.key, .int .i64 x.kid] 39)) := hbr.trans (hb4.mono hbr.size)
          have HA : Hid (OwnK w2.heap.size (w3.alloc (.cells #[.string x.key, .int .i64 x.kid] 39)) u10 ((n.items.take j).map kdOf) ∧ w2.heap.size ≤ (w3.alloc (.cells #[.string x.key, .int .i64 x.kid] 39)).heap.size ∧
              (w3.alloc (.cells #[.string x.key, .int .i64 x.kid] 39)).cell? ⟨w3.heap.size, 0, none⟩ = some (.string (kdOf x).1) ∧ (w3.alloc (.cells #[.string x.key, .int .i64 x.kid] 39)).cell? ⟨w3.heap.size, 1, none⟩ = some (.int .i64 (kdOf x).2) ∧ Below w2.heap.size w2 (w3.alloc (.cells #[.string x.key, .int .i64 x.kid] 39))) :=
            ⟨(HT.out.1.on hb3).on hb4, hbr4.size, cell_at hx4 0, cell_at hx4 1, hbr4⟩
          have hz1 : w3.heap.size = wr.heap.size + 1 := by rw [hw3]; simp
          rw [hz1, hw3] at HA
          rw [hw3] at y0 z0 z1 z2
          clear hx HT hb3 hx3 hb4 hx4 hbr hbr4 hz1 hw3
          go_wp2_with (first
            | (at_builtin; refine wpList_append_kid rfl _ _ rfl w2.heap.size HA.out.2.1 _ _ rfl HA.out.1 _ (kdOf x) rfl HA.out.2.2.1 HA.out.2.2.2.1 hol ?_)
            | fail)
          intro v7 w4 hown4 hg4 hat4
          have hbw : Below w2.heap.size w2 w4 := HA.out.2.2.2.2.trans ((grown_chg hg4).below HA.out.2.1 (fun q hq => (World.ownsRow.lt HA.out.1 q (by simpa using hq)).1))
          have H4 : Hid (OwnK w2.heap.size w4 v7 ((n.items.take j).map kdOf ++ [kdOf x]) ∧ Below w2.heap.size w2 w4) := ⟨by rw [List.map_take]; exact hown4, hbw⟩
          clear hown4 hg4 hat4 hbw
          go_wp2_with fail
          go_roundw
          case rel => exact ⟨j + 1, by omega, by go_num, rfl, by rw [HR.out]; exact H4.out.1, H4.out.2⟩
          case measure => simp [intOf]; omega
        · have HR : Hid (n.items.take j = n.items) := by show _ = _; rw [List.take_of_length_le (by omega)]
          have hlt' : ¬ (j : Int) < (n.items.length : Int) := by omega
          go_wp2_with fail
          go_ret3
          have ho := HT.out.1
          rw [HR.out] at ho
          exact ⟨_, _, by rw [HF.out]; rfl, by rw [HF.out]; exact OwnE.nil _ _, by rw [HF.out]; exact ho.mono HB2.out.size, HB2.out.trans (HT.out.2.mono HB2.out.size)⟩

  · have HR : Hid (OpnF S D id = ⟨er, [], []⟩) := by show _ = _; unfold OpnF; rw [hr]
    have hz' : (er != 0) = true := by simpa using hz
    have HB : Hid (Below w.heap.size w w1) := hb
    rw [hn, he]
    clear hr hn he hz hb hI
    go_wp2_with fail
    go_ret3
    exact ⟨.slice none 0 0, .slice none 0 0, by rw [HR.out]; rfl, by rw [HR.out]; exact OwnE.nil _ _, by rw [HR.out]; exact OwnK.nil _ _, HB.out.alloc HB.out.size _⟩
end Go.Proofs.YtadmecjdihfmeaaGreat.Tre

/- Layer 7: rows of kids appended; slices.Clone of kids. -/
namespace Go.Proofs.YtadmecjdihfmeaaGreat.Tre
set_option linter.unusedVariables false
set_option linter.unusedSimpArgs false
set_option maxRecDepth 100000
open Go.RowKit Go.Lib Go.Proofs.YtadmecjdihfmeaaGreat.Mem Go.Proofs.YtadmecjdihfmeaaGreat.Oct Go.Proofs.YtadmecjdihfmeaaGreat.Dev Go.Proofs.YtadmecjdihfmeaaGreat.Sto

theorem kdl_one (l : List Kd) : ∀ u ∈ l.flatMap kdL, u.oneCell' = true := by
  intro u hu
  obtain ⟨x, _, hx⟩ := List.mem_flatMap.1 hu
  simp at hx
  rcases hx with rfl | rfl <;> rfl
theorem ent_one (l : List En) : ∀ u ∈ l.flatMap enL, u.oneCell' = true := by
  intro u hu
  obtain ⟨x, _, hx⟩ := List.mem_flatMap.1 hu
  simp at hx
  rcases hx with rfl | rfl <;> rfl
/-- kids that are read, with room told -/
def KdW (p : Nat → Prop) (w : World) (v : Value) (l : List Kd) : Prop := Kds p w v l ∧ ∀ a n c, v = .slice a n c → n ≤ c ∧ (a = none → c = 0)
theorem KdW.on {p : Nat → Prop} {w w' : World} {v : Value} {l : List Kd} (h : KdW p w v l) (hb : Below w.heap.size w w') : KdW p w' v l := ⟨h.1.on hb, h.2⟩
theorem KdW.mono {p q : Nat → Prop} {w : World} {v : Value} {l : List Kd} (h : KdW p w v l) (hq : ∀ k, p k → q k) : KdW q w v l := ⟨h.1.mono hq, h.2⟩
theorem KdW.form {p : Nat → Prop} {w : World} {v : Value} {l : List Kd} (h : KdW p w v l) : ∃ a c, v = .slice a l.length c ∧ l.length ≤ c ∧ l.length ≤ 9223372036854775807 := by
  obtain ⟨a, c, rfl, hl⟩ := h.1.form
  exact ⟨a, c, rfl, (h.2 a _ c rfl).1, hl⟩
theorem KdW.nil {p : Nat → Prop} {w : World} : KdW p w (.slice none 0 0) [] := ⟨.inl ⟨rfl, _, _, rfl⟩, fun a n c e => by injection e with _ e1 e; exact ⟨by omega, fun _ => e.symm⟩⟩
theorem OwnK.kdw {base : Nat} {w : World} {v : Value} {l : List Kd} (h : OwnK base w v l) (hl : l.length ≤ 9223372036854775807) : KdW (fun q => base ≤ q ∧ q < w.heap.size) w v l := by
  refine ⟨h.kids hl, fun a n c e => ?_⟩
  rcases h.2 with ⟨rfl, h0⟩ | ⟨g, cap, cur, rfl, hg, hb, hr⟩
  · injection e with _ e1 e; exact ⟨by omega, fun _ => e.symm⟩
  · injection e with e0 e1 e2
    subst e0 e1 e2
    exact ⟨by have := hr.1; omega, fun h => by cases h⟩
theorem KdW.drop {p : Nat → Prop} {w : World} {ad : Addr} {c : Nat} {l : List Kd} (h : KdW p w (.slice (some ad) l.length c) l) (j : Nat) (hj : j ≤ l.length) : KdW p w (.slice (if c = j then some ad else some (ad.add (j * 2))) (l.length - j) (c - j)) (l.drop j) := by
  have hcap := (h.2 _ _ _ rfl).1
  have hlen : (l.drop j).length = l.length - j := List.length_drop
  refine ⟨?_, fun a' n c' e => by injection e with e0 e1 e2; exact ⟨by omega, fun h0 => by rw [h0] at e0; split at e0 <;> cases e0⟩⟩
  by_cases hjl : j < l.length
  · rw [if_neg (by omega)]
    rcases h.1 with ⟨rfl, a', c', e⟩ | ⟨b, o, c', e, hp, hm, hc⟩
    · simp at hjl
    · injection e with e0 e1 e2
      injection e0 with e0
      subst e0 e2
      refine .inr ⟨b, o + j * 2, c - j, by rw [hlen]; simp [Addr.add], hp, by rw [hlen]; omega, fun k hk => ?_⟩
      rw [hlen] at hk
      obtain ⟨cs, h1, h2, h3⟩ := hc (j + k) (by omega)
      refine ⟨cs, h1, fun q hq => ?_, by rw [List.getElem_drop]; exact h3⟩
      rw [show o + j * 2 + (k * 2 + q) = o + ((j + k) * 2 + q) by omega]
      exact h2 q hq
  · left
    exact ⟨List.length_eq_zero_iff.1 (by rw [hlen]; omega), (if c = j then some ad else some (ad.add (j * 2))), c - j, by rw [show l.length - j = 0 by omega]⟩
/-- a row's cells, one by one -/
theorem Kds.cells {p : Nat → Prop} {w : World} {ad : Addr} {n c : Nat} {l : List Kd} (h : Kds p w (.slice (some ad) n c) l) (hn : n = l.length) : ∀ j u, (l.flatMap kdL)[j]? = some u → w.cell? (ad.add j) = some u := by
  intro j u hj
  have hjl : j < l.length * 2 := by
    have := (List.getElem?_eq_some_iff.1 hj).1
    rw [kdl_len] at this
    exact this
  obtain ⟨b, o, e, _, h0, h1⟩ := h.at (j / 2) (by omega)
  injection e with e
  subst e
  have hq := kdl_at l (j / 2) (j % 2) (by omega) (by omega)
  have e1 : j / 2 * 2 + j % 2 = j := by omega
  rw [e1, hj] at hq
  have ha : (⟨b, o, none⟩ : Addr).add j = ⟨b, o + j, none⟩ := by unfold Addr.add; split <;> simp_all
  rw [ha]
  rcases (by omega : j % 2 = 0 ∨ j % 2 = 1) with hr | hr
  · rw [hr] at hq
    simp at hq
    rw [hq, ← h0]
    congr 1
    congr 1
    omega
  · rw [hr] at hq
    simp at hq
    rw [hq, ← h1]
    congr 1
    congr 1
    omega
theorem Ents.cells {p : Nat → Prop} {w : World} {ad : Addr} {n c : Nat} {l : List En} (h : Ents p w (.slice (some ad) n c) l) (hn : n = l.length) : ∀ j u, (l.flatMap enL)[j]? = some u → w.cell? (ad.add j) = some u := by
  intro j u hj
  have hjl : j < l.length * 2 := by
    have := (List.getElem?_eq_some_iff.1 hj).1
    rw [ent_len] at this
    exact this
  obtain ⟨b, o, e, _, h0, h1⟩ := h.at (j / 2) (by omega)
  injection e with e
  subst e
  have hq := ent_at l (j / 2) (j % 2) (by omega) (by omega)
  have e1 : j / 2 * 2 + j % 2 = j := by omega
  rw [e1, hj] at hq
  have ha : (⟨b, o, none⟩ : Addr).add j = ⟨b, o + j, none⟩ := by unfold Addr.add; split <;> simp_all
  rw [ha]
  rcases (by omega : j % 2 = 0 ∨ j % 2 = 1) with hr | hr
  · rw [hr] at hq
    simp at hq
    rw [hq, ← h0]
    congr 1
    congr 1
    omega
  · rw [hr] at hq
    simp at hq
    rw [hq, ← h1]
    congr 1
    congr 1
    omega
/-- 'append(s, x...)', s the call's own -/
theorem wpList_append_kids {w : World} {ops : Array Oper} {rest : List Oper} {o : Oper} {a : Act} {Q : Exit → Act → World → Prop} (hgd : o.guard = none) (s x : Operand)
    (ho : o.op = .call { callee := .builtin .append, args := #[s, x], argTypes := #[33, 33] }) (base : Nat) (hbase : base ≤ w.heap.size)
    (v : Value) (l : List Kd) (hs : a.eval s = v) (hown : OwnK base w v l) (p : Nat → Prop) (ad : Addr) (n c : Nat) (l2 : List Kd) (hx : a.eval x = .slice (some ad) n c) (hn : n = l2.length) (hk : Kds p w (.slice (some ad) n c) l2) (hl : l.length + l2.length ≤ 1048576)
    (h : ∀ v' w', OwnK base w' v' (l ++ l2) → w.grownBy w' v.ownBlock → (v'.ownBlock = v.ownBlock ∨ v'.ownBlock = some w.heap.size) → wpList Tryz.prog ops Q rest (a.put o.dst v') w') : wpList Tryz.prog ops Q (o :: rest) a w := by
  obtain ⟨i0, hi0, hz0, hz1, hz2⟩ := info_parts info_kdl
  refine wpList_append_own_at _ hgd s x 33 ho base 39 i0 (.agg #[.string ⟨#[]⟩, .int .i64 0]) 2 24 Tryz.underlying33 hi0 hz0 hz1 hz2 rfl (by decide) v _ _ hs hown ad n c (l2.flatMap kdL) hx (by rw [kdl_len, hn]) (hk.cells hn) (kdl_one l2) (by unfold maxLen; omega) (by omega) hbase (fun v' w' g1 g2 _ g3 => h v' w' ?_ g2 g3)
  unfold OwnK
  rw [List.flatMap_append, List.length_append, ← hn]
  exact g1
theorem step_append_kids {ops : Array Oper} {o : Oper} {a : Act} {w : World} {K : Act → World → Prop} {Q : Exit → Act → World → Prop} {E : Prop} (hgd : o.guard = none) (s x : Operand)
    (ho : o.op = .call { callee := .builtin .append, args := #[s, x], argTypes := #[33, 33] }) (base : Nat) (hbase : base ≤ w.heap.size)
    (v : Value) (l : List Kd) (hs : a.eval s = v) (hown : OwnK base w v l) (p : Nat → Prop) (ad : Addr) (n c : Nat) (l2 : List Kd) (hx : a.eval x = .slice (some ad) n c) (hn : n = l2.length) (hk : Kds p w (.slice (some ad) n c) l2) (hl : l.length + l2.length ≤ 1048576)
    (h : ∀ v' w', OwnK base w' v' (l ++ l2) → w.grownBy w' v.ownBlock → (v'.ownBlock = v.ownBlock ∨ v'.ownBlock = some w.heap.size) → K (a.put o.dst v') w') : if Region.wanted o (yielded ops a.tmps) = true then Oper.wp Tryz.prog o a w K Q else E := by
  have hw : Region.wanted o (yielded ops a.tmps) = true := by simp [Region.wanted, hgd]
  rw [if_pos hw]
  obtain ⟨i0, hi0, hz0, hz1, hz2⟩ := info_parts info_kdl
  obtain ⟨v', w', hr, g1, g2, _, g3⟩ := run_append_own_at (P := Tryz.prog) w base 33 o.type 39 i0 (.agg #[.string ⟨#[]⟩, .int .i64 0]) 2 24 Tryz.underlying33 hi0 hz0 hz1 hz2 rfl (by decide) v _ _ hown ad n c (l2.flatMap kdL) (by rw [kdl_len, hn]) (hk.cells hn) (kdl_one l2) (by unfold maxLen; omega) (by omega) hbase
  unfold Oper.wp execOp
  simp only [ho, resolve, invoke, builtin, Sem.run_bind, Sem.run_pure, Result.andThen_ok, List.map_toArray, List.map_cons, List.map_nil, hs, hx, hr]
  refine h v' w' ?_ g2 g3
  unfold OwnK
  rw [List.flatMap_append, List.length_append, ← hn]
  exact g1
theorem wpList_append_ents {w : World} {ops : Array Oper} {rest : List Oper} {o : Oper} {a : Act} {Q : Exit → Act → World → Prop} (hgd : o.guard = none) (s x : Operand)
    (ho : o.op = .call { callee := .builtin .append, args := #[s, x], argTypes := #[27, 27] }) (base : Nat) (hbase : base ≤ w.heap.size)
    (v : Value) (l : List En) (hs : a.eval s = v) (hown : OwnE base w v l) (p : Nat → Prop) (ad : Addr) (n c : Nat) (l2 : List En) (hx : a.eval x = .slice (some ad) n c) (hn : n = l2.length) (hk : Ents p w (.slice (some ad) n c) l2) (hl : l.length + l2.length ≤ 1048576)
    (h : ∀ v' w', OwnE base w' v' (l ++ l2) → w.grownBy w' v.ownBlock → (v'.ownBlock = v.ownBlock ∨ v'.ownBlock = some w.heap.size) → wpList Tryz.prog ops Q rest (a.put o.dst v') w') : wpList Tryz.prog ops Q (o :: rest) a w := by
  obtain ⟨i0, hi0, hz0, hz1, hz2⟩ := info_parts info_ent
  refine wpList_append_own_at _ hgd s x 27 ho base 41 i0 (.agg #[.string ⟨#[]⟩, .string ⟨#[]⟩]) 2 32 Tryz.underlying27 hi0 hz0 hz1 hz2 rfl (by decide) v _ _ hs hown ad n c (l2.flatMap enL) hx (by rw [ent_len, hn]) (hk.cells hn) (ent_one l2) (by unfold maxLen; omega) (by omega) hbase (fun v' w' g1 g2 _ g3 => h v' w' ?_ g2 g3)
  unfold OwnE
  rw [List.flatMap_append, List.length_append, ← hn]
  exact g1
/-- 'append(s, nil...)' -/
theorem wpList_append_ents0 {w : World} {ops : Array Oper} {rest : List Oper} {o : Oper} {a : Act} {Q : Exit → Act → World → Prop} (hgd : o.guard = none) (s x : Operand)
    (ho : o.op = .call { callee := .builtin .append, args := #[s, x], argTypes := #[27, 27] }) (base : Nat)
    (v : Value) (l : List En) (hs : a.eval s = v) (hown : OwnE base w v l) (hx : a.eval x = .slice none 0 0) (h : wpList Tryz.prog ops Q rest (a.put o.dst v) w) : wpList Tryz.prog ops Q (o :: rest) a w := by
  obtain ⟨i0, hi0, hz0, hz1, hz2⟩ := info_parts info_ent
  exact wpList_append_own_none hgd s x 27 ho base 41 i0 2 Tryz.underlying27 hi0 v _ _ hs hown hx h
theorem OwnE.cases {base : Nat} {w : World} {v : Value} {l : List En} (h : OwnE base w v l) : (v = .slice none 0 0 ∧ l = []) ∨ ∃ g c, v = .slice (some ⟨g, 0, none⟩) l.length c := by
  rcases h.2 with ⟨rfl, h0⟩ | ⟨g, cap, cur, rfl, _⟩
  · exact .inl ⟨rfl, List.length_eq_zero_iff.1 h0⟩
  · exact .inr ⟨g, cap, rfl⟩
/-- 'append(s, x...)', both of the call's own -/
theorem wpList_append_entsO {w : World} {ops : Array Oper} {rest : List Oper} {o : Oper} {a : Act} {Q : Exit → Act → World → Prop} (hgd : o.guard = none) (s x : Operand)
    (ho : o.op = .call { callee := .builtin .append, args := #[s, x], argTypes := #[27, 27] }) (base : Nat) (hbase : base ≤ w.heap.size)
    (v : Value) (l : List En) (hs : a.eval s = v) (hown : OwnE base w v l) (u : Value) (b2 : Nat) (l2 : List En) (hx : a.eval x = u) (hu : OwnE b2 w u l2) (hl : l.length + l2.length ≤ 1048576)
    (h : ∀ v' w', OwnE base w' v' (l ++ l2) → Chg v.ownBlock.toList w w' → (v'.ownBlock = v.ownBlock ∨ v'.ownBlock = some w.heap.size) → wpList Tryz.prog ops Q rest (a.put o.dst v') w') : wpList Tryz.prog ops Q (o :: rest) a w := by
  rcases hu.cases with ⟨rfl, rfl⟩ | ⟨g, c, rfl⟩
  · exact wpList_append_ents0 hgd s x ho base v l hs hown hx (h v w (by rw [List.append_nil]; exact hown) (Chg.refl _ _) (.inl rfl))
  · exact wpList_append_ents hgd s x ho base hbase v l hs hown _ ⟨g, 0, none⟩ l2.length c l2 hx rfl (hu.ents (by omega)) hl (fun v' w' h1 h2 h3 => h v' w' h1 (grown_chg h2) h3)
theorem own_cases {base : Nat} {w : World} {v : Value} {l : List Kd} (h : OwnK base w v l) : (v = .slice none 0 0 ∧ l = []) ∨ ∃ g c, v = .slice (some ⟨g, 0, none⟩) l.length c := by
  rcases h.2 with ⟨rfl, h0⟩ | ⟨g, cap, cur, rfl, _⟩
  · exact .inl ⟨rfl, List.length_eq_zero_iff.1 h0⟩
  · exact .inr ⟨g, cap, rfl⟩
def KidsIs (w : World) (l : List Kd) (e : Ending) (w' : World) : Prop := ∃ v, e = .returned v ∧ OwnK w.heap.size w' v l ∧ Below w.heap.size w w'
set_option maxHeartbeats 4000000 in
theorem clone_any (base : Nat) (w : World) (v : Value) (l : List Kd) (h : OwnK base w v l) (hl : l.length ≤ 500000) : Calls Tryz.prog 17 #[v] w (KidsIs w l) := by
  rcases own_cases h with ⟨rfl, rfl⟩ | ⟨g, c, rfl⟩
  · have hnil : ∀ W, (binOp .eql 33 (.slice none 0 0) (.slice none 0 0)).run Tryz.prog W = .ok (.bool true) W := fun W => Lib.run_eql_slice_nil_nil W _ _ Tryz.underlying33
    go_enter Tryz.func17, Tryz.ntmps17
    go_wp2_with fail
    go_ret
    exact ⟨_, rfl, OwnK.nil _ _, Below.refl _ _⟩
  · have H : Hid (OwnK base w (.slice (some ⟨g, 0, none⟩) l.length c) l) := h
    clear h
    have hnil : ∀ W, (binOp .eql 33 (.slice (some ⟨g, 0, none⟩) l.length c) (.slice none 0 0)).run Tryz.prog W = .ok (.bool false) W := fun W => Lib.run_eql_slice_some_nil W _ _ _ Tryz.underlying33
    go_enter Tryz.func17, Tryz.ntmps17
    have hb : Below w.heap.size w (w.alloc (.cells #[] 39)) := (Below.refl _ _).alloc (Nat.le_refl _) _
    have hm : OwnK w.heap.size (w.alloc (.cells #[] 39)) (.slice (some ⟨w.heap.size, 0, none⟩) 0 0) [] := World.ownsRow_made w #[] 0 (Nat.le_refl _) (by decide) rfl
    have HA : Hid (OwnK w.heap.size (w.alloc (.cells #[] 39)) (.slice (some ⟨w.heap.size, 0, none⟩) 0 0) [] ∧ w.heap.size ≤ (w.alloc (.cells #[] 39)).heap.size ∧ Kds (fun q => base ≤ q ∧ q < (w.alloc (.cells #[] 39)).heap.size) (w.alloc (.cells #[] 39)) (.slice (some ⟨g, 0, none⟩) l.length c) l ∧ Below w.heap.size w (w.alloc (.cells #[] 39)) ∧ l.length ≤ 500000) :=
      ⟨hm, hb.size, (H.out.on hb).kids (by omega), hb, hl⟩
    clear hb hm hl
    go_wp2_with (first
      | (at_builtin; refine wpList_append_kids rfl _ _ rfl w.heap.size HA.out.2.1 _ [] rfl HA.out.1 _ ⟨g, 0, none⟩ l.length c l rfl rfl HA.out.2.2.1 (by have := HA.out.2.2.2.2; simp; omega) ?_)
      | fail)
    intro v7 w4 hown4 hg4 hat4
    have hbw : Below w.heap.size w w4 := HA.out.2.2.2.1.trans ((grown_chg hg4).below HA.out.2.1 (fun q hq => (World.ownsRow.lt HA.out.1 q (by simpa using hq)).1))
    have H4 : Hid (OwnK w.heap.size w4 v7 l ∧ Below w.heap.size w w4) := ⟨hown4, hbw⟩
    clear hown4 hg4 hat4 hbw
    go_wp2_with fail
    go_ret
    exact ⟨v7, rfl, H4.out.1, H4.out.2⟩
end Go.Proofs.YtadmecjdihfmeaaGreat.Tre

/- Layer 7 in plain Lean: a tree's blocks, opened one by one. -/
namespace Go.Proofs.YtadmecjdihfmeaaGreat.Tre
set_option linter.unusedVariables false
set_option linter.unusedSimpArgs false
open Go.RowKit Go.Proofs.YtadmecjdihfmeaaGreat.Mem Go.Proofs.YtadmecjdihfmeaaGreat.Oct Go.Proofs.YtadmecjdihfmeaaGreat.Dev Go.Proofs.YtadmecjdihfmeaaGreat.Sto

/-- a block to be opened: its entries, and how many blocks stand there -/
structure SubN (S : StS) (D : DevS) (x : Kd) (es : List En) (cnt : Nat) (nd : Nd) : Prop where
  load : loadF S D x.2 = .ok nd
  ok : OkF S D nd.level nd.items
  ents : entsF S D nd.level nd.items = es
  key : headK nd.items = x.1
  cnt : cnt = 1 + (idsF S D nd.level nd.items).length
/-- blocks to be opened, in order -/
inductive TodoOk (S : StS) (D : DevS) : List Kd → List En → Nat → Prop
  | nil : TodoOk S D [] [] 0
  | cons (x : Kd) (l : List Kd) (es es' : List En) (c c' : Nat) (nd : Nd) : SubN S D x es c nd → TodoOk S D l es' c' → TodoOk S D (x :: l) (es ++ es') (c + c')
theorem TodoOk.append {S : StS} {D : DevS} {a : List Kd} {ea : List En} {ca : Nat} (h : TodoOk S D a ea ca) {b : List Kd} {eb : List En} {cb : Nat} (k : TodoOk S D b eb cb) : TodoOk S D (a ++ b) (ea ++ eb) (ca + cb) := by
  induction h with
  | nil => simpa using k
  | cons x l es es' c c' nd hx hl ih =>
    rw [List.cons_append, List.append_assoc, Nat.add_assoc]
    exact .cons x _ es _ c _ nd hx ih
theorem items_ne {S : StS} {D : DevS} {i : Int} {nd : Nd} (h : loadF S D i = .ok nd) : ∃ y l, nd.items = y :: l := by
  have := (loadF_ok h).1.len
  cases hi : nd.items with
  | nil => rw [hi] at this; simp at this
  | cons y l => exact ⟨y, l, rfl⟩
theorem todo_kids {S : StS} {D : DevS} {f : Nat} : ∀ (l : List It), OkF S D (f + 1) l → TodoOk S D (l.map kdOf) (entsF S D (f + 1) l) (idsF S D (f + 1) l).length
  | [], _ => .nil
  | x :: l, h => by
    obtain ⟨nd, h1, h2, h3, h4, h5, h6, h7, h8, h9⟩ := (h x (by simp)).succ
    have ih := todo_kids l (fun y hy => h y (by simp [hy]))
    have e1 : entsF S D (f + 1) (x :: l) = itE S D (f + 1) x ++ entsF S D (f + 1) l := rfl
    have e2 : (idsF S D (f + 1) (x :: l)).length = (itI S D (f + 1) x).length + (idsF S D (f + 1) l).length := by
      show (itI S D (f + 1) x ++ idsF S D (f + 1) l).length = _
      rw [List.length_append]
    rw [e1, e2, List.map_cons]
    exact .cons (kdOf x) _ _ _ _ _ nd ⟨h1, by rw [h2]; exact h5, by rw [h7, h2], h4, by rw [h8, h2, List.length_cons, Nat.add_comm]⟩ ih
/-- what a block says -/
theorem sub_leaf {S : StS} {D : DevS} {x : Kd} {es : List En} {c : Nat} {nd : Nd} (h : SubN S D x es c nd) (h0 : nd.level = 0) : OpnF S D x.2 = ⟨0, es, []⟩ ∧ c = 1 ∧ ∃ l : ByteArray × List En, es = (x.1, l.1) :: l.2 := by
  obtain ⟨y, l, hy⟩ := items_ne h.load
  have he : entsF S D nd.level nd.items = nd.items.map enOf := by
    rw [h0]
    have : ∀ l : List It, entsF S D 0 l = l.map enOf := by
      intro l
      induction l with
      | nil => rfl
      | cons z l ih =>
        have : entsF S D 0 (z :: l) = itE S D 0 z ++ entsF S D 0 l := rfl
        rw [this, ih]; rfl
    exact this _
  have hi : idsF S D nd.level nd.items = [] := by
    rw [h0]
    have : ∀ l : List It, idsF S D 0 l = [] := by
      intro l
      induction l with
      | nil => rfl
      | cons z l ih =>
        have : idsF S D 0 (z :: l) = itI S D 0 z ++ idsF S D 0 l := rfl
        rw [this, ih]; rfl
    exact this _
  have e1 := h.ents
  rw [he] at e1
  refine ⟨?_, by rw [h.cnt, hi]; rfl, (y.val, l.map enOf), ?_⟩
  · unfold OpnF
    rw [h.load]
    dsimp only
    rw [if_pos h0, if_pos h0, e1]
  · have hk := h.key
    rw [hy] at hk
    have hk' : y.key = x.1 := hk
    rw [← e1, hy, List.map_cons, ← hk']
    rfl
theorem sub_node {S : StS} {D : DevS} {x : Kd} {es : List En} {c : Nat} {nd : Nd} (h : SubN S D x es c nd) (h0 : nd.level ≠ 0) : ∃ kids, OpnF S D x.2 = ⟨0, [], kids⟩ ∧ TodoOk S D kids es (c - 1) ∧ kids.length ≤ 8 ∧ ∃ l : Int × List Kd, kids = (x.1, l.1) :: l.2 := by
  obtain ⟨f, hf⟩ : ∃ f, nd.level = f + 1 := ⟨nd.level - 1, by omega⟩
  obtain ⟨y, l, hy⟩ := items_ne h.load
  refine ⟨nd.items.map kdOf, ?_, ?_, by rw [List.length_map]; exact (loadF_ok h.load).1.len.2, (y.kid, l.map kdOf), ?_⟩
  · unfold OpnF
    rw [h.load]
    dsimp only
    rw [if_neg h0, if_neg h0]
  · have hk := h.ok
    have he := h.ents
    have hc := h.cnt
    rw [hf] at hk he hc
    have := todo_kids _ hk
    rw [he] at this
    have e : (idsF S D (f + 1) nd.items).length = c - 1 := by omega
    rw [e] at this
    exact this
  · have hk := h.key
    rw [hy] at hk
    have hk' : y.key = x.1 := hk
    rw [hy, List.map_cons, ← hk']
    rfl
theorem todo_cnt {S : StS} {D : DevS} {l : List Kd} {es : List En} {c : Nat} (h : TodoOk S D l es c) : l.length ≤ c ∧ es.length = es.length := by
  refine ⟨?_, rfl⟩
  induction h with
  | nil => exact Nat.le_refl _
  | cons x l es es' c c' nd hx hl ih => rw [List.length_cons, hx.cnt]; omega
theorem todo_root {S : StS} {D : DevS} {root : Int} {es : List En} {nd : Nd} (h : RootN S D root es nd) : TodoOk S D [(headK nd.items, root)] es (1 + (idsF S D nd.level nd.items).length) ∧ 1 + (idsF S D nd.level nd.items).length ≤ es.length := by
  refine ⟨?_, ?_⟩
  · have := TodoOk.cons (S := S) (D := D) (headK nd.items, root) [] es [] (1 + (idsF S D nd.level nd.items).length) 0 nd ⟨h.load, h.ok, h.ents, rfl, rfl⟩ .nil
    simpa using this
  · have h1 := h.blocks
    omega
/-- one block opened -/
theorem todo_step {S : StS} {D : DevS} {x : Kd} {l : List Kd} {es : List En} {c : Nat} (h : TodoOk S D (x :: l) es c) :
    (∃ e r es', OpnF S D x.2 = ⟨0, (x.1, e) :: r, []⟩ ∧ es = ((x.1, e) :: r) ++ es' ∧ TodoOk S D l es' (c - 1) ∧ 1 ≤ c) ∨
    (∃ k r, OpnF S D x.2 = ⟨0, [], (x.1, k) :: r⟩ ∧ TodoOk S D (((x.1, k) :: r) ++ l) es (c - 1) ∧ ((x.1, k) :: r).length ≤ 8 ∧ 1 ≤ c) := by
  cases h with
  | cons x l e1 e2 c1 c2 nd hx hl =>
    have hc1 := hx.cnt
    by_cases h0 : nd.level = 0
    · obtain ⟨h1, h2, ⟨a, b⟩, h3⟩ := sub_leaf hx h0
      subst h3
      refine .inl ⟨a, b, e2, h1, rfl, ?_, by omega⟩
      have : c1 + c2 - 1 = c2 := by omega
      rw [this]
      exact hl
    · obtain ⟨kids, h1, h2, h3, ⟨a, b⟩, h4⟩ := sub_node hx h0
      subst h4
      refine .inr ⟨a, b, h1, ?_, h3, by omega⟩
      have : c1 + c2 - 1 = c1 - 1 + c2 := by omega
      rw [this]
      exact h2.append hl
end Go.Proofs.YtadmecjdihfmeaaGreat.Tre

/- Layer 7: TreeOpens, walked. (Printed by wip/tools/genlawe.py.) -/
namespace Go.Proofs.YtadmecjdihfmeaaGreat.Tre
set_option linter.unusedVariables false
set_option linter.unusedSimpArgs false
set_option maxRecDepth 100000
open Go.RowKit Go.Lib Go.Proofs.YtadmecjdihfmeaaGreat.Mem Go.Proofs.YtadmecjdihfmeaaGreat.Oct Go.Proofs.YtadmecjdihfmeaaGreat.Dev Go.Proofs.YtadmecjdihfmeaaGreat.Sto

theorem open_none {n m : Nat} {S : StS} {D : DevS} (h : Run n m S D) : OpnF S D 0 = ⟨22, [], []⟩ ∧ TopF S D 0 = .error 22 := by
  have hh : S.has 0 = false := by
    cases hx : S.has 0 with
    | false => rfl
    | true => have := (has_ge h hx).1; omega
  unfold OpnF TopF
  rw [load_none hh]
  exact ⟨rfl, rfl⟩
/-- what there is round the loop -/
structure OpR (wL : World) (S : StS) (D : DevS) (es : List En) (n : Nat) (todo : List Kd) (v12 v16 : Value) (out rest : List En) (c : Nat) (w : World) : Prop where
  ok : TodoOk S D todo rest c
  cnt : n + c ≤ 300
  es : out ++ rest = es
  out : OwnE wL.heap.size w v12 out
  todo : KdW (fun q => v12.ownBlock ≠ some q ∧ q < w.heap.size) w v16 todo
  below : Below wL.heap.size wL w
theorem OpR.on {wL : World} {S : StS} {D : DevS} {es : List En} {n : Nat} {todo : List Kd} {v12 v16 : Value} {out rest : List En} {c : Nat} {w w' : World} (h : OpR wL S D es n todo v12 v16 out rest c w) (hb : Below w.heap.size w w') : OpR wL S D es n todo v12 v16 out rest c w' :=
  ⟨h.ok, h.cnt, h.es, h.out.on hb, (h.todo.on hb).mono (fun q hq => ⟨hq.1, Nat.lt_of_lt_of_le hq.2 hb.size⟩), h.below.trans (hb.mono h.below.size)⟩
/-- behind the append of the entries -/
theorem OpR.mid {wL : World} {S : StS} {D : DevS} {es : List En} {n : Nat} {todo : List Kd} {v12 v16 : Value} {out rest : List En} {c : Nat} {w7 w8 : World} {v8 : Value} (h : OpR wL S D es n todo v12 v16 out rest c w7) (hc : Chg v12.ownBlock.toList w7 w8) (hat : v8.ownBlock = v12.ownBlock ∨ v8.ownBlock = some w7.heap.size) :
    Below wL.heap.size wL w8 ∧ KdW (fun q => v8.ownBlock ≠ some q ∧ q < w8.heap.size) w8 v16 todo ∧ ∀ (b : Nat) (u : Value) (l : List Kd), w7.heap.size ≤ b ∨ v12.ownBlock = none ∨ (∃ q, v12.ownBlock = some q ∧ q < b) → OwnK b w7 u l → OwnK b w8 u l := by
  refine ⟨h.below.trans (hc.below h.below.size (fun q hq => (World.ownsRow.lt h.out q (by simpa using hq)).1)), ⟨(h.todo.1.chg hc (fun k hk hm => hk.1 (by simpa using hm))).mono (fun q hq => ⟨?_, Nat.lt_of_lt_of_le hq.2 hc.size⟩), h.todo.2⟩, fun b u l hb hu => hu.chg hc (fun t ht he => ?_)⟩
  · rcases hat with h1 | h1 <;> rw [h1]
    · exact hq.1
    · intro he
      injection he with he
      have := hq.2
      omega
  · have h1 : v12.ownBlock = some t := by simpa using ht
    have h2 := (World.ownsRow.lt hu t he).1
    have h3 := (World.ownsRow.lt h.out t h1).2
    rcases hb with hb | hb | ⟨q, hb, hq⟩
    · omega
    · rw [hb] at h1; cases h1
    · rw [h1] at hb
      injection hb with hb
      omega
theorem todo_nil {S : StS} {D : DevS} {es out rest : List En} {c : Nat} (h : TodoOk S D [] rest c) (k : out ++ rest = es) : out = es ∧ rest = [] := by
  cases h with
  | nil => rw [List.append_nil] at k; exact ⟨k, rfl⟩
theorem OpR.next {wL : World} {S : StS} {D : DevS} {es : List En} {n : Nat} {todo td : List Kd} {v12 v16 : Value} {out rest : List En} {c : Nat} {w7 w8 w9 w10 : World} {v8 v9 v10 : Value} {ents rest' : List En} {kids : List Kd} (h : OpR wL S D es n todo v12 v16 out rest c w7)
    (hre : rest = ents ++ rest') (htk : TodoOk S D (kids ++ td) rest' (c - 1)) (hc1 : 1 ≤ c) (hown8 : OwnE wL.heap.size w8 v8 (out ++ ents)) (hb8 : Below wL.heap.size wL w8) (hb9 : Below w8.heap.size w8 w9) (hv9 : OwnK w8.heap.size w9 v9 kids) (hown10 : OwnK w8.heap.size w10 v10 (kids ++ td)) (hc10 : Chg v9.ownBlock.toList w9 w10) :
    OpR wL S D es (n + 1) (kids ++ td) v8 v10 (out ++ ents) rest' (c - 1) w10 := by
  have hb10 : Below w8.heap.size w8 w10 := hb9.trans (hc10.below hb9.size (fun q hq => (World.ownsRow.lt hv9 q (by simpa using hq)).1))
  have hcnt := h.cnt
  have hl := (todo_cnt htk).1
  refine ⟨htk, by omega, by rw [List.append_assoc, ← hre]; exact h.es, hown8.on hb10, (hown10.kdw (by omega)).mono (fun q hq => ⟨fun he => ?_, hq.2⟩), hb8.trans (hb10.mono hb8.size)⟩
  have h1 := (World.ownsRow.lt hown8 q he).2
  have h2 := hq.1
  omega
set_option maxHeartbeats 16000000 in
theorem treeOpens_any (w : World) (v : Value) (l : List DoE) (h : Does (· < w.heap.size) w v l) : Calls Tryz.prog 4 #[v] w (LawIs w) := by
  obtain ⟨a, c, rfl, hm⟩ := h.len
  have H0 : Hid (Does (· < w.heap.size) w (.slice a l.length c) l ∧ (8 ≤ 700 ∧ 700 ≤ 4096)) := ⟨h, by omega⟩
  clear h
  go_enter Tryz.func4, Tryz.ntmps4
  go_wp2_with fail
  refine (short_any w a l.length c H0.out.1.rd).mono ?_
  rintro e w1 ⟨x, rfl, hx, hb⟩
  have HB1 : Hid (Below w.heap.size w w1) := hb
  cases x with
  | false =>
    clear hb hx
    go_wp2_with fail
    refine (awake_any w1).mono ?_
    rintro e w19 ⟨rfl, hb⟩
    have H19 : Hid (Below w.heap.size w w19) := HB1.out.trans (hb.mono HB1.out.size)
    clear hb
    go_wp2_with fail
    go_ret
    exact ⟨rfl, H19.out⟩
  | true =>
    have HL : Hid (l.length ≤ 300) := hx rfl
    have H1 : Hid (Does (· < w1.heap.size) w1 (.slice a l.length c) l) := (H0.out.1.on hb).wide hb.size
    clear hb hx
    go_wp2_with fail
    refine (fresh_any w1 700 H0.out.2).mono ?_
    rintro e w2 ⟨B, D, rfl, hsc, hst⟩
    have H2 : Hid (Sc w1 B (StS.fresh nil8) D w2 ∧ St 700 0 (StS.fresh nil8) D [(0, [])]) := ⟨hsc, hst⟩
    clear hsc hst
    go_wp2_with fail
    refine (made_fresh H0.out.2 HL.out (by omega) H2.out.1 H2.out.2 H1.out).mono ?_
    rintro e w3 ⟨root, v3, rfl, hM⟩
    obtain ⟨es, hes⟩ : ∃ es, es = playE l [] := ⟨_, rfl⟩
    have hel : es.length ≤ 300 := by rw [hes]; exact play_len HL.out
    rw [← hes] at hM
    obtain ⟨S, D, hsc, hst⟩ := hM.ex
    have H3 : Hid (Sc w1 B S D w3 ∧ St 700 l.length S D [(root, es)] ∧ Ents (Oth w1 B w3) w3 v3 es) := ⟨hsc, hst, hM.row⟩
    have HEL : Hid (es.length ≤ 300) := hel
    clear hM H2 hes hel hsc hst
    by_cases h0 : root = 0
    · subst h0
      have hn := (H3.out.2.1.trees (0, es) (by simp)).nil rfl
      have hn' : es = [] := hn
      subst hn'
      obtain ⟨a3, c3, hv3, _⟩ := H3.out.2.2.form
      subst hv3
      have HO : Hid (OpnF S D 0 = ⟨22, [], []⟩ ∧ TopF S D 0 = .error 22) := open_none H3.out.2.1.run
      clear hn
      go_wp2_with fail
      refine (treeOpen_any w3 B S D 0 H3.out.1.st).mono ?_
      rintro e w4 ⟨v4, u4, rfl, _, _, hb4⟩
      rw [HO.out.1]
      have H4 : Hid (Sc w1 B S D w4) := H3.out.1.on hb4
      clear hb4
      dsimp only
      go_wp2_with fail
      refine (top_any w4 B S D 0 H4.out.st).mono ?_
      rintro e w5 ⟨rfl, hb5⟩
      rw [HO.out.2]
      have H5 : Hid (Below w.heap.size w w5) := by
        have h1 := (H4.out.on hb5).below
        exact HB1.out.trans (h1.mono HB1.out.size)
      have e1 : keyOf (.error 22) = (⟨#[]⟩, 0) := rfl
      have e2 : erOf (.error 22 : Except Int (ByteArray × Nat)) = 22 := rfl
      rw [e1, e2]
      clear hb5 H4 e1 e2
      go_wp2_with fail
      refine (awake_any w5).mono ?_
      rintro e w19 ⟨rfl, hb⟩
      have H19 : Hid (Below w.heap.size w w19) := H5.out.trans (hb.mono H5.out.size)
      clear hb
      go_wp2_with fail
      go_ret
      exact ⟨rfl, H19.out⟩
    · have hr0 : (root == 0) = false := by simpa using h0
      obtain ⟨nd, hnd⟩ := (H3.out.2.1.trees (root, es) (by simp)).node h0
      obtain ⟨k0, hk0⟩ : ∃ k0, k0 = headK nd.items := ⟨_, rfl⟩
      obtain ⟨lv, hlv⟩ : ∃ lv, lv = nd.level := ⟨_, rfl⟩
      have ht0 : TopF S D root = .ok (k0, lv) := by unfold TopF; rw [hnd.load, hk0, hlv]; rfl
      have hh0 : HeightF S D root = .ok (lv + 1) := by unfold HeightF; rw [if_neg h0, hnd.load, hlv]
      have htd := todo_root hnd
      rw [← hk0] at htd
      have hlv20 : lv ≤ 20 := by rw [hlv]; exact hnd.nd.level
      have HN : Hid (TopF S D root = .ok (k0, lv) ∧ HeightF S D root = .ok (lv + 1) ∧ lv ≤ 20 ∧ ∃ c, TodoOk S D [(k0, root)] es c ∧ 0 + c ≤ 300) := ⟨ht0, hh0, hlv20, _, htd.1, by have h1 : _ ≤ es.length := htd.2; have := HEL.out; omega⟩
      clear h0 hnd hk0 hlv ht0 hh0 htd hlv20
      go_wp2_with fail
      refine (top_any w3 B S D root H3.out.1.st).mono ?_
      rintro e w4 ⟨rfl, hb4⟩
      rw [HN.out.1]
      have e1 : (keyOf (.ok (k0, lv))).1 = k0 := rfl
      have e2 : (keyOf (.ok (k0, lv))).2 = lv := rfl
      have e3 : erOf (.ok (k0, lv) : Except Int (ByteArray × Nat)) = 0 := rfl
      rw [e1, e2, e3]
      clear e1 e2 e3
      obtain ⟨wL, hwL⟩ : ∃ wL, wL = w4.alloc (.cells #[.string k0, .int .i64 root] 39) := ⟨_, rfl⟩
      have hbL : Below w4.heap.size w4 wL := by rw [hwL]; exact (Below.refl _ _).alloc (Nat.le_refl _) _
      have hxL : wL.heap[w4.heap.size]? = some (.cells #[.string k0, .int .i64 root] 39 (0, 0)) := by rw [hwL]; exact heap_alloc_last _ _
      obtain ⟨c0, hc0, hc300⟩ := HN.out.2.2.2
      have htd0 : KdW (fun q => (Value.slice none 0 0).ownBlock ≠ some q ∧ q < wL.heap.size) wL (.slice (some ⟨w4.heap.size, 0, none⟩) 1 1) [(k0, root)] := by
        refine ⟨.inr ⟨w4.heap.size, 0, 1, rfl, ⟨by simp [Value.ownBlock], heap_lt hxL⟩, by simp, fun j hj => ⟨kdL (k0, root), rfl, fun q hq => ?_, ?_⟩⟩, fun a n c e => by injection e with e0 e1 e2; subst e0 e1 e2; exact ⟨by omega, fun h => by cases h⟩⟩
        · have : j = 0 := by simp at hj; omega
          subst this
          rcases (by omega : q = 0 ∨ q = 1) with rfl | rfl
          · exact cell_at hxL 0
          · exact cell_at hxL 1
        · have : j = 0 := by simp at hj; omega
          subst this
          rfl
      have HLP : Hid (OpR wL S D es 0 [(k0, root)] (.slice none 0 0) (.slice (some ⟨w4.heap.size, 0, none⟩) 1 1) [] es c0 wL) := ⟨hc0, hc300, rfl, OwnE.nil _ _, htd0, Below.refl _ _⟩
      have H : Hid (Sc w1 B S D wL ∧ Ents (Oth w1 B wL) wL v3 es ∧ es.length ≤ 300 ∧ HeightF S D root = .ok (lv + 1) ∧ lv ≤ 20) := ⟨(H3.out.1.on hb4).on hbL, (H3.out.2.2.oth (Chg.of_below hb4)).oth (Chg.of_below hbL), HEL.out, HN.out.2.1, HN.out.2.2.1⟩
      clear hb4 hbL hxL hc0 hc300 htd0 H3 HEL HN
      go_wp2_with fail
      rw [← hwL]
      clear hwL
      go_loopw [12, 16, 17] (fun v12 v16 v17 wr => ∃ (n : Nat) (todo : List Kd) (out rest : List En) (c : Nat), n ≤ 300 ∧ v17 = .int .i64 n ∧ Hid (OpR wL S D es n todo v12 v16 out rest c wr)) (fun _ _ v17 _ => 300 - (intOf v17).toNat)
      case atStart => exact ⟨0, _, _, _, _, by omega, rfl, HLP⟩
      case round =>
        obtain ⟨n, todo, out, rest, c, hn, rfl, HT⟩ := hrel
        obtain ⟨at_, ct, hv16, hct, _⟩ := HT.out.todo.form
        subst hv16
        cases todo with
        | nil =>
          have hz : (0 : Int) ≤ 0 := by decide
          obtain ⟨hes, hrs⟩ := todo_nil HT.out.ok HT.out.es
          have HX : Hid (OwnE wL.heap.size wr u12 es ∧ Below wL.heap.size wL wr) := ⟨by rw [← hes]; exact HT.out.out, HT.out.below⟩
          clear hes hrs hz
          obtain ⟨a3, c3, hv3, _⟩ := H.out.2.1.form
          have HR : Hid (Sc w1 B S D wr ∧ ∃ p, Ents p wr v3 es) := ⟨H.out.1.on HX.out.2, _, H.out.2.1.on HX.out.2⟩
          clear hv3
          go_wp2_with fail
          refine (height_any wr B S D root HR.out.1.st).mono ?_
          rintro e w5 ⟨rfl, hb5⟩
          rw [H.out.2.2.2.1]
          have e1 : hOf (.ok (lv + 1)) = lv + 1 := rfl
          have e2 : erOf (.ok (lv + 1) : Except Int Nat) = 0 := rfl
          rw [e1, e2]
          have H5 : Hid (Sc w1 B S D w5 ∧ (∃ p, Ents p w5 v3 es) ∧ OwnE wL.heap.size w5 u12 es) := by
            obtain ⟨p, hp⟩ := HR.out.2
            exact ⟨HR.out.1.on hb5, ⟨p, hp.on hb5⟩, HX.out.1.on hb5⟩
          have hlv := H.out.2.2.2.2
          clear hb5 e1 e2 HR HX
          go_wp2_with fail
          obtain ⟨p5, hp5⟩ := H5.out.2.1
          have HP5 : Hid (Ents p5 w5 v3 es) := hp5
          clear hp5
          refine (equal_own H5.out.2.2 (by have := H.out.2.2.1; omega) HP5.out).mono ?_
          rintro e w6 ⟨rfl, hb6⟩
          have H6 : Hid (Below w.heap.size w w6) := by
            have h1 := (H5.out.1.on hb6).below
            exact HB1.out.trans (h1.mono HB1.out.size)
          clear hb6 H5 HP5
          go_wp2_with fail
          refine (awake_any w6).mono ?_
          rintro e w19 ⟨rfl, hb⟩
          have H19 : Hid (Below w.heap.size w w19) := H6.out.trans (hb.mono H6.out.size)
          clear hb
          go_wp2_with fail
          go_ret
          exact ⟨rfl, H19.out⟩
        | cons x td =>
          have hn7 : (n : Int) < 700 := by omega
          cases at_ with
          | none => have := (HT.out.todo.2 _ _ _ rfl).2 rfl; simp at hct; omega
          | some ad =>
            obtain ⟨b, o, hab, _, q0, q1⟩ := HT.out.todo.1.at 0 (by simp)
            injection hab with hab
            subst hab
            obtain ⟨lt, hlt⟩ : ∃ lt, lt = (x :: td).length := ⟨_, rfl⟩
            have hlt0 : 0 < (lt : Int) := by rw [hlt, List.length_cons]; omega
            have HLT : Hid (lt = td.length + 1 ∧ lt ≤ ct) := ⟨hlt, by rw [hlt]; exact hct⟩
            rw [← hlt] at HT ⊢
            simp only [Nat.zero_mul, Nat.add_zero, List.getElem_cons_zero] at q0 q1
            obtain ⟨w5, hw5⟩ : ∃ w5, w5 = wr.alloc (.cells #[.string x.1, .int .i64 x.2] 39) := ⟨_, rfl⟩
            obtain ⟨kb, hkb⟩ : ∃ kb, kb = wr.heap.size := ⟨_, rfl⟩
            have hb5 : Below wr.heap.size wr w5 := by rw [hw5]; exact (Below.refl _ _).alloc (Nat.le_refl _) _
            have hx5 : w5.heap[kb]? = some (.cells #[.string x.1, .int .i64 x.2] 39 (0, 0)) := by rw [hw5, hkb]; exact heap_alloc_last _ _
            have z0 : w5.cell? ⟨kb, 0, none⟩ = some (.string x.1) := cell_at hx5 0
            have z1 : w5.cell? ⟨kb, 1, none⟩ = some (.int .i64 x.2) := cell_at hx5 1
            have H5 : Hid (Below wr.heap.size wr w5 ∧ Sc w1 B S D w5) := ⟨hb5, H.out.1.on (HT.out.below.trans (hb5.mono HT.out.below.size))⟩
            have HS5 : Hid (w5.heap.size = wr.heap.size + 1) := by show _ = _; rw [hw5]; simp
            clear hb5 hx5 hlt hct
            go_wp2_with fail
            rw [← hkb, ← hw5]
            clear hkb hw5
            go_wp2_with fail
            refine (treeOpen_any w5 B S D x.2 H5.out.2.st).mono ?_
            rintro e w6 ⟨v6, u6, rfl, hoe, hok, hb6⟩
            rcases todo_step HT.out.ok with ⟨e0, r, rest', hop, hre, htk, hc1⟩ | ⟨k1, r, hop, htk, hk8, hc1⟩
            · have HTK : Hid (rest = ((x.1, e0) :: r) ++ rest' ∧ TodoOk S D td rest' (c - 1) ∧ 1 ≤ c) := ⟨hre, htk, hc1⟩
              have hrl : ((x.1, e0) :: r).length ≤ 300 := by
                have h1 := congrArg List.length HT.out.es
                have h2 := H.out.2.2.1
                rw [hre] at h1
                simp only [List.length_append] at h1 ⊢
                omega
              have HRL : Hid (((x.1, e0) :: r).length ≤ 300) := hrl
              clear hre htk hc1 z1 hrl
              rw [hop] at hoe hok ⊢
              obtain ⟨a6, c6, rfl⟩ := hoe.form
              have hE6 := hoe.ents (by have := HRL.out; simp at this ⊢; omega)
              obtain ⟨a6', c6', hu6⟩ := hok.form
              subst hu6
              obtain ⟨be, oe, rfl, _, g0, g1⟩ := hE6.at 0 (by simp)
              simp only [Nat.zero_mul, Nat.add_zero, List.getElem_cons_zero] at g0
              have HX : Hid True := trivial
              dsimp only at g0 ⊢
              simp only [List.length_cons, List.length_nil] at g0 hoe hE6 hok ⊢
              obtain ⟨m, hmr⟩ : ∃ m, m = r.length + 1 := ⟨_, rfl⟩
              have hm0 : 0 < (m : Int) := by omega
              rw [← hmr] at hoe hE6 ⊢
              have H6 : Hid (OwnE w5.heap.size w6 (.slice (some ⟨be, oe, none⟩) m c6) ((x.1, e0) :: r) ∧ OwnK w5.heap.size w6 (.slice a6' 0 c6') [] ∧ Below w5.heap.size w5 w6) := ⟨hoe, hok, hb6⟩
              have z1 : w6.cell? ⟨kb, 0, none⟩ = some (.string x.1) := cell_on hb6 z0
              have hm1 : (m : Int) ≤ 300 := by have := HRL.out; simp at this; omega
              have hne : ((m : Int) == 0) = false := by simp; omega
              clear hoe hok hE6 hb6 hop hmr z0 q0 q1 g1
              go_wp2_with fail
              have d1 : decide (0 < m) = true := by simp; omega
              have d2 : decide (m = 0) = false := by simp; omega
              have d3 : ((m : Int) == 0) = false := by simp; omega
              go_quiet (fail)
              obtain ⟨w7, hw7⟩ : ∃ w7, w7 = w6.drewN nq := ⟨_, rfl⟩
              have hb7 : Below w6.heap.size w6 w7 := by rw [hw7]; exact drewN_any _
              have hT7 := HT.out.on ((H5.out.1.trans (H6.out.2.2.mono H5.out.1.size)).trans (hb7.mono (H5.out.1.trans (H6.out.2.2.mono H5.out.1.size)).size))
              have H7 : Hid (OpR wL S D es n (x :: td) u12 (.slice (some ⟨b, o, none⟩) lt ct) out rest c w7 ∧ OwnE w5.heap.size w7 (.slice (some ⟨be, oe, none⟩) m c6) ((x.1, e0) :: r) ∧ OwnK w5.heap.size w7 (.slice a6' 0 c6') (([] : List Kd)) ∧ wL.heap.size ≤ w7.heap.size ∧ out.length + ((x.1, e0) :: r).length ≤ 1048576 ∧ w5.heap.size = wr.heap.size + 1) := by
                refine ⟨hT7, H6.out.1.on hb7, H6.out.2.1.on hb7, hT7.below.size, ?_, HS5.out⟩
                have h1 := congrArg List.length HT.out.es
                have h2 := H.out.2.2.1
                rw [HTK.out.1] at h1
                simp only [List.length_append, List.length_cons, List.length_nil] at h1 ⊢
                omega
              rw [← hw7]
              clear hw7 hb7 hT7 z1 d1 d2 d3 g0
              go_wp2_with (first
                | (at_builtin; refine wpList_append_entsO rfl _ _ rfl wL.heap.size H7.out.2.2.2.1 u12 out rfl H7.out.1.out _ w5.heap.size ((x.1, e0) :: r) rfl H7.out.2.1 H7.out.2.2.2.2.1 ?_)
                | fail)
              intro v8 w8 hown8 hc8 hat8
              have hmid := H7.out.1.mid hc8 hat8
              have H8 : Hid (OwnE wL.heap.size w8 v8 (out ++ ((x.1, e0) :: r)) ∧ Below wL.heap.size wL w8 ∧ KdW (fun q => v8.ownBlock ≠ some q ∧ q < w8.heap.size) w8 (.slice (some ⟨b, o, none⟩) lt ct) (x :: td) ∧ OwnK w5.heap.size w8 (.slice a6' 0 c6') (([] : List Kd))) := by
                refine ⟨by first | exact hown8 | (rw [List.append_nil]; exact hown8), hmid.1, hmid.2.1, hmid.2.2 _ _ _ ?_ H7.out.2.2.1⟩
                cases ho : u12.ownBlock with
                | none => exact .inr (.inl rfl)
                | some q =>
                  have h1 := (World.ownsRow.lt HT.out.out q ho).2
                  exact .inr (.inr ⟨q, rfl, by have := HS5.out; omega⟩)
              clear hown8 hc8 hat8 hmid
              have HW : Hid (OwnK w5.heap.size w8.drew (.slice a6' 0 c6') (([] : List Kd)) ∧ w8.drew.heap.size = w8.heap.size ∧ Below w8.heap.size w8 w8.drew ∧ td.length + (([] : List Kd)).length ≤ 400) := ⟨H8.out.2.2.2.on (Below.refl _ _).drew, rfl, (Below.refl _ _).drew, by have h1 := (todo_cnt HTK.out.2.1).1; have h2 := HT.out.cnt; simp only [List.length_nil]; omega⟩
              have hdr := H8.out.2.2.1
              have hlt1 : lt = (x :: td).length := by have := HLT.out.1; simp; omega
              rw [hlt1] at hdr
              have hdr := hdr.drop 1 (by simp)
              rw [← hlt1] at hdr
              clear hlt1
              by_cases hct1 : ct = 1
              · rw [if_pos hct1] at hdr
                have hl1 : lt = 1 := by have := HLT.out; omega
                subst hct1
                subst hl1
                have HS : Hid (Kds (fun q => v8.ownBlock ≠ some q ∧ q < w8.heap.size) w8 (.slice (some ⟨b, o, none⟩) 0 0) td ∧ 0 = td.length) := ⟨hdr.1, by have := HLT.out.1; omega⟩
                clear hdr hlt0
                go_upto_region 20 with fail
                go_region_held3 (fun w' => True) (trivial)
                  (first
                    | (go_at_call 17; refine (clone_any w5.heap.size w8.drew (.slice a6' 0 c6') (([] : List Kd)) HW.out.1 (by have := HW.out.2.2.2; omega)).mono ?_; rintro e w9 ⟨v9, rfl, ho9, hb9⟩; have H9 : Hid (OwnK w8.heap.size w9 v9 (([] : List Kd)) ∧ Below w8.heap.size w8 w9 ∧ w8.heap.size ≤ w9.heap.size ∧ Kds (fun q => v8.ownBlock ≠ some q ∧ q < w8.heap.size) w9 (.slice (some ⟨b, o, none⟩) 0 0) td) := ⟨ho9, HW.out.2.2.1.trans hb9, (HW.out.2.2.1.trans hb9).size, HS.out.1.on (HW.out.2.2.1.trans hb9)⟩; clear ho9 hb9)
                    | (refine step_append_kids rfl _ _ rfl w8.heap.size H9.out.2.2.1 v9 (([] : List Kd)) rfl H9.out.1 _ ⟨b, o, none⟩ 0 0 td rfl HS.out.2 H9.out.2.2.2 (by have := HW.out.2.2.2; simp only [List.length_cons, List.length_nil] at this ⊢; omega) ?_; intro v10 w10 ho10 hg10 hat10; have H10 : Hid (OwnK w8.heap.size w10 v10 (([] : List Kd) ++ td) ∧ Chg v9.ownBlock.toList w9 w10) := ⟨ho10, grown_chg hg10⟩; clear ho10 hg10 hat10)
                    | fail)
                all_goals
                  have HF : Hid (OpR wL S D es (n + 1) (([] : List Kd) ++ td) v8 v10 (out ++ ((x.1, e0) :: r)) rest' (c - 1) w10) := H7.out.1.next HTK.out.1 HTK.out.2.1 HTK.out.2.2 H8.out.1 H8.out.2.1 H9.out.2.1 H9.out.1 H10.out.1 H10.out.2
                  have hn1 : n + 1 ≤ 300 := by have h1 := HF.out.cnt; omega
                  clear H10 H9 HS HW H8 H7
                  first
                    | exact ⟨⟨n + 1, _, _, _, _, hn1, by go_num, HF⟩, by simp [intOf]; omega⟩
                    | (go_wp2_with fail
                       go_roundw
                       case rel => exact ⟨n + 1, _, _, _, _, hn1, by go_num, HF⟩
                       case measure => simp [intOf]; omega)
              · rw [if_neg hct1] at hdr
                obtain ⟨l1, hl1⟩ : ∃ l1, l1 = lt - 1 := ⟨_, rfl⟩
                have had : (⟨b, o, none⟩ : Addr).add (1 * 2) = ⟨b, o + 2, none⟩ := by simp [Addr.add]
                rw [had] at hdr
                have HS : Hid (Kds (fun q => v8.ownBlock ≠ some q ∧ q < w8.heap.size) w8 (.slice (some ⟨b, o + 2, none⟩) (lt - 1) (ct - 1)) td ∧ lt - 1 = td.length) := ⟨hdr.1, by have := HLT.out.1; omega⟩
                have s1 : (1 : Int) ≤ (lt : Int) := by omega
                have s2 : (lt : Int) ≤ (ct : Int) := by have := HLT.out.2; omega
                have s3 : (1 : Int) ≤ (ct : Int) := by omega
                have s4 : (0 : Int) ≤ (lt : Int) := by omega
                have s5 : ¬ (ct : Int) = 1 := by omega
                clear hdr had hl1
                go_upto_region 20 with fail
                go_region_held3 (fun w' => True) (trivial)
                  (first
                    | (go_at_call 17; refine (clone_any w5.heap.size w8.drew (.slice a6' 0 c6') (([] : List Kd)) HW.out.1 (by have := HW.out.2.2.2; omega)).mono ?_; rintro e w9 ⟨v9, rfl, ho9, hb9⟩; have H9 : Hid (OwnK w8.heap.size w9 v9 (([] : List Kd)) ∧ Below w8.heap.size w8 w9 ∧ w8.heap.size ≤ w9.heap.size ∧ Kds (fun q => v8.ownBlock ≠ some q ∧ q < w8.heap.size) w9 (.slice (some ⟨b, o + 2, none⟩) (lt - 1) (ct - 1)) td) := ⟨ho9, HW.out.2.2.1.trans hb9, (HW.out.2.2.1.trans hb9).size, HS.out.1.on (HW.out.2.2.1.trans hb9)⟩; clear ho9 hb9)
                    | (refine step_append_kids rfl _ _ rfl w8.heap.size H9.out.2.2.1 v9 (([] : List Kd)) rfl H9.out.1 _ ⟨b, o + 2, none⟩ (lt - 1) (ct - 1) td rfl HS.out.2 H9.out.2.2.2 (by have := HW.out.2.2.2; simp only [List.length_cons, List.length_nil] at this ⊢; omega) ?_; intro v10 w10 ho10 hg10 hat10; have H10 : Hid (OwnK w8.heap.size w10 v10 (([] : List Kd) ++ td) ∧ Chg v9.ownBlock.toList w9 w10) := ⟨ho10, grown_chg hg10⟩; clear ho10 hg10 hat10)
                    | fail)
                all_goals
                  have HF : Hid (OpR wL S D es (n + 1) (([] : List Kd) ++ td) v8 v10 (out ++ ((x.1, e0) :: r)) rest' (c - 1) w10) := H7.out.1.next HTK.out.1 HTK.out.2.1 HTK.out.2.2 H8.out.1 H8.out.2.1 H9.out.2.1 H9.out.1 H10.out.1 H10.out.2
                  have hn1 : n + 1 ≤ 300 := by have h1 := HF.out.cnt; omega
                  clear H10 H9 HS HW H8 H7
                  first
                    | exact ⟨⟨n + 1, _, _, _, _, hn1, by go_num, HF⟩, by simp [intOf]; omega⟩
                    | (go_wp2_with fail
                       go_roundw
                       case rel => exact ⟨n + 1, _, _, _, _, hn1, by go_num, HF⟩
                       case measure => simp [intOf]; omega)
            · have HTK : Hid (rest = ([] : List En) ++ rest ∧ TodoOk S D (((x.1, k1) :: r) ++ td) rest (c - 1) ∧ 1 ≤ c) := ⟨rfl, htk, hc1⟩
              have HRL : Hid (((x.1, k1) :: r).length ≤ 300) := by have := hk8; show _ ≤ _; omega
              clear htk hc1 hk8 z1
              rw [hop] at hoe hok ⊢
              obtain ⟨a6, c6, hu6⟩ := hok.form
              subst hu6
              have hK6 := hok.kids (by have := HRL.out; simp at this ⊢; omega)
              obtain ⟨a6', c6', hv6⟩ := hoe.form
              subst hv6
              obtain ⟨be, oe, rfl, _, g0, g1⟩ := hK6.at 0 (by simp)
              simp only [Nat.zero_mul, Nat.add_zero, List.getElem_cons_zero] at g0
              dsimp only at g0 ⊢
              simp only [List.length_cons, List.length_nil] at g0 hoe hK6 hok ⊢
              obtain ⟨m, hmr⟩ : ∃ m, m = r.length + 1 := ⟨_, rfl⟩
              have hm0 : 0 < (m : Int) := by omega
              rw [← hmr] at hok hK6 ⊢
              have H6 : Hid (OwnE w5.heap.size w6 (.slice a6' 0 c6') [] ∧ OwnK w5.heap.size w6 (.slice (some ⟨be, oe, none⟩) m c6) ((x.1, k1) :: r) ∧ Below w5.heap.size w5 w6) := ⟨hoe, hok, hb6⟩
              have z1 : w6.cell? ⟨kb, 0, none⟩ = some (.string x.1) := cell_on hb6 z0
              have hm1 : (m : Int) ≤ 300 := by have := HRL.out; simp at this; omega
              have hne : ((m : Int) == 0) = false := by simp; omega
              clear hoe hok hK6 hb6 hop hmr z0 q0 q1 g1
              go_wp2_with fail
              have d1 : decide (0 < m) = true := by simp; omega
              have d2 : decide (m = 0) = false := by simp; omega
              have d3 : ((m : Int) == 0) = false := by simp; omega
              go_quiet (fail)
              obtain ⟨w7, hw7⟩ : ∃ w7, w7 = w6.drewN nq := ⟨_, rfl⟩
              have hb7 : Below w6.heap.size w6 w7 := by rw [hw7]; exact drewN_any _
              have hT7 := HT.out.on ((H5.out.1.trans (H6.out.2.2.mono H5.out.1.size)).trans (hb7.mono (H5.out.1.trans (H6.out.2.2.mono H5.out.1.size)).size))
              have H7 : Hid (OpR wL S D es n (x :: td) u12 (.slice (some ⟨b, o, none⟩) lt ct) out rest c w7 ∧ OwnE w5.heap.size w7 (.slice a6' 0 c6') (([] : List En)) ∧ OwnK w5.heap.size w7 (.slice (some ⟨be, oe, none⟩) m c6) ((x.1, k1) :: r) ∧ wL.heap.size ≤ w7.heap.size ∧ out.length + (([] : List En)).length ≤ 1048576 ∧ w5.heap.size = wr.heap.size + 1) := by
                refine ⟨hT7, H6.out.1.on hb7, H6.out.2.1.on hb7, hT7.below.size, ?_, HS5.out⟩
                have h1 := congrArg List.length HT.out.es
                have h2 := H.out.2.2.1
                rw [HTK.out.1] at h1
                simp only [List.length_append, List.length_cons, List.length_nil] at h1 ⊢
                omega
              rw [← hw7]
              clear hw7 hb7 hT7 z1 d1 d2 d3 g0
              go_wp2_with (first
                | (at_builtin; refine wpList_append_entsO rfl _ _ rfl wL.heap.size H7.out.2.2.2.1 u12 out rfl H7.out.1.out _ w5.heap.size (([] : List En)) rfl H7.out.2.1 H7.out.2.2.2.2.1 ?_)
                | fail)
              intro v8 w8 hown8 hc8 hat8
              have hmid := H7.out.1.mid hc8 hat8
              have H8 : Hid (OwnE wL.heap.size w8 v8 (out ++ (([] : List En))) ∧ Below wL.heap.size wL w8 ∧ KdW (fun q => v8.ownBlock ≠ some q ∧ q < w8.heap.size) w8 (.slice (some ⟨b, o, none⟩) lt ct) (x :: td) ∧ OwnK w5.heap.size w8 (.slice (some ⟨be, oe, none⟩) m c6) ((x.1, k1) :: r)) := by
                refine ⟨by first | exact hown8 | (rw [List.append_nil]; exact hown8), hmid.1, hmid.2.1, hmid.2.2 _ _ _ ?_ H7.out.2.2.1⟩
                cases ho : u12.ownBlock with
                | none => exact .inr (.inl rfl)
                | some q =>
                  have h1 := (World.ownsRow.lt HT.out.out q ho).2
                  exact .inr (.inr ⟨q, rfl, by have := HS5.out; omega⟩)
              clear hown8 hc8 hat8 hmid
              have HW : Hid (OwnK w5.heap.size w8.drew (.slice (some ⟨be, oe, none⟩) m c6) ((x.1, k1) :: r) ∧ w8.drew.heap.size = w8.heap.size ∧ Below w8.heap.size w8 w8.drew ∧ td.length + ((x.1, k1) :: r).length ≤ 400) := ⟨H8.out.2.2.2.on (Below.refl _ _).drew, rfl, (Below.refl _ _).drew, by have h1 := (todo_cnt HTK.out.2.1).1; have h2 := HT.out.cnt; simp only [List.length_append, List.length_cons] at h1 ⊢; omega⟩
              have hdr := H8.out.2.2.1
              have hlt1 : lt = (x :: td).length := by have := HLT.out.1; simp; omega
              rw [hlt1] at hdr
              have hdr := hdr.drop 1 (by simp)
              rw [← hlt1] at hdr
              clear hlt1
              by_cases hct1 : ct = 1
              · rw [if_pos hct1] at hdr
                have hl1 : lt = 1 := by have := HLT.out; omega
                subst hct1
                subst hl1
                have HS : Hid (Kds (fun q => v8.ownBlock ≠ some q ∧ q < w8.heap.size) w8 (.slice (some ⟨b, o, none⟩) 0 0) td ∧ 0 = td.length) := ⟨hdr.1, by have := HLT.out.1; omega⟩
                clear hdr hlt0
                go_upto_region 20 with fail
                go_region_held3 (fun w' => True) (trivial)
                  (first
                    | (go_at_call 17; refine (clone_any w5.heap.size w8.drew (.slice (some ⟨be, oe, none⟩) m c6) ((x.1, k1) :: r) HW.out.1 (by have := HW.out.2.2.2; omega)).mono ?_; rintro e w9 ⟨v9, rfl, ho9, hb9⟩; have H9 : Hid (OwnK w8.heap.size w9 v9 ((x.1, k1) :: r) ∧ Below w8.heap.size w8 w9 ∧ w8.heap.size ≤ w9.heap.size ∧ Kds (fun q => v8.ownBlock ≠ some q ∧ q < w8.heap.size) w9 (.slice (some ⟨b, o, none⟩) 0 0) td) := ⟨ho9, HW.out.2.2.1.trans hb9, (HW.out.2.2.1.trans hb9).size, HS.out.1.on (HW.out.2.2.1.trans hb9)⟩; clear ho9 hb9)
                    | (refine step_append_kids rfl _ _ rfl w8.heap.size H9.out.2.2.1 v9 ((x.1, k1) :: r) rfl H9.out.1 _ ⟨b, o, none⟩ 0 0 td rfl HS.out.2 H9.out.2.2.2 (by have := HW.out.2.2.2; simp only [List.length_cons, List.length_nil] at this ⊢; omega) ?_; intro v10 w10 ho10 hg10 hat10; have H10 : Hid (OwnK w8.heap.size w10 v10 ((x.1, k1) :: r ++ td) ∧ Chg v9.ownBlock.toList w9 w10) := ⟨ho10, grown_chg hg10⟩; clear ho10 hg10 hat10)
                    | fail)
                all_goals
                  have HF : Hid (OpR wL S D es (n + 1) ((x.1, k1) :: r ++ td) v8 v10 (out ++ (([] : List En))) rest (c - 1) w10) := H7.out.1.next HTK.out.1 HTK.out.2.1 HTK.out.2.2 H8.out.1 H8.out.2.1 H9.out.2.1 H9.out.1 H10.out.1 H10.out.2
                  have hn1 : n + 1 ≤ 300 := by have h1 := HF.out.cnt; omega
                  clear H10 H9 HS HW H8 H7
                  first
                    | exact ⟨⟨n + 1, _, _, _, _, hn1, by go_num, HF⟩, by simp [intOf]; omega⟩
                    | (go_wp2_with fail
                       go_roundw
                       case rel => exact ⟨n + 1, _, _, _, _, hn1, by go_num, HF⟩
                       case measure => simp [intOf]; omega)
              · rw [if_neg hct1] at hdr
                obtain ⟨l1, hl1⟩ : ∃ l1, l1 = lt - 1 := ⟨_, rfl⟩
                have had : (⟨b, o, none⟩ : Addr).add (1 * 2) = ⟨b, o + 2, none⟩ := by simp [Addr.add]
                rw [had] at hdr
                have HS : Hid (Kds (fun q => v8.ownBlock ≠ some q ∧ q < w8.heap.size) w8 (.slice (some ⟨b, o + 2, none⟩) (lt - 1) (ct - 1)) td ∧ lt - 1 = td.length) := ⟨hdr.1, by have := HLT.out.1; omega⟩
                have s1 : (1 : Int) ≤ (lt : Int) := by omega
                have s2 : (lt : Int) ≤ (ct : Int) := by have := HLT.out.2; omega
                have s3 : (1 : Int) ≤ (ct : Int) := by omega
                have s4 : (0 : Int) ≤ (lt : Int) := by omega
                have s5 : ¬ (ct : Int) = 1 := by omega
                clear hdr had hl1
                go_upto_region 20 with fail
                go_region_held3 (fun w' => True) (trivial)
                  (first
                    | (go_at_call 17; refine (clone_any w5.heap.size w8.drew (.slice (some ⟨be, oe, none⟩) m c6) ((x.1, k1) :: r) HW.out.1 (by have := HW.out.2.2.2; omega)).mono ?_; rintro e w9 ⟨v9, rfl, ho9, hb9⟩; have H9 : Hid (OwnK w8.heap.size w9 v9 ((x.1, k1) :: r) ∧ Below w8.heap.size w8 w9 ∧ w8.heap.size ≤ w9.heap.size ∧ Kds (fun q => v8.ownBlock ≠ some q ∧ q < w8.heap.size) w9 (.slice (some ⟨b, o + 2, none⟩) (lt - 1) (ct - 1)) td) := ⟨ho9, HW.out.2.2.1.trans hb9, (HW.out.2.2.1.trans hb9).size, HS.out.1.on (HW.out.2.2.1.trans hb9)⟩; clear ho9 hb9)
                    | (refine step_append_kids rfl _ _ rfl w8.heap.size H9.out.2.2.1 v9 ((x.1, k1) :: r) rfl H9.out.1 _ ⟨b, o + 2, none⟩ (lt - 1) (ct - 1) td rfl HS.out.2 H9.out.2.2.2 (by have := HW.out.2.2.2; simp only [List.length_cons, List.length_nil] at this ⊢; omega) ?_; intro v10 w10 ho10 hg10 hat10; have H10 : Hid (OwnK w8.heap.size w10 v10 ((x.1, k1) :: r ++ td) ∧ Chg v9.ownBlock.toList w9 w10) := ⟨ho10, grown_chg hg10⟩; clear ho10 hg10 hat10)
                    | fail)
                all_goals
                  have HF : Hid (OpR wL S D es (n + 1) ((x.1, k1) :: r ++ td) v8 v10 (out ++ (([] : List En))) rest (c - 1) w10) := H7.out.1.next HTK.out.1 HTK.out.2.1 HTK.out.2.2 H8.out.1 H8.out.2.1 H9.out.2.1 H9.out.1 H10.out.1 H10.out.2
                  have hn1 : n + 1 ≤ 300 := by have h1 := HF.out.cnt; omega
                  clear H10 H9 HS HW H8 H7
                  first
                    | exact ⟨⟨n + 1, _, _, _, _, hn1, by go_num, HF⟩, by simp [intOf]; omega⟩
                    | (go_wp2_with fail
                       go_roundw
                       case rel => exact ⟨n + 1, _, _, _, _, hn1, by go_num, HF⟩
                       case measure => simp [intOf]; omega)
end Go.Proofs.YtadmecjdihfmeaaGreat.Tre

/- Statements of layer 7: for every input the law returns true. No condition. (Printed by wip/tools/treelaws.py.) -/
namespace Go.Proofs.YtadmecjdihfmeaaGreat.Tre
set_option maxRecDepth 100000
set_option linter.unusedVariables false
set_option linter.unusedSimpArgs false
open Go.ChangeShapes Go.WideShapes Go.ChangeAt Go.RowKit Go.WideMaps Go.WideElems Go.Proofs.YtadmecjdihfmeaaGreat.Mem
open Go.ChangeMaps (open_string shut_string)

theorem own : ownKnob Tryz.prog.godebug = none := by kernel_rfl
theorem laidOut : laidOutB Tryz.prog = true := by kernel_rfl

theorem do_of {H : Type} {enc : TypeId × Value → H} {W : World} {n0 n1 n2 : Nat} {c0 c1 c2 : Value} {y0 y1 y2 : DataW H × List MemPlace}
    (h0 : DataW.trod enc Tryz.prog W 0 (fun _ => true) true n0 3 [c0] = some y0) (h1 : DataW.trod enc Tryz.prog W 0 (fun _ => true) true n1 9 [c1] = some y1)
    (h2 : DataW.trod enc Tryz.prog W 0 (fun _ => true) true n2 9 [c2] = some y2) (hw : Mem.Reached ((DataW.agg [y0.1, y1.1, y2.1]).weights Tryz.prog 45)) : ∃ k, DoIs W [c0, c1, c2] k := by
  obtain ⟨x0, q0, _, w0⟩ := DataW.trod_int Tryz.underlying3 h0
  obtain ⟨x1, q1, r1, w1⟩ := DataW.trod_string Tryz.underlying9 h1
  obtain ⟨x2, q2, r2, w2⟩ := DataW.trod_string Tryz.underlying9 h2
  rw [r1, r2] at hw
  simp only [DataW.weights, Tryz.underlying45] at hw
  have hs1 := open_str_w (t := 9) (P := Tryz.prog) (H := H) (s := x1) (fun n hn => hw n (by simp [DataW.weightsEach, hn]))
  have hs2 := open_str_w (t := 9) (P := Tryz.prog) (H := H) (s := x2) (fun n hn => hw n (by simp [DataW.weightsEach, hn]))
  simp only [List.cons.injEq, and_true] at q0 q1 q2
  subst q0 q1 q2
  exact ⟨⟨x0, x1, x2⟩, rfl, w0, hs1, hs2⟩
/-- A []Do that came in. -/
theorem open_dos {H : Type} {enc : TypeId × Value → H} {W : World} {base : Nat} {v : Value} {d : DataW H} {ps : List MemPlace} (hval : Value.okWide Tryz.prog W .any base 22 v)
    (h : DataW.Trod enc Tryz.prog W 0 (fun _ => true) true 22 v d ps) (hp : ∀ x ∈ ps, x.block < W.heap.size) (hw : Mem.Reached (d.weights Tryz.prog 22)) : ∃ l, Does (· < W.heap.size) W v l := by
  obtain ⟨a, len, cap, rfl⟩ := okWide_slice Tryz.underlying22 hval
  obtain ⟨fuel, hf⟩ := h
  obtain ⟨v', l, hv, hs, _⟩ := open_slice_w (α := DoE) (sz := 3) (R := DoIs) (p := (· < W.heap.size)) Tryz.underlying22 (by kernel_rfl) (by omega) hf hp hw (fun n cs' y htr hz hr => by
    obtain ⟨y0, y1, y2, m, rfl, hl, h0, h1, h2⟩ := Deep.trod_struct3 (f0 := _) (f1 := _) (f2 := _) Tryz.underlying45 htr
    have hl3 : cs'.length = 3 := hl
    match cs', hl3 with
    | [c0, c1, c2], _ => exact do_of h0 h1 h2 hr)
  have e : v' = .slice a len cap := by simpa [Value.cells] using hv.symm
  subst e
  exact ⟨l, hs⟩
/-- A Do that came in. -/
theorem open_do {H : Type} {enc : TypeId × Value → H} {W : World} {base : Nat} {v : Value} {d : DataW H} {ps : List MemPlace} (hval : Value.okWide Tryz.prog W .any base 45 v)
    (h : DataW.Trod enc Tryz.prog W 0 (fun _ => true) true 45 v d ps) (hw : Mem.Reached (d.weights Tryz.prog 45)) : ∃ k : DoE, v = k.v ∧ k.fits := by
  obtain ⟨c0, c1, c2, y0, y1, y2, m, rfl, rfl, rfl, h0, h1, h2⟩ := Joins.open_agg3 Tryz.underlying45 (by kernel_rfl) (by kernel_rfl) hval h
  obtain ⟨k, hcs, hf⟩ := do_of h0 h1 h2 hw
  simp only [List.cons.injEq, and_true] at hcs
  obtain ⟨rfl, rfl, rfl⟩ := hcs
  exact ⟨k, rfl, hf⟩

set_option maxRecDepth 100000 in
theorem treeOpens_lifted (os : Os) (started : os.Started) (H : Type) (enc : TypeId × Value → H) :
    ReturnsInHanded {} Tryz.checked os 4 .any (Rows.treeOpensSpec.pre6 enc Tryz.prog Tryz.f4 Rows.treeOpensRow.domain false) (Rows.treeOpensSpec.post enc Tryz.prog Tryz.f4 false true false false) := by
  refine LawFrame.lifted (C := Tryz.checked) (tb := 4) own started (by kernel_rfl) Tryz.func4
    (ChangeSpec.witness6 (enc := enc) (C := Tryz.checked) false ⟨#[], #[.slice none 0 0], []⟩ 8 (by kernel_rfl) (by kernel_rfl) (by kernel_rfl) (by kernel_rfl))
    laidOut (by kernel_rfl) ⟨rfl, fun H ds hd => by match ds, hd with | [d0], _ => exact ⟨rfl, rfl, rfl⟩⟩ rfl Tryz.underlying4 ?_
  intro W base args ds p hval0 hA0 hlt hfz hsz0
  have hval : ∀ (j : Nat) t v, Tryz.f4.params[j]? = some t → args[j]? = some v → Value.okWide Tryz.prog W .any base t v := hval0
  have hA : DataW.TrodAll enc Tryz.prog W 0 (fun _ => true) true Tryz.f4.params.toList args.toList ds p := hA0
  have hsz : (DataW.weightsEach Tryz.prog Tryz.f4.params.toList ds).all (· ≤ reachBytes) = true := hsz0
  rw [Tryz.params4] at hA hval hsz
  obtain ⟨v0, d0, rfl, rfl, h0⟩ := trodAll_one hA
  obtain ⟨l, Hl⟩ := open_dos (hval 0 22 v0 rfl rfl) h0 (fun x hx => hlt x (by simp [hx])) (fun n hn => of_decide_eq_true (List.all_eq_true.1 hsz n (by simp [DataW.weightsEach, hn])))
  exact treeOpens_any W v0 l Hl
theorem treeOpens_holds : Rows.TreeOpensSaid :=
  OpenClaim.holds_of_wide 4 Tryz.f4 rfl rfl rfl rfl rfl rfl rfl ⟨rfl, rfl, rfl, rfl, rfl⟩ rfl rfl rfl rfl rfl (by kernel_rfl) Tryz.func4 (by kernel_rfl)
    (of_decide_eq_true (by kernel_rfl)) (by unfold Func.isWrapper; rw [if_neg (of_decide_eq_false (by kernel_rfl))]; exact ⟨rfl, rfl⟩)
    (fun os started H enc _ => treeOpens_lifted os started H enc)

end Go.Proofs.YtadmecjdihfmeaaGreat.Tre

