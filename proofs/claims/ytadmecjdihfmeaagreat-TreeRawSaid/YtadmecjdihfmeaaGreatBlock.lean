/- Layer 6: what a block holds. -/
import Derived.Test.YtadmecjdihfmeaaGreatSuper
namespace Go.Proofs.YtadmecjdihfmeaaGreat.Sto
set_option linter.unusedVariables false
set_option linter.unusedSimpArgs false
set_option maxRecDepth 100000
open Go.RowKit Go.Lib Go.Proofs.YtadmecjdihfmeaaGreat.Mem Go.Proofs.YtadmecjdihfmeaaGreat.Oct

/-- whole numbers of the call's own -/
def OwnI (base : Nat) (w : World) (v : Value) (l : List Int) : Prop := w.ownsRow base 3 1 v l.length (l.map (Value.int .i64))
theorem OwnI.alloc {base : Nat} {w : World} {v : Value} {l : List Int} (h : OwnI base w v l) (o : Obj) : OwnI base (w.alloc o) v l := World.ownsRow.alloc h o
theorem OwnI.nil (base : Nat) (w : World) : OwnI base w (.slice none 0 0) [] := World.ownsRow_nil _ _ _ _
theorem OwnI.chg {base : Nat} {w w' : World} {v : Value} {l : List Int} {T : List Nat} (h : OwnI base w v l) (hc : Chg T w w') (hT : ∀ t ∈ T, t < base) : OwnI base w' v l := by
  refine ⟨h.1, ?_⟩
  rcases h.2 with h | ⟨g, cap, cur, e, hg, hb, r⟩
  · exact .inl h
  · exact .inr ⟨g, cap, cur, e, hg, (hc.block g (heap_lt hb) (fun hm => by have := hT g hm; omega)).trans hb, r⟩
theorem OwnI.ints {base : Nat} {w : World} {v : Value} {l : List Int} (h : OwnI base w v l) (hl : l.length ≤ 9223372036854775807) : Ints (fun k => base ≤ k ∧ k < w.heap.size) w v l := by
  rcases h.2 with ⟨rfl, h0⟩ | ⟨g, cap, cur, rfl, hg, hb, r⟩
  · exact .inl ⟨List.length_eq_zero_iff.1 h0, _, _, rfl⟩
  · refine .inr ⟨g, 0, cap, rfl, ⟨hg, heap_lt hb⟩, hl, fun j hj => ?_⟩
    rw [← add_at]
    exact World.ownsRow.cells h rfl j _ (by simp [hj])
theorem OwnI.form {base : Nat} {w : World} {v : Value} {l : List Int} (h : OwnI base w v l) : ∃ a c, v = .slice a l.length c := by
  rcases h.2 with ⟨rfl, h0⟩ | ⟨g, cap, cur, rfl, _⟩
  · exact ⟨none, 0, by rw [h0]⟩
  · exact ⟨_, _, rfl⟩
theorem info_int : (Tryz.prog.info? 3).map (fun i => (i.zero, i.size, i.bytes)) = some (some (.int .i64 0), 1, 8) := by kernel_rfl
/-- 'append(out, x)', out the call's own -/
theorem wpList_append_i64 {w : World} {ops : Array Oper} {rest : List Oper} {o : Oper} {a : Act} {Q : Exit → Act → World → Prop} (hgd : o.guard = none) (s x : Operand)
    (ho : o.op = .call { callee := .builtin .append, args := #[s, x], argTypes := #[65, 65] }) (base : Nat) (hbase : base ≤ w.heap.size)
    (v : Value) (l : List Int) (hs : a.eval s = v) (hown : OwnI base w v l) (b : Nat) (y : Int) (hx : a.eval x = .slice (some ⟨b, 0, none⟩) 1 1) (hc : w.cell? ⟨b, 0, none⟩ = some (.int .i64 y)) (hl : l.length ≤ 1048576)
    (h : ∀ v' w', OwnI base w' v' (l ++ [y]) → Below base w w' → w.grownBy w' v.ownBlock → wpList Tryz.prog ops Q rest (a.put o.dst v') w') : wpList Tryz.prog ops Q (o :: rest) a w := by
  obtain ⟨i0, hi, hz0, hz1, hz2⟩ := info_parts info_int
  refine wpList_append_own _ hgd s x 65 ho base 3 i0 (.int .i64 0) 1 8 Tryz.underlying65 hi hz0 hz1 hz2 rfl (by decide) v _ _ hs hown ⟨b, 0, none⟩ 1 1 [.int .i64 y] hx rfl (fun j u hj => ?_) (fun u hu => ?_) (by unfold maxLen; omega) (by omega) hbase (fun v' w' h1 h2 _ => ?_)
  · match j, hj with
    | 0, hj => simp at hj; subst hj; rw [add_at]; exact hc
  · simp at hu; subst hu; rfl
  · refine h _ _ ?_ (below_of_grown' h2 (fun k hk => (World.ownsRow.lt hown k hk).1) hbase) h2
    unfold OwnI
    simpa using h1

def kidsGo (n : Int) : Nat → List Int → ByteArray → Except Int (List Int × ByteArray)
  | 0, acc, s => .ok (acc, s)
  | k + 1, acc, s => match numP 4 s with
    | .error e => .error e
    | .ok (x, s') => if (x : Int) < 2 ∨ n ≤ (x : Int) then .error 201 else kidsGo n k (acc ++ [(x : Int)]) s'
theorem kidsGo_succ (n : Int) (k : Nat) (acc : List Int) (s : ByteArray) : kidsGo n (k + 1) acc s = match numP 4 s with
    | .error e => .error e
    | .ok (x, s') => if (x : Int) < 2 ∨ n ≤ (x : Int) then .error 201 else kidsGo n k (acc ++ [(x : Int)]) s' := rfl
def getR (n : Int) (s : ByteArray) : Except Int ((List Int × ByteArray) × ByteArray) :=
  match numP 1 s with
  | .error e => .error e
  | .ok (many, s1) => if 16 < many then .error 201 else match kidsGo n many [] s1 with
    | .error e => .error e
    | .ok (l, s2) => match textP 3900 s2 with
      | .error e => .error e
      | .ok (d, s3) => .ok ((l, d), s3)
def GetF (n : Int) (s : ByteArray) (bx : Nat) (N : Nat) (r : Except Int ByteArray) (w : World) : Prop :=
  match r with
  | .ok s' => ∃ l d v, getR n s = .ok ((l, d), s') ∧ w.heap[bx]? = some (.cells #[v, .string d] 125 (0, 0)) ∧ OwnI N w v l
  | .error why => getR n s = .error why ∧ ∃ a m c d, w.heap[bx]? = some (.cells #[.slice a m c, .string d] 125 (0, 0))
/-- what stands while a block is read -/
structure Got (w w' : World) (eb bx bn : Nat) (s' : ByteArray) (v : Value) (l : List Int) (d : ByteArray) (n : Int) : Prop where
  eye : EyeAt w' eb s'
  x : w'.heap[bx]? = some (.cells #[v, .string d] 125 (0, 0))
  n : w'.heap[bn]? = some (.cells #[.int .i64 n] 3 (0, 0))
  own : OwnI w.heap.size w' v l
  chg : Chg (eb :: [bx]) w w'
  lt : eb < w.heap.size ∧ bx < w.heap.size ∧ bn < w.heap.size
  ne : eb ≠ bx ∧ bn ≠ bx ∧ bn ≠ eb
section
variable {w w' w'' : World} {eb bx bn : Nat} {s s' s'' : ByteArray} {v : Value} {l : List Int} {d : ByteArray} {n : Int}
theorem Got.eyed (h : Got w w' eb bx bn s' v l d n) (h1 : EyeAt w'' eb s'') (h2 : Chg [eb] w' w'') : Got w w'' eb bx bn s'' v l d n :=
  ⟨h1, (h2.block _ (heap_lt h.x) (by simp; exact Ne.symm h.ne.1)).trans h.x, (h2.block _ (heap_lt h.n) (by simp; exact h.ne.2.2)).trans h.n, h.own.chg h2 (fun t ht => by simp at ht; subst ht; exact h.lt.1), h.chg.trans (h2.mono (by simp)), h.lt, h.ne⟩
theorem Got.err {why : Int} (h : Got w w' eb bx bn s' v l d n) (hb : getR n s = .error why) : LookPost [bx] (GetF n s bx) w eb (.panicked (thrown why)) w' :=
  lookErr h.eye h.chg (by
    obtain ⟨a, c, rfl⟩ := h.own.form
    exact ⟨hb, _, _, _, _, h.x⟩)
theorem Got.cells (h : Got w w' eb bx bn s' v l d n) : w'.cell? ⟨bx, 0, none⟩ = some v ∧ w'.cell? ⟨bx, 1, none⟩ = some (.string d) ∧ w'.cell? ⟨bn, 0, none⟩ = some (.int .i64 n) ∧ ∀ j, w'.frozen? ⟨bx, j, none⟩ = false :=
  ⟨cell_at h.x 0, cell_at h.x 1, cell_at h.n 0, fun j => frozen_at h.x j⟩
theorem Got.data (h : Got w w' eb bx bn s' v l d n) (d' : ByteArray) : Got w (w'.setCell ⟨bx, 1, none⟩ (.string d')) eb bx bn s' v l d' n :=
  ⟨(heap_set_other ⟨bx, 1, none⟩ _ h.ne.1).trans h.eye, heap_set_at h.x 1 _, (heap_set_other ⟨bx, 1, none⟩ _ h.ne.2.1).trans h.n, h.own.chg ((Chg.refl [bx] w').setCell ⟨bx, 1, none⟩ (.string d') (.inl (by simp))) (fun t ht => by simp at ht; subst ht; exact h.lt.2.1), h.chg.setCell _ _ (.inl (by simp)), h.lt, h.ne⟩
theorem then_below {S : List Nat} {a b c : World} (h : Chg S a b) (hb : Below a.heap.size b c) : Chg S a c :=
  ⟨hb.os.trans h.os, hb.tape.trans h.tape, hb.output.trans h.output, Nat.le_trans h.size hb.size, fun k hk hn => (hb.block k hk).trans (h.block k hk hn)⟩
/-- one more kid -/
theorem Got.kid {v' : Value} {x : Int} (h : Got w w' eb bx bn s' v l d n) (hown : OwnI w.heap.size w'' v' (l ++ [x])) (hb : Below w.heap.size w' w'') : Got w (w''.setCell ⟨bx, 0, none⟩ v') eb bx bn s' v' (l ++ [x]) d n := by
  have hx : w''.heap[bx]? = some (.cells #[v, .string d] 125 (0, 0)) := (hb.block _ h.lt.2.1).trans h.x
  exact ⟨(heap_set_other ⟨bx, 0, none⟩ _ h.ne.1).trans ((hb.block _ h.lt.1).trans h.eye), heap_set_at hx 0 v', (heap_set_other ⟨bx, 0, none⟩ _ h.ne.2.1).trans ((hb.block _ h.lt.2.2).trans h.n),
    hown.chg ((Chg.refl [bx] w'').setCell ⟨bx, 0, none⟩ v' (.inl (by simp))) (fun t ht => by simp at ht; subst ht; exact h.lt.2.1), (then_below h.chg hb).setCell _ _ (.inl (by simp)), h.lt, h.ne⟩
end
theorem Got.start {w : World} {eb bx bn : Nat} {s : ByteArray} {n : Int} (he : EyeAt w eb s) (hx : w.heap[bx]? = some (.cells #[.slice none 0 0, .string ⟨#[]⟩] 125 (0, 0))) (hn : w.heap[bn]? = some (.cells #[.int .i64 n] 3 (0, 0))) : Got w w eb bx bn s (.slice none 0 0) [] ⟨#[]⟩ n := by
  refine ⟨he, hx, hn, OwnI.nil _ _, Chg.refl _ _, ⟨heap_lt he, heap_lt hx, heap_lt hn⟩, ?_, ?_, ?_⟩
  · rintro rfl; have := he.symm.trans hx; simp at this
  · rintro rfl; have := hn.symm.trans hx; simp at this
  · rintro rfl; have := hn.symm.trans he; simp at this
set_option maxHeartbeats 8000000 in
theorem get1_any (w : World) (eb bx bn : Nat) (n : Int) (s : ByteArray) (he : EyeAt w eb s) (hx : w.heap[bx]? = some (.cells #[.slice none 0 0, .string ⟨#[]⟩] 125 (0, 0))) (hn : w.heap[bn]? = some (.cells #[.int .i64 n] 3 (0, 0))) :
    Calls Tryz.prog 107 #[.pointer (some ⟨eb, 0, none⟩), .pointer (some ⟨bn, 0, none⟩), .pointer (some ⟨bx, 0, none⟩)] w (LookPost [bx] (GetF n s bx) w eb) := by
  have B0 : Hid (Got w w eb bx bn s (.slice none 0 0) [] ⟨#[]⟩ n) := Got.start he hx hn
  obtain ⟨R, hR⟩ : ∃ R, R = getR n s := ⟨_, rfl⟩
  have HR : Hid (R = getR n s) := hR
  unfold getR at hR
  clear he hx hn
  go_enter Tryz.func107, Tryz.ntmps107
  go_wp2_with fail
  refine (num_any _ eb s 1 1 rfl B0.out.eye (by omega) (by omega)).mono ?_
  cases hp : numP 1 s with
  | error why =>
    rw [hp] at hR
    intro e w1 h1
    obtain ⟨rfl, s1, h1, h2⟩ := h1.of_err
    exact ⟨rfl, (B0.out.eyed h1 h2).err (HR.out.symm.trans hR)⟩
  | ok q =>
    obtain ⟨many, s1⟩ := q
    rw [hp] at hR
    dsimp only at hR
    intro e w1 h1
    obtain ⟨rfl, h1, h2⟩ := h1.of_ok
    have B1 : Hid (Got w w1 eb bx bn s1 (.slice none 0 0) [] ⟨#[]⟩ n) := B0.out.eyed h1 h2
    have hmany : many < 256 := numP_lt hp
    clear h1 h2 B0 hp
    by_cases hm : 16 < many
    · rw [if_pos hm] at hR
      have HE : Hid (getR n s = .error 201) := HR.out.symm.trans hR
      clear hR
      go_wp2_with (first
        | (go_at_call 71; refine (fail_any _ eb s1 201 B1.out.eye).mono ?_; rintro e w6 ⟨rfl, rfl⟩)
        | fail)
      exact ⟨rfl, B1.out.err HE.out⟩
    · rw [if_neg hm] at hR
      have HR2 : Hid (R = _) := hR
      clear hR
      go_wp2_with fail
      go_loopw [13] (fun i wr => ∃ (j : Nat) (acc : List Int) (sj : ByteArray) (v : Value), j ≤ many ∧ i = .int .i64 j ∧ acc.length = j ∧ Hid (Got w wr eb bx bn sj v acc ⟨#[]⟩ n ∧ kidsGo n (many - j) acc sj = kidsGo n many [] s1)) (fun i _ => many - (intOf i).toNat)
      case atStart => exact ⟨0, [], s1, _, by omega, rfl, rfl, B1.out, rfl⟩
      case round =>
        obtain ⟨j, acc, sj, v, hj, rfl, hacc, HG⟩ := hrel
        by_cases hlt : j < many
        · obtain ⟨k, hk⟩ : ∃ k, many - j = k + 1 := ⟨many - j - 1, by omega⟩
          have hgo := HG.out.2
          rw [hk] at hgo
          rw [kidsGo_succ] at hgo
          have HGO : Hid (_ = kidsGo n many [] s1) := hgo
          clear hgo
          go_wp2_with fail
          have hgo := HGO.out
          clear HGO
          refine (num_any _ eb sj 4 4 rfl HG.out.1.eye (by omega) (by omega)).mono ?_
          cases hp : numP 4 sj with
          | error why =>
            rw [hp] at hgo
            have hR := HR2.out
            rw [← hgo] at hR
            intro e w2 h1
            obtain ⟨rfl, s2, h1, h2⟩ := h1.of_err
            exact ⟨rfl, (HG.out.1.eyed h1 h2).err (HR.out.symm.trans hR)⟩
          | ok q =>
            obtain ⟨x, s2⟩ := q
            rw [hp] at hgo
            dsimp only at hgo
            intro e w2 h1
            obtain ⟨rfl, h1, h2⟩ := h1.of_ok
            have B2 : Hid (Got w w2 eb bx bn s2 v acc ⟨#[]⟩ n) := HG.out.1.eyed h1 h2
            have hx : x < 4294967296 := numP_lt hp
            obtain ⟨c0, c1, cn, cf⟩ := B2.out.cells
            clear h1 h2 hp
            by_cases hbad : (x : Int) < 2 ∨ n ≤ (x : Int)
            · rw [if_pos hbad] at hgo
              have hR := HR2.out
              rw [← hgo] at hR
              have HE : Hid (getR n s = .error 201) := HR.out.symm.trans hR
              clear hR hgo
              rcases hbad with hb | hb
              · go_wp2_with (first
                  | (go_at_call 71; refine (fail_any _ eb s2 201 B2.out.eye).mono ?_; rintro e w6 ⟨rfl, rfl⟩)
                  | fail)
                exact ⟨rfl, B2.out.err HE.out⟩
              · by_cases hb2 : (x : Int) < 2
                all_goals
                  go_wp2_with (first
                    | (go_at_call 71; refine (fail_any _ eb s2 201 B2.out.eye).mono ?_; rintro e w6 ⟨rfl, rfl⟩)
                    | fail)
                  exact ⟨rfl, B2.out.err HE.out⟩
            · rw [if_neg hbad] at hgo
              have HGO : Hid (kidsGo n k (acc ++ [(x : Int)]) s2 = kidsGo n many [] s1) := hgo
              have hb1 : 2 ≤ (x : Int) := by omega
              have hb2 : (x : Int) < n := by omega
              clear hgo hbad
              go_wp2_with (first
                | (at_builtin; refine wpList_append_i64 rfl _ _ rfl w.heap.size (by have := B2.out.chg.size; simp; omega) _ acc rfl (B2.out.own.alloc _) _ (x : Int) rfl (by simp) (by omega) ?_)
                | fail)
              intro v3 w3 hown hb _
              obtain ⟨a3, c3, hv3⟩ := hown.form
              have hlen : (acc ++ [(x : Int)]).length = j + 1 := by simp [hacc]
              rw [hlen] at hv3
              clear hlen
              subst hv3
              have hb3 : Below w.heap.size w2 w3 := ((Below.refl _ _).alloc B2.out.chg.size _).trans hb
              have hx3 : w3.heap[bx]? = some (.cells #[v, .string ⟨#[]⟩] 125 (0, 0)) := (hb3.block _ B2.out.lt.2.1).trans B2.out.x
              have d0 : w3.cell? ⟨bx, 0, none⟩ = some v := cell_at hx3 0
              have df : w3.frozen? ⟨bx, 0, none⟩ = false := frozen_at hx3 0
              have B3 : Hid (Got w (w3.setCell ⟨bx, 0, none⟩ (.slice a3 (j + 1) c3)) eb bx bn s2 (.slice a3 (j + 1) c3) (acc ++ [(x : Int)]) ⟨#[]⟩ n) := B2.out.kid hown hb3
              clear hown hb hb3 hx3 c0 c1 cn cf B2 HG
              go_wp2
              go_roundw
              case rel => exact ⟨j + 1, acc ++ [(x : Int)], s2, _, by omega, by go_num, by simp [hacc], B3.out, by rw [← HGO.out]; congr 1; omega⟩
              case measure => simp [intOf]; omega
        · have hjm : j = many := by omega
          subst hjm
          have hgo := HG.out.2
          rw [Nat.sub_self] at hgo
          have hR := HR2.out
          rw [← hgo] at hR
          have HR3 : Hid (R = _) := hR
          have B5 : Hid (Got w wr eb bx bn sj v acc ⟨#[]⟩ n) := HG.out.1
          clear hR hgo HG HR2
          go_wp2_with fail
          have hR := HR3.out
          clear HR3
          simp only [kidsGo] at hR
          refine (text_any _ eb sj 3900 3900 rfl B5.out.eye).mono ?_
          cases hp : textP 3900 sj with
          | error why =>
            rw [hp] at hR
            intro e w6 h1
            obtain ⟨rfl, s5, h1, h2⟩ := h1.of_err
            exact ⟨rfl, (B5.out.eyed h1 h2).err (HR.out.symm.trans hR)⟩
          | ok q =>
            obtain ⟨note, s5⟩ := q
            rw [hp] at hR
            dsimp only at hR
            intro e w6 h1
            obtain ⟨rfl, h1, h2⟩ := h1.of_ok
            have B6 : Hid (Got w w6 eb bx bn s5 v acc ⟨#[]⟩ n) := B5.out.eyed h1 h2
            have HE : Hid (getR n s = .ok ((acc, note), s5)) := HR.out.symm.trans hR
            clear h1 h2 hp hR B5
            obtain ⟨c0, c1, c2, cf⟩ := B6.out.cells
            go_wp2
            have B7 := B6.out.data note
            first | go_end0 | refine bodyPost_ret (results_none rfl _ _ _) rfl ?_
            exact lookOk B7.eye B7.chg ⟨acc, note, v, HE.out, B7.x, B7.own⟩
end Go.Proofs.YtadmecjdihfmeaaGreat.Sto
