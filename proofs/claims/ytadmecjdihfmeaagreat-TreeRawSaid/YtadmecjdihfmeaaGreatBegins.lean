/- Layer 6: beginnings and blocks, out of bytes. -/
import Derived.Test.YtadmecjdihfmeaaGreatBlock
namespace Go.Proofs.YtadmecjdihfmeaaGreat.Sto
set_option linter.unusedVariables false
set_option linter.unusedSimpArgs false
set_option maxRecDepth 100000
open Go.RowKit Go.Lib Go.Proofs.YtadmecjdihfmeaaGreat.Mem Go.Proofs.YtadmecjdihfmeaaGreat.Oct

theorem results_cell_tmp {P : Program} {fn : Func} {p q : Tmp} {ty : TypeId} (h : fn.results = #[.cell p ty, .tmp q]) (tmps : Array Value) (w : World) (g : Nat) (t : TypeId) (cs : Array Value) (fr : Nat × Nat) (d : TypeDesc)
    (hp : tmps.getD p undef = .pointer (some ⟨g, 0, none⟩)) (hg : w.heap[g]? = some (.cells cs t fr))
    (hu : P.underlying ty = some d) (hd : (match d with | .struct _ | .array _ _ => true | _ => false) = true) (hi : (P.info? ty).map (·.size) = some cs.size) :
    (results fn tmps).run P w = .ok (.tuple #[.agg cs, tmps.getD q undef]) w := by
  have hp' : tmps[p]?.getD undef = .pointer (some ⟨g, 0, none⟩) := by simpa using hp
  simp [results, h, hp', asAddr, run_loadVar_row w g t ty cs fr d hg hu hd hi]
/-- what was sealed -/
def openP (s : ByteArray) : Option ByteArray := if s.size < 8 then none else if Crc.seal_ (s.data.toList.take (s.size - 8)) == s.toList then some (s.extract 0 (s.size - 8)) else none
theorem copen_any (s : ByteArray) (w : World) (hs : s.size ≤ 140737488351232) :
    Calls Tryz.prog 106 #[.string s] w fun e w' => ∃ b ok, e = .returned (.tuple #[.string b, .bool ok]) ∧ openP s = (if ok = true then some b else none) ∧ Below w.heap.size w w' := by
  by_cases h : s.size < 8
  · refine (Crc.open_short s w h).mono ?_
    rintro e w' ⟨rfl, rfl⟩
    exact ⟨_, _, rfl, by simp [openP, h], Below.refl _ _⟩
  · refine (Crc.open_long s w hs (by omega)).mono ?_
    rintro e w' ⟨rfl, hb⟩
    exact ⟨_, _, rfl, by rw [openP, if_neg h], hb⟩
theorem textP_err {m : Nat} {s : ByteArray} {why : Int} (h : textP m s = .error why) : why ≠ 0 := by
  unfold textP numP at h
  split at h
  · rename_i e he
    split at he
    · cases he
    · cases he; cases h; decide
  · split at h
    · cases h; decide
    · unfold rawP at h
      split at h
      · cases h
      · cases h; decide
theorem numP_err {k : Nat} {s : ByteArray} {why : Int} (h : numP k s = .error why) : why ≠ 0 := by
  unfold numP at h
  split at h
  · cases h
  · cases h; decide
theorem beginsR_err {n : Int} {s : ByteArray} {why : Int} (h : beginsR n s = .error why) : why ≠ 0 := by
  unfold beginsR at h
  split at h
  · rename_i e he
    cases h
    unfold rawP at he
    split at he
    · cases he
    · cases he; decide
  · split at h
    · split at h
      · rename_i e he; cases h; exact numP_err he
      · split at h
        · rename_i e he; cases h; exact numP_err he
        · split at h
          · rename_i e he; cases h; exact numP_err he
          · split at h
            · cases h; decide
            · split at h
              · rename_i e he; cases h; exact textP_err he
              · cases h
    · cases h; decide
theorem kidsGo_err {n : Int} : ∀ {k : Nat} {acc : List Int} {s : ByteArray} {why : Int}, kidsGo n k acc s = .error why → why ≠ 0
  | 0, acc, s, why, h => by cases h
  | k + 1, acc, s, why, h => by
    rw [kidsGo_succ] at h
    split at h
    · rename_i e he; cases h; exact numP_err he
    · split at h
      · cases h; decide
      · exact kidsGo_err h
theorem getR_err {n : Int} {s : ByteArray} {why : Int} (h : getR n s = .error why) : why ≠ 0 := by
  unfold getR at h
  split at h
  · rename_i e he; cases h; exact numP_err he
  · split at h
    · cases h; decide
    · split at h
      · rename_i e he; cases h; exact kidsGo_err he
      · split at h
        · rename_i e he; cases h; exact textP_err he
        · cases h
/-- the beginning that bytes tell -/
def beginsP (s : ByteArray) (n : Int) : Option (Nat × Nat × ByteArray) :=
  match openP s with
  | none => none
  | some b => match beginsR n b with
    | .ok (x, s') => if s'.toList.isEmpty = true then some x else none
    | .error _ => none
/-- the block that bytes tell -/
def getP (s : ByteArray) (n : Int) : Option (List Int × ByteArray) :=
  match openP s with
  | none => none
  | some b => match getR n b with
    | .ok (x, s') => if s'.toList.isEmpty = true then some x else none
    | .error _ => none
theorem U8s.bytes {w w2 : World} {s : ByteArray} {cap : Nat} (hb : Below w.heap.size w w2) (hlt : w.heap.size < w2.heap.size) (h : ∀ j (h : j < s.data.toList.length), w2.cell? ⟨w.heap.size, j, none⟩ = some (u8v s.data.toList[j])) : U8s w2.heap.size w2 (.slice (some ⟨w.heap.size, 0, none⟩) s.size cap) s.data.toList := by
  refine .inr ⟨w.heap.size, 0, cap, by simp, hlt, fun j u hj => ?_⟩
  have hj2 : j < s.data.toList.length := by have := (List.getElem?_eq_some_iff.1 hj).1; simpa using this
  rw [Nat.zero_add, h j hj2]
  have := (List.getElem?_eq_some_iff.1 hj).2
  rw [← this]
  simp
theorem conv_bytes' (s : ByteArray) (w : World) : ∃ cap w2, (convert 9 71 (.string s)).run Tryz.prog w = .ok (.slice (some ⟨w.heap.size, 0, none⟩) s.size cap) w2 ∧
    (Below w.heap.size w w2 ∧ w.heap.size < w2.heap.size) ∧ (∀ j (h : j < s.data.toList.length), w2.cell? ⟨w.heap.size, j, none⟩ = some (u8v s.data.toList[j])) := by
  refine ⟨_, _, run_bytes_of_string w 9 71 5 s Tryz.underlying9 Tryz.underlying71 Tryz.underlying5, ⟨?_, by simp⟩, ?_⟩
  · exact ((Below.refl _ _).drew).alloc (Nat.le_refl _) _
  · intro j h
    have := World.cell?_alloc_mark w.drew (bytesRow s (grownCap w s.size 0 5)) 5 ((bytesRow s (grownCap w s.size 0 5)).size, (bytesRow s (grownCap w s.size 0 5)).size + 1) j
    rw [World.size_drew] at this
    rw [this]
    exact bytesRow_at s _ j (by simpa using h)
theorem begins_stable (n : Int) (s : ByteArray) (w : World) (bx : Nat) (hx : bx < w.heap.size) : ∀ N r w2 w3, w.heap.size ≤ N → BeginsF n s bx N r w2 → w2.heap.size ≤ w3.heap.size → (∀ k, (k < w.heap.size ∨ N ≤ k) → k < w2.heap.size → w3.heap[k]? = w2.heap[k]?) → BeginsF n s bx N r w3 := by
  intro N r w2 w3 hN hF hz hk
  cases r with
  | ok s' =>
    obtain ⟨g, r, nt, h1, h2⟩ := hF
    exact ⟨g, r, nt, h1, (hk bx (.inl hx) (heap_lt h2)).trans h2⟩
  | error why =>
    obtain ⟨h1, a, b, c, h2⟩ := hF
    exact ⟨h1, a, b, c, (hk bx (.inl hx) (heap_lt h2)).trans h2⟩
def BeginsIs (s : ByteArray) (n : Int) (g r : Int) (nt : ByteArray) (ok : Bool) : Prop := match beginsP s n with | some (a, b, c) => ok = true ∧ g = (a : Int) ∧ r = (b : Int) ∧ nt = c | none => ok = false
theorem begins_none {s : ByteArray} {n : Int} (h : openP s = none) (g r : Int) (nt : ByteArray) : BeginsIs s n g r nt false := by
  simp [BeginsIs, beginsP, h]
/-- what Read found -/
theorem begins_read {s b : ByteArray} {n : Int} {bx N : Nat} {r : Except Int ByteArray} {w : World} (h : openP s = some b) (hF : BeginsF n b bx N r w) : ∃ (g r0 : Int) (nt : ByteArray) (ok : Bool), w.heap[bx]? = some (.cells #[.int .i64 g, .int .i64 r0, .string nt] 93 (0, 0)) ∧ ((ok = true ∧ endE r = 0) ∨ (ok = false ∧ endE r ≠ 0)) ∧ BeginsIs s n g r0 nt ok := by
  cases r with
  | ok s' =>
    obtain ⟨g, r0, nt, h1, h2⟩ := hF
    cases hs : s'.toList.isEmpty with
    | true => exact ⟨_, _, _, true, h2, .inl ⟨rfl, by simp [endE, hs]⟩, by simp [BeginsIs, beginsP, h, h1, hs]⟩
    | false => exact ⟨_, _, _, false, h2, .inr ⟨rfl, by simp [endE, hs]⟩, by simp [BeginsIs, beginsP, h, h1, hs]⟩
  | error why =>
    obtain ⟨h1, a, b', c, h2⟩ := hF
    exact ⟨a, b', c, false, h2, .inr ⟨rfl, beginsR_err h1⟩, by simp [BeginsIs, beginsP, h, h1]⟩
/-! ### blocks -/
theorem get_stable (n : Int) (s : ByteArray) (w : World) (bx : Nat) (hx : bx < w.heap.size) : ∀ N r w2 w3, w.heap.size ≤ N → GetF n s bx N r w2 → w2.heap.size ≤ w3.heap.size → (∀ k, (k < w.heap.size ∨ N ≤ k) → k < w2.heap.size → w3.heap[k]? = w2.heap[k]?) → GetF n s bx N r w3 := by
  intro N r w2 w3 hN hF hz hk
  cases r with
  | ok s' =>
    obtain ⟨l, d, v, h1, h2, h3⟩ := hF
    refine ⟨l, d, v, h1, (hk bx (.inl hx) (heap_lt h2)).trans h2, h3.1, ?_⟩
    rcases h3.2 with h | ⟨g, cap, cur, e, hg, hb, r⟩
    · exact .inl h
    · exact .inr ⟨g, cap, cur, e, hg, (hk g (.inr hg) (heap_lt hb)).trans hb, r⟩
  | error why =>
    obtain ⟨h1, a, b, c, d, h2⟩ := hF
    exact ⟨h1, a, b, c, d, (hk bx (.inl hx) (heap_lt h2)).trans h2⟩
def GetIs (B : Nat) (w : World) (s : ByteArray) (n : Int) (v : Value) (d : ByteArray) (ok : Bool) : Prop := match getP s n with | some (l, d') => ok = true ∧ d = d' ∧ OwnI B w v l | none => ok = false
theorem get_none {s : ByteArray} {n : Int} (h : openP s = none) (B : Nat) (w : World) (v : Value) (d : ByteArray) : GetIs B w s n v d false := by
  simp [GetIs, getP, h]
theorem GetIs.chg {B : Nat} {w w' : World} {s : ByteArray} {n : Int} {v : Value} {d : ByteArray} {ok : Bool} {T : List Nat} (h : GetIs B w s n v d ok) (hc : Chg T w w') (hT : ∀ t ∈ T, t < B) : GetIs B w' s n v d ok := by
  unfold GetIs at h ⊢
  split
  · rename_i l d' he
    rw [he] at h
    exact ⟨h.1, h.2.1, h.2.2.chg hc hT⟩
  · rename_i he
    rw [he] at h
    exact h
theorem OwnI.mono {B B' : Nat} {w : World} {v : Value} {l : List Int} (h : OwnI B w v l) (hb : B' ≤ B) : OwnI B' w v l := by
  refine ⟨h.1, ?_⟩
  rcases h.2 with h | ⟨g, cap, cur, e, hg, r⟩
  · exact .inl h
  · exact .inr ⟨g, cap, cur, e, Nat.le_trans hb hg, r⟩
theorem GetIs.mono {B B' B'' : Nat} {w : World} {s : ByteArray} {n : Int} {v : Value} {d : ByteArray} {ok : Bool} (h : GetIs B w s n v d ok) (hb : B'' ≤ B) (hb' : B' ≤ B'') : GetIs B' w s n v d ok := by
  unfold GetIs at h ⊢
  split
  · rename_i l d' he
    rw [he] at h
    exact ⟨h.1, h.2.1, h.2.2.mono (Nat.le_trans hb' hb)⟩
  · rename_i he
    rw [he] at h
    exact h
/-- what Read found -/
theorem get_read {s b : ByteArray} {n : Int} {bx N : Nat} {r : Except Int ByteArray} {w : World} (h : openP s = some b) (hF : GetF n b bx N r w) : ∃ (a : Option Addr) (m c : Nat) (d : ByteArray) (ok : Bool), w.heap[bx]? = some (.cells #[.slice a m c, .string d] 125 (0, 0)) ∧ ((ok = true ∧ endE r = 0) ∨ (ok = false ∧ endE r ≠ 0)) ∧ GetIs N w s n (.slice a m c) d ok := by
  cases r with
  | ok s' =>
    obtain ⟨l, d, v, h1, h2, h3⟩ := hF
    obtain ⟨a, c, rfl⟩ := h3.form
    cases hs : s'.toList.isEmpty with
    | true => exact ⟨a, _, c, d, true, h2, .inl ⟨rfl, by simp [endE, hs]⟩, by simp [GetIs, getP, h, h1, hs]; exact h3⟩
    | false => exact ⟨a, _, c, d, false, h2, .inr ⟨rfl, by simp [endE, hs]⟩, by simp [GetIs, getP, h, h1, hs]⟩
  | error why =>
    obtain ⟨h1, a, m, c, d, h2⟩ := hF
    exact ⟨a, m, c, d, false, h2, .inr ⟨rfl, getR_err h1⟩, by simp [GetIs, getP, h, h1]⟩
set_option maxHeartbeats 4000000 in
theorem get_any (s : ByteArray) (n : Int) (w : World) (hs : s.size ≤ 140737488351232) :
    Calls Tryz.prog 100 #[.string s, .int .i64 n] w fun e w' => ∃ (a : Option Addr) (m c : Nat) (d : ByteArray) (ok : Bool), e = .returned (.tuple #[.agg #[.slice a m c, .string d], .bool ok]) ∧ Below w.heap.size w w' ∧ GetIs w.heap.size w' s n (.slice a m c) d ok := by
  have hmf : ∀ (fn : Fn) (first cap : Array Value) (w : World), (Instr.makeFunc fn first cap).run Tryz.prog w = .ok (.func fn first cap) w := fun _ _ _ _ => rfl
  go_enter Tryz.func100, Tryz.ntmps100
  go_wp2_with fail
  obtain ⟨w1, hw1⟩ : ∃ w1, w1 = (w.alloc (.cells #[.int .i64 n] 3)).alloc (.cells #[.slice none 0 0, .string ⟨#[]⟩] 125) := ⟨_, rfl⟩
  have hn : w1.heap[w.heap.size]? = some (.cells #[.int .i64 n] 3 (0, 0)) := by
    rw [hw1, heap_alloc_other _ (by simp)]; exact heap_alloc_last _ _
  have hr : w1.heap[w.heap.size + 1]? = some (.cells #[.slice none 0 0, .string ⟨#[]⟩] 125 (0, 0)) := by
    rw [hw1]
    have := heap_alloc_last (w.alloc (.cells #[.int .i64 n] 3)) (.cells #[.slice none 0 0, .string ⟨#[]⟩] 125)
    simpa using this
  have hb1 : Below w.heap.size w w1 := by rw [hw1]; exact ((Below.refl _ _).alloc (Nat.le_refl _) _).alloc (by simp) _
  rw [← hw1]
  have hz1 : w1.heap.size = w.heap.size + 2 := by rw [hw1]; simp
  clear hw1
  refine (copen_any s _ hs).mono ?_
  rintro e w2 ⟨b, ok, rfl, hop, hb2⟩
  have HN : Hid (w2.heap[w.heap.size]? = some (.cells #[.int .i64 n] 3 (0, 0))) := (hb2.block _ (heap_lt hn)).trans hn
  have HR : Hid (w2.heap[w.heap.size + 1]? = some (.cells #[.slice none 0 0, .string ⟨#[]⟩] 125 (0, 0))) := (hb2.block _ (heap_lt hr)).trans hr
  have HB : Hid (Below w.heap.size w w2) := hb1.trans (hb2.mono hb1.size)
  have HZ : Hid (w.heap.size + 2 ≤ w2.heap.size) := by have := hb2.size; rw [hz1] at this; exact this
  clear hn hr hb1 hb2 hz1
  have HO : Hid (openP s = (if ok = true then some b else none)) := hop
  clear hop
  cases ok with
  | false =>
    have c0 : w2.cell? ⟨w.heap.size + 1, 0, none⟩ = some (.slice none 0 0) := cell_at HR.out 0
    have c1 : w2.cell? ⟨w.heap.size + 1, 1, none⟩ = some (.string ⟨#[]⟩) := cell_at HR.out 1
    have cf : ∀ j, w2.frozen? ⟨w.heap.size + 1, j, none⟩ = false := frozen_at HR.out
    go_wp2
    have hbox := heap_set_at (heap_set_at HR.out 0 (.slice none 0 0)) 1 (.string ⟨#[]⟩)
    refine bodyPost_ret (results_cell_tmp Tryz.results100 _ _ (w.heap.size + 1) 125 #[.slice none 0 0, .string ⟨#[]⟩] (0, 0) _ rfl hbox Tryz.underlying125 rfl (by kernel_rfl)) rfl ?_
    exact ⟨none, 0, 0, ⟨#[]⟩, false, rfl, (HB.out.setCell (by simp) _).setCell (by simp) _, get_none HO.out _ _ _ _⟩
  | true =>
    go_wp2_with fail
    have hx : (w2.alloc (.cells #[.slice none 0 0, .string ⟨#[]⟩] 125)).heap[w2.heap.size]? = some (.cells #[.slice none 0 0, .string ⟨#[]⟩] 125 (0, 0)) := heap_alloc_last _ _
    have HN3 : Hid ((w2.alloc (.cells #[.slice none 0 0, .string ⟨#[]⟩] 125)).heap[w.heap.size]? = some (.cells #[.int .i64 n] 3 (0, 0))) := (heap_alloc_other _ (heap_lt HN.out)).trans HN.out
    have HR3 : Hid ((w2.alloc (.cells #[.slice none 0 0, .string ⟨#[]⟩] 125)).heap[w.heap.size + 1]? = some (.cells #[.slice none 0 0, .string ⟨#[]⟩] 125 (0, 0))) := (heap_alloc_other _ (heap_lt HR.out)).trans HR.out
    have HB3 : Hid (Below w.heap.size w (w2.alloc (.cells #[.slice none 0 0, .string ⟨#[]⟩] 125))) := HB.out.alloc HB.out.size _
    have HX3 : Hid _ := hx
    obtain ⟨bx, hbx⟩ : ∃ bx, bx = w2.heap.size := ⟨_, rfl⟩
    rw [← hbx] at HX3 ⊢
    have HG : Hid (w.heap.size + 2 ≤ bx) := by rw [hbx]; exact HZ.out
    clear hx HN HR HB HZ hbx
    generalize w2.alloc (.cells #[.slice none 0 0, .string ⟨#[]⟩] 125) = w3 at HN3 HR3 HB3 HX3 ⊢
    obtain ⟨cap, w4, hrun, hb4, hcell⟩ := conv_bytes' b w3
    have HU : Hid (U8s w4.heap.size w4 (.slice (some ⟨w3.heap.size, 0, none⟩) b.size cap) b.data.toList ∧ Below w3.heap.size w3 w4) := ⟨U8s.bytes hb4.1 hb4.2 hcell, hb4.1⟩
    clear hb4 hcell
    rw [hrun]
    simp only [Result.andThen]
    rw [Oper.upon_value]
    clear hrun
    go_wp2_with fail
    have hx4 : w4.heap[bx]? = some (.cells #[.slice none 0 0, .string ⟨#[]⟩] 125 (0, 0)) := (HU.out.2.block _ (heap_lt HX3.out)).trans HX3.out
    have hn4 : w4.heap[w.heap.size]? = some (.cells #[.int .i64 n] 3 (0, 0)) := (HU.out.2.block _ (heap_lt HN3.out)).trans HN3.out
    have hr4 : w4.heap[w.heap.size + 1]? = some (.cells #[.slice none 0 0, .string ⟨#[]⟩] 125 (0, 0)) := (HU.out.2.block _ (heap_lt HR3.out)).trans HR3.out
    have hb4 : Below w.heap.size w w4 := HB3.out.trans (HU.out.2.mono HB3.out.size)
    have hbb : (⟨b.data.toList.toArray⟩ : ByteArray) = b := by apply ByteArray.ext; simp
    refine (read_any (T := [bx]) (F := GetF n b bx) HU.out.1 (fun t ht => by simp at ht; subst ht; exact heap_lt hx4) (get_stable n b w4 bx (heap_lt hx4)) (fun _ _ => by kernel_rfl) (fun w5 eb heb he5 hb5 => ?_)).mono ?_
    · rw [hbb] at he5
      exact get1_any w5 eb bx w.heap.size n b he5 ((hb5.block _ (heap_lt hx4)).trans hx4) ((hb5.block _ (heap_lt hn4)).trans hn4)
    rintro e w5 ⟨N, r, rfl, hc5, hf5, hN⟩
    have ho : openP s = some b := by rw [HO.out]; rfl
    obtain ⟨a, m, c, nt, okb, hx5, hok, his⟩ := get_read ho hf5
    have hr5 : w5.heap[w.heap.size + 1]? = some (.cells #[.slice none 0 0, .string ⟨#[]⟩] 125 (0, 0)) := (hc5.block _ (heap_lt hr4) (by have := HG.out; simp; omega)).trans hr4
    have HF : Hid (GetIs N w5 s n (.slice a m c) nt okb ∧ w4.heap.size ≤ N ∧ Below w.heap.size w w5 ∧ w5.heap[w.heap.size + 1]? = some (.cells #[.slice none 0 0, .string ⟨#[]⟩] 125 (0, 0))) := ⟨his, hN, hb4.trans (hc5.below hb4.size (fun x hx => by have := HG.out; simp at hx; omega)), hr5⟩
    have x0 : w5.cell? ⟨bx, 0, none⟩ = some (.slice a m c) := cell_at hx5 0
    have x1 : w5.cell? ⟨bx, 1, none⟩ = some (.string nt) := cell_at hx5 1
    have c0 : w5.cell? ⟨w.heap.size + 1, 0, none⟩ = some (.slice none 0 0) := cell_at hr5 0
    have c1 : w5.cell? ⟨w.heap.size + 1, 1, none⟩ = some (.string ⟨#[]⟩) := cell_at hr5 1
    have HW4 : Hid (w.heap.size + 1 < w4.heap.size) := heap_lt hr4
    have cf : ∀ j, w5.frozen? ⟨w.heap.size + 1, j, none⟩ = false := frozen_at hr5
    have HB0 : Hid (w.heap.size ≤ w4.heap.size) := hb4.size
    generalize endE r = err at hok ⊢
    clear hx4 hn4 hr4 hb4 hbb hc5 hf5 ho hx5 his hr5 hN HU HB3 HR3 HN3 HX3 HO
    rcases hok with ⟨rfl, rfl⟩ | ⟨rfl, hne⟩
    · go_wp2
      have hbox := heap_set_at (heap_set_at HF.out.2.2.2 0 (.slice a m c)) 1 (.string nt)
      have fin := (HF.out.1.chg (((Chg.refl [w.heap.size + 1] w5).setCell ⟨w.heap.size + 1, 0, none⟩ (.slice a m c) (.inl (by simp))).setCell ⟨w.heap.size + 1, 1, none⟩ (.string nt) (.inl (by simp))) (fun t ht => by have := HF.out.2.1; have := HW4.out; simp at ht; omega)).mono HF.out.2.1 HB0.out
      refine bodyPost_ret (results_cell_tmp Tryz.results100 _ _ (w.heap.size + 1) 125 #[.slice a m c, .string nt] (0, 0) _ rfl hbox Tryz.underlying125 rfl (by kernel_rfl)) rfl ?_
      exact ⟨a, m, c, nt, true, rfl, (HF.out.2.2.1.setCell (by simp) _).setCell (by simp) _, fin⟩
    · have hb0 : (err == 0) = false := by simp [hne]
      go_wp2
      have hbox := heap_set_at (heap_set_at HF.out.2.2.2 0 (.slice a m c)) 1 (.string nt)
      have fin := (HF.out.1.chg (((Chg.refl [w.heap.size + 1] w5).setCell ⟨w.heap.size + 1, 0, none⟩ (.slice a m c) (.inl (by simp))).setCell ⟨w.heap.size + 1, 1, none⟩ (.string nt) (.inl (by simp))) (fun t ht => by have := HF.out.2.1; have := HW4.out; simp at ht; omega)).mono HF.out.2.1 HB0.out
      refine bodyPost_ret (results_cell_tmp Tryz.results100 _ _ (w.heap.size + 1) 125 #[.slice a m c, .string nt] (0, 0) _ rfl hbox Tryz.underlying125 rfl (by kernel_rfl)) rfl ?_
      refine ⟨a, m, c, nt, false, ?_, (HF.out.2.2.1.setCell (by simp) _).setCell (by simp) _, fin⟩
      first | rfl | (rw [← hb0]; rfl)
end Go.Proofs.YtadmecjdihfmeaaGreat.Sto
