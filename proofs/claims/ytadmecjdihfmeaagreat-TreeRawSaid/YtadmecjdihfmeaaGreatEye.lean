/- Layer 1: what an eye sees. -/
import Derived.Test.YtadmecjdihfmeaaGreatOct
import Derived.Defers
import Derived.Recover
import Derived.WalkLawsBesides
import Derived.Lib.QuoteBits
import Derived.Laws.IdiomStrings
namespace Go.Proofs.YtadmecjdihfmeaaGreat.Oct
set_option linter.unusedVariables false
set_option linter.unusedSimpArgs false
set_option maxRecDepth 100000
open Go.RowKit Go.Lib Go.Proofs.YtadmecjdihfmeaaGreat.Mem

/-- an eye that looks -/
def EyeAt (w : World) (eb : Nat) (s : ByteArray) : Prop := w.heap[eb]? = some (.cells #[.string s, .bool true] 150 (0, 0))
theorem EyeAt.cells {w : World} {eb : Nat} {s : ByteArray} (h : EyeAt w eb s) : w.cell? ⟨eb, 0, none⟩ = some (.string s) ∧ w.cell? ⟨eb, 1, none⟩ = some (.bool true) ∧ ∀ j, w.frozen? ⟨eb, j, none⟩ = false :=
  ⟨cell_at h 0, cell_at h 1, fun j => frozen_at h j⟩
theorem EyeAt.set {w : World} {eb : Nat} {s : ByteArray} (h : EyeAt w eb s) (s' : ByteArray) : EyeAt (w.setCell ⟨eb, 0, none⟩ (.string s')) eb s' := heap_set_at h 0 _
abbrev thrown (why : Int) : List PanicEntry := [{ v := .iface 152 (.agg #[.int .i64 why]), recovered := false }]
theorem dead_any (w : World) (eb : Nat) (s : ByteArray) (h : EyeAt w eb s) : Calls Tryz.prog 91 #[.pointer (some ⟨eb, 0, none⟩)] w fun e w' => e = .returned (.bool false) ∧ w = w' := by
  obtain ⟨c0, c1, cf⟩ := h.cells
  clear h
  go_enter Tryz.func91, Tryz.ntmps91
  go_wp2
  go_ret
  exact ⟨rfl, rfl⟩
theorem fail_any (w : World) (eb : Nat) (s : ByteArray) (why : Int) (h : EyeAt w eb s) : Calls Tryz.prog 71 #[.pointer (some ⟨eb, 0, none⟩), .int .i64 why] w fun e w' => e = .panicked (thrown why) ∧ w = w' := by
  have H : Hid (EyeAt w eb s) := h
  clear h
  go_enter Tryz.func71, Tryz.ntmps71
  go_wp2_with (first
    | (go_at_call 91; refine (dead_any _ eb s H.out).mono ?_; rintro e w1 ⟨rfl, rfl⟩)
    | fail)
  exact ⟨rfl, rfl, rfl⟩
/-- what the next bytes are -/
def rawP (n : Int) (s : ByteArray) : Except Int (ByteArray × ByteArray) := if 0 ≤ n ∧ n ≤ s.size then .ok (s.extract 0 n.toNat, s.extract n.toNat s.size) else .error 201
/-- how a look ends -/
def EyePost {α : Type} (val : α → Value) (w : World) (eb : Nat) (r : Except Int (α × ByteArray)) (e : Ending) (w' : World) : Prop :=
  (∃ a s', r = .ok (a, s') ∧ e = .returned (val a) ∧ EyeAt w' eb s' ∧ Chg [eb] w w') ∨ (∃ why s', r = .error why ∧ e = .panicked (thrown why) ∧ EyeAt w' eb s' ∧ Chg [eb] w w')
theorem raw_bad (w : World) (eb : Nat) (s : ByteArray) (n : Int) (h : EyeAt w eb s) (hn : n < 0 ∨ (0 ≤ n ∧ (s.size : Int) < n)) :
    Calls Tryz.prog 93 #[.pointer (some ⟨eb, 0, none⟩), .int .i64 n] w fun e w' => e = .panicked (thrown 201) ∧ w = w' := by
  have H : Hid (EyeAt w eb s) := h
  obtain ⟨c0, c1, cf⟩ := h.cells
  clear h
  rcases hn with hn | ⟨h0, hn⟩
  all_goals
    go_enter Tryz.func93, Tryz.ntmps93
    go_wp2_with (first
      | (go_at_call 91; refine (dead_any _ eb s H.out).mono ?_; rintro e w1 ⟨rfl, rfl⟩)
      | (go_at_call 71; refine (fail_any _ eb s 201 H.out).mono ?_; rintro e w1 ⟨rfl, rfl⟩)
      | fail)
    exact ⟨rfl, rfl, rfl⟩
theorem raw_good (w : World) (eb : Nat) (s : ByteArray) (n : Nat) (h : EyeAt w eb s) (hn : n ≤ s.size) :
    Calls Tryz.prog 93 #[.pointer (some ⟨eb, 0, none⟩), .int .i64 n] w fun e w' => e = .returned (.string (s.extract 0 n)) ∧ w' = w.setCell ⟨eb, 0, none⟩ (.string (s.extract n s.size)) := by
  have H : Hid (EyeAt w eb s) := h
  obtain ⟨c0, c1, cf⟩ := h.cells
  clear h
  go_enter Tryz.func93, Tryz.ntmps93
  go_wp2_with (first
    | (go_at_call 91; refine (dead_any _ eb s H.out).mono ?_; rintro e w1 ⟨rfl, rfl⟩)
    | fail)
  go_ret
  exact ⟨rfl, rfl⟩
theorem raw_ok (w : World) (eb : Nat) (s : ByteArray) (n : Nat) (h : EyeAt w eb s) (hn : n ≤ s.size) :
    Calls Tryz.prog 93 #[.pointer (some ⟨eb, 0, none⟩), .int .i64 n] w fun e w' => e = .returned (.string (s.extract 0 n)) ∧ EyeAt w' eb (s.extract n s.size) ∧ Chg [eb] w w' := by
  refine (raw_good w eb s n h hn).mono ?_
  rintro e w' ⟨rfl, rfl⟩
  exact ⟨rfl, h.set _, (Chg.refl _ _).setCell _ _ (.inl (by simp))⟩
theorem raw_any (w : World) (eb : Nat) (s : ByteArray) (n : Int) (h : EyeAt w eb s) :
    Calls Tryz.prog 93 #[.pointer (some ⟨eb, 0, none⟩), .int .i64 n] w (EyePost Value.string w eb (rawP n s)) := by
  by_cases hn : 0 ≤ n ∧ n ≤ s.size
  · obtain ⟨k, rfl⟩ := Int.eq_ofNat_of_zero_le hn.1
    refine (raw_good w eb s k h (by omega)).mono ?_
    rintro e w' ⟨rfl, rfl⟩
    exact .inl ⟨_, _, by rw [rawP, if_pos hn]; rfl, rfl, h.set _, (Chg.refl _ _).setCell _ _ (.inl (by simp))⟩
  · refine (raw_bad w eb s n h (by omega)).mono ?_
    rintro e w' ⟨rfl, rfl⟩
    exact .inr ⟨201, s, by rw [rawP, if_neg hn], rfl, h, Chg.refl _ _⟩

/-! ### numbers -/
def word (l : List UInt8) : Nat := l.foldl (fun n b => n * 256 + b.toNat) 0
theorem word_snoc (l : List UInt8) (b : UInt8) : word (l ++ [b]) = word l * 256 + b.toNat := by simp [word]
theorem word_go : ∀ (l : List UInt8) (a : Nat), l.foldl (fun n b => n * 256 + b.toNat) a < (a + 1) * 256 ^ l.length
  | [], a => by simp
  | b :: l, a => by
    have h1 := word_go l (a * 256 + b.toNat)
    have h2 := b.toNat_lt
    have h3 : (a * 256 + b.toNat + 1) * 256 ^ l.length ≤ ((a + 1) * 256) * 256 ^ l.length := Nat.mul_le_mul_right _ (by omega)
    simp only [List.foldl_cons, List.length_cons]
    rw [Nat.pow_succ, Nat.mul_comm (256 ^ l.length) 256, ← Nat.mul_assoc]
    omega
theorem word_lt (l : List UInt8) : word l < 256 ^ l.length := by
  have := word_go l 0
  simpa [word] using this
theorem word_lt6 (l : List UInt8) (h : l.length ≤ 6) : word l < 281474976710656 := by
  have h1 := word_lt l
  have h2 : 256 ^ l.length ≤ 256 ^ 6 := Nat.pow_le_pow_right (by omega) h
  omega
theorem or_byte (x : Nat) (b : UInt8) (hx : x < 1099511627776) : bits .or .i64 ((x : Int) * 256) (b.toNat : Int) = ((x * 256 + b.toNat : Nat) : Int) := by
  have hb := b.toNat_lt
  have e : (x : Int) * 256 = ((x * 256 : Nat) : Int) := by omega
  rw [e]
  show IntKind.i64.wrap ((BitVec.ofInt 64 ((x * 256 : Nat) : Int) ||| BitVec.ofInt 64 ((b.toNat : Nat) : Int)).toNat : Int) = _
  rw [BitVec.toNat_or, ofInt_u64 _ (by omega), ofInt_u64 _ (by omega)]
  have e2 := Nat.shiftLeft_add_eq_or_of_lt (i := 8) (b := b.toNat) (by omega) x
  rw [Nat.shiftLeft_eq] at e2
  have e3 : x * 2 ^ 8 = x * 256 := rfl
  rw [e3] at e2
  rw [← e2]
  exact wrap_i64_small _ (by omega)
theorem conv_bytes (s : ByteArray) (w : World) : ∃ cap w2, (convert 9 71 (.string s)).run Tryz.prog w = .ok (.slice (some ⟨w.heap.size, 0, none⟩) s.size cap) w2 ∧
    Below w.heap.size w w2 ∧ (∀ j (h : j < s.data.toList.length), w2.cell? ⟨w.heap.size, j, none⟩ = some (u8v s.data.toList[j])) := by
  refine ⟨_, _, run_bytes_of_string w 9 71 5 s Tryz.underlying9 Tryz.underlying71 Tryz.underlying5, ?_, ?_⟩
  · exact ((Below.refl _ _).drew).alloc (Nat.le_refl _) _
  · intro j h
    have := World.cell?_alloc_mark w.drew (bytesRow s (grownCap w s.size 0 5)) 5 ((bytesRow s (grownCap w s.size 0 5)).size, (bytesRow s (grownCap w s.size 0 5)).size + 1) j
    rw [World.size_drew] at this
    rw [this]
    exact bytesRow_at s _ j (by simpa using h)
theorem num_bad (w : World) (eb : Nat) (s : ByteArray) (k : Int) (h : EyeAt w eb s) (h1 : 1 ≤ k) (h6 : k ≤ 6) (hn : (s.size : Int) < k) :
    Calls Tryz.prog 70 #[.pointer (some ⟨eb, 0, none⟩), .int .i64 k] w fun e w' => e = .panicked (thrown 201) ∧ w = w' := by
  have H : Hid (EyeAt w eb s) := h
  clear h
  go_enter Tryz.func70, Tryz.ntmps70
  go_wp2_with (first
    | (go_at_call 91; refine (dead_any _ eb s H.out).mono ?_; rintro e w1 ⟨rfl, rfl⟩)
    | (go_at_call 92; refine (wide_any _ _ (by omega) (by omega)).mono ?_; rintro e w1 ⟨rfl, rfl⟩)
    | (go_at_call 93; refine (raw_bad _ eb s _ H.out (by omega)).mono ?_; rintro e w1 ⟨rfl, rfl⟩)
    | fail)
  exact ⟨rfl, rfl, rfl⟩
set_option maxHeartbeats 1000000 in
theorem num_good (w : World) (eb : Nat) (s : ByteArray) (k : Nat) (h : EyeAt w eb s) (h1 : 1 ≤ k) (h6 : k ≤ 6) (hn : k ≤ s.size) :
    Calls Tryz.prog 70 #[.pointer (some ⟨eb, 0, none⟩), .int .i64 k] w fun e w' => e = .returned (.int .i64 (word (s.data.toList.take k))) ∧ EyeAt w' eb (s.extract k s.size) ∧ Chg [eb] w w' := by
  have H : Hid (EyeAt w eb s) := h
  have hlt := heap_lt h
  clear h
  go_enter Tryz.func70, Tryz.ntmps70
  go_wp2_with (first
    | (go_at_call 91; refine (dead_any _ eb s H.out).mono ?_; rintro e w1 ⟨rfl, rfl⟩)
    | (go_at_call 92; refine (wide_any _ _ (by omega) (by omega)).mono ?_; rintro e w1 ⟨rfl, rfl⟩)
    | (go_at_call 93; refine (raw_ok _ eb s k H.out (by omega)).mono ?_; rintro e w1 ⟨rfl, he1, hc1⟩; have HE : Hid (EyeAt w1 eb (s.extract k s.size) ∧ Chg [eb] w w1) := ⟨he1, hc1⟩; clear he1 hc1; obtain ⟨cap, w2, hrun, hb2, hcell⟩ := conv_bytes (s.extract 0 k) w1)
    | fail)
  have hd : (s.extract 0 k).data.toList = s.data.toList.take k := by simp
  obtain ⟨l, hl⟩ : ∃ l, l = s.data.toList.take k := ⟨_, rfl⟩
  have hll : l.length = k := by rw [hl]; simp; omega
  rw [hd, ← hl] at hcell
  have HL : Hid (l = s.data.toList.take k) := hl
  have HC : Hid (∀ j (h : j < l.length), w2.cell? ⟨w1.heap.size, j, none⟩ = some (u8v l[j])) := hcell
  have HW : Hid (EyeAt w2 eb (s.extract k s.size) ∧ Chg [eb] w w2) := ⟨(hb2.block _ (heap_lt HE.out.1)).trans HE.out.1, HE.out.2.trans (Chg.of_below hb2)⟩
  clear hcell hd hl hb2 HE H hlt hrun
  generalize w1.heap.size = b at HC ⊢
  go_loop [5, 20] (fun n i => ∃ j : Nat, j ≤ k ∧ i = .int .i64 j ∧ n = .int .i64 (word (l.take j))) (fun _ i => k - (intOf i).toNat)
  case atStart => exact ⟨0, by omega, rfl, by simp [word]⟩
  case round =>
    obtain ⟨j, hj, rfl, rfl⟩ := hrel
    by_cases hlt : j < k
    · have hc := HC.out j (by omega)
      obtain ⟨c, hcc⟩ : ∃ c, c = l[j] := ⟨_, rfl⟩
      rw [← hcc] at hc
      have hw : Hid (word (l.take (j + 1)) = word (l.take j) * 256 + c.toNat) := by
        rw [List.take_succ_eq_append_getElem (by omega), word_snoc, ← hcc]
        rfl
      have hx := word_lt (l.take j)
      have hx2 : word (l.take j) < 1099511627776 := by
        have h3 : (l.take j).length ≤ 5 := by simp; omega
        have h2 : 256 ^ (l.take j).length ≤ 256 ^ 5 := Nat.pow_le_pow_right (by omega) h3
        omega
      clear hx hcc
      generalize word (l.take j) = x at hw hx2 ⊢
      have hor := or_byte x c hx2
      have hcb := c.toNat_lt
      go_wp2
      go_round
      case rel => exact ⟨j + 1, by omega, by go_num, by rw [hw.out, Int.natCast_add, Int.natCast_mul]; rfl⟩
      case measure => simp [intOf]; omega
    · have hjk : j = k := by omega
      subst hjk
      have he : l.take j = l := List.take_of_length_le (by omega)
      have hx := word_lt6 l (by omega)
      rw [he]
      clear he
      obtain ⟨x, hxe⟩ : ∃ x, x = word l := ⟨_, rfl⟩
      rw [← hxe] at hx ⊢
      have HX : Hid (x = word l) := hxe
      clear hxe
      go_wp2
      go_ret
      refine ⟨?_, HW.out⟩
      rw [← HL.out, ← HX.out]
      rfl
/-- the next number -/
def numP (k : Nat) (s : ByteArray) : Except Int (Nat × ByteArray) := if k ≤ s.size then .ok (word (s.data.toList.take k), s.extract k s.size) else .error 201
theorem num_any (w : World) (eb : Nat) (s : ByteArray) (kk : Int) (k : Nat) (hk : kk = (k : Int)) (h : EyeAt w eb s) (h1 : 1 ≤ k) (h6 : k ≤ 6) :
    Calls Tryz.prog 70 #[.pointer (some ⟨eb, 0, none⟩), .int .i64 kk] w (EyePost (fun n : Nat => .int .i64 n) w eb (numP k s)) := by
  subst hk
  by_cases hn : k ≤ s.size
  · refine (num_good w eb s k h h1 h6 hn).mono ?_
    rintro e w' ⟨rfl, h2, h3⟩
    exact .inl ⟨_, _, by rw [numP, if_pos hn], rfl, h2, h3⟩
  · refine (num_bad w eb s k h (by omega) (by omega) (by omega)).mono ?_
    rintro e w' ⟨rfl, rfl⟩
    exact .inr ⟨201, s, by rw [numP, if_neg hn], rfl, h, Chg.refl _ _⟩
theorem EyePost.of_ok {α : Type} {val : α → Value} {w w' : World} {eb : Nat} {a : α} {s' : ByteArray} {e : Ending} (h : EyePost val w eb (.ok (a, s')) e w') : e = .returned (val a) ∧ EyeAt w' eb s' ∧ Chg [eb] w w' := by
  rcases h with ⟨a2, s2, h1, h2, h3⟩ | ⟨why, s2, h1, _⟩
  · cases h1
    exact ⟨h2, h3⟩
  · exact nomatch h1
theorem EyePost.of_err {α : Type} {val : α → Value} {w w' : World} {eb : Nat} {why : Int} {e : Ending} (h : EyePost val w eb (.error why) e w') : e = .panicked (thrown why) ∧ ∃ s', EyeAt w' eb s' ∧ Chg [eb] w w' := by
  rcases h with ⟨a2, s2, h1, _⟩ | ⟨why, s2, h1, h2, h3⟩
  · exact nomatch h1
  · cases h1
    exact ⟨h2, s2, h3⟩
theorem EyePost.ok {α : Type} {val : α → Value} {w w' : World} {eb : Nat} {a : α} {s' : ByteArray} (h1 : EyeAt w' eb s') (h2 : Chg [eb] w w') : EyePost val w eb (.ok (a, s')) (.returned (val a)) w' := .inl ⟨a, s', rfl, rfl, h1, h2⟩
theorem EyePost.err {α : Type} {val : α → Value} {w w' : World} {eb : Nat} {why : Int} {s' : ByteArray} (h1 : EyeAt w' eb s') (h2 : Chg [eb] w w') : EyePost (α := α) val w eb (.error why) (.panicked (thrown why)) w' := .inr ⟨why, s', rfl, rfl, h1, h2⟩
theorem numP_lt {s s' : ByteArray} {k n : Nat} (h : numP k s = .ok (n, s')) : n < 256 ^ k := by
  unfold numP at h
  split at h
  · cases h
    have h1 := word_lt (s.data.toList.take k)
    rw [List.length_take] at h1
    exact Nat.lt_of_lt_of_le h1 (Nat.pow_le_pow_right (by omega) (by omega))
  · cases h
/-- the next text -/
def textP (most : Nat) (s : ByteArray) : Except Int (ByteArray × ByteArray) :=
  match numP 2 s with
  | .error e => .error e
  | .ok (n, s') => if most < n then .error 203 else rawP n s'
set_option maxHeartbeats 1000000 in
theorem text_any (w : World) (eb : Nat) (s : ByteArray) (mm : Int) (most : Nat) (hm : mm = (most : Int)) (h : EyeAt w eb s) :
    Calls Tryz.prog 72 #[.pointer (some ⟨eb, 0, none⟩), .int .i64 mm] w (EyePost Value.string w eb (textP most s)) := by
  subst hm
  have hnum := num_any w eb s 2 2 rfl h (by omega) (by omega)
  clear h
  unfold textP
  cases hp : numP 2 s with
  | error why =>
    rw [hp] at hnum
    clear hp
    go_enter Tryz.func72, Tryz.ntmps72
    go_wp2_with (first
      | (go_at_call 70; refine hnum.mono ?_; intro e w1 he; obtain ⟨rfl, s2, h1, h2⟩ := he.of_err; have HE : Hid (EyeAt w1 eb s2 ∧ Chg [eb] w w1) := ⟨h1, h2⟩; clear h1 h2 he)
      | fail)
    exact ⟨rfl, EyePost.err HE.out.1 HE.out.2⟩
  | ok q =>
    obtain ⟨n, s'⟩ := q
    have hn16 : n < 65536 := numP_lt hp
    rw [hp] at hnum
    clear hp
    dsimp only
    by_cases hlt : most < n
    · rw [if_pos hlt]
      go_enter Tryz.func72, Tryz.ntmps72
      go_wp2_with (first
        | (go_at_call 70; refine hnum.mono ?_; intro e w1 he; obtain ⟨rfl, h1, h2⟩ := he.of_ok; have HE : Hid (EyeAt w1 eb s' ∧ Chg [eb] w w1) := ⟨h1, h2⟩; clear h1 h2 he)
        | (go_at_call 71; refine (fail_any _ eb s' 203 HE.out.1).mono ?_; rintro e w2 ⟨rfl, rfl⟩)
        | fail)
      exact ⟨rfl, EyePost.err HE.out.1 HE.out.2⟩
    · rw [if_neg hlt]
      by_cases hr : n ≤ s'.size
      · have er : rawP (n : Int) s' = .ok (s'.extract 0 n, s'.extract n s'.size) := by rw [rawP, if_pos (by omega)]; rfl
        rw [er]
        clear er
        go_enter Tryz.func72, Tryz.ntmps72
        go_wp2_with (first
          | (go_at_call 70; refine hnum.mono ?_; intro e w1 he; obtain ⟨rfl, h1, h2⟩ := he.of_ok; have HE : Hid (EyeAt w1 eb s' ∧ Chg [eb] w w1) := ⟨h1, h2⟩; clear h1 h2 he)
          | (go_at_call 93; refine (raw_ok _ eb s' n HE.out.1 hr).mono ?_; rintro e w2 ⟨rfl, h1, h2⟩; have HF : Hid (EyeAt w2 eb (s'.extract n s'.size) ∧ Chg [eb] w w2) := ⟨h1, HE.out.2.trans h2⟩; clear h1 h2)
          | fail)
        go_ret
        exact EyePost.ok HF.out.1 HF.out.2
      · have er : rawP (n : Int) s' = .error 201 := by rw [rawP, if_neg (by omega)]
        rw [er]
        clear er
        go_enter Tryz.func72, Tryz.ntmps72
        go_wp2_with (first
          | (go_at_call 70; refine hnum.mono ?_; intro e w1 he; obtain ⟨rfl, h1, h2⟩ := he.of_ok; have HE : Hid (EyeAt w1 eb s' ∧ Chg [eb] w w1) := ⟨h1, h2⟩; clear h1 h2 he)
          | (go_at_call 93; refine (raw_bad _ eb s' n HE.out.1 (by omega)).mono ?_; rintro e w2 ⟨rfl, rfl⟩)
          | fail)
        exact ⟨rfl, EyePost.err HE.out.1 HE.out.2⟩
end Go.Proofs.YtadmecjdihfmeaaGreat.Oct
