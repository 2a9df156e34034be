/- Plain facts on the sums of layer 3: one step, eight steps, a whole text; the sum of a text is linear and each step can be undone. -/
import Init
namespace Go.Proofs.YtadmecjdihfmeaaGreat.Crc
set_option linter.unusedVariables false
set_option linter.unusedSimpArgs false

def poly : Nat := 14514072000185962306
theorem poly_lt : poly < 2 ^ 64 := by decide

/-- one bit's step -/
def step (c : Nat) : Nat := (c / 2) ^^^ (if c % 2 = 1 then poly else 0)
def steps : Nat → Nat → Nat
  | 0, c => c
  | k + 1, c => step (steps k c)
def byte (c : Nat) (b : UInt8) : Nat := steps 8 (c ^^^ b.toNat)
def inv (c : Nat) : Nat := 18446744073709551616 - 1 - c
def bytes (c : Nat) (l : List UInt8) : Nat := l.foldl byte c
/-- the sum, gone on from one -/
def more (n : Nat) (l : List UInt8) : Nat := inv (bytes (inv n) l)

theorem step_lt {c : Nat} (h : c < 18446744073709551616) : step c < 18446744073709551616 := by
  unfold step
  have h1 : c / 2 < 2 ^ 64 := by show _ < 18446744073709551616; omega
  have h2 : (if c % 2 = 1 then poly else 0) < 2 ^ 64 := by split <;> decide
  exact Nat.xor_lt_two_pow h1 h2
theorem steps_lt (k : Nat) {c : Nat} (h : c < 18446744073709551616) : steps k c < 18446744073709551616 := by
  induction k with
  | zero => exact h
  | succ k ih => exact step_lt ih
theorem byte_lt {c : Nat} (h : c < 18446744073709551616) (b : UInt8) : byte c b < 18446744073709551616 := by
  refine steps_lt 8 (Nat.xor_lt_two_pow (n := 64) h ?_)
  have := b.toNat_lt; omega
theorem bytes_lt (l : List UInt8) : ∀ {c : Nat}, c < 18446744073709551616 → bytes c l < 18446744073709551616 := by
  induction l with
  | nil => exact fun h => h
  | cons b l ih => exact fun h => ih (byte_lt h b)
theorem inv_lt (c : Nat) : inv c < 18446744073709551616 := by unfold inv; omega
theorem inv_inv {c : Nat} (h : c < 18446744073709551616) : inv (inv c) = c := by unfold inv; omega
theorem more_lt (n : Nat) (l : List UInt8) : more n l < 18446744073709551616 := inv_lt _
theorem bytes_snoc (c : Nat) (l : List UInt8) (b : UInt8) : bytes c (l ++ [b]) = byte (bytes c l) b := by simp [bytes]
theorem bytes_append (c : Nat) (l m : List UInt8) : bytes c (l ++ m) = bytes (bytes c l) m := by simp [bytes]
theorem more_append (n : Nat) (l m : List UInt8) : more n (l ++ m) = more (more n l) m := by
  unfold more
  rw [bytes_append, inv_inv (bytes_lt l (inv_lt n))]

/-! linear -/
theorem mod2_xor (a b : Nat) : (a ^^^ b) % 2 = (a % 2 + b % 2) % 2 := by
  have h := Nat.testBit_xor (x := a) (y := b) (i := 0)
  simp only [Nat.testBit_zero] at h
  rcases Nat.mod_two_eq_zero_or_one a with ha | ha <;> rcases Nat.mod_two_eq_zero_or_one b with hb | hb <;> rcases Nat.mod_two_eq_zero_or_one (a ^^^ b) with hc | hc <;> simp [ha, hb, hc] at h ⊢
theorem div2_xor (a b : Nat) : (a ^^^ b) / 2 = (a / 2) ^^^ (b / 2) := Nat.xor_div_two
theorem step_xor (a b : Nat) : step (a ^^^ b) = step a ^^^ step b := by
  unfold step
  rw [div2_xor, mod2_xor]
  rcases Nat.mod_two_eq_zero_or_one a with ha | ha <;> rcases Nat.mod_two_eq_zero_or_one b with hb | hb <;> simp only [ha, hb] <;> simp
  · rw [Nat.xor_assoc]
  · rw [Nat.xor_assoc, Nat.xor_assoc, Nat.xor_comm poly]
  · rw [Nat.xor_assoc (a / 2) poly, ← Nat.xor_assoc poly, Nat.xor_comm poly (b / 2), Nat.xor_assoc (b / 2), Nat.xor_self, Nat.xor_zero]
theorem steps_xor (k a b : Nat) : steps k (a ^^^ b) = steps k a ^^^ steps k b := by
  induction k with
  | zero => rfl
  | succ k ih => simp only [steps, ih, step_xor]
theorem steps_add (j k c : Nat) : steps (j + k) c = steps j (steps k c) := by
  induction j with
  | zero => simp [steps]
  | succ j ih => rw [Nat.succ_add]; simp only [steps, ih]
/-- a number whose lowest bits are clear is shifted -/
theorem step_even {c : Nat} (h : c % 2 = 0) : step c = c / 2 := by unfold step; rw [if_neg (by omega)]; simp
theorem steps_shift (k : Nat) : ∀ x : Nat, steps k (x * 2 ^ k) = x := by
  induction k with
  | zero => intro x; simp [steps]
  | succ k ih =>
    intro x
    have h : x * 2 ^ (k + 1) = (x * 2) * 2 ^ k := by rw [Nat.pow_succ, Nat.mul_assoc, Nat.mul_comm 2]
    simp only [steps]
    rw [h, ih, step_even (by omega)]
    omega
/-- each step can be undone: none but nought goes to nought -/
theorem step_zero {c : Nat} (hc : c < 18446744073709551616) (h : step c = 0) : c = 0 := by
  unfold step at h
  split at h
  · exfalso
    have e : c / 2 = poly := by
      have h2 : (c / 2 ^^^ poly) ^^^ poly = 0 ^^^ poly := by rw [h]
      rw [Nat.xor_assoc, Nat.xor_self, Nat.xor_zero, Nat.zero_xor] at h2
      exact h2
    have : poly = 14514072000185962306 := rfl
    omega
  · rw [Nat.xor_zero] at h; omega
theorem steps_zero (k : Nat) {c : Nat} (hc : c < 18446744073709551616) (h : steps k c = 0) : c = 0 := by
  induction k with
  | zero => exact h
  | succ k ih => exact ih (step_zero (steps_lt k hc) h)
theorem xor_zero_iff {a b : Nat} (h : a ^^^ b = 0) : a = b := by
  have h2 : (a ^^^ b) ^^^ b = 0 ^^^ b := by rw [h]
  rwa [Nat.xor_assoc, Nat.xor_self, Nat.xor_zero, Nat.zero_xor] at h2
theorem steps_inj (k : Nat) {a b : Nat} (ha : a < 18446744073709551616) (hb : b < 18446744073709551616) (h : steps k a = steps k b) : a = b := by
  apply xor_zero_iff
  apply steps_zero k (Nat.xor_lt_two_pow (n := 64) ha hb)
  rw [steps_xor, h, Nat.xor_self]
theorem byte_inj_left {a b : Nat} (ha : a < 18446744073709551616) (hb : b < 18446744073709551616) (x : UInt8) (h : byte a x = byte b x) : a = b := by
  have hx : x.toNat < 2 ^ 64 := by have := x.toNat_lt; omega
  have := steps_inj 8 (Nat.xor_lt_two_pow (n := 64) ha hx) (Nat.xor_lt_two_pow (n := 64) hb hx) h
  have h2 : (a ^^^ x.toNat) ^^^ x.toNat = (b ^^^ x.toNat) ^^^ x.toNat := by rw [this]
  rwa [Nat.xor_assoc, Nat.xor_self, Nat.xor_zero, Nat.xor_assoc, Nat.xor_self, Nat.xor_zero] at h2
theorem bytes_inj_left (l : List UInt8) : ∀ {a b : Nat}, a < 18446744073709551616 → b < 18446744073709551616 → bytes a l = bytes b l → a = b := by
  induction l with
  | nil => exact fun _ _ h => h
  | cons x l ih => exact fun ha hb h => byte_inj_left ha hb x (ih (byte_lt ha x) (byte_lt hb x) h)

/-! eight bytes at most as one number, the first one lowest -/
def word : List UInt8 → Nat
  | [] => 0
  | x :: l => x.toNat + 256 * word l
theorem word_lt (l : List UInt8) : word l < 256 ^ l.length := by
  induction l with
  | nil => simp [word]
  | cons x l ih =>
    have := x.toNat_lt
    simp only [word, List.length_cons, Nat.pow_succ]
    omega
theorem word_inj : ∀ (l m : List UInt8), l.length = m.length → word l = word m → l = m := by
  intro l
  induction l with
  | nil => intro m hl _; cases m with | nil => rfl | cons _ _ => simp at hl
  | cons x l ih =>
    intro m hl h
    cases m with
    | nil => simp at hl
    | cons y m =>
      have hx := x.toNat_lt
      have hy := y.toNat_lt
      simp only [word] at h
      have e1 : x.toNat = y.toNat := by omega
      have e2 : word l = word m := by omega
      rw [ih m (by simpa using hl) e2, UInt8.toNat_inj.1 e1]
theorem low_xor (c x y : Nat) (hx : x < 256) : (c ^^^ (x + 256 * y)) = (c ^^^ x) ^^^ (256 * y) := by
  have h : x + 256 * y = x ^^^ (256 * y) := by
    have h1 : 256 * y + x = 256 * y ||| x := by
      have := Nat.two_pow_add_eq_or_of_lt (i := 8) (b := x) (by omega) y
      simpa using this
    rw [Nat.add_comm, h1]
    apply Nat.eq_of_testBit_eq
    intro i
    rw [Nat.testBit_or, Nat.testBit_xor]
    by_cases hi : i < 8
    · clear h1
      have : (256 * y).testBit i = false := by
        have e : 256 * y = 2 ^ 8 * y := by omega
        rw [e, Nat.testBit_two_pow_mul]; have h8 : ¬ 8 ≤ i := by omega
        simp [h8]
      simp [this]
    · clear h1
      have : x.testBit i = false := Nat.testBit_lt_two_pow (Nat.lt_of_lt_of_le hx (show 2 ^ 8 ≤ 2 ^ i from Nat.pow_le_pow_right (by omega) (by omega)))
      simp [this]
  rw [h, Nat.xor_assoc]
theorem bytes_word (l : List UInt8) : ∀ c : Nat, bytes c l = steps (8 * l.length) (c ^^^ word l) := by
  induction l with
  | nil => intro c; simp [bytes, word, steps]
  | cons x l ih =>
    intro c
    have e : bytes c (x :: l) = bytes (byte c x) l := rfl
    rw [e, ih, List.length_cons, show 8 * (l.length + 1) = 8 * l.length + 8 from by omega, steps_add, word, low_xor c _ _ x.toNat_lt, steps_xor 8]
    have h8 : steps 8 (256 * word l) = word l := by
      have := steps_shift 8 (word l)
      rwa [show word l * 2 ^ 8 = 256 * word l from by omega] at this
    rw [h8]
    rfl
/-- from one state, as many bytes, eight at most: one end just if they are the same -/
theorem bytes_inj_right {c : Nat} (hc : c < 18446744073709551616) (l m : List UInt8) (hl : l.length = m.length) (h8 : l.length ≤ 8) (h : bytes c l = bytes c m) : l = m := by
  rw [bytes_word, bytes_word, ← hl] at h
  have hp : ∀ k : List UInt8, k.length ≤ 8 → word k < 2 ^ 64 := by
    intro k hk
    refine Nat.lt_of_lt_of_le (word_lt k) ?_
    calc 256 ^ k.length ≤ 256 ^ 8 := Nat.pow_le_pow_right (by omega) hk
      _ = 2 ^ 64 := by decide
  have e := steps_inj _ (Nat.xor_lt_two_pow (n := 64) hc (hp l h8)) (Nat.xor_lt_two_pow (n := 64) hc (hp m (by omega))) h
  apply word_inj l m hl
  have h2 : c ^^^ (c ^^^ word l) = c ^^^ (c ^^^ word m) := by rw [e]
  rwa [← Nat.xor_assoc, ← Nat.xor_assoc, Nat.xor_self, Nat.zero_xor, Nat.zero_xor] at h2
theorem inv_inj {a b : Nat} (ha : a < 18446744073709551616) (hb : b < 18446744073709551616) (h : inv a = inv b) : a = b := by rw [← inv_inv ha, ← inv_inv hb, h]
/-- two texts that differ in eight neighbouring bytes at most -/
theorem more_apart (n : Nat) (p l m q : List UInt8) (hl : l.length = m.length) (h8 : l.length ≤ 8) (h : more n (p ++ l ++ q) = more n (p ++ m ++ q)) : l = m := by
  unfold more at h
  have h1 := inv_inj (bytes_lt _ (inv_lt n)) (bytes_lt _ (inv_lt n)) h
  rw [bytes_append, bytes_append, bytes_append, bytes_append] at h1
  have hp := bytes_lt p (inv_lt n)
  exact bytes_inj_right hp l m hl h8 (bytes_inj_left q (bytes_lt l hp) (bytes_lt m hp) h1)

/-! a sum as eight bytes, the lowest first -/
def tail (n : Nat) : List UInt8 := (List.range 8).map fun i => UInt8.ofNat (n / 256 ^ i)
theorem tail_length (n : Nat) : (tail n).length = 8 := by simp [tail]
theorem tail_inj {a b : Nat} (ha : a < 18446744073709551616) (hb : b < 18446744073709551616) (h : tail a = tail b) : a = b := by
  have hw : ∀ n, n < 18446744073709551616 → word (tail n) = n := by
    intro n hn
    simp only [tail, List.range, List.range.loop, List.map_cons, List.map_nil, word, UInt8.toNat_ofNat', Nat.reducePow]
    omega
  rw [← hw a ha, ← hw b hb, h]
def seal_ (l : List UInt8) : List UInt8 := l ++ tail (more 0 l)
theorem seal_length (l : List UInt8) : (seal_ l).length = l.length + 8 := by simp [seal_, tail_length]

/-! one byte changed -/
theorem xor_ne {a b : UInt8} (hb : b ≠ 0) : a ^^^ b ≠ a := by
  intro h
  apply hb
  have h1 : a ^^^ (a ^^^ b) = a ^^^ a := by rw [h]
  rw [← UInt8.xor_assoc, UInt8.xor_self, UInt8.zero_xor] at h1
  exact h1
theorem set_split (l : List UInt8) (i : Nat) (hi : i < l.length) (x : UInt8) : l.set i x = l.take i ++ [x] ++ l.drop (i + 1) := by
  rw [List.set_eq_take_append_cons_drop, if_pos hi]; simp
theorem get_split (l : List UInt8) (i : Nat) (hi : i < l.length) : l = l.take i ++ [l[i]] ++ l.drop (i + 1) := by
  simp
theorem more_set (n : Nat) (l : List UInt8) (i : Nat) (hi : i < l.length) (x : UInt8) (h : more n (l.set i x) = more n l) : x = l[i] := by
  rw [set_split l i hi x] at h
  have h2 : more n l = more n (l.take i ++ [l[i]] ++ l.drop (i + 1)) := by rw [← get_split l i hi]
  rw [h2] at h
  have := more_apart n _ _ _ _ (by simp) (by simp) h
  simpa using this
theorem seal_take (l : List UInt8) : (seal_ l).take l.length = l := by simp [seal_]
theorem told (l : List UInt8) (i : Nat) (b : UInt8) (hb : b ≠ 0) (hi : i < (seal_ l).length) :
    seal_ (((seal_ l).set i ((seal_ l)[i] ^^^ b)).take l.length) ≠ (seal_ l).set i ((seal_ l)[i] ^^^ b) := by
  intro h
  by_cases hlt : i < l.length
  · have e1 : (seal_ l)[i] = l[i] := by simp [seal_, hlt]
    rw [e1] at h
    have e2 : (seal_ l).set i (l[i] ^^^ b) = l.set i (l[i] ^^^ b) ++ tail (more 0 l) := by simp [seal_, List.set_append, hlt]
    rw [e2] at h
    have e3 : (l.set i (l[i] ^^^ b) ++ tail (more 0 l)).take l.length = l.set i (l[i] ^^^ b) := by simp
    rw [e3] at h
    have e4 := (List.append_inj h rfl).2
    have e5 := tail_inj (more_lt _ _) (more_lt _ _) e4
    exact xor_ne hb (more_set 0 l i hlt _ e5)
  · have e3 : ((seal_ l).set i ((seal_ l)[i] ^^^ b)).take l.length = l := by
      rw [List.take_set_of_le (by omega), seal_take]
    rw [e3] at h
    have : (seal_ l)[i] = ((seal_ l).set i ((seal_ l)[i] ^^^ b))[i]'(by simpa using hi) := by
      simp only [← h]
    rw [List.getElem_set_self] at this
    exact xor_ne hb this.symm

/-! eight neighbouring bytes changed -/
theorem apart (n : Nat) (L M : List UInt8) (hl : M.length = L.length) (i : Nat) (hs : ∀ j, (j < i ∨ i + 8 ≤ j) → M[j]? = L[j]?) (h : more n M = more n L) : M = L := by
  have hp : M.take i = L.take i := by
    apply List.ext_getElem?
    intro j
    by_cases hj : j < i
    · rw [List.getElem?_take_of_lt hj, List.getElem?_take_of_lt hj]; exact hs j (.inl hj)
    · rw [List.getElem?_take_eq_none (by omega), List.getElem?_take_eq_none (by omega)]
  have hq : (M.drop i).drop 8 = (L.drop i).drop 8 := by
    apply List.ext_getElem?
    intro j
    rw [List.getElem?_drop, List.getElem?_drop, List.getElem?_drop, List.getElem?_drop]
    exact hs _ (.inr (by omega))
  have eM : M = M.take i ++ (M.drop i).take 8 ++ (M.drop i).drop 8 := by
    rw [List.append_assoc, List.take_append_drop, List.take_append_drop]
  have eL : L = M.take i ++ (L.drop i).take 8 ++ (M.drop i).drop 8 := by
    rw [hp, hq, List.append_assoc, List.take_append_drop, List.take_append_drop]
  have h2 : more n (M.take i ++ (M.drop i).take 8 ++ (M.drop i).drop 8) = more n (M.take i ++ (L.drop i).take 8 ++ (M.drop i).drop 8) := by
    rw [← eM, ← eL]; exact h
  have h3 := more_apart n _ _ _ _ (by simp [hl]) (by simp; omega) h2
  rw [eM, h3, ← eL]
end Go.Proofs.YtadmecjdihfmeaaGreat.Crc
