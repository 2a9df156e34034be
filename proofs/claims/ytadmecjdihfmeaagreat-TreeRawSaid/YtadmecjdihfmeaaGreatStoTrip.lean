/- Layer 6 in plain Lean: what was laid as bytes is read again. -/
import Derived.Test.YtadmecjdihfmeaaGreatStoBytes
import Derived.Test.YtadmecjdihfmeaaGreatBegins
namespace Go.Proofs.YtadmecjdihfmeaaGreat.Sto
set_option linter.unusedVariables false
set_option linter.unusedSimpArgs false
open Go.RowKit Go.Proofs.YtadmecjdihfmeaaGreat.Mem Go.Proofs.YtadmecjdihfmeaaGreat.Oct

def bl (l : List UInt8) : ByteArray := ⟨l.toArray⟩
theorem bl_size (l : List UInt8) : (bl l).size = l.length := by simp [bl, ByteArray.size]
theorem bl_list (l : List UInt8) : (bl l).data.toList = l := by simp [bl]
theorem bl_toList (l : List UInt8) : (bl l).toList = l := by
  rw [ByteArray.toList_eq] <;> simp [bl]
theorem bl_of (d : ByteArray) : bl d.data.toList = d := by apply ByteArray.ext; simp [bl]
theorem bl_extract (l : List UInt8) (i j : Nat) : (bl l).extract i j = bl ((l.take j).drop i) := by
  apply ByteArray.ext
  rw [ByteArray.data_extract]
  apply Array.ext'
  simp [bl, List.drop_take]
theorem word_be_go : ∀ (k n a : Nat), (be k n).foldl (fun n b => n * 256 + b.toNat) a = a * 256 ^ k + n % 256 ^ k
  | 0, n, a => by simp [be, Nat.mod_one]
  | k + 1, n, a => by
    have ih := word_be_go k n (a * 256 + (UInt8.ofNat (n / 256 ^ k)).toNat)
    simp only [be, List.foldl_cons, ih]
    have e1 : (UInt8.ofNat (n / 256 ^ k)).toNat = n / 256 ^ k % 256 := by simp
    have e2 : n % 256 ^ (k + 1) = n % 256 ^ k + 256 ^ k * (n / 256 ^ k % 256) := by rw [Nat.pow_succ, Nat.mod_mul]
    rw [e1, e2, Nat.pow_succ, Nat.add_mul, Nat.mul_assoc, Nat.mul_comm 256 (256 ^ k), Nat.mul_comm (n / 256 ^ k % 256) (256 ^ k)]
    omega
theorem word_be (k n : Nat) (h : n < 256 ^ k) : word (be k n) = n := by
  have := word_be_go k n 0
  unfold word
  rw [this, Nat.mod_eq_of_lt h]
  omega
theorem numP_be {k n : Nat} (h : n < 256 ^ k) (r : List UInt8) : numP k (bl (be k n ++ r)) = .ok (n, bl r) := by
  have hl := be_length k n
  unfold numP
  rw [if_pos (by rw [bl_size]; simp [hl]), bl_list, bl_extract, bl_size]
  have e1 : (be k n ++ r).take k = be k n := by rw [List.take_append_of_le_length (by omega), List.take_of_length_le (by omega)]
  have e2 : ((be k n ++ r).take (be k n ++ r).length).drop k = r := by rw [List.take_length, List.drop_append_of_le_length (by omega), List.drop_of_length_le (by omega)]; rfl
  rw [e1, e2, word_be k n h]
theorem rawP_bl (x r : List UInt8) : rawP (x.length : Nat) (bl (x ++ r)) = .ok (bl x, bl r) := by
  unfold rawP
  rw [if_pos ⟨by omega, by rw [bl_size, List.length_append]; omega⟩, bl_extract, bl_extract, bl_size]
  have e0 : ((x.length : Nat) : Int).toNat = x.length := by omega
  rw [e0]
  have e1 : ((x ++ r).take x.length).drop 0 = x := by simp
  have e2 : ((x ++ r).take (x ++ r).length).drop x.length = r := by rw [List.take_length]; simp
  rw [e1, e2]
theorem textP_bl {m : Nat} {d : ByteArray} (hd : d.size ≤ m) (hm : m ≤ 65535) (r : List UInt8) : textP m (bl (be 2 d.size ++ (d.data.toList ++ r))) = .ok (d, bl r) := by
  unfold textP
  rw [numP_be (by omega)]
  dsimp only
  rw [if_neg (by omega)]
  have e : d.size = d.data.toList.length := by rw [Array.length_toList]; rfl
  rw [e, rawP_bl, bl_of]
theorem kidsGo_bl {n : Int} (hn : n ≤ 4294967296) : ∀ (l : List Int) (acc : List Int) (r : List UInt8), (∀ x ∈ l, 2 ≤ x ∧ x < n) → kidsGo n l.length acc (bl (kidsL l ++ r)) = .ok (acc ++ l, bl r)
  | [], acc, r, _ => by simp [kidsGo, kidsL]
  | x :: l, acc, r, h => by
    have hx := h x (by simp)
    have e : kidsL (x :: l) ++ r = be 4 x.toNat ++ (kidsL l ++ r) := by simp [kidsL]
    rw [List.length_cons, kidsGo_succ, e, numP_be (by omega)]
    dsimp only
    have e2 : ((x.toNat : Nat) : Int) = x := by omega
    rw [e2, if_neg (by omega), kidsGo_bl hn l _ r (fun y hy => h y (by simp [hy]))]
    simp
theorem getR_bl {n : Int} {l : List Int} {d : ByteArray} (hn : n ≤ 4294967296) (hl : l.length ≤ 16) (hk : ∀ x ∈ l, 2 ≤ x ∧ x < n) (hd : d.size ≤ 3900) : getR n (bl (blockL l d)) = .ok ((l, d), bl []) := by
  unfold getR blockL
  rw [numP_be (by omega)]
  dsimp only
  rw [if_neg (by omega), kidsGo_bl hn l [] _ hk]
  dsimp only
  have := textP_bl hd (by omega) []
  rw [List.append_nil] at this
  rw [this]
  rfl
theorem openP_seal (l : List UInt8) : openP ⟨(Crc.seal_ l).toArray⟩ = some (bl l) := by
  have hz : (⟨(Crc.seal_ l).toArray⟩ : ByteArray).size = l.length + 8 := by
    have := bl_size (Crc.seal_ l)
    rw [Crc.seal_length] at this
    exact this
  unfold openP
  rw [if_neg (by omega), hz]
  have e1 : (⟨(Crc.seal_ l).toArray⟩ : ByteArray).data.toList = Crc.seal_ l := by simp
  have e2 : (⟨(Crc.seal_ l).toArray⟩ : ByteArray).toList = Crc.seal_ l := by
    rw [ByteArray.toList_eq] <;> simp
  rw [e1, e2, Nat.add_sub_cancel, Crc.seal_take, beq_self_eq_true, if_pos rfl]
  have := bl_extract (Crc.seal_ l) 0 l.length
  rw [Crc.seal_take] at this
  exact congrArg some this
theorem getP_put {n : Int} {l : List Int} {d : ByteArray} (hn : n ≤ 4294967296) (hl : l.length ≤ 16) (hk : ∀ x ∈ l, 2 ≤ x ∧ x < n) (hd : d.size ≤ 3900) : getP (blockB l d) n = some (l, d) := by
  unfold getP blockB
  rw [openP_seal]
  dsimp only
  rw [getR_bl hn hl hk hd]
  dsimp only
  rw [bl_toList]
  rfl
theorem beginsP_super {n : Int} {g r : Nat} {nt : ByteArray} (hn : 0 ≤ n ∧ n < 4294967296) (hg : 1 ≤ g ∧ g ≤ 1099511627776) (hr : r = 0 ∨ (2 ≤ r ∧ (r : Int) < n)) (hd : nt.size ≤ 3900) : beginsP (superB g r n.toNat nt) n = some (g, r, nt) := by
  unfold beginsP superB
  rw [openP_seal]
  dsimp only
  have e0 : rawP 1 (bl (superL g r n.toNat nt)) = .ok (bl [83], bl (be 6 g ++ (be 4 r ++ (be 4 n.toNat ++ (be 2 nt.size ++ nt.data.toList))))) := rawP_bl [83] _
  have hR : beginsR n (bl (superL g r n.toNat nt)) = .ok ((g, r, nt), bl []) := by
    unfold beginsR
    rw [e0]
    dsimp only
    rw [if_pos (by rw [bl_toList]; rfl), numP_be (by omega)]
    dsimp only
    rw [numP_be (by omega)]
    dsimp only
    rw [numP_be (by omega)]
    dsimp only
    have hb : badSuper n g r n.toNat = false := by
      unfold badSuper
      have e1 : ((n.toNat : Nat) : Int) = n := by omega
      rw [e1]
      rcases hr with rfl | hr
      · simp; omega
      · simp; omega
    rw [hb, if_neg (by decide)]
    have := textP_bl hd (by omega) []
    rw [List.append_nil] at this
    rw [this]
  rw [hR]
  dsimp only
  rw [bl_toList]
  rfl
end Go.Proofs.YtadmecjdihfmeaaGreat.Sto
