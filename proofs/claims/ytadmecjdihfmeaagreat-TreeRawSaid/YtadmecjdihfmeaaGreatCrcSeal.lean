/- What the sums of layer 3 compute: the program's functions and the reference's, each against the plain function of XCrcPure. -/
import Derived.Test.YtadmecjdihfmeaaGreatProg
import Derived.Test.YtadmecjdihfmeaaGreatCrcPure
import Derived.WalkKit
import Derived.WalkSpells
import Derived.WalkLawsBesides
import Derived.Deep.QuietTactic
namespace Go.Proofs.YtadmecjdihfmeaaGreat.Crc
set_option linter.unusedVariables false
set_option linter.unusedSimpArgs false
open Go.RowKit

/-- A region that draws its order, its operations quiet in a class of worlds: one walk, in the order of the text. -/
theorem wp_region_class {P : Program} {id : Nat} {Q : Exit → Act → World → Prop} {a : Act} {w : World} {l : List Oper} (C : World → Prop) (hm : P.follows .mixedOrders = true) (hB : Region.lexB .any l.toArray = true)
    (hC : C w.drew) (h : wpQuiet P l.toArray C (fun a' => ∀ w', C w' → Q .normal a' w') l a) : (Code.region id l.toArray true).wp P Q a w :=
  wp_region_quiet (C := C) hm hB hC (by simpa using h)

/-! ### how the walk spells a sum of 64 bits -/
theorem shr_step (x : Nat) (hx : x < 18446744073709551616) :
    bits .xor .u64 ((x : Int) / 2) (bits .and .u64 14514072000185962306 (IntKind.u64.wrap (-bits .and .u64 (x : Int) 1))) = ((step x : Nat) : Int) := by
  have h1 : bits .and .u64 (x : Int) 1 = ((x % 2 : Nat) : Int) := by
    have := bits_and_u64_nat x 1 hx (by omega)
    rw [Nat.and_one_is_mod] at this
    exact this
  rw [h1]
  have h2 : IntKind.u64.wrap (-((x % 2 : Nat) : Int)) = (((18446744073709551616 - x % 2) % 18446744073709551616 : Nat) : Int) := by
    rw [IntKind.wrap_u64]; omega
  rw [h2]
  have h3 : bits .and .u64 14514072000185962306 (((18446744073709551616 - x % 2) % 18446744073709551616 : Nat) : Int) = ((if x % 2 = 1 then poly else 0 : Nat) : Int) := by
    have := bits_and_u64_nat 14514072000185962306 ((18446744073709551616 - x % 2) % 18446744073709551616) (by omega) (by omega)
    rw [show (14514072000185962306 : Int) = ((14514072000185962306 : Nat) : Int) from rfl, this]
    rcases Nat.mod_two_eq_zero_or_one x with h | h <;> rw [h] <;> decide
  rw [h3]
  have h4 : ((x : Int) / 2) = ((x / 2 : Nat) : Int) := by omega
  rw [h4, bits_xor_u64_nat (x / 2) _ (by omega) (by split <;> decide)]
  rfl
theorem not_u64 (x : Nat) (hx : x < 18446744073709551616) : bits .xor .u64 IntKind.u64.max (x : Int) = ((inv x : Nat) : Int) := by
  have h := bits_xor_u64_nat 18446744073709551615 x (by omega) hx
  have hm : IntKind.u64.max = ((18446744073709551615 : Nat) : Int) := by decide
  rw [hm, h]
  have e : 18446744073709551615 ^^^ x = inv x := by
    have h1 : (~~~(BitVec.ofNat 64 x)).toNat = 2 ^ 64 - 1 - (BitVec.ofNat 64 x).toNat := BitVec.toNat_not
    rw [← BitVec.allOnes_xor, BitVec.toNat_xor, BitVec.toNat_allOnes, BitVec.toNat_ofNat, Nat.mod_eq_of_lt hx] at h1
    exact h1
  rw [e]
theorem xor_byte (x : Nat) (hx : x < 18446744073709551616) (b : UInt8) : bits .xor .u64 (x : Int) (IntKind.u64.wrap (b.toNat : Int)) = ((x ^^^ b.toNat : Nat) : Int) := by
  have hb := b.toNat_lt
  have h : IntKind.u64.wrap (b.toNat : Int) = ((b.toNat : Nat) : Int) := by rw [IntKind.wrap_u64]; omega
  rw [h, bits_xor_u64_nat x b.toNat hx (by omega)]

set_option maxHeartbeats 400000 in
theorem more_any (n : Nat) (s : ByteArray) (w : World) (h1 : n < 18446744073709551616) (hs : s.size ≤ 140737488351232) :
    Calls Tryz.prog 105 #[.int .u64 n, .string s] w fun e w' => e = .returned (.int .u64 (more n s.data.toList)) ∧ w = w' := by
  have Hn := not_u64 n h1
  go_enter Tryz.func105, Tryz.ntmps105
  go_wp2
  clear Hn
  go_loop [5, 12] (fun c i => ∃ k : Nat, k ≤ s.size ∧ i = .int .i64 k ∧ c = .int .u64 (bytes (inv n) (s.data.toList.take k))) (fun _ i => s.size - (intOf i).toNat)
  case atStart => exact ⟨0, Nat.zero_le _, rfl, by simp [bytes]⟩
  case round =>
    obtain ⟨k, hk, rfl, rfl⟩ := hrel
    have hx := bytes_lt (s.data.toList.take k) (inv_lt n)
    by_cases hlt : k < s.size
    · have hsn : Hid (byte (bytes (inv n) (s.data.toList.take k)) s[k] = bytes (inv n) (s.data.toList.take (k + 1))) := by
        rw [List.take_succ_eq_append_getElem (by simpa using hlt), bytes_snoc]; rfl
      obtain ⟨x, hX⟩ : ∃ x, x = bytes (inv n) (s.data.toList.take k) := ⟨_, rfl⟩
      rw [← hX] at hx hsn ⊢
      clear hX
      have Hx := xor_byte x hx s[k]
      go_wp2
      clear Hx
      go_loop [5, 21] (fun c i => ∃ j : Nat, j ≤ 8 ∧ i = .int .i64 j ∧ c = .int .u64 (steps j (x ^^^ s[k].toNat))) (fun _ i => 8 - (intOf i).toNat)
      case atStart => exact ⟨0, by omega, rfl, rfl⟩
      case round =>
        obtain ⟨j, hj, rfl, rfl⟩ := hrel
        have hy : steps j (x ^^^ s[k].toNat) < 18446744073709551616 := steps_lt j (Nat.xor_lt_two_pow (n := 64) hx (by have := s[k].toNat_lt; omega))
        by_cases hlt8 : j < 8
        · have Hs := shr_step _ hy
          go_wp2
          clear Hs
          go_round
          case rel => exact ⟨j + 1, by omega, by go_num, rfl⟩
          case measure => simp [intOf]; omega
        · obtain rfl : j = 8 := by omega
          go_wp2
          go_round
          case rel => exact ⟨k + 1, by omega, by go_num, by rw [← hsn.out]; rfl⟩
          case measure => simp [intOf]; omega
    · have he : s.data.toList.take k = s.data.toList := List.take_of_length_le (by simp; omega)
      rw [he] at hx ⊢
      clear he
      have Hn := not_u64 _ hx
      go_wp2
      go_ret
      exact ⟨rfl, rfl⟩

theorem of_any (s : ByteArray) (w : World) (hs : s.size ≤ 140737488351232) :
    Calls Tryz.prog 98 #[.string s] w fun e w' => e = .returned (.int .u64 (more 0 s.data.toList)) ∧ w = w' := by
  go_enter Tryz.func98, Tryz.ntmps98
  go_wp2_with (go_at_call 105; refine (more_any 0 _ _ (by omega) (by omega)).mono ?_; rintro e w' ⟨rfl, rfl⟩)
  go_ret
  exact ⟨rfl, rfl⟩
theorem str_append (s : ByteArray) (l : List UInt8) : s ++ (⟨l.toArray⟩ : ByteArray) = ⟨(s.data.toList ++ l).toArray⟩ := by
  apply ByteArray.ext
  apply Array.toList_inj.1
  simp
/-- the eight cells of a sum, read as a text -/
theorem conv_tail (x : Nat) (w : World) :
    (convert 71 9 (.slice (some ⟨w.heap.size, 0, none⟩) 8 8)).run Tryz.prog
      (w.alloc (.cells #[.int .u8 ((x : Int) % 256), .int .u8 ((x : Int) / 256 % 256), .int .u8 ((x : Int) / 65536 % 256), .int .u8 ((x : Int) / 16777216 % 256),
        .int .u8 ((x : Int) / 4294967296 % 256), .int .u8 ((x : Int) / 1099511627776 % 256), .int .u8 ((x : Int) / 281474976710656 % 256), .int .u8 ((x : Int) / 72057594037927936 % 256)] 159)) =
    .ok (.string ⟨(tail x).toArray⟩)
      (w.alloc (.cells #[.int .u8 ((x : Int) % 256), .int .u8 ((x : Int) / 256 % 256), .int .u8 ((x : Int) / 65536 % 256), .int .u8 ((x : Int) / 16777216 % 256),
        .int .u8 ((x : Int) / 4294967296 % 256), .int .u8 ((x : Int) / 1099511627776 % 256), .int .u8 ((x : Int) / 281474976710656 % 256), .int .u8 ((x : Int) / 72057594037927936 % 256)] 159)) := by
  have h := run_convert_bytes_back (P := Tryz.prog) (w.alloc (.cells #[.int .u8 ((x : Int) % 256), .int .u8 ((x : Int) / 256 % 256), .int .u8 ((x : Int) / 65536 % 256), .int .u8 ((x : Int) / 16777216 % 256),
        .int .u8 ((x : Int) / 4294967296 % 256), .int .u8 ((x : Int) / 1099511627776 % 256), .int .u8 ((x : Int) / 281474976710656 % 256), .int .u8 ((x : Int) / 72057594037927936 % 256)] 159))
    71 9 5 ⟨w.heap.size, 0, none⟩ 8 (tail x) Tryz.underlying71 Tryz.underlying5 Tryz.underlying9 ?_
  · rw [tail_length] at h
    exact h
  · intro j hj
    rw [tail_length] at hj
    have e : (⟨w.heap.size, 0, none⟩ : Addr).add j = ⟨w.heap.size, j, none⟩ := by unfold Addr.add; split <;> simp_all
    rw [e, World.cell?_alloc_mark]
    rcases (by omega : j = 0 ∨ j = 1 ∨ j = 2 ∨ j = 3 ∨ j = 4 ∨ j = 5 ∨ j = 6 ∨ j = 7) with h | h | h | h | h | h | h | h <;> subst h <;> simp [tail]
set_option maxHeartbeats 400000 in
theorem seal_any (s : ByteArray) (w : World) (hs : s.size ≤ 140737488351232) :
    Calls Tryz.prog 86 #[.string s] w fun e w' => e = .returned (.string ⟨(seal_ s.data.toList).toArray⟩) ∧ Below w.heap.size w w' := by
  have hconv := conv_tail (more 0 s.data.toList)
  have htl := tail_length (more 0 s.data.toList)
  go_enter Tryz.func86, Tryz.ntmps86
  go_wp2_with (go_at_call 98; refine (of_any _ _ (by omega)).mono ?_; rintro e w' ⟨rfl, rfl⟩)
  refine wp_loop_rounds 9 ?_
  repeat any_goals (rw [rounds_succ]; go_wp2)
  go_ret
  refine ⟨?_, (Below.refl _ _).alloc (Nat.le_refl _) _⟩
  show Ending.returned (.string (s ++ ⟨(tail (more 0 s.data.toList)).toArray⟩)) = _
  rw [str_append]
  rfl
theorem open_short (s : ByteArray) (w : World) (hs : s.size < 8) :
    Calls Tryz.prog 106 #[.string s] w fun e w' => e = .returned (.tuple #[.string ⟨#[]⟩, .bool false]) ∧ w = w' := by
  go_enter Tryz.func106, Tryz.ntmps106
  go_wp2
  go_ret2
  exact ⟨rfl, rfl⟩
theorem open_long (s : ByteArray) (w : World) (hs : s.size ≤ 140737488351232) (h8 : 8 ≤ s.size) :
    Calls Tryz.prog 106 #[.string s] w fun e w' => e = .returned (.tuple #[.string (s.extract 0 (s.size - 8)), .bool (seal_ (s.data.toList.take (s.size - 8)) == s.toList)]) ∧ Below w.heap.size w w' := by
  go_enter Tryz.func106, Tryz.ntmps106
  go_wp2_with (go_at_call 86; refine (seal_any _ _ (by simp; omega)).mono ?_; rintro e w' ⟨rfl, hb⟩)
  go_ret2
  exact ⟨rfl, hb⟩
end Go.Proofs.YtadmecjdihfmeaaGreat.Crc
