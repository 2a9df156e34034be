/- What the sums of layer 3 compute: the program's functions and the reference's, each against the plain function of XCrcPure. -/
import Derived.Test.YtigagapopifpjaaProg
import Derived.Test.YtigagapopifpjaaCrcPure
import Derived.WalkKit
import Derived.WalkSpells
import Derived.WalkLawsBesides
import Derived.Deep.QuietTactic
namespace Go.Proofs.Ytigagapopifpjaa.Crc
set_option linter.unusedVariables false
set_option linter.unusedSimpArgs false
open Go.RowKit

/-- A region that draws its order, its operations quiet in a class of worlds: one walk, in the order of the text. -/
theorem wp_region_class {P : Program} {id : Nat} {Q : Exit → Act → World → Prop} {a : Act} {w : World} {l : List Oper} (C : World → Prop) (hm : P.follows .mixedOrders = true) (hB : Region.lexB .any l.toArray = true)
    (hC : C w.drew) (h : wpQuiet P l.toArray C (fun a' => ∀ w', C w' → Q .normal a' w') l a) : (Code.region id l.toArray true).wp P Q a w :=
  wp_region_quiet (C := C) hm hB hC (by simpa using h)

/-! ### how the walk spells a sum of 64 bits -/
theorem shr_step (x : Nat) (hx : x < 18446744073709551616) :
    bits .xor .u64 ((x : Int) / 2) (bits .and .u64 14514072000185962306 (IntKind.u64.wrap (-bits .and .u64 (x : Int) 1))) = ((step x : Nat) : Int) := by
  have h1 : bits .and .u64 (x : Int) 1 = ((x % 2 : Nat) : Int) := by
    have := bits_and_u64_nat x 1 hx (by omega)
    rw [Nat.and_one_is_mod] at this
    exact this
  rw [h1]
  have h2 : IntKind.u64.wrap (-((x % 2 : Nat) : Int)) = (((18446744073709551616 - x % 2) % 18446744073709551616 : Nat) : Int) := by
    rw [IntKind.wrap_u64]; omega
  rw [h2]
  have h3 : bits .and .u64 14514072000185962306 (((18446744073709551616 - x % 2) % 18446744073709551616 : Nat) : Int) = ((if x % 2 = 1 then poly else 0 : Nat) : Int) := by
    have := bits_and_u64_nat 14514072000185962306 ((18446744073709551616 - x % 2) % 18446744073709551616) (by omega) (by omega)
    rw [show (14514072000185962306 : Int) = ((14514072000185962306 : Nat) : Int) from rfl, this]
    rcases Nat.mod_two_eq_zero_or_one x with h | h <;> rw [h] <;> decide
  rw [h3]
  have h4 : ((x : Int) / 2) = ((x / 2 : Nat) : Int) := by omega
  rw [h4, bits_xor_u64_nat (x / 2) _ (by omega) (by split <;> decide)]
  rfl
theorem not_u64 (x : Nat) (hx : x < 18446744073709551616) : bits .xor .u64 IntKind.u64.max (x : Int) = ((inv x : Nat) : Int) := by
  have h := bits_xor_u64_nat 18446744073709551615 x (by omega) hx
  have hm : IntKind.u64.max = ((18446744073709551615 : Nat) : Int) := by decide
  rw [hm, h]
  have e : 18446744073709551615 ^^^ x = inv x := by
    have h1 : (~~~(BitVec.ofNat 64 x)).toNat = 2 ^ 64 - 1 - (BitVec.ofNat 64 x).toNat := BitVec.toNat_not
    rw [← BitVec.allOnes_xor, BitVec.toNat_xor, BitVec.toNat_allOnes, BitVec.toNat_ofNat, Nat.mod_eq_of_lt hx] at h1
    exact h1
  rw [e]
theorem xor_byte (x : Nat) (hx : x < 18446744073709551616) (b : UInt8) : bits .xor .u64 (x : Int) (IntKind.u64.wrap (b.toNat : Int)) = ((x ^^^ b.toNat : Nat) : Int) := by
  have hb := b.toNat_lt
  have h : IntKind.u64.wrap (b.toNat : Int) = ((b.toNat : Nat) : Int) := by rw [IntKind.wrap_u64]; omega
  rw [h, bits_xor_u64_nat x b.toNat hx (by omega)]

set_option maxHeartbeats 400000 in
theorem more_any (n : Nat) (s : ByteArray) (w : World) (h1 : n < 18446744073709551616) (hs : s.size ≤ 140737488351232) :
    Calls Try.prog 8 #[.int .u64 n, .string s] w fun e w' => e = .returned (.int .u64 (more n s.data.toList)) ∧ w = w' := by
  have Hn := not_u64 n h1
  go_enter Try.func8, Try.ntmps8
  go_wp2
  clear Hn
  go_loop [5, 12] (fun c i => ∃ k : Nat, k ≤ s.size ∧ i = .int .i64 k ∧ c = .int .u64 (bytes (inv n) (s.data.toList.take k))) (fun _ i => s.size - (intOf i).toNat)
  case atStart => exact ⟨0, Nat.zero_le _, rfl, by simp [bytes]⟩
  case round =>
    obtain ⟨k, hk, rfl, rfl⟩ := hrel
    have hx := bytes_lt (s.data.toList.take k) (inv_lt n)
    by_cases hlt : k < s.size
    · have hsn : Hid (byte (bytes (inv n) (s.data.toList.take k)) s[k] = bytes (inv n) (s.data.toList.take (k + 1))) := by
        rw [List.take_succ_eq_append_getElem (by simpa using hlt), bytes_snoc]; rfl
      obtain ⟨x, hX⟩ : ∃ x, x = bytes (inv n) (s.data.toList.take k) := ⟨_, rfl⟩
      rw [← hX] at hx hsn ⊢
      clear hX
      have Hx := xor_byte x hx s[k]
      go_wp2
      clear Hx
      go_loop [5, 21] (fun c i => ∃ j : Nat, j ≤ 8 ∧ i = .int .i64 j ∧ c = .int .u64 (steps j (x ^^^ s[k].toNat))) (fun _ i => 8 - (intOf i).toNat)
      case atStart => exact ⟨0, by omega, rfl, rfl⟩
      case round =>
        obtain ⟨j, hj, rfl, rfl⟩ := hrel
        have hy : steps j (x ^^^ s[k].toNat) < 18446744073709551616 := steps_lt j (Nat.xor_lt_two_pow (n := 64) hx (by have := s[k].toNat_lt; omega))
        by_cases hlt8 : j < 8
        · have Hs := shr_step _ hy
          go_wp2
          clear Hs
          go_round
          case rel => exact ⟨j + 1, by omega, by go_num, rfl⟩
          case measure => simp [intOf]; omega
        · obtain rfl : j = 8 := by omega
          go_wp2
          go_round
          case rel => exact ⟨k + 1, by omega, by go_num, by rw [← hsn.out]; rfl⟩
          case measure => simp [intOf]; omega
    · have he : s.data.toList.take k = s.data.toList := List.take_of_length_le (by simp; omega)
      rw [he] at hx ⊢
      clear he
      have Hn := not_u64 _ hx
      go_wp2
      go_ret
      exact ⟨rfl, rfl⟩

theorem of_any (s : ByteArray) (w : World) (hs : s.size ≤ 140737488351232) :
    Calls Try.prog 10 #[.string s] w fun e w' => e = .returned (.int .u64 (more 0 s.data.toList)) ∧ w = w' := by
  go_enter Try.func10, Try.ntmps10
  go_wp2_with (go_at_call 8; refine (more_any 0 _ _ (by omega) (by omega)).mono ?_; rintro e w' ⟨rfl, rfl⟩)
  go_ret
  exact ⟨rfl, rfl⟩
theorem wrap_u64_sub (x : Nat) (hx : x < 18446744073709551616) : IntKind.u64.wrap (18446744073709551615 - (x : Int)) = ((inv x : Nat) : Int) := by
  rw [IntKind.wrap_u64]; unfold inv; omega
theorem half_u64 (x : Nat) (hx : x < 18446744073709551616) : IntKind.u64.wrap ((x : Int) / 2) = ((x / 2 : Nat) : Int) := by
  rw [IntKind.wrap_u64]; omega
theorem xor_poly (x : Nat) (hx : x < 18446744073709551616) : bits .xor .u64 (x : Int) 14514072000185962306 = ((x ^^^ poly : Nat) : Int) :=
  bits_xor_u64_nat x 14514072000185962306 hx (by omega)
theorem xor_poly' (x : Nat) (hx : x < 18446744073709551616) : bits .xor .u64 ((x : Int) / 2) 14514072000185962306 = (((x / 2) ^^^ poly : Nat) : Int) := by
  rw [show (x : Int) / 2 = ((x / 2 : Nat) : Int) from by omega]
  exact bits_xor_u64_nat (x / 2) 14514072000185962306 (by omega) (by omega)
theorem odd_of (x : Nat) (h : ((x : Int) % 2 == 1) = true) : x % 2 = 1 := by have := eq_of_beq h; omega
theorem even_of (x : Nat) (h : ((x : Int) % 2 == 1) = false) : x % 2 = 0 := by have := beq_eq_false_iff_ne.1 h; omega
theorem step_odd {c : Nat} (h : c % 2 = 1) : step c = (c / 2) ^^^ poly := by unfold step; rw [if_pos h]

set_option maxHeartbeats 400000 in
theorem rmore_any (n : Nat) (s : ByteArray) (w : World) (h1 : n < 18446744073709551616) (hs : s.size ≤ 140737488351232) :
    Calls Try.prog 9 #[.int .u64 n, .string s] w fun e w' => e = .returned (.int .u64 (more n s.data.toList)) ∧ w = w' := by
  have Hn := wrap_u64_sub n h1
  go_enter Try.func9, Try.ntmps9
  go_wp2
  clear Hn
  go_loop [5, 12] (fun c i => ∃ k : Nat, k ≤ s.size ∧ i = .int .i64 k ∧ c = .int .u64 (bytes (inv n) (s.data.toList.take k))) (fun _ i => s.size - (intOf i).toNat)
  case atStart => exact ⟨0, Nat.zero_le _, rfl, by simp [bytes]⟩
  case round =>
    obtain ⟨k, hk, rfl, rfl⟩ := hrel
    have hx := bytes_lt (s.data.toList.take k) (inv_lt n)
    by_cases hlt : k < s.size
    · have hsn : Hid (byte (bytes (inv n) (s.data.toList.take k)) s[k] = bytes (inv n) (s.data.toList.take (k + 1))) := by
        rw [List.take_succ_eq_append_getElem (by simpa using hlt), bytes_snoc]; rfl
      obtain ⟨x, hX⟩ : ∃ x, x = bytes (inv n) (s.data.toList.take k) := ⟨_, rfl⟩
      rw [← hX] at hx hsn ⊢
      clear hX
      have Hx := xor_byte x hx s[k]
      go_wp2
      clear Hx
      go_loop [5, 21] (fun c i => ∃ j : Nat, j ≤ 8 ∧ i = .int .i64 j ∧ c = .int .u64 (steps j (x ^^^ s[k].toNat))) (fun _ i => 8 - (intOf i).toNat)
      case atStart => exact ⟨0, by omega, rfl, rfl⟩
      case round =>
        obtain ⟨j, hj, rfl, rfl⟩ := hrel
        have hy : steps j (x ^^^ s[k].toNat) < 18446744073709551616 := steps_lt j (Nat.xor_lt_two_pow (n := 64) hx (by have := s[k].toNat_lt; omega))
        by_cases hlt8 : j < 8
        · obtain ⟨y, hY⟩ : ∃ y, y = steps j (x ^^^ s[k].toNat) := ⟨_, rfl⟩
          have HY : Hid (y = steps j (x ^^^ s[k].toNat)) := hY
          rw [← hY] at hy ⊢
          clear hY
          go_wp2
          all_goals
            go_round
            case rel =>
              refine ⟨j + 1, by omega, by go_num, ?_⟩
              simp only [steps]
              rw [← HY.out]
              first
                | (rw [xor_poly' y hy, step_odd (odd_of y ‹_›)])
                | (rw [step_even (even_of y ‹_›)]; go_num)
            case measure => simp [intOf]; omega
        · obtain rfl : j = 8 := by omega
          go_wp2
          go_round
          case rel => exact ⟨k + 1, by omega, by go_num, by rw [← hsn.out]; rfl⟩
          case measure => simp [intOf]; omega
    · have he : s.data.toList.take k = s.data.toList := List.take_of_length_le (by simp; omega)
      rw [he] at hx ⊢
      clear he
      have Hn := wrap_u64_sub _ hx
      go_wp2
      go_ret
      exact ⟨rfl, rfl⟩
theorem rof_any (s : ByteArray) (w : World) (hs : s.size ≤ 140737488351232) :
    Calls Try.prog 11 #[.string s] w fun e w' => e = .returned (.int .u64 (more 0 s.data.toList)) ∧ w = w' := by
  go_enter Try.func11, Try.ntmps11
  go_wp2_with (go_at_call 9; refine (rmore_any 0 _ _ (by omega) (by omega)).mono ?_; rintro e w' ⟨rfl, rfl⟩)
  go_ret
  exact ⟨rfl, rfl⟩
theorem str_append (s : ByteArray) (l : List UInt8) : s ++ (⟨l.toArray⟩ : ByteArray) = ⟨(s.data.toList ++ l).toArray⟩ := by
  apply ByteArray.ext
  apply Array.toList_inj.1
  simp
/-- the eight cells of a sum, read as a text -/
theorem conv_tail (x : Nat) (w : World) :
    (convert 32 9 (.slice (some ⟨w.heap.size, 0, none⟩) 8 8)).run Try.prog
      (w.alloc (.cells #[.int .u8 ((x : Int) % 256), .int .u8 ((x : Int) / 256 % 256), .int .u8 ((x : Int) / 65536 % 256), .int .u8 ((x : Int) / 16777216 % 256),
        .int .u8 ((x : Int) / 4294967296 % 256), .int .u8 ((x : Int) / 1099511627776 % 256), .int .u8 ((x : Int) / 281474976710656 % 256), .int .u8 ((x : Int) / 72057594037927936 % 256)] 35)) =
    .ok (.string ⟨(tail x).toArray⟩)
      (w.alloc (.cells #[.int .u8 ((x : Int) % 256), .int .u8 ((x : Int) / 256 % 256), .int .u8 ((x : Int) / 65536 % 256), .int .u8 ((x : Int) / 16777216 % 256),
        .int .u8 ((x : Int) / 4294967296 % 256), .int .u8 ((x : Int) / 1099511627776 % 256), .int .u8 ((x : Int) / 281474976710656 % 256), .int .u8 ((x : Int) / 72057594037927936 % 256)] 35)) := by
  have h := run_convert_bytes_back (P := Try.prog) (w.alloc (.cells #[.int .u8 ((x : Int) % 256), .int .u8 ((x : Int) / 256 % 256), .int .u8 ((x : Int) / 65536 % 256), .int .u8 ((x : Int) / 16777216 % 256),
        .int .u8 ((x : Int) / 4294967296 % 256), .int .u8 ((x : Int) / 1099511627776 % 256), .int .u8 ((x : Int) / 281474976710656 % 256), .int .u8 ((x : Int) / 72057594037927936 % 256)] 35))
    32 9 5 ⟨w.heap.size, 0, none⟩ 8 (tail x) Try.underlying32 Try.underlying5 Try.underlying9 ?_
  · rw [tail_length] at h
    exact h
  · intro j hj
    rw [tail_length] at hj
    have e : (⟨w.heap.size, 0, none⟩ : Addr).add j = ⟨w.heap.size, j, none⟩ := by unfold Addr.add; split <;> simp_all
    rw [e, World.cell?_alloc_mark]
    rcases (by omega : j = 0 ∨ j = 1 ∨ j = 2 ∨ j = 3 ∨ j = 4 ∨ j = 5 ∨ j = 6 ∨ j = 7) with h | h | h | h | h | h | h | h <;> subst h <;> simp [tail]
set_option maxHeartbeats 400000 in
theorem seal_any (s : ByteArray) (w : World) (hs : s.size ≤ 140737488351232) :
    Calls Try.prog 15 #[.string s] w fun e w' => e = .returned (.string ⟨(seal_ s.data.toList).toArray⟩) ∧ Below w.heap.size w w' := by
  have hconv := conv_tail (more 0 s.data.toList)
  have htl := tail_length (more 0 s.data.toList)
  go_enter Try.func15, Try.ntmps15
  go_wp2_with (go_at_call 10; refine (of_any _ _ (by omega)).mono ?_; rintro e w' ⟨rfl, rfl⟩)
  refine wp_loop_rounds 9 ?_
  repeat any_goals (rw [rounds_succ]; go_wp2)
  go_ret
  refine ⟨?_, (Below.refl _ _).alloc (Nat.le_refl _) _⟩
  show Ending.returned (.string (s ++ ⟨(tail (more 0 s.data.toList)).toArray⟩)) = _
  rw [str_append]
  rfl
theorem conv_one (v : Int) (w : World) :
    (convert 32 9 (.slice (some ⟨w.heap.size, 0, none⟩) 1 1)).run Try.prog (w.alloc (.cells #[.int .u8 v] 5)) =
    .ok (.string ⟨#[UInt8.ofNat v.toNat]⟩) (w.alloc (.cells #[.int .u8 v] 5)) :=
  run_convert_bytes_arg (P := Try.prog) (w.alloc (.cells #[.int .u8 v] 5)) 32 5 Try.underlying32 Try.underlying5 w.heap.size 0 1 1 [v] rfl
    (fun i hi => by obtain rfl : i = 0 := by omega
                    rw [World.cell?_alloc_mark]; rfl) 9 Try.underlying9
theorem tail_at (n k : Nat) (hk : k < 8) : (tail n)[k]? = some (UInt8.ofNat (n / 256 ^ k)) := by
  rw [tail, List.getElem?_map, List.getElem?_range hk]; rfl
theorem tail_take (n k : Nat) (hk : k < 8) : (tail n).take (k + 1) = (tail n).take k ++ [UInt8.ofNat (n / 256 ^ k)] := by
  rw [List.take_add_one, tail_at n k hk]; rfl
theorem byte_of (y : Nat) : UInt8.ofNat (y % 256) = UInt8.ofNat y := by
  apply UInt8.toNat_inj.1
  rw [UInt8.toNat_ofNat', UInt8.toNat_ofNat']
  omega
set_option maxHeartbeats 400000 in
theorem rseal_any (s : ByteArray) (w : World) (hs : s.size ≤ 140737488351232) :
    Calls Try.prog 16 #[.string s] w fun e w' => e = .returned (.string ⟨(seal_ s.data.toList).toArray⟩) ∧ Below w.heap.size w w' := by
  have hconv := conv_one
  have htl := tail_length (more 0 s.data.toList)
  have hln : s.data.toList.length = s.size := by simp
  go_enter Try.func16, Try.ntmps16
  go_wp2_with (go_at_call 11; refine (rof_any _ _ (by omega)).mono ?_; rintro e w' ⟨rfl, rfl⟩)
  go_loopw [3, 4, 8] (fun t n i wr => ∃ k : Nat, k ≤ 8 ∧ i = .int .i64 k ∧ n = .int .u64 ((more 0 s.data.toList / 256 ^ k : Nat) : Int) ∧ t = .string ⟨(s.data.toList ++ (tail (more 0 s.data.toList)).take k).toArray⟩ ∧ Below w.heap.size w wr) (fun _ _ i _ => 8 - (intOf i).toNat)
  case atStart => exact ⟨0, by omega, rfl, by simp, by simp, Below.refl _ _⟩
  case round =>
    obtain ⟨k, hk, rfl, rfl, rfl, hb⟩ := hrel
    by_cases hlt : k < 8
    · have hm := more_lt 0 s.data.toList
      obtain ⟨y, hY⟩ : ∃ y, y = more 0 s.data.toList / 256 ^ k := ⟨_, rfl⟩
      have hy : y < 18446744073709551616 := by rw [hY]; exact Nat.lt_of_le_of_lt (Nat.div_le_self _ _) hm
      have hT : Hid ((tail (more 0 s.data.toList)).take (k + 1) = (tail (more 0 s.data.toList)).take k ++ [UInt8.ofNat y]) := by rw [hY]; exact tail_take _ _ hlt
      have hD : Hid (more 0 s.data.toList / 256 ^ (k + 1) = y / 256) := by rw [hY, Nat.pow_succ, Nat.div_div_eq_div_mul]; exact rfl
      obtain ⟨l, hL⟩ : ∃ l, l = s.data.toList ++ (tail (more 0 s.data.toList)).take k := ⟨_, rfl⟩
      have HL : Hid (l = s.data.toList ++ (tail (more 0 s.data.toList)).take k) := hL
      have hll : l.length ≤ 140737488351240 := by rw [hL, List.length_append, List.length_take, htl]; omega
      rw [← hY, ← hL]
      clear hY hL hm htl hln
      go_wp2
      have hr : ({ data := l.toArray } : ByteArray) ++ { data := #[UInt8.ofNat y] } = ⟨(s.data.toList ++ (tail (more 0 s.data.toList)).take (k + 1)).toArray⟩ := by
        rw [hT.out, ← List.append_assoc, ← HL.out, str_append _ [UInt8.ofNat y]]
      go_roundw
      case rel =>
        refine ⟨k + 1, by omega, by go_num, by rw [hD.out]; go_num, ?_, hb.alloc hb.size _⟩
        rw [byte_of]
        exact congrArg Value.string hr
      case measure => simp [intOf]; omega
    · obtain rfl : k = 8 := by omega
      have htk : List.take 8 (tail (more 0 s.data.toList)) = tail (more 0 s.data.toList) := List.take_of_length_le (by omega)
      go_wp2
      go_ret
      refine ⟨?_, hb⟩
      rfl
theorem open_short (s : ByteArray) (w : World) (hs : s.size < 8) :
    Calls Try.prog 13 #[.string s] w fun e w' => e = .returned (.tuple #[.string ⟨#[]⟩, .bool false]) ∧ w = w' := by
  go_enter Try.func13, Try.ntmps13
  go_wp2
  go_ret2
  exact ⟨rfl, rfl⟩
theorem open_long (s : ByteArray) (w : World) (hs : s.size ≤ 140737488351232) (h8 : 8 ≤ s.size) :
    Calls Try.prog 13 #[.string s] w fun e w' => e = .returned (.tuple #[.string (s.extract 0 (s.size - 8)), .bool (seal_ (s.data.toList.take (s.size - 8)) == s.toList)]) ∧ Below w.heap.size w w' := by
  go_enter Try.func13, Try.ntmps13
  go_wp2_with (go_at_call 15; refine (seal_any _ _ (by simp; omega)).mono ?_; rintro e w' ⟨rfl, hb⟩)
  go_ret2
  exact ⟨rfl, hb⟩
theorem ropen_short (s : ByteArray) (w : World) (hs : s.size < 8) :
    Calls Try.prog 14 #[.string s] w fun e w' => e = .returned (.tuple #[.string ⟨#[]⟩, .bool false]) ∧ w = w' := by
  go_enter Try.func14, Try.ntmps14
  go_wp2
  go_ret2
  exact ⟨rfl, rfl⟩
theorem ropen_long (s : ByteArray) (w : World) (hs : s.size ≤ 140737488351232) (h8 : 8 ≤ s.size) :
    Calls Try.prog 14 #[.string s] w fun e w' => e = .returned (.tuple #[.string (s.extract 0 (s.size - 8)), .bool (seal_ (s.data.toList.take (s.size - 8)) == s.toList)]) ∧ Below w.heap.size w w' := by
  go_enter Try.func14, Try.ntmps14
  go_wp2
  refine wp_region_class (fun w' => Below w.heap.size w w') (by kernel_rfl) (by kernel_rfl) ((Below.refl _ _).drew) ?_
  repeat (refine wpQuiet_step (fun K hK => ?_); rw [if_pos (by rfl)]; apply Exists.intro; refine ⟨fun w' hw' => ?_, hK _ ?_⟩; (unfold Oper.quietAt; (try dsimp only at hw'); go_simp; (first | with_reducible exact rfl | (refine (rseal_any _ _ (by simp; omega)).mono ?_; rintro e w1 ⟨rfl, hb⟩; exact ⟨rfl, Below.trans hw' (hb.mono hw'.size)⟩) | ((try go_bits); (try simp only [↓IntWalk.iteOmega]); (try go_simp); with_reducible exact rfl))); clear hK K; simp only [Act.put, List.setIfInBounds_toArray, List.set_cons_zero, List.set_cons_succ])
  refine wpQuiet_nil ?_
  intro w' hw'
  go_wp2
  go_ret2
  refine ⟨?_, hw'⟩
  simp

theorem sum_check : more 0 [49, 50, 51, 52, 53, 54, 55, 56, 57] = 11051210869376104954 := by decide +kernel
theorem sum_nil : more 0 [] = 0 := by decide +kernel
theorem take_seal (l : List UInt8) : (seal_ l).take (l.length + 8 - 8) = l := by simp [seal_]
/-- what was sealed is opened -/
theorem open_seal (l : List UInt8) (w : World) (hs : l.length ≤ 140737488351000) :
    Calls Try.prog 13 #[.string ⟨(seal_ l).toArray⟩] w fun e w' => e = .returned (.tuple #[.string ⟨l.toArray⟩, .bool true]) ∧ Below w.heap.size w w' := by
  have hz : (⟨(seal_ l).toArray⟩ : ByteArray).size = l.length + 8 := by simp [ByteArray.size, seal_length]
  refine (open_long ⟨(seal_ l).toArray⟩ w (by omega) (by omega)).mono ?_
  rintro e w' ⟨rfl, hb⟩
  refine ⟨?_, hb⟩
  rw [hz]
  have h1 : (⟨(seal_ l).toArray⟩ : ByteArray).extract 0 (l.length + 8 - 8) = ⟨l.toArray⟩ := by
    apply ByteArray.ext
    apply Array.toList_inj.1
    simp [seal_]
  rw [h1, take_seal, ByteArray.toList_eq]
  simp
set_option maxHeartbeats 400000 in
theorem awake_any (w : World) : Calls Try.prog 12 #[] w fun e w' => e = .returned (.bool true) ∧ Below w.heap.size w w' := by
  go_enter Try.func12, Try.ntmps12
  go_wp2_with fail
  refine (seal_any _ _ (by decide)).mono ?_
  rintro e w1 ⟨rfl, hb1⟩
  go_wp2_with fail
  refine (open_seal _ _ (by decide)).mono ?_
  rintro e w2 ⟨rfl, hb2⟩
  go_wp2_with fail
  refine (of_any _ _ (by decide)).mono ?_
  rintro e w3 ⟨rfl, rfl⟩
  have hs1 := sum_check
  go_wp2_with fail
  refine (of_any _ _ (by decide)).mono ?_
  rintro e w3 ⟨rfl, rfl⟩
  have hs2 := sum_nil
  go_wp2
  go_ret
  exact ⟨rfl, hb1.trans (hb2.mono hb1.size)⟩
/-- CrcSums -/
theorem sums_far (n : Nat) (s : ByteArray) (w : World) (hs : 4096 < s.size) (hm : s.size ≤ 140737488351232) :
    Calls Try.prog 3 #[.int .u64 n, .string s] w fun e w' => e = .returned (.bool true) ∧ Below w.heap.size w w' := by
  go_enter Try.func3, Try.ntmps3
  go_wp2_with fail
  refine (awake_any _).mono ?_
  rintro e w1 ⟨rfl, hb⟩
  go_wp2
  go_ret
  exact ⟨rfl, hb⟩
set_option maxHeartbeats 400000 in
theorem sums_near (n : Nat) (s : ByteArray) (w : World) (h1 : n < 18446744073709551616) (hs : s.size ≤ 4096) :
    Calls Try.prog 3 #[.int .u64 n, .string s] w fun e w' => e = .returned (.bool true) ∧ Below w.heap.size w w' := by
  go_enter Try.func3, Try.ntmps3
  go_wp2_with fail
  refine (more_any _ _ _ h1 (by omega)).mono ?_
  rintro e w1 ⟨rfl, rfl⟩
  go_wp2_with fail
  refine (rmore_any _ _ _ h1 (by omega)).mono ?_
  rintro e w1 ⟨rfl, rfl⟩
  go_wp2_with fail
  refine (of_any _ _ (by omega)).mono ?_
  rintro e w1 ⟨rfl, rfl⟩
  go_wp2_with fail
  refine (rof_any _ _ (by omega)).mono ?_
  rintro e w1 ⟨rfl, rfl⟩
  go_wp2_with fail
  refine (awake_any _).mono ?_
  rintro e w1 ⟨rfl, hb⟩
  go_wp2
  go_ret
  exact ⟨rfl, hb⟩
/-- CrcParts -/
theorem parts_far (n : Nat) (a b : ByteArray) (w : World) (hs : 4096 < a.size ∨ 4096 < b.size) (hm : a.size ≤ 140737488351232) (hmb : b.size ≤ 140737488351232) :
    Calls Try.prog 5 #[.int .u64 n, .string a, .string b] w fun e w' => e = .returned (.bool true) ∧ Below w.heap.size w w' := by
  by_cases h : 4096 < a.size
  all_goals
    go_enter Try.func5, Try.ntmps5
    go_wp2_with fail
    refine (awake_any _).mono ?_
    rintro e w1 ⟨rfl, hb⟩
    go_wp2
    go_ret
    exact ⟨rfl, hb⟩
set_option maxHeartbeats 400000 in
theorem parts_near (n : Nat) (a b : ByteArray) (w : World) (h1 : n < 18446744073709551616) (hm : a.size ≤ 4096) (hmb : b.size ≤ 4096) :
    Calls Try.prog 5 #[.int .u64 n, .string a, .string b] w fun e w' => e = .returned (.bool true) ∧ Below w.heap.size w w' := by
  have ha := more_append n a.data.toList b.data.toList
  have hl := more_lt n a.data.toList
  go_enter Try.func5, Try.ntmps5
  go_wp2_with fail
  refine (more_any _ _ _ h1 (by simp; omega)).mono ?_
  rintro e w1 ⟨rfl, rfl⟩
  go_wp2_with fail
  refine (more_any _ _ _ h1 (by omega)).mono ?_
  rintro e w1 ⟨rfl, rfl⟩
  go_wp2_with fail
  refine (more_any _ _ _ hl (by omega)).mono ?_
  rintro e w1 ⟨rfl, rfl⟩
  go_wp2_with fail
  refine (awake_any _).mono ?_
  rintro e w1 ⟨rfl, hb⟩
  go_wp2
  go_ret
  exact ⟨rfl, hb⟩
theorem bytes_eta (a : ByteArray) : (⟨a.data.toList.toArray⟩ : ByteArray) = a := by apply ByteArray.ext; simp
/-- CrcSeals -/
theorem seals_far (a b : ByteArray) (w : World) (hs : 4096 < a.size ∨ 4096 < b.size) (hm : a.size ≤ 140737488351232) (hmb : b.size ≤ 140737488351232) :
    Calls Try.prog 4 #[.string a, .string b] w fun e w' => e = .returned (.bool true) ∧ Below w.heap.size w w' := by
  by_cases h : 4096 < a.size
  all_goals
    go_enter Try.func4, Try.ntmps4
    go_wp2_with fail
    refine (awake_any _).mono ?_
    rintro e w1 ⟨rfl, hb⟩
    go_wp2
    go_ret
    exact ⟨rfl, hb⟩
/-- what both ways of opening answer -/
theorem open_both (s : ByteArray) (hs : s.size ≤ 140737488351232) : ∃ (x : ByteArray) (ok : Bool), ∀ w : World,
    (Calls Try.prog 13 #[.string s] w fun e w' => e = .returned (.tuple #[.string x, .bool ok]) ∧ Below w.heap.size w w') ∧
    (Calls Try.prog 14 #[.string s] w fun e w' => e = .returned (.tuple #[.string x, .bool ok]) ∧ Below w.heap.size w w') := by
  by_cases h : s.size < 8
  · exact ⟨_, _, fun w => ⟨(open_short s w h).mono fun e w' ⟨he, hw⟩ => ⟨he, hw ▸ Below.refl _ _⟩, (ropen_short s w h).mono fun e w' ⟨he, hw⟩ => ⟨he, hw ▸ Below.refl _ _⟩⟩⟩
  · exact ⟨_, _, fun w => ⟨open_long s w hs (by omega), ropen_long s w hs (by omega)⟩⟩
set_option maxHeartbeats 1000000 in
theorem seals_near (a b : ByteArray) (w : World) (hm : a.size ≤ 4096) (hmb : b.size ≤ 4096) :
    Calls Try.prog 4 #[.string a, .string b] w fun e w' => e = .returned (.bool true) ∧ Below w.heap.size w w' := by
  obtain ⟨x, ok, hx⟩ := open_both b (by omega)
  have H : Hid _ := hx
  clear hx
  go_enter Try.func4, Try.ntmps4
  go_wp2_with fail
  refine (H.out _).1.mono ?_
  rintro e w1 ⟨rfl, hb1⟩
  go_wp2_with fail
  refine (H.out _).2.mono ?_
  rintro e w2 ⟨rfl, hb2⟩
  go_wp2_with fail
  refine (seal_any _ _ (by omega)).mono ?_
  rintro e w3 ⟨rfl, hb3⟩
  go_wp2_with fail
  refine (open_seal _ _ (by simp; omega)).mono ?_
  rintro e w4 ⟨rfl, hb4⟩
  try rw [bytes_eta]
  go_wp2_with fail
  refine (seal_any _ _ (by omega)).mono ?_
  rintro e w5 ⟨rfl, hb5⟩
  go_wp2_with fail
  refine (rseal_any _ _ (by omega)).mono ?_
  rintro e w6 ⟨rfl, hb6⟩
  go_wp2_with fail
  refine (awake_any _).mono ?_
  rintro e w7 ⟨rfl, hb7⟩
  go_wp2
  go_ret
  have h2 := hb1.trans (hb2.mono hb1.size)
  have h3 := h2.trans (hb3.mono h2.size)
  have h4 := h3.trans (hb4.mono h3.size)
  have h5 := h4.trans (hb5.mono h4.size)
  have h6 := h5.trans (hb6.mono h5.size)
  exact ⟨rfl, h6.trans (hb7.mono h6.size)⟩
/-- CrcTold -/
theorem told_far (b : ByteArray) (i : Int) (y : UInt8) (w : World) (hs : 4096 < b.size ∨ y = 0) (hm : b.size ≤ 140737488351232) :
    Calls Try.prog 6 #[.string b, .int .i64 i, .int .u8 y.toNat] w fun e w' => e = .returned (.bool true) ∧ Below w.heap.size w w' := by
  by_cases h : 4096 < b.size
  · go_enter Try.func6, Try.ntmps6
    go_wp2_with fail
    refine (awake_any _).mono ?_
    rintro e w1 ⟨rfl, hb⟩
    go_wp2
    go_ret
    exact ⟨rfl, hb⟩
  · obtain rfl : y = 0 := by rcases hs with h1 | h1; exact absurd h1 h; exact h1
    go_enter Try.func6, Try.ntmps6
    go_wp2_with fail
    refine (awake_any _).mono ?_
    rintro e w1 ⟨rfl, hb⟩
    go_wp2
    go_ret
    exact ⟨rfl, hb⟩
/-- a text's bytes in a row of their own -/
theorem conv_bytes (s : ByteArray) (w : World) : ∃ cap w2, (convert 9 32 (.string s)).run Try.prog w = .ok (.slice (some ⟨w.heap.size, 0, none⟩) s.size cap) w2 ∧
    Below w.heap.size w w2 ∧ w2.heap.size = w.heap.size + 1 ∧ (∀ j (h : j < s.data.toList.length), w2.cell? ⟨w.heap.size, j, none⟩ = some (.int .u8 (s.data.toList[j].toNat : Int))) ∧
    (∀ j, j < s.size → w2.frozen? ⟨w.heap.size, j, none⟩ = false) := by
  refine ⟨_, _, run_bytes_of_string w 9 32 5 s Try.underlying9 Try.underlying32 Try.underlying5, ?_, ?_, ?_, ?_⟩
  · exact ((Below.refl _ _).drew).alloc (Nat.le_refl _) _
  · simp
  · intro j h
    have := World.cell?_alloc_mark w.drew (bytesRow s (grownCap w s.size 0 5)) 5 ((bytesRow s (grownCap w s.size 0 5)).size, (bytesRow s (grownCap w s.size 0 5)).size + 1) j
    rw [World.size_drew] at this
    rw [this]
    exact bytesRow_at s _ j (by simpa using h)
  · intro j h
    have := World.frozen?_alloc_mark w.drew (bytesRow s (grownCap w s.size 0 5)) 5 (bytesRow s (grownCap w s.size 0 5)).size ((bytesRow s (grownCap w s.size 0 5)).size + 1) j
    rw [World.size_drew] at this
    rw [this]
    have hb : s.size ≤ (bytesRow s (grownCap w s.size 0 5)).size := by simp [bytesRow]
    simp; omega
theorem u8_xor (a b : UInt8) : bits .xor .u8 (a.toNat : Int) (b.toNat : Int) = ((a ^^^ b).toNat : Int) := by
  have ha := a.toNat_lt
  have hb := b.toNat_lt
  simp only [bits, BitVec.ofInt_natCast, BitVec.toNat_xor, BitVec.toNat_ofNat]
  rw [Nat.mod_eq_of_lt (show a.toNat < 2 ^ IntKind.u8.bits from ha), Nat.mod_eq_of_lt (show b.toNat < 2 ^ IntKind.u8.bits from hb), IntKind.wrap_u8]
  have hx : a.toNat ^^^ b.toNat < 256 := Nat.xor_lt_two_pow (n := 8) ha hb
  have e : (a ^^^ b).toNat = a.toNat ^^^ b.toNat := UInt8.toNat_xor a b
  rw [e]
  omega
theorem told_gen (l L : List UInt8) (hL : L = seal_ l) (k : Nat) (y : UInt8) (hy : y ≠ 0) (hk : k < L.length) : seal_ ((L.set k (L[k] ^^^ y)).take l.length) ≠ L.set k (L[k] ^^^ y) := by
  subst hL
  exact told l k y hy hk
/-- where a byte is changed -/
theorem idx_of (i : Int) (n : Nat) (h0 : 0 < n) (hn : n < 9223372036854775808) : ∃ k : Nat, k < n ∧ wrap64 ((IntKind.u64.wrap i).tmod (n : Int)) = (k : Int) := by
  have hw : 0 ≤ IntKind.u64.wrap i := wrap_u64_nonneg i
  obtain ⟨m, hm⟩ : ∃ m : Nat, IntKind.u64.wrap i = (m : Int) := ⟨(IntKind.u64.wrap i).toNat, by omega⟩
  refine ⟨m % n, Nat.mod_lt _ h0, ?_⟩
  rw [hm, Int.tmod_eq_emod_of_nonneg (by omega)]
  have h1 : m % n < n := Nat.mod_lt _ h0
  have e : (m : Int) % (n : Int) = ((m % n : Nat) : Int) := by omega
  rw [e]
  unfold wrap64
  omega
set_option maxHeartbeats 1000000 in
theorem told_near (b : ByteArray) (i : Int) (y : UInt8) (w : World) (hm : b.size ≤ 4096) (hy : y ≠ 0) :
    Calls Try.prog 6 #[.string b, .int .i64 i, .int .u8 y.toNat] w fun e w' => e = .returned (.bool true) ∧ Below w.heap.size w w' := by
  have hy0 : ((y.toNat : Int) == 0) = false := by
    have : y.toNat ≠ 0 := fun h => hy (UInt8.toNat_inj.1 h)
    simp; omega
  have hyb := y.toNat_lt
  have hsl : (seal_ b.data.toList).length = b.size + 8 := by rw [seal_length]; simp
  obtain ⟨k, hk, hidx⟩ := idx_of i (b.size + 8) (by omega) (by omega)
  have hidx' : wrap64 ((IntKind.u64.wrap i).tmod ((b.size : Int) + 8)) = (k : Int) := by rw [← hidx]; congr 2
  clear hidx
  go_enter Try.func6, Try.ntmps6
  go_wp2_with fail
  refine (seal_any _ _ (by omega)).mono ?_
  rintro e w1 ⟨rfl, hb1⟩
  obtain ⟨L, hL⟩ : ∃ L, L = seal_ b.data.toList := ⟨_, rfl⟩
  rw [← hL] at hsl ⊢
  have hkL : k < L.length := by omega
  have hT := told_gen b.data.toList L hL k y hy hkL
  clear hL
  obtain ⟨cap, w2, hrun, hb2, hs2, hcell, hfr⟩ := conv_bytes ⟨L.toArray⟩ w1
  have hsz : (⟨L.toArray⟩ : ByteArray).size = b.size + 8 := by show L.toArray.size = _; simpa using hsl
  rw [hsz] at hrun hfr
  have hck : w2.cell? ⟨w1.heap.size, k, none⟩ = some (.int .u8 (L[k].toNat : Int)) := by
    have := hcell k (by simpa using hkL)
    simpa using this
  have hfk := hfr k hk
  have hx := u8_xor L[k] y
  obtain ⟨z, hz⟩ : ∃ z, z = L[k] ^^^ y := ⟨_, rfl⟩
  rw [← hz] at hT hx
  clear hz
  have hlen : (L.set k z).length = b.size + 8 := by rw [List.length_set]; exact hsl
  have hback := run_convert_bytes_back (P := Try.prog) (w2.setCell ⟨w1.heap.size, k, none⟩ (.int .u8 (z.toNat : Int))) 32 9 5 ⟨w1.heap.size, 0, none⟩ cap (L.set k z)
    Try.underlying32 Try.underlying5 Try.underlying9 (by
      intro j hj
      have e : (⟨w1.heap.size, 0, none⟩ : Addr).add j = ⟨w1.heap.size, j, none⟩ := by unfold Addr.add; split <;> simp_all
      rw [e]
      by_cases hjk : j = k
      · subst hjk
        rw [World.cell?_setCell_same (h := hck)]
        simp
      · rw [World.cell?_setCell_other (h := fun h => hjk (by simpa using h.symm))]
        rw [hcell j (by simpa using hj)]
        simp [List.getElem_set_ne (fun h => hjk h.symm)])
  rw [hlen] at hback
  have hb3 : Below w.heap.size w (w2.setCell ⟨w1.heap.size, k, none⟩ (.int .u8 (z.toNat : Int))) := (hb1.trans (hb2.mono hb1.size)).setCell hb1.size _
  have hne : (seal_ (List.take b.size (L.set k z)) == L.set k z) = false := by
    have e : b.data.toList.length = b.size := by simp
    rw [e] at hT
    simpa using hT
  have hsz4 : (⟨(L.set k z).toArray⟩ : ByteArray).size = b.size + 8 := by show (L.set k z).toArray.size = _; simpa using hlen
  clear hcell hfr hsl hsz hb2 hT hlen
  go_wp2_with fail
  refine (open_long ⟨(L.set k z).toArray⟩ _ (by omega) (by omega)).mono ?_
  rintro e w4 ⟨rfl, hb4⟩
  go_wp2_with fail
  refine (awake_any _).mono ?_
  rintro e w5 ⟨rfl, hb5⟩
  go_wp2
  go_ret
  have h4 := hb3.trans (hb4.mono hb3.size)
  exact ⟨rfl, h4.trans (hb5.mono h4.size)⟩
/-- CrcApart -/
theorem apart_far (b : ByteArray) (i : Int) (x0 x1 x2 x3 x4 x5 x6 x7 : UInt8) (w : World) (hs : 4096 < b.size ∨ b.size < 8) (hm : b.size ≤ 140737488351232) :
    Calls Try.prog 7 #[.string b, .int .i64 i, (.agg #[.int .u8 x0.toNat, .int .u8 x1.toNat, .int .u8 x2.toNat, .int .u8 x3.toNat, .int .u8 x4.toNat, .int .u8 x5.toNat, .int .u8 x6.toNat, .int .u8 x7.toNat])] w fun e w' => e = .returned (.bool true) ∧ Below w.heap.size w w' := by
  by_cases h : 4096 < b.size
  all_goals
    go_enter Try.func7, Try.ntmps7
    go_wp2_with fail
    refine (awake_any _).mono ?_
    rintro e w1 ⟨rfl, hb⟩
    go_wp2
    go_ret
    exact ⟨rfl, ((Below.refl _ _).alloc (Nat.le_refl _) _).trans (hb.mono (by simp))⟩
theorem agg_at (x0 x1 x2 x3 x4 x5 x6 x7 : UInt8) (k : Nat) (hk : k < 8) : ∃ x : UInt8, ∀ w : World, (Instr.index 35 (.agg #[.int .u8 x0.toNat, .int .u8 x1.toNat, .int .u8 x2.toNat, .int .u8 x3.toNat, .int .u8 x4.toNat, .int .u8 x5.toNat, .int .u8 x6.toNat, .int .u8 x7.toNat]) (.int .i64 (k : Int))).run Try.prog w = .ok (.int .u8 (x.toNat : Int)) w := by
  rcases (by omega : k = 0 ∨ k = 1 ∨ k = 2 ∨ k = 3 ∨ k = 4 ∨ k = 5 ∨ k = 6 ∨ k = 7) with h | h | h | h | h | h | h | h <;> subst h
  · exact ⟨x0, fun _ => by kernel_rfl⟩
  · exact ⟨x1, fun _ => by kernel_rfl⟩
  · exact ⟨x2, fun _ => by kernel_rfl⟩
  · exact ⟨x3, fun _ => by kernel_rfl⟩
  · exact ⟨x4, fun _ => by kernel_rfl⟩
  · exact ⟨x5, fun _ => by kernel_rfl⟩
  · exact ⟨x6, fun _ => by kernel_rfl⟩
  · exact ⟨x7, fun _ => by kernel_rfl⟩
set_option maxHeartbeats 1000000 in
theorem apart_near (b : ByteArray) (i : Int) (x0 x1 x2 x3 x4 x5 x6 x7 : UInt8) (w : World) (hm : b.size ≤ 4096) (h8 : 8 ≤ b.size) :
    Calls Try.prog 7 #[.string b, .int .i64 i, (.agg #[.int .u8 x0.toNat, .int .u8 x1.toNat, .int .u8 x2.toNat, .int .u8 x3.toNat, .int .u8 x4.toNat, .int .u8 x5.toNat, .int .u8 x6.toNat, .int .u8 x7.toNat])] w fun e w' => e = .returned (.bool true) ∧ Below w.heap.size w w' := by
  obtain ⟨k, hk, hidx⟩ := idx_of i (b.size - 7) (by omega) (by omega)
  have hidx' : wrap64 ((IntKind.u64.wrap i).tmod ((b.size : Int) - 7)) = (k : Int) := by rw [← hidx]; congr 2; omega
  clear hidx
  go_enter Try.func7, Try.ntmps7
  go_wp2_with fail
  obtain ⟨w1, hw1⟩ : ∃ w1, w1 = w.alloc (.cells #[.int .u8 x0.toNat, .int .u8 x1.toNat, .int .u8 x2.toNat, .int .u8 x3.toNat, .int .u8 x4.toNat, .int .u8 x5.toNat, .int .u8 x6.toNat, .int .u8 x7.toNat] 35) := ⟨_, rfl⟩
  have hb1 : Below w.heap.size w w1 := by rw [hw1]; exact (Below.refl _ _).alloc (Nat.le_refl _) _
  have hs1 : w1.heap.size = w.heap.size + 1 := by rw [hw1]; simp
  have hat : ∀ j : Nat, w1.cell? ⟨w.heap.size, j, none⟩ = (#[Value.int .u8 x0.toNat, .int .u8 x1.toNat, .int .u8 x2.toNat, .int .u8 x3.toNat, .int .u8 x4.toNat, .int .u8 x5.toNat, .int .u8 x6.toNat, .int .u8 x7.toNat] : Array Value)[j]? := fun j => by rw [hw1, World.cell?_alloc_mark]
  rw [← hw1]
  clear hw1
  obtain ⟨cap, w2, hrun, hb2, hs2, hcell, hfr⟩ := conv_bytes b w1
  have hc0 := (hb2.cell (p := ⟨w.heap.size, 0, none⟩) (by rw [hs1]; exact Nat.lt_succ_self _)).trans (hat 0)
  have hc1 := (hb2.cell (p := ⟨w.heap.size, 1, none⟩) (by rw [hs1]; exact Nat.lt_succ_self _)).trans (hat 1)
  have hc2 := (hb2.cell (p := ⟨w.heap.size, 2, none⟩) (by rw [hs1]; exact Nat.lt_succ_self _)).trans (hat 2)
  have hc3 := (hb2.cell (p := ⟨w.heap.size, 3, none⟩) (by rw [hs1]; exact Nat.lt_succ_self _)).trans (hat 3)
  have hc4 := (hb2.cell (p := ⟨w.heap.size, 4, none⟩) (by rw [hs1]; exact Nat.lt_succ_self _)).trans (hat 4)
  have hc5 := (hb2.cell (p := ⟨w.heap.size, 5, none⟩) (by rw [hs1]; exact Nat.lt_succ_self _)).trans (hat 5)
  have hc6 := (hb2.cell (p := ⟨w.heap.size, 6, none⟩) (by rw [hs1]; exact Nat.lt_succ_self _)).trans (hat 6)
  have hc7 := (hb2.cell (p := ⟨w.heap.size, 7, none⟩) (by rw [hs1]; exact Nat.lt_succ_self _)).trans (hat 7)
  simp only [List.getElem?_toArray, List.getElem?_cons_zero, List.getElem?_cons_succ] at hc0 hc1 hc2 hc3 hc4 hc5 hc6 hc7
  have HC : Hid _ := hcell
  have HF : Hid _ := hfr
  have HS1 : Hid _ := hs1
  have HS2 : Hid _ := hs2
  clear hat hcell hfr hs1 hs2
  rw [hrun, hidx']
  simp only [Result.andThen]
  go_wp2_with fail
  have hb2' : Below w.heap.size w w2 := hb1.trans (hb2.mono hb1.size)
  have hle : Hid (w.heap.size ≤ w1.heap.size) := hb1.size
  clear hrun hc0 hc1 hc2 hc3 hc4 hc5 hc6 hc7 hidx'
  go_loopw [31] (fun c wr => ∃ (j : Nat) (M : List UInt8), j ≤ 8 ∧ c = .int .i64 j ∧ Hid (M.length = b.size) ∧ Hid (∀ q : Nat, (q < k ∨ k + 8 ≤ q) → M[q]? = b.data.toList[q]?) ∧
    Hid (∀ (q : Nat) (h : q < M.length), wr.cell? ⟨w1.heap.size, q, none⟩ = some (.int .u8 (M[q].toNat : Int))) ∧ Hid (∀ q : Nat, q < b.size → wr.frozen? ⟨w1.heap.size, q, none⟩ = false) ∧ Below w.heap.size w wr ∧ Hid (w1.heap.size < wr.heap.size)) (fun c _ => 8 - (intOf c).toNat)
  case atStart => exact ⟨0, b.data.toList, by omega, rfl, by show _ = _; simp, fun _ _ => rfl, HC.out, HF.out, hb2', by have := HS2.out; show _ < _; omega⟩
  case round =>
    obtain ⟨j, M, hj, rfl, hlen, hsame, hcells, hfroz, hbel, hsize⟩ := hrel
    clear HC HF HS1 HS2 hb1 hb2 hb2'
    by_cases hlt : j < 8
    · have hkj : k + j < M.length := by rw [hlen.out]; omega
      have hkb : (k : Int) + (j : Int) < (b.size : Int) := by omega
      have hcell : wr.cell? ⟨w1.heap.size, k + j, none⟩ = some (.int .u8 (M[k + j].toNat : Int)) := hcells.out (k + j) hkj
      have hfz : wr.frozen? ⟨w1.heap.size, k + j, none⟩ = false := hfroz.out (k + j) (by omega)
      obtain ⟨x, hx⟩ := agg_at x0 x1 x2 x3 x4 x5 x6 x7 j hlt
      have hxor := u8_xor M[k + j] x
      obtain ⟨z, hz⟩ : ∃ z, z = M[k + j] ^^^ x := ⟨_, rfl⟩
      rw [← hz] at hxor
      clear hz
      go_wp2
      clear hx hxor
      go_roundw
      case rel =>
        refine ⟨j + 1, M.set (k + j) z, by omega, by go_num, ?_, ?_, ?_, ?_, hbel.setCell ?_ _, ?_⟩
        · show _ = _
          rw [List.length_set]; exact hlen.out
        · intro q hq
          rw [List.getElem?_set_ne (by omega)]
          exact hsame.out q hq
        · intro q hq
          by_cases hqk : q = k + j
          · subst hqk
            rw [World.cell?_setCell_same (h := hcell)]
            simp
          · rw [World.cell?_setCell_other (h := fun h => hqk (by simpa using h.symm))]
            rw [hcells.out q (by simpa using hq)]
            simp [List.getElem_set_ne (fun h => hqk h.symm)]
        · intro q hq
          rw [World.frozen?_setCell]
          exact hfroz.out q hq
        · exact hle.out
        · show _ < _
          simpa using hsize.out
      case measure => simp [intOf]; omega
    · go_wp2_with fail
      have hconv : ∀ w', Below wr.heap.size wr w' → (convert 32 9 (.slice (some ⟨w1.heap.size, 0, none⟩) b.size cap)).run Try.prog w' = .ok (.string ⟨M.toArray⟩) w' := by
        intro w' hw'
        have h := run_convert_bytes_back (P := Try.prog) w' 32 9 5 ⟨w1.heap.size, 0, none⟩ cap M Try.underlying32 Try.underlying5 Try.underlying9 (by
          intro q hq
          have e : (⟨w1.heap.size, 0, none⟩ : Addr).add q = ⟨w1.heap.size, q, none⟩ := by unfold Addr.add; split <;> simp_all
          rw [e, hw'.cell (p := ⟨w1.heap.size, q, none⟩) hsize.out]
          exact hcells.out q hq)
        rwa [hlen.out] at h
      have hsM : (⟨M.toArray⟩ : ByteArray).size ≤ 4096 := by have := hlen.out; show M.toArray.size ≤ _; simp; omega
      have heq : ((more 0 M : Int) == (more 0 b.data.toList : Int)) = (M == b.toList) := by
        rw [ByteArray.toList_eq]
        by_cases h : M = b.data.toList
        · rw [h]; simp
        · have h2 : more 0 M ≠ more 0 b.data.toList := fun h3 => h (apart 0 b.data.toList M (by rw [hlen.out]; simp) k hsame.out h3)
          have h3 : (M == b.data.toList) = false := by simpa using h
          rw [h3]
          simp
          omega
      refine wp_region_class (fun w' => Below wr.heap.size wr w') (by kernel_rfl) (by kernel_rfl) ((Below.refl _ _).drew) ?_
      repeat (refine wpQuiet_step (fun K hK => ?_); rw [if_pos (by rfl)]; apply Exists.intro; refine ⟨fun w' hw' => ?_, hK _ ?_⟩; (unfold Oper.quietAt; (try dsimp only at hw'); go_simp; (first | with_reducible exact rfl | (refine (of_any _ _ (by omega)).mono ?_; rintro e w1 ⟨rfl, rfl⟩; exact ⟨rfl, hw'⟩) | (refine (awake_any _).mono ?_; rintro e w1 ⟨rfl, hb⟩; exact ⟨rfl, Below.trans hw' (hb.mono hw'.size)⟩) | ((try go_bits); (try simp only [↓IntWalk.iteOmega]); (try go_simp); with_reducible exact rfl))); clear hK K; simp only [Act.put, List.setIfInBounds_toArray, List.set_cons_zero, List.set_cons_succ])
      refine wpQuiet_nil ?_
      intro w' hw'
      clear hconv heq
      go_wp2
      go_ret
      exact ⟨rfl, hbel.trans (Below.mono hw' hbel.size)⟩
end Go.Proofs.Ytigagapopifpjaa.Crc
