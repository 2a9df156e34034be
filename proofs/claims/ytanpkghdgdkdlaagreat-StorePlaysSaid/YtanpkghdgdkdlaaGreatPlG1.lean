/- RefCrc RefOct RefEye RefBytes: several texts of one proof, laid as one file (a claim has at most 60 files). No condition. -/
import Derived.Test.YtanpkghdgdkdlaaGreatCrcSeal
import Derived.Test.YtanpkghdgdkdlaaGreatOct
import Derived.Test.YtanpkghdgdkdlaaGreatEye
import Derived.Test.YtanpkghdgdkdlaaGreatLook
import Derived.Deep.RegionHeld3
import Derived.Handy
import Derived.BigQuiet
import Derived.Lib.SmallJoins
import Derived.Test.YtanpkghdgdkdlaaGreatStoBytes
/- The reference of layer 3 (crannogref03): More, Of, Seal, Open. (Split from XCrcWalks, over XCrcSeal.) -/
namespace Go.Proofs.YtanpkghdgdkdlaaGreat.Crc
set_option linter.unusedVariables false
set_option linter.unusedSimpArgs false
open Go.RowKit
theorem wrap_u64_sub (x : Nat) (hx : x < 18446744073709551616) : IntKind.u64.wrap (18446744073709551615 - (x : Int)) = ((inv x : Nat) : Int) := by
  rw [IntKind.wrap_u64]; unfold inv; omega
theorem half_u64 (x : Nat) (hx : x < 18446744073709551616) : IntKind.u64.wrap ((x : Int) / 2) = ((x / 2 : Nat) : Int) := by
  rw [IntKind.wrap_u64]; omega
theorem xor_poly (x : Nat) (hx : x < 18446744073709551616) : bits .xor .u64 (x : Int) 14514072000185962306 = ((x ^^^ poly : Nat) : Int) :=
  bits_xor_u64_nat x 14514072000185962306 hx (by omega)
theorem xor_poly' (x : Nat) (hx : x < 18446744073709551616) : bits .xor .u64 ((x : Int) / 2) 14514072000185962306 = (((x / 2) ^^^ poly : Nat) : Int) := by
  rw [show (x : Int) / 2 = ((x / 2 : Nat) : Int) from by omega]
  exact bits_xor_u64_nat (x / 2) 14514072000185962306 (by omega) (by omega)
theorem odd_of (x : Nat) (h : ((x : Int) % 2 == 1) = true) : x % 2 = 1 := by have := eq_of_beq h; omega
theorem even_of (x : Nat) (h : ((x : Int) % 2 == 1) = false) : x % 2 = 0 := by have := beq_eq_false_iff_ne.1 h; omega
theorem step_odd {c : Nat} (h : c % 2 = 1) : step c = (c / 2) ^^^ poly := by unfold step; rw [if_pos h]

set_option maxHeartbeats 400000 in
theorem rmore_any (n : Nat) (s : ByteArray) (w : World) (h1 : n < 18446744073709551616) (hs : s.size ≤ 140737488351232) :
    Calls Tryz.prog 129 #[.int .u64 n, .string s] w fun e w' => e = .returned (.int .u64 (more n s.data.toList)) ∧ w = w' := by
  have Hn := wrap_u64_sub n h1
  go_enter Tryz.func129, Tryz.ntmps129
  go_wp2
  clear Hn
  go_loop [5, 12] (fun c i => ∃ k : Nat, k ≤ s.size ∧ i = .int .i64 k ∧ c = .int .u64 (bytes (inv n) (s.data.toList.take k))) (fun _ i => s.size - (intOf i).toNat)
  case atStart => exact ⟨0, Nat.zero_le _, rfl, by simp [bytes]⟩
  case round =>
    obtain ⟨k, hk, rfl, rfl⟩ := hrel
    have hx := bytes_lt (s.data.toList.take k) (inv_lt n)
    by_cases hlt : k < s.size
    · have hsn : Hid (byte (bytes (inv n) (s.data.toList.take k)) s[k] = bytes (inv n) (s.data.toList.take (k + 1))) := by
        rw [List.take_succ_eq_append_getElem (by simpa using hlt), bytes_snoc]; rfl
      obtain ⟨x, hX⟩ : ∃ x, x = bytes (inv n) (s.data.toList.take k) := ⟨_, rfl⟩
      rw [← hX] at hx hsn ⊢
      clear hX
      have Hx := xor_byte x hx s[k]
      go_wp2
      clear Hx
      go_loop [5, 21] (fun c i => ∃ j : Nat, j ≤ 8 ∧ i = .int .i64 j ∧ c = .int .u64 (steps j (x ^^^ s[k].toNat))) (fun _ i => 8 - (intOf i).toNat)
      case atStart => exact ⟨0, by omega, rfl, rfl⟩
      case round =>
        obtain ⟨j, hj, rfl, rfl⟩ := hrel
        have hy : steps j (x ^^^ s[k].toNat) < 18446744073709551616 := steps_lt j (Nat.xor_lt_two_pow (n := 64) hx (by have := s[k].toNat_lt; omega))
        by_cases hlt8 : j < 8
        · obtain ⟨y, hY⟩ : ∃ y, y = steps j (x ^^^ s[k].toNat) := ⟨_, rfl⟩
          have HY : Hid (y = steps j (x ^^^ s[k].toNat)) := hY
          rw [← hY] at hy ⊢
          clear hY
          go_wp2
          all_goals
            go_round
            case rel =>
              refine ⟨j + 1, by omega, by go_num, ?_⟩
              simp only [steps]
              rw [← HY.out]
              first
                | (rw [xor_poly' y hy, step_odd (odd_of y ‹_›)])
                | (rw [step_even (even_of y ‹_›)]; go_num)
            case measure => simp [intOf]; omega
        · obtain rfl : j = 8 := by omega
          go_wp2
          go_round
          case rel => exact ⟨k + 1, by omega, by go_num, by rw [← hsn.out]; rfl⟩
          case measure => simp [intOf]; omega
    · have he : s.data.toList.take k = s.data.toList := List.take_of_length_le (by simp; omega)
      rw [he] at hx ⊢
      clear he
      have Hn := wrap_u64_sub _ hx
      go_wp2
      go_ret
      exact ⟨rfl, rfl⟩
theorem rof_any (s : ByteArray) (w : World) (hs : s.size ≤ 140737488351232) :
    Calls Tryz.prog 117 #[.string s] w fun e w' => e = .returned (.int .u64 (more 0 s.data.toList)) ∧ w = w' := by
  go_enter Tryz.func117, Tryz.ntmps117
  go_wp2_with (go_at_call 129; refine (rmore_any 0 _ _ (by omega) (by omega)).mono ?_; rintro e w' ⟨rfl, rfl⟩)
  go_ret
  exact ⟨rfl, rfl⟩
theorem conv_one (v : Int) (w : World) :
    (convert 132 9 (.slice (some ⟨w.heap.size, 0, none⟩) 1 1)).run Tryz.prog (w.alloc (.cells #[.int .u8 v] 5)) =
    .ok (.string ⟨#[UInt8.ofNat v.toNat]⟩) (w.alloc (.cells #[.int .u8 v] 5)) :=
  run_convert_bytes_arg (P := Tryz.prog) (w.alloc (.cells #[.int .u8 v] 5)) 132 5 Tryz.underlying132 Tryz.underlying5 w.heap.size 0 1 1 [v] rfl
    (fun i hi => by obtain rfl : i = 0 := by omega
                    rw [World.cell?_alloc_mark]; rfl) 9 Tryz.underlying9
theorem tail_at (n k : Nat) (hk : k < 8) : (tail n)[k]? = some (UInt8.ofNat (n / 256 ^ k)) := by
  rw [tail, List.getElem?_map, List.getElem?_range hk]; rfl
theorem tail_take (n k : Nat) (hk : k < 8) : (tail n).take (k + 1) = (tail n).take k ++ [UInt8.ofNat (n / 256 ^ k)] := by
  rw [List.take_add_one, tail_at n k hk]; rfl
theorem byte_of (y : Nat) : UInt8.ofNat (y % 256) = UInt8.ofNat y := by
  apply UInt8.toNat_inj.1
  rw [UInt8.toNat_ofNat', UInt8.toNat_ofNat']
  omega
set_option maxHeartbeats 400000 in
theorem rseal_any (s : ByteArray) (w : World) (hs : s.size ≤ 140737488351232) :
    Calls Tryz.prog 88 #[.string s] w fun e w' => e = .returned (.string ⟨(seal_ s.data.toList).toArray⟩) ∧ Below w.heap.size w w' := by
  have hconv := conv_one
  have htl := tail_length (more 0 s.data.toList)
  have hln : s.data.toList.length = s.size := by simp
  go_enter Tryz.func88, Tryz.ntmps88
  go_wp2_with (go_at_call 117; refine (rof_any _ _ (by omega)).mono ?_; rintro e w' ⟨rfl, rfl⟩)
  go_loopw [3, 4, 8] (fun t n i wr => ∃ k : Nat, k ≤ 8 ∧ i = .int .i64 k ∧ n = .int .u64 ((more 0 s.data.toList / 256 ^ k : Nat) : Int) ∧ t = .string ⟨(s.data.toList ++ (tail (more 0 s.data.toList)).take k).toArray⟩ ∧ Below w.heap.size w wr) (fun _ _ i _ => 8 - (intOf i).toNat)
  case atStart => exact ⟨0, by omega, rfl, by simp, by simp, Below.refl _ _⟩
  case round =>
    obtain ⟨k, hk, rfl, rfl, rfl, hb⟩ := hrel
    by_cases hlt : k < 8
    · have hm := more_lt 0 s.data.toList
      obtain ⟨y, hY⟩ : ∃ y, y = more 0 s.data.toList / 256 ^ k := ⟨_, rfl⟩
      have hy : y < 18446744073709551616 := by rw [hY]; exact Nat.lt_of_le_of_lt (Nat.div_le_self _ _) hm
      have hT : Hid ((tail (more 0 s.data.toList)).take (k + 1) = (tail (more 0 s.data.toList)).take k ++ [UInt8.ofNat y]) := by rw [hY]; exact tail_take _ _ hlt
      have hD : Hid (more 0 s.data.toList / 256 ^ (k + 1) = y / 256) := by rw [hY, Nat.pow_succ, Nat.div_div_eq_div_mul]; exact rfl
      obtain ⟨l, hL⟩ : ∃ l, l = s.data.toList ++ (tail (more 0 s.data.toList)).take k := ⟨_, rfl⟩
      have HL : Hid (l = s.data.toList ++ (tail (more 0 s.data.toList)).take k) := hL
      have hll : l.length ≤ 140737488351240 := by rw [hL, List.length_append, List.length_take, htl]; omega
      rw [← hY, ← hL]
      clear hY hL hm htl hln
      go_wp2
      have hr : ({ data := l.toArray } : ByteArray) ++ { data := #[UInt8.ofNat y] } = ⟨(s.data.toList ++ (tail (more 0 s.data.toList)).take (k + 1)).toArray⟩ := by
        rw [hT.out, ← List.append_assoc, ← HL.out, str_append _ [UInt8.ofNat y]]
      go_roundw
      case rel =>
        refine ⟨k + 1, by omega, by go_num, by rw [hD.out]; go_num, ?_, hb.alloc hb.size _⟩
        rw [byte_of]
        exact congrArg Value.string hr
      case measure => simp [intOf]; omega
    · obtain rfl : k = 8 := by omega
      have htk : List.take 8 (tail (more 0 s.data.toList)) = tail (more 0 s.data.toList) := List.take_of_length_le (by omega)
      go_wp2
      go_ret
      refine ⟨?_, hb⟩
      rfl
theorem ropen_short (s : ByteArray) (w : World) (hs : s.size < 8) :
    Calls Tryz.prog 97 #[.string s] w fun e w' => e = .returned (.tuple #[.string ⟨#[]⟩, .bool false]) ∧ w = w' := by
  go_enter Tryz.func97, Tryz.ntmps97
  go_wp2
  go_ret2
  exact ⟨rfl, rfl⟩
theorem ropen_long (s : ByteArray) (w : World) (hs : s.size ≤ 140737488351232) (h8 : 8 ≤ s.size) :
    Calls Tryz.prog 97 #[.string s] w fun e w' => e = .returned (.tuple #[.string (s.extract 0 (s.size - 8)), .bool (seal_ (s.data.toList.take (s.size - 8)) == s.toList)]) ∧ Below w.heap.size w w' := by
  go_enter Tryz.func97, Tryz.ntmps97
  go_wp2
  refine wp_region_class (fun w' => Below w.heap.size w w') (by kernel_rfl) (by kernel_rfl) ((Below.refl _ _).drew) ?_
  repeat (refine wpQuiet_step (fun K hK => ?_); rw [if_pos (by rfl)]; apply Exists.intro; refine ⟨fun w' hw' => ?_, hK _ ?_⟩; (unfold Oper.quietAt; (try dsimp only at hw'); go_simp; (first | with_reducible exact rfl | (refine (rseal_any _ _ (by simp; omega)).mono ?_; rintro e w1 ⟨rfl, hb⟩; exact ⟨rfl, Below.trans hw' (hb.mono hw'.size)⟩) | ((try go_bits); (try simp only [↓IntWalk.iteOmega]); (try go_simp); with_reducible exact rfl))); clear hK K; simp only [Act.put, List.setIfInBounds_toArray, List.set_cons_zero, List.set_cons_succ])
  refine wpQuiet_nil ?_
  intro w' hw'
  go_wp2
  go_ret2
  refine ⟨?_, hw'⟩
  simp

end Go.Proofs.YtanpkghdgdkdlaaGreat.Crc

/- The reference of layer 1 (crannogref01): Put, PutText. -/
namespace Go.Proofs.YtanpkghdgdkdlaaGreat.Oct
set_option linter.unusedVariables false
set_option linter.unusedSimpArgs false
set_option maxRecDepth 100000
open Go.RowKit Go.Lib Go.Proofs.YtanpkghdgdkdlaaGreat.Mem

theorem Own8.one (w : World) (b : UInt8) (z : Value) (hz : z = u8v b) : Own8 w.heap.size (w.alloc (.cells #[z] 5)) (.slice (some ⟨w.heap.size, 0, none⟩) 1 1) [b] := by
  subst hz
  refine ⟨rfl, .inr ⟨w.heap.size, 1, #[u8v b], rfl, Nat.le_refl _, heap_alloc_new w _, Nat.le_refl _, by decide, rfl, ?_⟩⟩
  simp
theorem byte_mod (y : Nat) : (y : Int) % 256 = ((UInt8.ofNat y).toNat : Int) := by
  rw [UInt8.toNat_ofNat']
  omega
theorem be_succ (k n : Nat) : be (k + 1) n = UInt8.ofNat (n / 256 ^ k) :: be k n := rfl
theorem Own8.on {base : Nat} {w w' : World} {v : Value} {l : List UInt8} (h : Own8 base w v l) (hb : Below w.heap.size w w') : Own8 base w' v l := by
  refine ⟨h.1, ?_⟩
  rcases h.2 with h | ⟨g, cap, cur, e, hg, hc, r⟩
  · exact .inl h
  · exact .inr ⟨g, cap, cur, e, hg, (hb.block _ (heap_lt hc)).trans hc, r⟩
set_option maxHeartbeats 1000000 in
theorem rput_any (v : Value) (l : List UInt8) (n : Int) (m k : Nat) (w : World) (hn : IntKind.u64.wrap n = (m : Int)) (h : U8s w.heap.size w v l) (h1 : 1 ≤ k) (h8 : k ≤ 8) (hl : l.length ≤ 70368744177664) :
    Calls Tryz.prog 87 #[v, .int .i64 n, .int .i64 k] w fun e w' => ∃ v', e = .returned v' ∧ Own8 w.heap.size w' v' (l ++ be k m) ∧ Below w.heap.size w w' := by
  have H : Hid (U8s w.heap.size w v l) := h
  have hm : m < 18446744073709551616 := by rw [IntKind.wrap_u64] at hn; omega
  clear h
  go_enter Tryz.func87, Tryz.ntmps87
  go_wp2_with (first
    | (at_builtin; (refine wpList_append_u8 rfl _ _ rfl w.heap.size (by simp) _ [] rfl (Own8.made w) l ((H.out.below ((Below.refl _ _).alloc (Nat.le_refl _) _)).mono (by simp)) (by simp; omega) ?_))
    | fail)
  intro v1 w1 hown hb
  have HX : Hid (Own8 w.heap.size w1 v1 l ∧ Below w.heap.size w w1) := ⟨hown, ((Below.refl _ _).alloc (Nat.le_refl _) _).trans hb⟩
  clear hown hb H
  have hk1 : ¬ (k : Int) < 1 := by omega
  have hk8 : ¬ (8 : Int) < (k : Int) := by omega
  go_wp2_with fail
  clear hn
  go_loopw [8, 9, 23] (fun u v i wr => ∃ q : Nat, q ≤ k ∧ i = .int .i64 (q : Int) ∧ u = .int .u64 ((m / 256 ^ q : Nat) : Int) ∧ Hid (Own8 w.heap.size wr v (be q m) ∧ Below w1.heap.size w1 wr)) (fun _ _ i _ => k - (intOf i).toNat)
  case atStart => exact ⟨0, by omega, rfl, by simp, World.ownsRow_nil _ _ _ _, Below.refl _ _⟩
  case round =>
    obtain ⟨q, hq, rfl, rfl, HT⟩ := hrel
    by_cases hlt : q < k
    · obtain ⟨y, hY⟩ : ∃ y, y = m / 256 ^ q := ⟨_, rfl⟩
      have hy : y < 18446744073709551616 := by rw [hY]; exact Nat.lt_of_le_of_lt (Nat.div_le_self _ _) hm
      have HB : Hid (be (q + 1) m = UInt8.ofNat y :: be q m ∧ y / 256 = m / 256 ^ (q + 1)) := by
        refine ⟨by rw [be_succ, hY], ?_⟩
        rw [hY, Nat.pow_succ, Nat.div_div_eq_div_mul]
      rw [← hY]
      clear hY
      have HQ : Hid ((be q m).length = q) := be_length q m
      go_wp2_with (first
        | (at_builtin; (refine wpList_append_u8 rfl _ _ rfl wr.heap.size (by simp) _ [UInt8.ofNat y] rfl (Own8.one wr _ _ (by rw [u8v, ← byte_mod])) (be q m) ((HT.out.1.alloc _).u8s) (by have := HQ.out; simp only [List.length_singleton]; omega) ?_))
        | fail)
      intro v2 w2 hown hb
      have HY : Hid (Own8 w.heap.size w2 v2 (be (q + 1) m) ∧ Below w1.heap.size w1 w2) := by
        refine ⟨?_, ?_⟩
        · rw [HB.out.1]; exact Own8.mono hown (by have h1 := HX.out.2.size; have h2 := HT.out.2.size; omega)
        · exact HT.out.2.trans ((((Below.refl _ _).alloc (Nat.le_refl _) _).trans hb).mono HT.out.2.size)
      clear hown hb HT HQ
      go_wp2
      go_roundw
      case rel => exact ⟨q + 1, by omega, by first | rfl | go_num, by rw [← HB.out.2]; go_num, HY.out⟩
      case measure => simp [intOf]; omega
    · obtain rfl : q = k := by omega
      go_wp2_with (first
        | (at_builtin; (refine wpList_append_u8 rfl _ _ rfl w.heap.size (by have h1 := HX.out.2.size; have h2 := HT.out.2.size; omega) v1 l rfl (HX.out.1.on HT.out.2) (be q m) HT.out.1.u8s (by rw [be_length]; omega) ?_))
        | fail)
      intro v2 w2 hown hb
      have HY : Hid (Own8 w.heap.size w2 v2 (l ++ be q m) ∧ Below w.heap.size w w2) := ⟨hown, (HX.out.2.trans (HT.out.2.mono HX.out.2.size)).trans hb⟩
      clear hown hb
      go_wp2
      go_ret
      exact ⟨v2, rfl, HY.out⟩
theorem rput_k (kk nn : Int) (k n : Nat) (hk : kk = (k : Int)) (hnn : nn = (n : Int)) (v : Value) (l : List UInt8) (w : World) (h : U8s w.heap.size w v l) (h1 : 1 ≤ k) (h8 : k ≤ 8) (hn : n < 9223372036854775808) (hl : l.length ≤ 70368744177664) :
    Calls Tryz.prog 87 #[v, .int .i64 nn, .int .i64 kk] w fun e w' => ∃ v', e = .returned v' ∧ Own8 w.heap.size w' v' (l ++ be k n) ∧ Below w.heap.size w w' := by
  subst hk hnn
  exact rput_any v l n n k w (by rw [IntKind.wrap_u64]; omega) h h1 h8 hl
set_option maxHeartbeats 1000000 in
theorem rputtext_any (v : Value) (l : List UInt8) (s : ByteArray) (w : World) (h : U8s w.heap.size w v l) (hn : s.size ≤ 65535) (hl : l.length ≤ 1048576) :
    Calls Tryz.prog 89 #[v, .string s] w fun e w' => ∃ v', e = .returned v' ∧ Own8 w.heap.size w' v' (l ++ be 2 s.size ++ s.data.toList) ∧ Below w.heap.size w w' := by
  have H : Hid (U8s w.heap.size w v l) := h
  clear h
  have hm : min (s.size : Int) 65535 = (s.size : Int) := by omega
  go_enter Tryz.func89, Tryz.ntmps89
  go_wp2_with fail
  refine (rput_k 2 _ 2 s.size rfl rfl v l _ H.out (by omega) (by omega) (by omega) (by omega)).mono ?_
  rintro e w1 ⟨v1, rfl, hown, hb⟩
  have HX : Hid (Own8 w.heap.size w1 v1 (l ++ be 2 s.size) ∧ Below w.heap.size w w1) := ⟨hown, hb⟩
  clear hown hb H hm
  go_wp2_with fail
  go_loopw [6, 15] (fun v i wr => ∃ q : Nat, q ≤ s.size ∧ i = .int .i64 (q : Int) ∧ Hid (Own8 w.heap.size wr v (l ++ be 2 s.size ++ s.data.toList.take q) ∧ Below w.heap.size w wr)) (fun _ i _ => s.size - (intOf i).toNat)
  case atStart => exact ⟨0, by omega, rfl, by simp; exact HX.out.1, HX.out.2⟩
  case round =>
    obtain ⟨q, hq, rfl, HT⟩ := hrel
    by_cases hlt : q < s.size
    · have hlt2 : q < s.data.toList.length := by simpa using hlt
      have HS : Hid (s.data.toList.take (q + 1) = s.data.toList.take q ++ [s[q]]) := by rw [List.take_succ_eq_append_getElem hlt2]; rfl
      have HL : Hid ((l ++ be 2 s.size ++ s.data.toList.take q).length ≤ 2000000) := by show _ ≤ _; simp [be_length]; omega
      go_wp2_with (first
        | (at_builtin; (refine wpList_append_u8 rfl _ _ rfl w.heap.size (by have h2 := HT.out.2.size; simp; omega) _ (l ++ be 2 s.size ++ s.data.toList.take q) rfl (HT.out.1.alloc _) [s[q]] (U8s.one wr _ _ rfl) (by have := HL.out; simp only [List.length_singleton]; omega) ?_))
        | fail)
      intro v2 w2 hown hb
      have HY : Hid (Own8 w.heap.size w2 v2 (l ++ be 2 s.size ++ s.data.toList.take (q + 1)) ∧ Below w.heap.size w w2) := by
        refine ⟨?_, (HT.out.2.alloc HT.out.2.size _).trans hb⟩
        rw [HS.out]
        simp only [List.append_assoc] at hown ⊢
        exact hown
      clear hown hb HT HS HL
      go_wp2
      go_roundw
      case rel => exact ⟨q + 1, by omega, by go_num, HY.out⟩
      case measure => simp [intOf]; omega
    · have he : s.data.toList.take q = s.data.toList := List.take_of_length_le (by simp; omega)
      rw [he] at HT
      clear he
      go_wp2
      go_ret
      exact ⟨_, rfl, HT.out⟩
end Go.Proofs.YtanpkghdgdkdlaaGreat.Oct

/- The reference of layer 1 (crannogref01): Eye's Fail, Raw, Num, Text, End. -/
namespace Go.Proofs.YtanpkghdgdkdlaaGreat.Oct
set_option linter.unusedVariables false
set_option linter.unusedSimpArgs false
set_option maxRecDepth 100000
open Go.RowKit Go.Lib Go.Proofs.YtanpkghdgdkdlaaGreat.Mem

/-- the reference's eye -/
structure REye (w : World) (eb : Nat) (s : ByteArray) (a : Nat) (done : Bool) (bad : Int) : Prop where
  is : w.heap[eb]? = some (.cells #[.string s, .int .i64 (a : Int), .bool done, .int .i64 bad] 143 (0, 0))
  fits : a ≤ s.size
  small : s.size ≤ 140737488351232
theorem REye.cells {w : World} {eb : Nat} {s : ByteArray} {a : Nat} {done : Bool} {bad : Int} (h : REye w eb s a done bad) :
    w.cell? ⟨eb, 0, none⟩ = some (.string s) ∧ w.cell? ⟨eb, 1, none⟩ = some (.int .i64 (a : Int)) ∧ w.cell? ⟨eb, 2, none⟩ = some (.bool done) ∧ w.cell? ⟨eb, 3, none⟩ = some (.int .i64 bad) ∧ ∀ j, w.frozen? ⟨eb, j, none⟩ = false :=
  ⟨cell_at h.is 0, cell_at h.is 1, cell_at h.is 2, cell_at h.is 3, fun j => frozen_at h.is j⟩
theorem REye.on {w w' : World} {eb : Nat} {s : ByteArray} {a : Nat} {done : Bool} {bad : Int} (h : REye w eb s a done bad) (hb : Below w.heap.size w w') : REye w' eb s a done bad := ⟨(hb.block _ (heap_lt h.is)).trans h.is, h.fits, h.small⟩
theorem rfail_any (w : World) (eb : Nat) (s : ByteArray) (a : Nat) (bad why : Int) (h : REye w eb s a false bad) :
    Calls Tryz.prog 121 #[.pointer (some ⟨eb, 0, none⟩), .int .i64 why] w fun e w' => e = .returned (.tuple #[]) ∧ REye w' eb s a true why ∧ Chg [eb] w w' := by
  have H : Hid (REye w eb s a false bad) := h
  obtain ⟨c0, c1, c2, c3, cf⟩ := h.cells
  clear h
  go_enter Tryz.func121, Tryz.ntmps121
  go_wp2_with fail
  go_returns
  refine ⟨rfl, ⟨?_, H.out.fits, H.out.small⟩, ((Chg.refl _ _).setCell _ _ (.inl (by simp))).setCell _ _ (.inl (by simp))⟩
  have h1 := heap_set_at H.out.is 3 (.int .i64 why)
  have h2 := heap_set_at h1 2 (.bool true)
  exact h2
theorem rfail_done (w : World) (eb : Nat) (s : ByteArray) (a : Nat) (bad why : Int) (h : REye w eb s a true bad) :
    Calls Tryz.prog 121 #[.pointer (some ⟨eb, 0, none⟩), .int .i64 why] w fun e w' => e = .returned (.tuple #[]) ∧ w = w' := by
  obtain ⟨c0, c1, c2, c3, cf⟩ := h.cells
  clear h
  go_enter Tryz.func121, Tryz.ntmps121
  go_wp2_with fail
  go_returns
  exact ⟨rfl, rfl⟩
theorem rraw_done (w : World) (eb : Nat) (s : ByteArray) (a : Nat) (bad n : Int) (h : REye w eb s a true bad) :
    Calls Tryz.prog 98 #[.pointer (some ⟨eb, 0, none⟩), .int .i64 n] w fun e w' => e = .returned (.string ⟨#[]⟩) ∧ w = w' := by
  obtain ⟨c0, c1, c2, c3, cf⟩ := h.cells
  clear h
  go_enter Tryz.func98, Tryz.ntmps98
  go_wp2_with fail
  go_ret
  exact ⟨rfl, rfl⟩
set_option maxHeartbeats 2000000 in
theorem rraw_bad (w : World) (eb : Nat) (s : ByteArray) (a : Nat) (bad n : Int) (h : REye w eb s a false bad) (hn : n < 0 ∨ (0 ≤ n ∧ (s.size : Int) - a < n)) :
    Calls Tryz.prog 98 #[.pointer (some ⟨eb, 0, none⟩), .int .i64 n] w fun e w' => e = .returned (.string ⟨#[]⟩) ∧ REye w' eb s a true 201 ∧ Chg [eb] w w' := by
  have H : Hid (REye w eb s a false bad) := h
  obtain ⟨c0, c1, c2, c3, cf⟩ := h.cells
  have hw : wrap64 ((s.size : Int) - (a : Int)) = (s.size : Int) - (a : Int) := by have := h.fits; have := h.small; unfold wrap64; omega
  clear h
  rcases hn with hn | ⟨h0, hn⟩
  · have hd : decide (n < 0) = true := decide_eq_true hn
    go_enter Tryz.func98, Tryz.ntmps98
    go_wp2_with fail
    go_quiet (fail)
    go_wp2_with fail
    refine (rfail_any _ eb s a bad 201 (H.out.on (Joins.below_draws _ _ _))).mono ?_
    rintro e w1 ⟨rfl, h1, h2⟩
    have H1 : Hid (REye w1 eb s a true 201 ∧ Chg [eb] w w1) := ⟨h1, (Chg.of_below (Joins.below_draws _ _ _)).trans h2⟩
    clear h1 h2
    go_wp2_with fail
    go_ret
    exact ⟨rfl, H1.out⟩
  · have hd : decide (n < 0) = false := decide_eq_false (by omega)
    have hd2 : decide ((s.size : Int) - (a : Int) < n) = true := decide_eq_true hn
    go_enter Tryz.func98, Tryz.ntmps98
    go_wp2_with fail
    go_quiet (fail)
    go_wp2_with fail
    refine (rfail_any _ eb s a bad 201 (H.out.on (Joins.below_draws _ _ _))).mono ?_
    rintro e w1 ⟨rfl, h1, h2⟩
    have H1 : Hid (REye w1 eb s a true 201 ∧ Chg [eb] w w1) := ⟨h1, (Chg.of_below (Joins.below_draws _ _ _)).trans h2⟩
    clear h1 h2
    go_wp2_with fail
    go_ret
    exact ⟨rfl, H1.out⟩
set_option maxHeartbeats 2000000 in
theorem rraw_good (w : World) (eb : Nat) (s : ByteArray) (a : Nat) (bad : Int) (n : Nat) (h : REye w eb s a false bad) (hn : a + n ≤ s.size) :
    Calls Tryz.prog 98 #[.pointer (some ⟨eb, 0, none⟩), .int .i64 n] w fun e w' => e = .returned (.string (s.extract a (a + n))) ∧ REye w' eb s (a + n) false bad ∧ Chg [eb] w w' := by
  have H : Hid (REye w eb s a false bad) := h
  obtain ⟨c0, c1, c2, c3, cf⟩ := h.cells
  have hw : wrap64 ((s.size : Int) - (a : Int)) = (s.size : Int) - (a : Int) := by have := h.fits; have := h.small; unfold wrap64; omega
  have hw2 : wrap64 ((a : Int) + (n : Int)) = (a : Int) + (n : Int) := by have := h.fits; have := h.small; unfold wrap64; omega
  have hw3 : wrap64 ((a : Int) + (n : Int) - (n : Int)) = (a : Int) := by have := h.fits; have := h.small; unfold wrap64; omega
  have hd : decide ((n : Int) < 0) = false := decide_eq_false (by omega)
  have hd2 : decide ((s.size : Int) - (a : Int) < (n : Int)) = false := decide_eq_false (by omega)
  have hlo : a ≤ a + n := by omega
  have hi0 : (0 : Int) ≤ (a : Int) := by omega
  have hi1 : (a : Int) ≤ (a : Int) + (n : Int) := by omega
  have hi2 : (a : Int) + (n : Int) ≤ (s.size : Int) := by omega
  have hi3 : ((a : Int) + (n : Int)).toNat = a + n := by omega
  have hir : IntKind.i64.wrap ((a : Int) + (n : Int) - (n : Int)) = (a : Int) := by have := H.out.fits; have := H.out.small; rw [IntKind.wrap_i64]; omega
  have hsub : (a : Int) + (n : Int) - (n : Int) = (a : Int) := by omega
  clear h
  go_enter Tryz.func98, Tryz.ntmps98
  go_wp2_with fail
  go_quiet (fail)
  go_wp2_with fail
  have H1 : Hid (REye ((w.drewN nq).setCell ⟨eb, 1, none⟩ (.int .i64 ((a : Int) + (n : Int)))) eb s (a + n) false bad ∧ Chg [eb] w ((w.drewN nq).setCell ⟨eb, 1, none⟩ (.int .i64 ((a : Int) + (n : Int))))) := by
    have h0 := H.out.on (Joins.below_draws w.heap.size w nq)
    refine ⟨⟨?_, by omega, H.out.small⟩, (Chg.of_below (Joins.below_draws _ _ _)).setCell _ _ (.inl (by simp))⟩
    have h1 := heap_set_at h0.is 1 (.int .i64 ((a : Int) + (n : Int)))
    rw [h1]
    simp
  generalize (w.drewN nq).setCell ⟨eb, 1, none⟩ (.int .i64 ((a : Int) + (n : Int))) = w2 at H1 ⊢
  have hfit := H.out.small
  clear c0 c1 c2 c3 cf hw hw2 hw3 hd hd2 hlo hi0 hi1 hi2 hi3 hir hsub
  obtain ⟨m, hm⟩ : ∃ m, m = a + n := ⟨_, rfl⟩
  rw [← hm] at H1 hn
  have HM : Hid (m = a + n) := hm
  obtain ⟨c0, c1, c2, c3, cf⟩ := H1.out.1.cells
  have hw : wrap64 ((m : Int) - (n : Int)) = (a : Int) := by unfold wrap64; omega
  have hir : IntKind.i64.wrap ((m : Int) - (n : Int)) = (a : Int) := by rw [IntKind.wrap_i64]; omega
  have hi0 : (0 : Int) ≤ (a : Int) := by omega
  have hi1 : (a : Int) ≤ (m : Int) := by omega
  have hi2 : (m : Int) ≤ (s.size : Int) := by omega
  clear hm H
  go_quiet (fail)
  go_wp2_with fail
  go_ret
  have HR : REye w2 eb s (a + n) false bad := by rw [← HM.out]; exact H1.out.1
  refine ⟨?_, HR.on (Joins.below_draws _ _ _), H1.out.2.trans (Chg.of_below (Joins.below_draws _ _ _))⟩
  rw [← HM.out]
  rfl
/-- a piece of a text -/
theorem extract_len (s : ByteArray) (a n : Nat) (h : a + n ≤ s.size) : (s.extract a (a + n)).size = n := by simp; omega
theorem rnum_done (w : World) (eb : Nat) (s : ByteArray) (a : Nat) (bad k : Int) (h : REye w eb s a true bad) :
    Calls Tryz.prog 99 #[.pointer (some ⟨eb, 0, none⟩), .int .i64 k] w fun e w' => e = .returned (.int .i64 0) ∧ w = w' := by
  obtain ⟨c0, c1, c2, c3, cf⟩ := h.cells
  clear h
  go_enter Tryz.func99, Tryz.ntmps99
  go_wp2_with fail
  go_ret
  exact ⟨rfl, rfl⟩
theorem rnum_bad (w : World) (eb : Nat) (s : ByteArray) (a k : Nat) (bad : Int) (h : REye w eb s a false bad) (h1 : 1 ≤ k) (h8 : k ≤ 6) (hn : s.size < a + k) :
    Calls Tryz.prog 99 #[.pointer (some ⟨eb, 0, none⟩), .int .i64 (k : Int)] w fun e w' => e = .returned (.int .i64 0) ∧ REye w' eb s a true 201 ∧ Chg [eb] w w' := by
  have H : Hid (REye w eb s a false bad) := h
  obtain ⟨c0, c1, c2, c3, cf⟩ := h.cells
  have hk1 : ¬ (k : Int) < 1 := by omega
  have hk8 : ¬ (8 : Int) < (k : Int) := by omega
  clear h
  go_enter Tryz.func99, Tryz.ntmps99
  go_wp2_with fail
  refine (rraw_bad _ eb s a bad _ H.out (.inr ⟨by omega, by omega⟩)).mono ?_
  rintro e w1 ⟨rfl, g1, g2⟩
  have H1 : Hid (REye w1 eb s a true 201 ∧ Chg [eb] w w1) := ⟨g1, g2⟩
  clear g1 g2 c0 c1 c2 c3 cf
  go_wp2_with fail
  refine wp_loop_rounds 2 ?_
  repeat any_goals (rw [rounds_succ]; go_wp2)
  go_ret
  exact ⟨rfl, H1.out⟩
set_option maxHeartbeats 2000000 in
theorem rnum_good (w : World) (eb : Nat) (s : ByteArray) (a k : Nat) (bad : Int) (h : REye w eb s a false bad) (h1 : 1 ≤ k) (h6 : k ≤ 6) (hn : a + k ≤ s.size) :
    Calls Tryz.prog 99 #[.pointer (some ⟨eb, 0, none⟩), .int .i64 (k : Int)] w fun e w' => e = .returned (.int .i64 (word ((s.data.toList.drop a).take k) : Nat)) ∧ REye w' eb s (a + k) false bad ∧ Chg [eb] w w' := by
  have H : Hid (REye w eb s a false bad) := h
  obtain ⟨c0, c1, c2, c3, cf⟩ := h.cells
  have hk1 : ¬ (k : Int) < 1 := by omega
  have hk8 : ¬ (8 : Int) < (k : Int) := by omega
  clear h
  go_enter Tryz.func99, Tryz.ntmps99
  go_wp2_with fail
  refine (rraw_good _ eb s a bad k H.out hn).mono ?_
  rintro e w1 ⟨rfl, g1, g2⟩
  have H1 : Hid (REye w1 eb s (a + k) false bad ∧ Chg [eb] w w1) := ⟨g1, g2⟩
  have htl : (s.extract a (a + k)).size = k := extract_len s a k hn
  obtain ⟨t, ht⟩ : ∃ t, t = s.extract a (a + k) := ⟨_, rfl⟩
  have HT : Hid (t.data.toList = (s.data.toList.drop a).take k) := by rw [ht]; show _ = _; simp
  rw [← ht] at htl ⊢
  clear g1 g2 c0 c1 c2 c3 cf ht
  go_wp2_with fail
  go_loop [6, 25] (fun n i => ∃ j : Nat, j ≤ k ∧ i = .int .i64 j ∧ n = .int .u64 (word (t.data.toList.take j) : Nat)) (fun _ i => k - (intOf i).toNat)
  case atStart => exact ⟨0, by omega, rfl, by simp [word]⟩
  case round =>
    obtain ⟨j, hj, rfl, rfl⟩ := hrel
    by_cases hlt : j < k
    · have hlt2 : j < t.data.toList.length := by simp; omega
      have hw : Hid (word (t.data.toList.take (j + 1)) = word (t.data.toList.take j) * 256 + t[j].toNat) := by
        rw [List.take_succ_eq_append_getElem hlt2, word_snoc]
        rfl
      have hx := word_lt (t.data.toList.take j)
      have hx2 : word (t.data.toList.take j) < 1099511627776 := by
        have h3 : (t.data.toList.take j).length ≤ 5 := by simp; omega
        have h2 : 256 ^ (t.data.toList.take j).length ≤ 256 ^ 5 := Nat.pow_le_pow_right (by omega) h3
        omega
      clear hx
      generalize word (t.data.toList.take j) = x at hw hx2 ⊢
      have hb := t[j].toNat_lt
      have hwr : IntKind.u64.wrap ((x : Int) * 256 + IntKind.u64.wrap (t[j].toNat : Int)) = ((x * 256 + t[j].toNat : Nat) : Int) := by rw [IntKind.wrap_u64, IntKind.wrap_u64]; omega
      have HWR : Hid _ := hwr
      clear hwr
      go_wp2_with fail
      go_round
      case rel => exact ⟨j + 1, by omega, by go_num, by rw [hw.out, Int.natCast_add, Int.natCast_mul]; rfl⟩
      case measure => simp [intOf]; omega
    · have hjk : j = k := by omega
      subst hjk
      have he : t.data.toList.take j = t.data.toList := List.take_of_length_le (by simp; omega)
      have hx := word_lt6 t.data.toList (by simp; omega)
      rw [he]
      clear he
      obtain ⟨x, hxe⟩ : ∃ x, x = word t.data.toList := ⟨_, rfl⟩
      rw [← hxe] at hx ⊢
      have HX : Hid (x = word t.data.toList) := hxe
      clear hxe
      have hge : ¬ (9223372036854775808 : Int) ≤ (x : Int) := by omega
      go_wp2_with fail
      go_ret
      refine ⟨?_, H1.out⟩
      rw [← HT.out, ← HX.out]
      rfl

/-! ### by what is left, or why looking ended -/
def REyeR (w : World) (eb : Nat) (R : Except Int ByteArray) : Prop :=
  ∃ s a, match R with
  | .ok r => REye w eb s a false 0 ∧ r = s.extract a s.size
  | .error why => REye w eb s a true why
def rawS (n : Int) : Except Int ByteArray → ByteArray × Except Int ByteArray
  | .error e => (⟨#[]⟩, .error e)
  | .ok r => match rawP n r with
    | .ok (x, r') => (x, .ok r')
    | .error e => (⟨#[]⟩, .error e)
def numS (k : Nat) : Except Int ByteArray → Nat × Except Int ByteArray
  | .error e => (0, .error e)
  | .ok r => match numP k r with
    | .ok (x, r') => (x, .ok r')
    | .error e => (0, .error e)
def textS (most : Nat) : Except Int ByteArray → ByteArray × Except Int ByteArray
  | .error e => (⟨#[]⟩, .error e)
  | .ok r => match textP most r with
    | .ok (x, r') => (x, .ok r')
    | .error e => (⟨#[]⟩, .error e)
theorem ext_ext (s : ByteArray) (a i j : Nat) : (s.extract a s.size).extract i j = s.extract (a + i) (min (a + j) s.size) := by
  apply ByteArray.ext
  simp
theorem REyeR.on {w w' : World} {eb : Nat} {R : Except Int ByteArray} (h : REyeR w eb R) (hb : Below w.heap.size w w') : REyeR w' eb R := by
  obtain ⟨s, a, h⟩ := h
  cases R with
  | ok r => exact ⟨s, a, h.1.on hb, h.2⟩
  | error e => exact ⟨s, a, h.on hb⟩
theorem rraw_any (w : World) (eb : Nat) (R : Except Int ByteArray) (n : Int) (h : REyeR w eb R) :
    Calls Tryz.prog 98 #[.pointer (some ⟨eb, 0, none⟩), .int .i64 n] w fun e w' => e = .returned (.string (rawS n R).1) ∧ REyeR w' eb (rawS n R).2 ∧ Chg [eb] w w' := by
  obtain ⟨s, a, h⟩ := h
  cases R with
  | error why =>
    refine (rraw_done w eb s a why n h).mono ?_
    rintro e w' ⟨rfl, rfl⟩
    exact ⟨rfl, ⟨s, a, h⟩, Chg.refl _ _⟩
  | ok r =>
    obtain ⟨h, rfl⟩ := h
    have hf := h.fits
    have hz : (s.extract a s.size).size = s.size - a := by simp
    by_cases hn : 0 ≤ n ∧ n ≤ (s.extract a s.size).size
    · obtain ⟨k, rfl⟩ := Int.eq_ofNat_of_zero_le hn.1
      have hk : a + k ≤ s.size := by have := hn.2; rw [hz] at this; omega
      refine (rraw_good w eb s a 0 k h hk).mono ?_
      rintro e w' ⟨rfl, h1, h2⟩
      have e1 : rawS (k : Int) (.ok (s.extract a s.size)) = (s.extract a (a + k), .ok (s.extract (a + k) s.size)) := by
        have e0 : rawP (k : Int) (s.extract a s.size) = .ok (s.extract a (a + k), s.extract (a + k) s.size) := by
          rw [rawP, if_pos hn, Int.toNat_natCast, ext_ext, ext_ext, hz]
          rw [show min (a + k) s.size = a + k by omega, show min (a + (s.size - a)) s.size = s.size by omega, Nat.add_zero]
        simp only [rawS, e0]
      rw [e1]
      exact ⟨rfl, ⟨s, a + k, h1, rfl⟩, h2⟩
    · refine (rraw_bad w eb s a 0 n h (by rw [hz] at hn; omega)).mono ?_
      rintro e w' ⟨rfl, h1, h2⟩
      have e1 : rawS n (.ok (s.extract a s.size)) = (⟨#[]⟩, .error 201) := by simp only [rawS, rawP, if_neg hn]
      rw [e1]
      exact ⟨rfl, ⟨s, a, h1⟩, h2⟩
theorem rnum_any (w : World) (eb : Nat) (R : Except Int ByteArray) (kk : Int) (k : Nat) (hk : kk = (k : Int)) (h1 : 1 ≤ k) (h6 : k ≤ 6) (h : REyeR w eb R) :
    Calls Tryz.prog 99 #[.pointer (some ⟨eb, 0, none⟩), .int .i64 kk] w fun e w' => e = .returned (.int .i64 ((numS k R).1 : Nat)) ∧ REyeR w' eb (numS k R).2 ∧ Chg [eb] w w' := by
  subst hk
  obtain ⟨s, a, h⟩ := h
  cases R with
  | error why =>
    refine (rnum_done w eb s a why _ h).mono ?_
    rintro e w' ⟨rfl, rfl⟩
    exact ⟨rfl, ⟨s, a, h⟩, Chg.refl _ _⟩
  | ok r =>
    obtain ⟨h, rfl⟩ := h
    have hf := h.fits
    have hz : (s.extract a s.size).size = s.size - a := by simp
    by_cases hn : k ≤ (s.extract a s.size).size
    · have hk : a + k ≤ s.size := by rw [hz] at hn; omega
      refine (rnum_good w eb s a k 0 h h1 h6 hk).mono ?_
      rintro e w' ⟨rfl, g1, g2⟩
      have e1 : numS k (.ok (s.extract a s.size)) = (word ((s.data.toList.drop a).take k), .ok (s.extract (a + k) s.size)) := by
        have e0 : numP k (s.extract a s.size) = .ok (word ((s.data.toList.drop a).take k), s.extract (a + k) s.size) := by
          rw [numP, if_pos hn, ext_ext, hz]
          rw [show min (a + (s.size - a)) s.size = s.size by omega]
          have e2 : (s.extract a s.size).data.toList.take k = (s.data.toList.drop a).take k := by
            simp
            rw [List.take_of_length_le (l := List.drop a s.data.toList) (by simp)]
          rw [e2]
        simp only [numS, e0]
      rw [e1]
      exact ⟨rfl, ⟨s, a + k, g1, rfl⟩, g2⟩
    · refine (rnum_bad w eb s a k 0 h h1 h6 (by rw [hz] at hn; omega)).mono ?_
      rintro e w' ⟨rfl, g1, g2⟩
      have e1 : numS k (.ok (s.extract a s.size)) = (0, .error 201) := by simp only [numS, numP, if_neg hn]
      rw [e1]
      exact ⟨rfl, ⟨s, a, g1⟩, g2⟩
def failS (why : Int) : Except Int ByteArray → Except Int ByteArray
  | .ok _ => .error why
  | .error e => .error e
theorem rfailR (w : World) (eb : Nat) (R : Except Int ByteArray) (why : Int) (h : REyeR w eb R) :
    Calls Tryz.prog 121 #[.pointer (some ⟨eb, 0, none⟩), .int .i64 why] w fun e w' => e = .returned (.tuple #[]) ∧ REyeR w' eb (failS why R) ∧ Chg [eb] w w' := by
  obtain ⟨s, a, h⟩ := h
  cases R with
  | error e0 =>
    refine (rfail_done w eb s a e0 why h).mono ?_
    rintro e w' ⟨rfl, rfl⟩
    exact ⟨rfl, ⟨s, a, h⟩, Chg.refl _ _⟩
  | ok r =>
    refine (rfail_any w eb s a 0 why h.1).mono ?_
    rintro e w' ⟨rfl, h1, h2⟩
    exact ⟨rfl, ⟨s, a, h1⟩, h2⟩
theorem textS_eq (most : Nat) (R : Except Int ByteArray) : textS most R = rawS ((numS 2 R).1 : Int) (if most < (numS 2 R).1 then failS 203 (numS 2 R).2 else (numS 2 R).2) := by
  cases R with
  | error e => simp [textS, numS, rawS]
  | ok r =>
    obtain ⟨x, hx⟩ : ∃ x, numP 2 r = x := ⟨_, rfl⟩
    cases x with
    | error e => simp [textS, textP, numS, hx, rawS]
    | ok x =>
      obtain ⟨n, r'⟩ := x
      by_cases hm : most < n
      · simp [textS, textP, numS, hx, hm, rawS, failS]
      · simp [textS, textP, numS, hx, hm, rawS, failS]
theorem rtext_any (w : World) (eb : Nat) (R : Except Int ByteArray) (mm : Int) (most : Nat) (hm : mm = (most : Int)) (h : REyeR w eb R) :
    Calls Tryz.prog 100 #[.pointer (some ⟨eb, 0, none⟩), .int .i64 mm] w fun e w' => e = .returned (.string (textS most R).1) ∧ REyeR w' eb (textS most R).2 ∧ Chg [eb] w w' := by
  subst hm
  have he := textS_eq most R
  have HE : Hid _ := he
  have H : Hid (REyeR w eb R) := h
  clear h he
  go_enter Tryz.func100, Tryz.ntmps100
  go_wp2_with fail
  refine (rnum_any w eb R 2 2 rfl (by omega) (by omega) H.out).mono ?_
  rintro e w1 ⟨rfl, h1, h2⟩
  obtain ⟨N, hN⟩ : ∃ N, N = numS 2 R := ⟨_, rfl⟩
  have HE2 : Hid (textS most R = rawS (N.1 : Int) (if most < N.1 then failS 203 N.2 else N.2)) := by rw [hN]; exact HE.out
  rw [← hN] at h1 ⊢
  obtain ⟨n, R1⟩ := N
  dsimp only at h1 HE2 ⊢
  have H1 : Hid (REyeR w1 eb R1 ∧ Chg [eb] w w1) := ⟨h1, h2⟩
  clear h1 h2 hN HE H
  by_cases hlt : most < n
  · have H2 : Hid (textS most R = rawS (n : Int) (failS 203 R1)) := by rw [HE2.out, if_pos hlt]; rfl
    clear HE2
    go_wp2_with fail
    refine (rfailR w1 eb R1 203 H1.out.1).mono ?_
    rintro e w2 ⟨rfl, h1, h2⟩
    have H3 : Hid (REyeR w2 eb (failS 203 R1) ∧ Chg [eb] w w2) := ⟨h1, H1.out.2.trans h2⟩
    clear h1 h2 H1
    go_wp2_with fail
    refine (rraw_any w2 eb _ n H3.out.1).mono ?_
    rintro e w3 ⟨rfl, h1, h2⟩
    have H4 : Hid (REyeR w3 eb (textS most R).2 ∧ Chg [eb] w w3) := ⟨by rw [H2.out]; exact h1, H3.out.2.trans h2⟩
    rw [← H2.out]
    clear h1 h2 H3
    go_wp2_with fail
    go_ret
    exact ⟨rfl, H4.out⟩
  · have H2 : Hid (textS most R = rawS (n : Int) R1) := by rw [HE2.out, if_neg hlt]; rfl
    clear HE2
    go_wp2_with fail
    refine (rraw_any w1 eb _ n H1.out.1).mono ?_
    rintro e w3 ⟨rfl, h1, h2⟩
    have H4 : Hid (REyeR w3 eb (textS most R).2 ∧ Chg [eb] w w3) := ⟨by rw [H2.out]; exact h1, H1.out.2.trans h2⟩
    rw [← H2.out]
    clear h1 h2 H1
    go_wp2_with fail
    go_ret
    exact ⟨rfl, H4.out⟩
theorem empty_iff (s : ByteArray) : s.toList.isEmpty = true ↔ s.size = 0 := by
  rw [ByteArray.toList_eq, List.isEmpty_iff, ← List.length_eq_zero_iff]
  simp
/-- how looking ended -/
theorem rend_any (w : World) (eb : Nat) (R : Except Int ByteArray) (h : REyeR w eb R) :
    Calls Tryz.prog 101 #[.pointer (some ⟨eb, 0, none⟩)] w fun e w' => e = .returned (.int .i64 (endE R)) ∧ Chg [eb] w w' := by
  obtain ⟨s, a, h⟩ := h
  cases R with
  | error why =>
    have H : Hid (REye w eb s a true why) := h
    obtain ⟨c0, c1, c2, c3, cf⟩ := REye.cells h
    clear h
    go_enter Tryz.func101, Tryz.ntmps101
    go_wp2_with fail
    go_quiet (fail)
    go_wp2_with fail
    go_ret
    exact ⟨rfl, Chg.of_below (Joins.below_draws _ _ _)⟩
  | ok r =>
    obtain ⟨h, rfl⟩ := h
    have H : Hid (REye w eb s a false 0) := h
    obtain ⟨c0, c1, c2, c3, cf⟩ := REye.cells h
    have hf := h.fits
    have hz : (s.extract a s.size).size = s.size - a := by simp
    clear h
    by_cases hlt : a < s.size
    · have HE : Hid (endE (.ok (s.extract a s.size)) = 201) := by
        show (if _ then _ else _) = _
        rw [if_neg]
        rw [empty_iff, hz]
        omega
      have hd : decide ((a : Int) < (s.size : Int)) = true := decide_eq_true (by omega)
      clear hz
      go_enter Tryz.func101, Tryz.ntmps101
      go_wp2_with fail
      go_quiet (fail)
      go_wp2_with fail
      refine (rfail_any _ eb s a 0 201 (H.out.on (Joins.below_draws _ _ _))).mono ?_
      rintro e w1 ⟨rfl, h1, h2⟩
      obtain ⟨c0, c1, c2, c3, cf⟩ := h1.cells
      have H1 : Hid (Chg [eb] w w1) := (Chg.of_below (Joins.below_draws _ _ _)).trans h2
      clear h1 h2
      go_wp2_with fail
      go_ret
      rw [HE.out]
      exact ⟨rfl, H1.out⟩
    · have HE : Hid (endE (.ok (s.extract a s.size)) = 0) := by
        show (if _ then _ else _) = _
        rw [if_pos]
        rw [empty_iff, hz]
        omega
      have hd : decide ((a : Int) < (s.size : Int)) = false := decide_eq_false (by omega)
      clear hz
      go_enter Tryz.func101, Tryz.ntmps101
      go_wp2_with fail
      go_quiet (fail)
      go_wp2_with fail
      go_ret
      rw [HE.out]
      exact ⟨rfl, Chg.of_below (Joins.below_draws _ _ _)⟩
end Go.Proofs.YtanpkghdgdkdlaaGreat.Oct

/- Layer 6, the reference: a beginning, a block as bytes (any numbers). -/
namespace Go.Proofs.YtanpkghdgdkdlaaGreat.Sto
set_option linter.unusedVariables false
set_option linter.unusedSimpArgs false
set_option maxRecDepth 100000
open Go.RowKit Go.Lib Go.Proofs.YtanpkghdgdkdlaaGreat.Mem Go.Proofs.YtanpkghdgdkdlaaGreat.Oct Go.Proofs.YtanpkghdgdkdlaaGreat.Dev

/-- a number's 64 bits -/
def u64n (i : Int) : Nat := (IntKind.u64.wrap i).toNat
theorem u64n_eq (i : Int) : IntKind.u64.wrap i = (u64n i : Int) := by
  unfold u64n
  rw [IntKind.wrap_u64]
  omega
theorem u64n_nat (n : Nat) (h : n < 9223372036854775808) : u64n (n : Int) = n := by
  unfold u64n
  rw [IntKind.wrap_u64]
  omega
def superZL (gen root n : Int) (note : ByteArray) : List UInt8 := 83 :: (be 6 (u64n gen) ++ (be 4 (u64n root) ++ (be 4 (u64n n) ++ (be 2 note.size ++ note.data.toList))))
def superZ (gen root n : Int) (note : ByteArray) : ByteArray := ⟨(Crc.seal_ (superZL gen root n note)).toArray⟩
theorem superZL_len (gen root n : Int) (note : ByteArray) (hn : note.size ≤ 65535) : (superZL gen root n note).length ≤ 140737488351232 := by
  simp [superZL, be_length]; omega
theorem superZ_nat (gen root n : Nat) (note : ByteArray) (h1 : gen < 9223372036854775808) (h2 : root < 9223372036854775808) (h3 : n < 9223372036854775808) : superZ gen root n note = superB gen root n note := by
  simp only [superZ, superZL, superB, superL, u64n_nat _ h1, u64n_nat _ h2, u64n_nat _ h3]
def kidsZ (l : List Int) : List UInt8 := l.flatMap fun k => be 4 (u64n k)
theorem kidsZ_len (l : List Int) : (kidsZ l).length = 4 * l.length := by
  induction l with
  | nil => rfl
  | cons k l ih => simp only [kidsZ, List.flatMap_cons, List.length_append, be_length, List.length_cons] at ih ⊢; omega
theorem kidsZ_snoc (l : List Int) (k : Int) : kidsZ (l ++ [k]) = kidsZ l ++ be 4 (u64n k) := by simp [kidsZ]
def blockZL (kids : List Int) (data : ByteArray) : List UInt8 := be 1 kids.length ++ (kidsZ kids ++ (be 2 data.size ++ data.data.toList))
def blockZ (kids : List Int) (data : ByteArray) : ByteArray := ⟨(Crc.seal_ (blockZL kids data)).toArray⟩
theorem blockZL_len (kids : List Int) (data : ByteArray) (hk : kids.length ≤ 1048576) (hn : data.size ≤ 65535) : (blockZL kids data).length ≤ 140737488351232 := by
  simp [blockZL, be_length, kidsZ_len]; omega
theorem kidsZ_nat (l : List Int) (h : ∀ k ∈ l, 0 ≤ k ∧ k < 9223372036854775808) : kidsZ l = kidsL l := by
  induction l with
  | nil => rfl
  | cons k l ih =>
    have hk := h k (by simp)
    have e : u64n k = k.toNat := by
      unfold u64n
      rw [IntKind.wrap_u64]
      omega
    have := ih (fun x hx => h x (by simp [hx]))
    simp only [kidsZ, kidsL, List.flatMap_cons] at this ⊢
    rw [e, this]
theorem blockZ_nat (l : List Int) (data : ByteArray) (h : ∀ k ∈ l, 0 ≤ k ∧ k < 9223372036854775808) : blockZ l data = blockB l data := by
  simp only [blockZ, blockZL, blockB, blockL, kidsZ_nat l h]
set_option maxHeartbeats 4000000 in
theorem rbytes_any (v : Value) (l : List Int) (data : ByteArray) (w : World) (h : Ints (· < w.heap.size) w v l) (hl : l.length ≤ 40) (hn : data.size ≤ 65535) :
    Calls Tryz.prog 43 #[v, .string data] w fun e w' => e = .returned (.string (blockZ l data)) ∧ Below w.heap.size w w' := by
  obtain ⟨a, c, rfl, _, hcell⟩ := h.form
  have H : Hid (Ints (· < w.heap.size) w (.slice a l.length c) l) := h
  clear h hcell
  go_enter Tryz.func43, Tryz.ntmps43
  go_wp2_with (first
    | (go_at_call 87; refine (rput_k 1 _ 1 l.length rfl rfl _ [] _ (U8s.nil _ _) (by omega) (by omega) (by omega) (by simp)).mono ?_; rintro e w1 ⟨v1, rfl, ho, hb⟩; have A1 : Hid (Below w.heap.size w w1 ∧ U8s w1.heap.size w1 v1 (be 1 l.length)) := ⟨hb, by have := ho.u8s; rw [List.nil_append] at this; exact this⟩; clear ho hb)
    | fail)
  go_loopw [5, 13] (fun u i wr => ∃ j : Nat, j ≤ l.length ∧ i = .int .i64 j ∧ Hid (Below w.heap.size w wr ∧ U8s wr.heap.size wr u (be 1 l.length ++ kidsZ (l.take j)))) (fun _ i _ => l.length - (intOf i).toNat)
  case atStart => exact ⟨0, by omega, rfl, A1.out.1, by have := A1.out.2; simpa [kidsZ] using this⟩
  case round =>
    obtain ⟨j, hj, rfl, HT⟩ := hrel
    by_cases hlt : j < l.length
    · obtain ⟨x, hx⟩ : ∃ x : Int, l[j] = x := ⟨_, rfl⟩
      have HI := (Ints.below H.out HT.out.1).form
      obtain ⟨a', c', e', _, hcell⟩ := HI
      obtain ⟨b, o, ha, hc⟩ := hcell j hlt
      have haa : a = a' := by injection e'
      subst haa
      subst ha
      rw [hx] at hc
      have hsn : Hid (be 1 l.length ++ kidsZ (l.take (j + 1)) = be 1 l.length ++ kidsZ (l.take j) ++ be 4 (u64n x)) := by
        rw [List.take_succ_eq_append_getElem hlt, kidsZ_snoc, hx, List.append_assoc]
        exact rfl
      have hlen : (be 1 l.length ++ kidsZ (l.take j)).length ≤ 70368744177664 := by
        simp [be_length, kidsZ_len]; omega
      have HL : Hid _ := hlen
      clear e' hx hlen
      go_wp2_with (first
        | (go_at_call 87; refine (rput_any _ _ x (u64n x) 4 _ (u64n_eq x) HT.out.2 (by omega) (by omega) HL.out).mono ?_; rintro e w2 ⟨v2, rfl, ho, hb⟩; have A2 : Hid (Below w.heap.size w w2 ∧ U8s w2.heap.size w2 v2 (be 1 l.length ++ kidsZ (l.take j) ++ be 4 (u64n x))) := ⟨HT.out.1.trans (hb.mono HT.out.1.size), ho.u8s⟩; clear ho hb)
        | fail)
      go_roundw
      case rel => exact ⟨j + 1, by omega, by go_num, A2.out.1, by rw [hsn.out]; exact A2.out.2⟩
      case measure => simp [intOf]; omega
    · have hjl : j = l.length := by omega
      subst hjl
      have A3 : Hid (Below w.heap.size w wr ∧ U8s wr.heap.size wr u5 (be 1 l.length ++ kidsZ l)) := ⟨HT.out.1, by have := HT.out.2; rw [List.take_length] at this; exact this⟩
      have hlen : (be 1 l.length ++ kidsZ l).length ≤ 1048576 := by simp [be_length, kidsZ_len]; omega
      have HL : Hid _ := hlen
      clear HT hlen
      go_wp2_with (first
        | (go_at_call 89; refine (rputtext_any _ (be 1 l.length ++ kidsZ l) data _ A3.out.2 hn HL.out).mono ?_; rintro e w5 ⟨v5, rfl, ho, hb⟩; have hcv := ho.u8s.conv; have A6 : Hid (Below w.heap.size w w5) := A3.out.1.trans (hb.mono A3.out.1.size); clear ho hb)
        | (go_at_call 88; refine (Crc.rseal_any _ _ (size_of _ (blockZL l data) (by simp [blockZL]) (blockZL_len l data (by omega) hn))).mono ?_; rintro e w6 ⟨rfl, hb⟩; have A7 : Hid (Below w.heap.size w w6) := A6.out.trans (hb.mono A6.out.size); clear hb)
        | fail)
      go_ret
      refine ⟨?_, A7.out⟩
      first | rfl | (simp [blockZ, blockZL])
structure Rsb (w : World) (gen root n : Int) (note : ByteArray) (w' : World) (v : Value) (l : List UInt8) : Prop where
  box : w'.heap[w.heap.size]? = some (.cells #[.int .i64 gen, .int .i64 root, .string note] 89 (0, 0))
  below : Below w.heap.size w w'
  is : U8s w'.heap.size w' v l
theorem Rsb.next {w : World} {gen root n : Int} {note : ByteArray} {w' w'' : World} {v v' : Value} {l l' : List UInt8} (h : Rsb w gen root n note w' v l) (hb : Below w'.heap.size w' w'') (ho : Own8 w'.heap.size w'' v' l') : Rsb w gen root n note w'' v' l' :=
  ⟨(hb.block _ (heap_lt h.box)).trans h.box, h.below.trans (hb.mono h.below.size), ho.u8s⟩
theorem Rsb.cells {w : World} {gen root n : Int} {note : ByteArray} {w' : World} {v : Value} {l : List UInt8} (h : Rsb w gen root n note w' v l) : w'.cell? ⟨w.heap.size, 0, none⟩ = some (.int .i64 gen) ∧ w'.cell? ⟨w.heap.size, 1, none⟩ = some (.int .i64 root) ∧ w'.cell? ⟨w.heap.size, 2, none⟩ = some (.string note) :=
  ⟨cell_at h.box 0, cell_at h.box 1, cell_at h.box 2⟩
set_option maxHeartbeats 4000000 in
theorem rsbytes_any (gen root n : Int) (note : ByteArray) (w : World) (hn : note.size ≤ 65535) :
    Calls Tryz.prog 42 #[.agg #[.int .i64 gen, .int .i64 root, .string note], .int .i64 n] w fun e w' => e = .returned (.string (superZ gen root n note)) ∧ Below w.heap.size w w' := by
  go_enter Tryz.func42, Tryz.ntmps42
  have hbox : (w.alloc (.cells #[.int .i64 gen, .int .i64 root, .string note] 89)).heap[w.heap.size]? = some (.cells #[.int .i64 gen, .int .i64 root, .string note] 89 (0, 0)) := heap_alloc_last _ _
  have hb : Below w.heap.size w (w.alloc (.cells #[.int .i64 gen, .int .i64 root, .string note] 89)) := (Below.refl _ _).alloc (Nat.le_refl _) _
  have hcv := run_convert_bytes_const (P := Tryz.prog) (w.alloc (.cells #[.int .i64 gen, .int .i64 root, .string note] 89)) 132 5 #[.int .u8 83] 1 1 Tryz.underlying132 Tryz.underlying5
  have hz1 : (w.alloc (.cells #[.int .i64 gen, .int .i64 root, .string note] 89)).heap.size = w.heap.size + 1 := by simp
  rw [hz1] at hcv
  have HB : Hid _ := hbox
  have HB2 : Hid _ := hb
  clear hbox hb hz1
  go_wp2_with fail
  have A0 : Hid (Rsb w gen root n note ((w.alloc (.cells #[.int .i64 gen, .int .i64 root, .string note] 89)).alloc (.cells #[.int .u8 83] 5 (1, 2))) (.slice (some ⟨w.heap.size + 1, 0, none⟩) 1 1) [83]) := by
    refine ⟨(heap_alloc_other _ (heap_lt HB.out)).trans HB.out, HB2.out.alloc HB2.out.size _, ?_⟩
    refine .inr ⟨_, 0, 1, rfl, by simp, fun j u hj => ?_⟩
    match j, hj with
    | 0, hj =>
      simp at hj
      subst hj
      have := cell_at (heap_alloc_last (w.alloc (.cells #[.int .i64 gen, .int .i64 root, .string note] 89)) (.cells #[.int .u8 83] 5 (1, 2))) 0
      rw [show (w.alloc (.cells #[.int .i64 gen, .int .i64 root, .string note] 89)).heap.size = w.heap.size + 1 by simp] at this
      exact this
  generalize (w.alloc (.cells #[.int .i64 gen, .int .i64 root, .string note] 89)).alloc (.cells #[.int .u8 83] 5 (1, 2)) = w2 at A0 ⊢
  clear hcv HB HB2
  refine (rput_any _ [83] gen (u64n gen) 6 w2 (u64n_eq gen) A0.out.is (by omega) (by omega) (by simp)).mono ?_
  rintro e w3 ⟨v3, rfl, ho, hb⟩
  have A1 : Hid (Rsb w gen root n note w3 v3 ([83] ++ be 6 (u64n gen))) := A0.out.next hb ho
  clear ho hb A0
  obtain ⟨c0, c1, c2⟩ := A1.out.cells
  go_wp2_with fail
  refine (rput_any _ _ root (u64n root) 4 w3 (u64n_eq root) A1.out.is (by omega) (by omega) (by simp [be_length])).mono ?_
  rintro e w4 ⟨v4, rfl, ho, hb⟩
  have A2 : Hid (Rsb w gen root n note w4 v4 ([83] ++ be 6 (u64n gen) ++ be 4 (u64n root))) := A1.out.next hb ho
  clear ho hb A1 c0 c1 c2
  obtain ⟨c0, c1, c2⟩ := A2.out.cells
  go_wp2_with fail
  refine (rput_any _ _ n (u64n n) 4 w4 (u64n_eq n) A2.out.is (by omega) (by omega) (by simp [be_length])).mono ?_
  rintro e w5 ⟨v5, rfl, ho, hb⟩
  have A3 : Hid (Rsb w gen root n note w5 v5 ([83] ++ be 6 (u64n gen) ++ be 4 (u64n root) ++ be 4 (u64n n))) := A2.out.next hb ho
  clear ho hb A2 c0 c1 c2
  obtain ⟨c0, c1, c2⟩ := A3.out.cells
  go_wp2_with fail
  refine (rputtext_any _ _ note w5 A3.out.is hn (by simp [be_length])).mono ?_
  rintro e w6 ⟨v6, rfl, ho, hb⟩
  have e1 : [83] ++ be 6 (u64n gen) ++ be 4 (u64n root) ++ be 4 (u64n n) ++ be 2 note.size ++ note.data.toList = superZL gen root n note := by simp [superZL]
  rw [e1] at ho
  have A4 : Hid (Below w.heap.size w w6) := A3.out.below.trans (hb.mono A3.out.below.size)
  have hcv := ho.u8s.conv
  have hlen := superZL_len gen root n note hn
  have HZ : Hid (superZ gen root n note = ⟨(Crc.seal_ (superZL gen root n note)).toArray⟩) := rfl
  generalize superZL gen root n note = L at hcv hlen HZ
  clear ho hb A3 c0 c1 c2 e1
  go_wp2_with fail
  refine (Crc.rseal_any _ w6 (size_of _ L rfl hlen)).mono ?_
  rintro e w7 ⟨rfl, hb⟩
  have A5 : Hid (Below w.heap.size w w7) := A4.out.trans (hb.mono A4.out.size)
  clear hb A4 hcv
  go_wp2_with fail
  go_ret
  refine ⟨?_, A5.out⟩
  rw [HZ.out]
  rfl
end Go.Proofs.YtanpkghdgdkdlaaGreat.Sto

