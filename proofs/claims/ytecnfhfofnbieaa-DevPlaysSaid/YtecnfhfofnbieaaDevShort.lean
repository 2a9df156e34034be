/- short: it answers, whatever. -/
import Derived.Test.YtecnfhfofnbieaaDevDoes
import Derived.Deep.LoopGhost
import Derived.Deep.QuietTactic
import Derived.BigQuiet
namespace Go.Proofs.Ytecnfhfofnbieaa.Dev
set_option linter.unusedVariables false
set_option linter.unusedSimpArgs false
set_option maxRecDepth 100000
open Go.RowKit Go.Proofs.Ytecnfhfofnbieaa.Mem

/-- a list of things, as 'short' reads it -/
def Rd (w : World) (a : Option Addr) (n : Nat) : Prop := n ≤ 9223372036854775807 ∧ ∀ j, j < n → ∃ (b o : Nat) (s : ByteArray) (ka : Option Addr) (kn kc : Nat), a = some ⟨b, o, none⟩ ∧ w.cell? ⟨b, o + j * 4 + 2, none⟩ = some (.string s) ∧ w.cell? ⟨b, o + j * 4 + 3, none⟩ = some (.slice ka kn kc)
theorem cell_on {w w' : World} {p : Addr} {v : Value} (h : Below w.heap.size w w') (hc : w.cell? p = some v) : w'.cell? p = some v := (h.cell (World.block_lt_of_cell? w p hc)).trans hc
theorem Rd.below {w w' : World} {a : Option Addr} {n : Nat} (h : Rd w a n) (hb : Below w.heap.size w w') : Rd w' a n :=
  ⟨h.1, fun j hj => by
    obtain ⟨b, o, s, ka, kn, kc, h1, h2, h3⟩ := h.2 j hj
    exact ⟨b, o, s, ka, kn, kc, h1, cell_on hb h2, cell_on hb h3⟩⟩
theorem Dos.rd {p : Nat → Prop} {w : World} {a : Option Addr} {c : Nat} {l : List DoS} (h : Dos p w (.slice a l.length c) l) : Rd w a l.length := by
  obtain ⟨a', c', e, hm, hc⟩ := h.at
  injection e with e _ _
  subst e
  refine ⟨hm, fun j hj => ?_⟩
  obtain ⟨b, o, h1, _, kv, _, _, h2, h3, _, h4⟩ := hc j hj
  obtain ⟨ka, kc, rfl, _⟩ := h4.form
  exact ⟨b, o, _, ka, _, kc, h1, h2, h3⟩

set_option maxHeartbeats 1000000 in
theorem short_any (w : World) (g m c : Nat) (hm : m ≤ 9223372036854775807) (hs : ∀ i, i < m → ∃ a n c, w.cell? ⟨g, i, none⟩ = some (.slice a n c) ∧ Rd w a n) :
    Calls Try.prog 10 #[.slice (some ⟨g, 0, none⟩) m c] w fun e w' => ∃ x, e = .returned (.bool x) ∧ Below w.heap.size w w' := by
  have HS : Hid _ := hs
  clear hs
  go_enter Try.func10, Try.ntmps10
  go_wp2
  go_loopw [3, 4, 10] (fun x y i wr => ∃ (j : Nat) (xi yi : Int), j ≤ m ∧ i = .int .i64 j ∧ x = .int .i64 xi ∧ y = .int .i64 yi ∧ Hid (Below w.heap.size w wr)) (fun _ _ i _ => m - (intOf i).toNat)
  case atStart => exact ⟨0, _, _, by omega, rfl, rfl, rfl, Below.refl _ _⟩
  case round =>
    obtain ⟨j, xi, yi, hj, rfl, rfl, rfl, hT⟩ := hrel
    by_cases hlt : j < m
    · obtain ⟨a, n, c', hcell, hrd⟩ := HS.out j hlt
      have hcell' := cell_on hT.out hcell
      have HR : Hid (Rd w a n) := hrd
      have hn := hrd.1
      clear hcell hrd
      go_wp2
      clear hcell'
      go_loopw [3, 4, 7] (fun x y i wr' => ∃ (q : Nat) (xi yi : Int), q ≤ n ∧ i = .int .i64 q ∧ x = .int .i64 xi ∧ y = .int .i64 yi ∧ Hid (Below w.heap.size w wr')) (fun _ _ i _ => n - (intOf i).toNat)
      case atStart => exact ⟨0, _, _, by omega, rfl, rfl, rfl, hT⟩
      case round =>
        obtain ⟨q, xq, yq, hq, rfl, rfl, rfl, hT2⟩ := hrel
        by_cases hqn : q < n
        · by_cases h80 : yq ≤ 80
          · by_cases h8192 : xq ≤ 8192
            · obtain ⟨b, o, s, ka, kn, kc, rfl, h1, h2⟩ := HR.out.2 q hqn
              have h1' := cell_on hT2.out h1
              have h2' := cell_on hT2.out h2
              clear h1 h2
              go_wp2_with fail
              go_quiet (fail)
              go_wp2
              go_roundw
              case rel => exact ⟨q + 1, _, _, by omega, by go_num, rfl, rfl, hT2.out.trans (Joins.below_draws _ _ _)⟩
              case measure => simp [intOf]; omega
            · go_wp2
              go_roundw
              case rel => exact ⟨j + 1, _, _, by omega, by go_num, rfl, rfl, hT2⟩
              case measure => simp [intOf]; omega
          · go_wp2
            go_roundw
            case rel => exact ⟨j + 1, _, _, by omega, by go_num, rfl, rfl, hT2⟩
            case measure => simp [intOf]; omega
        · go_wp2
          go_roundw
          case rel => exact ⟨j + 1, _, _, by omega, by go_num, rfl, rfl, hT2⟩
          case measure => simp [intOf]; omega
    · by_cases h80 : yi ≤ 80
      · by_cases h8192 : xi ≤ 8192
        · go_wp2
          go_ret
          first | exact ⟨_, rfl, hT.out⟩ | exact ⟨.inl rfl, hT.out⟩
        · go_wp2
          go_ret
          first | exact ⟨_, rfl, hT.out⟩ | exact ⟨.inl rfl, hT.out⟩
      · go_wp2
        go_ret
        first | exact ⟨_, rfl, hT.out⟩ | exact ⟨.inl rfl, hT.out⟩
end Go.Proofs.Ytecnfhfofnbieaa.Dev
