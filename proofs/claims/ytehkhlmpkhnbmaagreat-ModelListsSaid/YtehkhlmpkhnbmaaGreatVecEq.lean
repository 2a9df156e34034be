/- '==' of vectors. -/
import Derived.Test.YtehkhlmpkhnbmaaGreatProg
import Derived.Test.YtehkhlmpkhnbmaaGreatModRel
import Derived.ChangeKeysEq
import Derived.Laws.StructEq
import Derived.WalkKit
namespace Go.Proofs.YtehkhlmpkhnbmaaGreat.Mod
set_option linter.unusedVariables false
set_option linter.unusedSimpArgs false
set_option maxRecDepth 100000
open Go.RowKit Go.Proofs.YtehkhlmpkhnbmaaGreat.Mem

theorem intInfo : ∃ i, Tryz.prog.info? 3 = some i := by
  have h : (Tryz.prog.info? 3).isSome = true := by kernel_rfl
  exact Option.isSome_iff_exists.1 h
theorem run_part_int (w : World) (cs : Array Value) (j : Nat) (x : Value) (h : cs[j]? = some x) : (part 3 cs (j * 1)).run Tryz.prog w = .ok x w := by
  rw [Nat.mul_one]
  simp only [part, Sem.run_bind, Tryz.isAgg3, Result.andThen_ok, Bool.false_eq_true, if_false, h, Sem.run_pure]
theorem eqItems_next (w : World) (xs ys : Array Value) (j : Nat) (x y : Int) (js : List Nat) (r : Bool) (hx : xs[j]? = some (.int .i64 x)) (hy : ys[j]? = some (.int .i64 y)) (hr : (Op.eqItems 9999 3 1 xs ys js).run Tryz.prog w = .ok r w) :
    (Op.eqItems 9999 3 1 xs ys (j :: js)).run Tryz.prog w = .ok ((x == y) && r) w := by
  simp only [Op.eqItems, Sem.run_bind, run_part_int w xs j _ hx, run_part_int w ys j _ hy, Result.andThen_ok, run_equalIn_int w 9998 3 .i64 .i64 x y Tryz.underlying3]
  cases h : (x == y)
  · simp
  · simpa using hr
theorem run_equalIn_vec (w : World) (a0 a1 a2 a3 a4 a5 a6 a7 b0 b1 b2 b3 b4 b5 b6 b7 : Int) :
    (Op.equalIn 10000 26 (.agg #[.int .i64 a0, .int .i64 a1, .int .i64 a2, .int .i64 a3, .int .i64 a4, .int .i64 a5, .int .i64 a6, .int .i64 a7])
      (.agg #[.int .i64 b0, .int .i64 b1, .int .i64 b2, .int .i64 b3, .int .i64 b4, .int .i64 b5, .int .i64 b6, .int .i64 b7])).run Tryz.prog w = .ok (Vec.eq ⟨a0, a1, a2, a3, a4, a5, a6, a7⟩ ⟨b0, b1, b2, b3, b4, b5, b6, b7⟩) w := by
  obtain ⟨i, hi⟩ := intInfo
  have hc : Tryz.prog.cellsOf 3 = 1 := by kernel_rfl
  rw [run_equalIn_array (d := 9999) w _ _ Tryz.underlying26 hi, hc]
  have hr : List.range 8 = [0, 1, 2, 3, 4, 5, 6, 7] := by decide
  rw [hr]
  have h := eqItems_next w #[.int .i64 a0, .int .i64 a1, .int .i64 a2, .int .i64 a3, .int .i64 a4, .int .i64 a5, .int .i64 a6, .int .i64 a7] #[.int .i64 b0, .int .i64 b1, .int .i64 b2, .int .i64 b3, .int .i64 b4, .int .i64 b5, .int .i64 b6, .int .i64 b7]
  rw [h 0 a0 b0 _ _ rfl rfl (h 1 a1 b1 _ _ rfl rfl (h 2 a2 b2 _ _ rfl rfl (h 3 a3 b3 _ _ rfl rfl (h 4 a4 b4 _ _ rfl rfl (h 5 a5 b5 _ _ rfl rfl (h 6 a6 b6 _ _ rfl rfl (h 7 a7 b7 _ true rfl rfl rfl)))))))]
  simp [Vec.eq, Bool.and_assoc]
/-- as the walk meets it -/
theorem run_neq_vec (w : World) (a0 a1 a2 a3 a4 a5 a6 a7 b0 b1 b2 b3 b4 b5 b6 b7 : Int) :
    (binOp .neq 26 (.agg #[.int .i64 a0, .int .i64 a1, .int .i64 a2, .int .i64 a3, .int .i64 a4, .int .i64 a5, .int .i64 a6, .int .i64 a7])
      (.agg #[.int .i64 b0, .int .i64 b1, .int .i64 b2, .int .i64 b3, .int .i64 b4, .int .i64 b5, .int .i64 b6, .int .i64 b7])).run Tryz.prog w = .ok (.bool (!Vec.eq ⟨a0, a1, a2, a3, a4, a5, a6, a7⟩ ⟨b0, b1, b2, b3, b4, b5, b6, b7⟩)) w := by
  rw [run_neq_struct, run_equalIn_vec]
  rfl
theorem run_eql_vec (w : World) (a0 a1 a2 a3 a4 a5 a6 a7 b0 b1 b2 b3 b4 b5 b6 b7 : Int) :
    (binOp .eql 26 (.agg #[.int .i64 a0, .int .i64 a1, .int .i64 a2, .int .i64 a3, .int .i64 a4, .int .i64 a5, .int .i64 a6, .int .i64 a7])
      (.agg #[.int .i64 b0, .int .i64 b1, .int .i64 b2, .int .i64 b3, .int .i64 b4, .int .i64 b5, .int .i64 b6, .int .i64 b7])).run Tryz.prog w = .ok (.bool (Vec.eq ⟨a0, a1, a2, a3, a4, a5, a6, a7⟩ ⟨b0, b1, b2, b3, b4, b5, b6, b7⟩)) w := by
  rw [run_eql_struct, run_equalIn_vec]
  rfl
theorem run_eql_stp (w : World) (a0 a1 b0 b1 : Int) : (binOp .eql 24 (.agg #[.int .i64 a0, .int .i64 a1]) (.agg #[.int .i64 b0, .int .i64 b1])).run Tryz.prog w = .ok (.bool (Stp.eq ⟨a0, a1⟩ ⟨b0, b1⟩)) w := by
  go_simp
  by_cases h : a0 = b0 <;> by_cases h' : a1 = b1 <;> simp [Stp.eq, h, h']
theorem run_neq_stp (w : World) (a0 a1 b0 b1 : Int) : (binOp .neq 24 (.agg #[.int .i64 a0, .int .i64 a1]) (.agg #[.int .i64 b0, .int .i64 b1])).run Tryz.prog w = .ok (.bool (!Stp.eq ⟨a0, a1⟩ ⟨b0, b1⟩)) w := by
  go_simp
  by_cases h : a0 = b0 <;> by_cases h' : a1 = b1 <;> simp [Stp.eq, h, h']
end Go.Proofs.YtehkhlmpkhnbmaaGreat.Mod
