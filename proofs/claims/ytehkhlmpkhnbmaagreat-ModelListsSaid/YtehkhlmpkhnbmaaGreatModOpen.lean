/- States and events that came in. (Printed by wip/tools/genopen22.py.) -/
import Derived.Test.YtehkhlmpkhnbmaaGreatRows
import Derived.Test.YtehkhlmpkhnbmaaGreatModRel
import Derived.Test.YtehkhlmpkhnbmaaGreatRead
import Derived.Test.YtehkhlmpkhnbmaaGreatLaw
namespace Go.Proofs.YtehkhlmpkhnbmaaGreat.Mod
set_option maxRecDepth 100000
set_option linter.unusedVariables false
set_option linter.unusedSimpArgs false
open Go.ChangeShapes Go.WideShapes Go.ChangeAt Go.RowKit Go.WideMaps Go.WideElems Go.Proofs.YtehkhlmpkhnbmaaGreat.Mem

theorem parts (cs : List Value) (o k : Nat) (c : List Value) (h : (cs.drop o).take k = c) : cs.drop o = c ++ cs.drop (o + k) := by
  rw [← h, ← List.drop_drop]
  exact (List.take_append_drop _ _).symm
theorem drop_all (cs : List Value) (k : Nat) (h : cs.length = k) : cs.drop k = [] := List.drop_eq_nil_of_le (by omega)
instance : Inhabited Stp := ⟨⟨0, 0⟩⟩
instance : Inhabited Vec := ⟨⟨0, 0, 0, 0, 0, 0, 0, 0⟩⟩
instance : Inhabited Piece := ⟨⟨0, default, ⟨#[]⟩⟩⟩
instance : Inhabited Xattr := ⟨⟨⟨#[]⟩, default, ⟨#[]⟩, false⟩⟩
instance : Inhabited Inode := ⟨⟨default, 0, ⟨#[]⟩, default, 0, 0, default, 0, [], []⟩⟩
instance : Inhabited Link := ⟨⟨default, default, default, default, ⟨#[]⟩, default, default⟩⟩
instance : Inhabited State := ⟨⟨default, [], []⟩⟩
instance : Inhabited Event := ⟨⟨default, 0, default, default⟩⟩

theorem c_int : Tryz.prog.cellsOf 3 = 1 := by kernel_rfl
theorem c_uint64 : Tryz.prog.cellsOf 52 = 1 := by kernel_rfl
theorem c_string : Tryz.prog.cellsOf 9 = 1 := by kernel_rfl
theorem c_bool : Tryz.prog.cellsOf 4 = 1 := by kernel_rfl
theorem c_stamp : Tryz.prog.cellsOf 24 = 2 := by kernel_rfl
theorem c_vector : Tryz.prog.cellsOf 26 = 8 := by kernel_rfl
theorem c_attr : Tryz.prog.cellsOf 54 = 4 := by kernel_rfl
theorem c_size : Tryz.prog.cellsOf 56 = 3 := by kernel_rfl
theorem c_piece : Tryz.prog.cellsOf 81 = 4 := by kernel_rfl
theorem c_xattr : Tryz.prog.cellsOf 83 = 5 := by kernel_rfl
theorem c_inode : Tryz.prog.cellsOf 60 = 13 := by kernel_rfl
theorem c_link : Tryz.prog.cellsOf 62 = 25 := by kernel_rfl
theorem c_state : Tryz.prog.cellsOf 30 = 10 := by kernel_rfl
theorem c_event : Tryz.prog.cellsOf 32 = 21 := by kernel_rfl
theorem c_spiece : Tryz.prog.cellsOf 57 = 1 := by kernel_rfl
theorem c_sxattr : Tryz.prog.cellsOf 58 = 1 := by kernel_rfl
theorem c_sinode : Tryz.prog.cellsOf 27 = 1 := by kernel_rfl
theorem c_slink : Tryz.prog.cellsOf 28 = 1 := by kernel_rfl
section
variable {H : Type} {enc : TypeId × Value → H} {p : Nat → Prop} {W : World} {n : Nat} {cs : List Value} {y : DataW H × List MemPlace}

theorem stp_of (h : DataW.trod enc Tryz.prog W 0 (fun _ => true) true n 24 cs = some y) : ∃ s : Stp, cs = [.int .i64 s.t, .int .i64 s.who] := by
  obtain ⟨xs, m, _, rfl, hl, hlen, hf⟩ := DataW.trod_struct Tryz.underlying24 h
  rw [c_stamp] at hl
  obtain ⟨y0, y1, rfl⟩ : ∃ y0 y1, xs = [y0, y1] := by
    match xs, hlen with
    | [y0, y1], _ => exact ⟨y0, y1, rfl⟩
  have h0 := hf 0 _ rfl
  simp only [c_int, List.getElem?_cons_zero, List.getElem?_cons_succ] at h0
  have h1 := hf 1 _ rfl
  simp only [c_int, List.getElem?_cons_zero, List.getElem?_cons_succ] at h1
  clear hf h
  obtain ⟨x0, e0, _, wf0⟩ := DataW.trod_int Tryz.underlying3 h0
  obtain ⟨x1, e1, _, wf1⟩ := DataW.trod_int Tryz.underlying3 h1
  replace e0 := parts cs 0 1 _ (by simpa [c_int] using e0)
  replace e1 := parts cs 1 1 _ (by simpa [c_int] using e1)
  have E : cs = cs.drop 0 := rfl
  rw [e0, e1, drop_all cs 2 hl] at E
  exact ⟨⟨x0, x1⟩, E⟩

theorem vec_of (h : DataW.trod enc Tryz.prog W 0 (fun _ => true) true n 26 cs = some y) : ∃ v : Vec, cs = [.int .i64 v.v0, .int .i64 v.v1, .int .i64 v.v2, .int .i64 v.v3, .int .i64 v.v4, .int .i64 v.v5, .int .i64 v.v6, .int .i64 v.v7] := by
  obtain ⟨xs, m, _, rfl, hl, hlen, hf⟩ := DataW.trod_array Tryz.underlying26 h
  rw [c_vector] at hl
  have key : ∀ i, i < 8 → ∃ z : Int, (cs.drop i).take 1 = [.int .i64 z] := by
    intro i hi
    have := hf i hi
    rw [List.getElem?_eq_getElem (by omega), c_int, Nat.mul_one] at this
    obtain ⟨z, e, _, _⟩ := DataW.trod_int Tryz.underlying3 this
    exact ⟨z, e⟩
  obtain ⟨x0, e0⟩ := key 0 (by omega)
  replace e0 := parts cs 0 1 _ e0
  obtain ⟨x1, e1⟩ := key 1 (by omega)
  replace e1 := parts cs 1 1 _ e1
  obtain ⟨x2, e2⟩ := key 2 (by omega)
  replace e2 := parts cs 2 1 _ e2
  obtain ⟨x3, e3⟩ := key 3 (by omega)
  replace e3 := parts cs 3 1 _ e3
  obtain ⟨x4, e4⟩ := key 4 (by omega)
  replace e4 := parts cs 4 1 _ e4
  obtain ⟨x5, e5⟩ := key 5 (by omega)
  replace e5 := parts cs 5 1 _ e5
  obtain ⟨x6, e6⟩ := key 6 (by omega)
  replace e6 := parts cs 6 1 _ e6
  obtain ⟨x7, e7⟩ := key 7 (by omega)
  replace e7 := parts cs 7 1 _ e7
  have E : cs = cs.drop 0 := rfl
  rw [e0, e1, e2, e3, e4, e5, e6, e7, drop_all cs 8 hl] at E
  exact ⟨⟨x0, x1, x2, x3, x4, x5, x6, x7⟩, E⟩

theorem attr_of (h : DataW.trod enc Tryz.prog W 0 (fun _ => true) true n 54 cs = some y) : ∃ (s : Stp) (m t : Int), cs = [.int .i64 s.t, .int .i64 s.who, .int .i64 m, .int .u64 t] := by
  obtain ⟨xs, m, _, rfl, hl, hlen, hf⟩ := DataW.trod_struct Tryz.underlying54 h
  rw [c_attr] at hl
  obtain ⟨y0, y1, y2, rfl⟩ : ∃ y0 y1 y2, xs = [y0, y1, y2] := by
    match xs, hlen with
    | [y0, y1, y2], _ => exact ⟨y0, y1, y2, rfl⟩
  have h0 := hf 0 _ rfl
  simp only [c_stamp, List.getElem?_cons_zero, List.getElem?_cons_succ] at h0
  have h1 := hf 1 _ rfl
  simp only [c_int, List.getElem?_cons_zero, List.getElem?_cons_succ] at h1
  have h2 := hf 2 _ rfl
  simp only [c_uint64, List.getElem?_cons_zero, List.getElem?_cons_succ] at h2
  clear hf h
  obtain ⟨x0, e0⟩ := stp_of h0
  obtain ⟨x1, e1, _, wf1⟩ := DataW.trod_int Tryz.underlying3 h1
  obtain ⟨x2, e2, _, wf2⟩ := DataW.trod_int Tryz.underlying52 h2
  replace e0 := parts cs 0 2 _ (by simpa [c_stamp] using e0)
  replace e1 := parts cs 2 1 _ (by simpa [c_int] using e1)
  replace e2 := parts cs 3 1 _ (by simpa [c_uint64] using e2)
  have E : cs = cs.drop 0 := rfl
  rw [e0, e1, e2, drop_all cs 4 hl] at E
  exact ⟨x0, x1, x2, E⟩

theorem size_of (h : DataW.trod enc Tryz.prog W 0 (fun _ => true) true n 56 cs = some y) : ∃ (s : Stp) (m : Int), cs = [.int .i64 s.t, .int .i64 s.who, .int .i64 m] := by
  obtain ⟨xs, m, _, rfl, hl, hlen, hf⟩ := DataW.trod_struct Tryz.underlying56 h
  rw [c_size] at hl
  obtain ⟨y0, y1, rfl⟩ : ∃ y0 y1, xs = [y0, y1] := by
    match xs, hlen with
    | [y0, y1], _ => exact ⟨y0, y1, rfl⟩
  have h0 := hf 0 _ rfl
  simp only [c_stamp, List.getElem?_cons_zero, List.getElem?_cons_succ] at h0
  have h1 := hf 1 _ rfl
  simp only [c_int, List.getElem?_cons_zero, List.getElem?_cons_succ] at h1
  clear hf h
  obtain ⟨x0, e0⟩ := stp_of h0
  obtain ⟨x1, e1, _, wf1⟩ := DataW.trod_int Tryz.underlying3 h1
  replace e0 := parts cs 0 2 _ (by simpa [c_stamp] using e0)
  replace e1 := parts cs 2 1 _ (by simpa [c_int] using e1)
  have E : cs = cs.drop 0 := rfl
  rw [e0, e1, drop_all cs 3 hl] at E
  exact ⟨x0, x1, E⟩

theorem piece_of (h : DataW.trod enc Tryz.prog W 0 (fun _ => true) true n 81 cs = some y) (hw : Reached (y.1.weights Tryz.prog 81)) : ∃ a, PieceR W cs a := by
  obtain ⟨xs, m, _, rfl, hl, hlen, hf⟩ := DataW.trod_struct Tryz.underlying81 h
  rw [c_piece] at hl
  obtain ⟨y0, y1, y2, rfl⟩ : ∃ y0 y1 y2, xs = [y0, y1, y2] := by
    match xs, hlen with
    | [y0, y1, y2], _ => exact ⟨y0, y1, y2, rfl⟩
  have h0 := hf 0 _ rfl
  simp only [c_int, List.getElem?_cons_zero, List.getElem?_cons_succ] at h0
  have h1 := hf 1 _ rfl
  simp only [c_stamp, List.getElem?_cons_zero, List.getElem?_cons_succ] at h1
  have h2 := hf 2 _ rfl
  simp only [c_string, List.getElem?_cons_zero, List.getElem?_cons_succ] at h2
  clear hf h
  simp only [DataW.weights, Tryz.underlying81, List.map_cons, List.map_nil] at hw
  obtain ⟨x0, e0, _, wf0⟩ := DataW.trod_int Tryz.underlying3 h0
  obtain ⟨x1, e1⟩ := stp_of h1
  obtain ⟨x2, e2, r2, _⟩ := DataW.trod_string Tryz.underlying9 h2
  have hs2 : fitsS x2 := by
    subst r2
    exact open_str_w (t := 9) (P := Tryz.prog) (H := H) (s := x2) (fun n hn => hw n (by simp [DataW.weightsEach, hn]))
  replace e0 := parts cs 0 1 _ (by simpa [c_int] using e0)
  replace e1 := parts cs 1 2 _ (by simpa [c_stamp] using e1)
  replace e2 := parts cs 3 1 _ (by simpa [c_string] using e2)
  have E : cs = cs.drop 0 := rfl
  rw [e0, e1, e2, drop_all cs 4 hl] at E
  exact ⟨⟨x0, x1, x2⟩, E, hs2⟩

theorem xattr_of (h : DataW.trod enc Tryz.prog W 0 (fun _ => true) true n 83 cs = some y) (hw : Reached (y.1.weights Tryz.prog 83)) : ∃ a, XattrR W cs a := by
  obtain ⟨xs, m, _, rfl, hl, hlen, hf⟩ := DataW.trod_struct Tryz.underlying83 h
  rw [c_xattr] at hl
  obtain ⟨y0, y1, y2, y3, rfl⟩ : ∃ y0 y1 y2 y3, xs = [y0, y1, y2, y3] := by
    match xs, hlen with
    | [y0, y1, y2, y3], _ => exact ⟨y0, y1, y2, y3, rfl⟩
  have h0 := hf 0 _ rfl
  simp only [c_string, List.getElem?_cons_zero, List.getElem?_cons_succ] at h0
  have h1 := hf 1 _ rfl
  simp only [c_stamp, List.getElem?_cons_zero, List.getElem?_cons_succ] at h1
  have h2 := hf 2 _ rfl
  simp only [c_string, List.getElem?_cons_zero, List.getElem?_cons_succ] at h2
  have h3 := hf 3 _ rfl
  simp only [c_bool, List.getElem?_cons_zero, List.getElem?_cons_succ] at h3
  clear hf h
  simp only [DataW.weights, Tryz.underlying83, List.map_cons, List.map_nil] at hw
  obtain ⟨x0, e0, r0, _⟩ := DataW.trod_string Tryz.underlying9 h0
  have hs0 : fitsS x0 := by
    subst r0
    exact open_str_w (t := 9) (P := Tryz.prog) (H := H) (s := x0) (fun n hn => hw n (by simp [DataW.weightsEach, hn]))
  obtain ⟨x1, e1⟩ := stp_of h1
  obtain ⟨x2, e2, r2, _⟩ := DataW.trod_string Tryz.underlying9 h2
  have hs2 : fitsS x2 := by
    subst r2
    exact open_str_w (t := 9) (P := Tryz.prog) (H := H) (s := x2) (fun n hn => hw n (by simp [DataW.weightsEach, hn]))
  obtain ⟨x3, e3, _⟩ := DataW.trod_bool Tryz.underlying4 h3
  replace e0 := parts cs 0 1 _ (by simpa [c_string] using e0)
  replace e1 := parts cs 1 2 _ (by simpa [c_stamp] using e1)
  replace e2 := parts cs 3 1 _ (by simpa [c_string] using e2)
  replace e3 := parts cs 4 1 _ (by simpa [c_bool] using e3)
  have E : cs = cs.drop 0 := rfl
  rw [e0, e1, e2, e3, drop_all cs 5 hl] at E
  exact ⟨⟨x0, x1, x2, x3⟩, E, hs0, hs2⟩

theorem link_of (h : DataW.trod enc Tryz.prog W 0 (fun _ => true) true n 62 cs = some y) (hw : Reached (y.1.weights Tryz.prog 62)) : ∃ a, LinkR W cs a := by
  obtain ⟨xs, m, _, rfl, hl, hlen, hf⟩ := DataW.trod_struct Tryz.underlying62 h
  rw [c_link] at hl
  obtain ⟨y0, y1, y2, y3, y4, y5, y6, rfl⟩ : ∃ y0 y1 y2 y3 y4 y5 y6, xs = [y0, y1, y2, y3, y4, y5, y6] := by
    match xs, hlen with
    | [y0, y1, y2, y3, y4, y5, y6], _ => exact ⟨y0, y1, y2, y3, y4, y5, y6, rfl⟩
  have h0 := hf 0 _ rfl
  simp only [c_stamp, List.getElem?_cons_zero, List.getElem?_cons_succ] at h0
  have h1 := hf 1 _ rfl
  simp only [c_stamp, List.getElem?_cons_zero, List.getElem?_cons_succ] at h1
  have h2 := hf 2 _ rfl
  simp only [c_stamp, List.getElem?_cons_zero, List.getElem?_cons_succ] at h2
  have h3 := hf 3 _ rfl
  simp only [c_stamp, List.getElem?_cons_zero, List.getElem?_cons_succ] at h3
  have h4 := hf 4 _ rfl
  simp only [c_string, List.getElem?_cons_zero, List.getElem?_cons_succ] at h4
  have h5 := hf 5 _ rfl
  simp only [c_vector, List.getElem?_cons_zero, List.getElem?_cons_succ] at h5
  have h6 := hf 6 _ rfl
  simp only [c_vector, List.getElem?_cons_zero, List.getElem?_cons_succ] at h6
  clear hf h
  simp only [DataW.weights, Tryz.underlying62, List.map_cons, List.map_nil] at hw
  obtain ⟨x0, e0⟩ := stp_of h0
  obtain ⟨x1, e1⟩ := stp_of h1
  obtain ⟨x2, e2⟩ := stp_of h2
  obtain ⟨x3, e3⟩ := stp_of h3
  obtain ⟨x4, e4, r4, _⟩ := DataW.trod_string Tryz.underlying9 h4
  have hs4 : fitsS x4 := by
    subst r4
    exact open_str_w (t := 9) (P := Tryz.prog) (H := H) (s := x4) (fun n hn => hw n (by simp [DataW.weightsEach, hn]))
  obtain ⟨x5, e5⟩ := vec_of h5
  obtain ⟨x6, e6⟩ := vec_of h6
  replace e0 := parts cs 0 2 _ (by simpa [c_stamp] using e0)
  replace e1 := parts cs 2 2 _ (by simpa [c_stamp] using e1)
  replace e2 := parts cs 4 2 _ (by simpa [c_stamp] using e2)
  replace e3 := parts cs 6 2 _ (by simpa [c_stamp] using e3)
  replace e4 := parts cs 8 1 _ (by simpa [c_string] using e4)
  replace e5 := parts cs 9 8 _ (by simpa [c_vector] using e5)
  replace e6 := parts cs 17 8 _ (by simpa [c_vector] using e6)
  have E : cs = cs.drop 0 := rfl
  rw [e0, e1, e2, e3, e4, e5, e6, drop_all cs 25 hl] at E
  exact ⟨⟨x0, x1, x2, x3, x4, x5, x6⟩, E, hs4⟩

theorem inode_of (h : DataW.trod enc Tryz.prog W 0 (fun _ => true) true n 60 cs = some y) (hp : ∀ z ∈ y.2, p z.block) (hw : Reached (y.1.weights Tryz.prog 60)) : ∃ a, InodeR p W cs a := by
  obtain ⟨xs, m, _, rfl, hl, hlen, hf⟩ := DataW.trod_struct Tryz.underlying60 h
  rw [c_inode] at hl
  obtain ⟨y0, y1, y2, y3, y4, y5, y6, rfl⟩ : ∃ y0 y1 y2 y3 y4 y5 y6, xs = [y0, y1, y2, y3, y4, y5, y6] := by
    match xs, hlen with
    | [y0, y1, y2, y3, y4, y5, y6], _ => exact ⟨y0, y1, y2, y3, y4, y5, y6, rfl⟩
  have h0 := hf 0 _ rfl
  simp only [c_stamp, List.getElem?_cons_zero, List.getElem?_cons_succ] at h0
  have h1 := hf 1 _ rfl
  simp only [c_int, List.getElem?_cons_zero, List.getElem?_cons_succ] at h1
  have h2 := hf 2 _ rfl
  simp only [c_string, List.getElem?_cons_zero, List.getElem?_cons_succ] at h2
  have h3 := hf 3 _ rfl
  simp only [c_attr, List.getElem?_cons_zero, List.getElem?_cons_succ] at h3
  have h4 := hf 4 _ rfl
  simp only [c_size, List.getElem?_cons_zero, List.getElem?_cons_succ] at h4
  have h5 := hf 5 _ rfl
  simp only [c_spiece, List.getElem?_cons_zero, List.getElem?_cons_succ] at h5
  have h6 := hf 6 _ rfl
  simp only [c_sxattr, List.getElem?_cons_zero, List.getElem?_cons_succ] at h6
  clear hf h
  simp only [DataW.weights, Tryz.underlying60, List.map_cons, List.map_nil] at hw
  obtain ⟨x0, e0⟩ := stp_of h0
  obtain ⟨x1, e1, _, wf1⟩ := DataW.trod_int Tryz.underlying3 h1
  obtain ⟨x2, e2, r2, _⟩ := DataW.trod_string Tryz.underlying9 h2
  have hs2 : fitsS x2 := by
    subst r2
    exact open_str_w (t := 9) (P := Tryz.prog) (H := H) (s := x2) (fun n hn => hw n (by simp [DataW.weightsEach, hn]))
  obtain ⟨x3, m3, t3, e3⟩ := attr_of h3
  obtain ⟨x4, m4, e4⟩ := size_of h4
  obtain ⟨v5, l5, e5, hS5, hB5⟩ := open_slice_w (sz := 4) (R := PieceR) (p := p) Tryz.underlying57 c_piece (by omega) h5 (fun z hz => hp z (by simp [hz])) (fun n hn => hw n (by simp [DataW.weightsEach, hn])) (fun n cs' y htr hz hr => piece_of htr hr)
  obtain ⟨v6, l6, e6, hS6, hB6⟩ := open_slice_w (sz := 5) (R := XattrR) (p := p) Tryz.underlying58 c_xattr (by omega) h6 (fun z hz => hp z (by simp [hz])) (fun n hn => hw n (by simp [DataW.weightsEach, hn])) (fun n cs' y htr hz hr => xattr_of htr hr)
  replace e0 := parts cs 0 2 _ (by simpa [c_stamp] using e0)
  replace e1 := parts cs 2 1 _ (by simpa [c_int] using e1)
  replace e2 := parts cs 3 1 _ (by simpa [c_string] using e2)
  replace e3 := parts cs 4 4 _ (by simpa [c_attr] using e3)
  replace e4 := parts cs 8 3 _ (by simpa [c_size] using e4)
  replace e5 := parts cs 11 1 _ (by simpa [c_spiece] using e5)
  replace e6 := parts cs 12 1 _ (by simpa [c_sxattr] using e6)
  have E : cs = cs.drop 0 := rfl
  rw [e0, e1, e2, e3, e4, e5, e6, drop_all cs 13 hl] at E
  exact ⟨⟨x0, x1, x2, x3, m3, t3, x4, m4, l5, l6⟩, v5, v6, E, hs2, hS5, hS6⟩

theorem state_of (h : DataW.trod enc Tryz.prog W 0 (fun _ => true) true n 30 cs = some y) (hp : ∀ z ∈ y.2, p z.block) (hw : Reached (y.1.weights Tryz.prog 30)) : ∃ (a : State) (vn vl : Value), cs = a.list vn vl ∧ StateR p W vn vl a := by
  obtain ⟨xs, m, _, rfl, hl, hlen, hf⟩ := DataW.trod_struct Tryz.underlying30 h
  rw [c_state] at hl
  obtain ⟨y0, y1, y2, rfl⟩ : ∃ y0 y1 y2, xs = [y0, y1, y2] := by
    match xs, hlen with
    | [y0, y1, y2], _ => exact ⟨y0, y1, y2, rfl⟩
  have h0 := hf 0 _ rfl
  simp only [c_vector, List.getElem?_cons_zero, List.getElem?_cons_succ] at h0
  have h1 := hf 1 _ rfl
  simp only [c_sinode, List.getElem?_cons_zero, List.getElem?_cons_succ] at h1
  have h2 := hf 2 _ rfl
  simp only [c_slink, List.getElem?_cons_zero, List.getElem?_cons_succ] at h2
  clear hf h
  simp only [DataW.weights, Tryz.underlying30, List.map_cons, List.map_nil] at hw
  obtain ⟨x0, e0⟩ := vec_of h0
  obtain ⟨v1, l1, e1, hS1, hB1⟩ := open_slice_w (sz := 13) (R := InodeR p) (p := p) Tryz.underlying27 c_inode (by omega) h1 (fun z hz => hp z (by simp [hz])) (fun n hn => hw n (by simp [DataW.weightsEach, hn])) (fun n cs' y htr hz hr => inode_of (p := p) htr hz hr)
  obtain ⟨v2, l2, e2, hS2, hB2⟩ := open_slice_w (sz := 25) (R := LinkR) (p := p) Tryz.underlying28 c_link (by omega) h2 (fun z hz => hp z (by simp [hz])) (fun n hn => hw n (by simp [DataW.weightsEach, hn])) (fun n cs' y htr hz hr => link_of htr hr)
  replace e0 := parts cs 0 8 _ (by simpa [c_vector] using e0)
  replace e1 := parts cs 8 1 _ (by simpa [c_sinode] using e1)
  replace e2 := parts cs 9 1 _ (by simpa [c_slink] using e2)
  have E : cs = cs.drop 0 := rfl
  rw [e0, e1, e2, drop_all cs 10 hl] at E
  exact ⟨⟨x0, l1, l2⟩, v1, v2, E, hS1, hS2⟩

theorem event_of (h : DataW.trod enc Tryz.prog W 0 (fun _ => true) true n 32 cs = some y) (hp : ∀ z ∈ y.2, p z.block) (hw : Reached (y.1.weights Tryz.prog 32)) : ∃ a, EventR p W cs a := by
  obtain ⟨xs, m, _, rfl, hl, hlen, hf⟩ := DataW.trod_struct Tryz.underlying32 h
  rw [c_event] at hl
  obtain ⟨y0, y1, y2, y3, rfl⟩ : ∃ y0 y1 y2 y3, xs = [y0, y1, y2, y3] := by
    match xs, hlen with
    | [y0, y1, y2, y3], _ => exact ⟨y0, y1, y2, y3, rfl⟩
  have h0 := hf 0 _ rfl
  simp only [c_stamp, List.getElem?_cons_zero, List.getElem?_cons_succ] at h0
  have h1 := hf 1 _ rfl
  simp only [c_int, List.getElem?_cons_zero, List.getElem?_cons_succ] at h1
  have h2 := hf 2 _ rfl
  simp only [c_vector, List.getElem?_cons_zero, List.getElem?_cons_succ] at h2
  have h3 := hf 3 _ rfl
  simp only [c_state, List.getElem?_cons_zero, List.getElem?_cons_succ] at h3
  clear hf h
  simp only [DataW.weights, Tryz.underlying32, List.map_cons, List.map_nil] at hw
  obtain ⟨x0, e0⟩ := stp_of h0
  obtain ⟨x1, e1, _, wf1⟩ := DataW.trod_int Tryz.underlying3 h1
  obtain ⟨x2, e2⟩ := vec_of h2
  obtain ⟨x3, u3, v3, e3, hS3⟩ := state_of (p := p) h3 (fun z hz => hp z (by simp [hz])) (fun n hn => hw n (by simp [DataW.weightsEach, hn]))
  replace e0 := parts cs 0 2 _ (by simpa [c_stamp] using e0)
  replace e1 := parts cs 2 1 _ (by simpa [c_int] using e1)
  replace e2 := parts cs 3 8 _ (by simpa [c_vector] using e2)
  replace e3 := parts cs 11 10 _ (by simpa [c_state] using e3)
  have E : cs = cs.drop 0 := rfl
  rw [e0, e1, e2, e3, drop_all cs 21 hl] at E
  exact ⟨⟨x0, x1, x2, x3⟩, u3, v3, E, hS3⟩

/-- A []api.Event that came in. -/
theorem open_events {base : Nat} {v : Value} {d : DataW H} {ps : List MemPlace} (hval : Value.okWide Tryz.prog W .any base 22 v)
    (h : DataW.Trod enc Tryz.prog W 0 (fun _ => true) true 22 v d ps) (hp : ∀ x ∈ ps, x.block < W.heap.size) (hw : Reached (d.weights Tryz.prog 22)) : ∃ l, Events (· < W.heap.size) W v l ∧ l.length * 200 ≤ 140737488351232 := by
  obtain ⟨a, len, cap, rfl⟩ := okWide_slice Tryz.underlying22 hval
  obtain ⟨fuel, hf⟩ := h
  obtain ⟨v', l, hv, hs, hb⟩ := open_slice_w (α := Event) (sz := 21) (R := EventR (· < W.heap.size)) (p := (· < W.heap.size)) Tryz.underlying22 c_event (by omega) hf hp hw (fun n cs' y htr hz hr => event_of (p := (· < W.heap.size)) htr hz hr)
  have e : v' = .slice a len cap := by simpa [Value.cells] using hv.symm
  subst e
  have e8 : Tryz.prog.bytesOf 32 = 200 := by kernel_rfl
  rw [e8] at hb
  exact ⟨l, hs, by simpa [reachBytes] using hb⟩
/-- a struct of flat cells that came in -/
theorem open_stp {base : Nat} {v : Value} {d : DataW H} {ps : List MemPlace} (hval : Value.okWide Tryz.prog W .any base 24 v) (h : DataW.Trod enc Tryz.prog W 0 (fun _ => true) true 24 v d ps) : ∃ s : Stp, v = s.val := by
  obtain ⟨cs, rfl, hsz⟩ := okWide_struct Tryz.underlying24 hval
  obtain ⟨fuel, hf⟩ := h
  obtain ⟨s, hs⟩ := stp_of hf
  refine ⟨s, ?_⟩
  have : cs.toList = [.int .i64 s.t, .int .i64 s.who] := by simpa [Value.cells] using hs
  rw [← Array.toArray_toList (xs := cs), this]
theorem open_vec {base : Nat} {v : Value} {d : DataW H} {ps : List MemPlace} (hval : Value.okWide Tryz.prog W .any base 26 v) (h : DataW.Trod enc Tryz.prog W 0 (fun _ => true) true 26 v d ps) : ∃ s : Vec, v = s.val := by
  have hv : ∃ cs, v = .agg cs := by
    have := hval
    simp only [Value.okWide, Tryz.underlying26] at this
    obtain ⟨cs, h, _⟩ := this
    exact ⟨cs, h⟩
  obtain ⟨cs, rfl⟩ := hv
  obtain ⟨fuel, hf⟩ := h
  obtain ⟨s, hs⟩ := vec_of hf
  refine ⟨s, ?_⟩
  have := hs
  simp only [Value.cells] at this
  rw [← Array.toArray_toList (xs := cs), this]
end
end Go.Proofs.YtehkhlmpkhnbmaaGreat.Mod
