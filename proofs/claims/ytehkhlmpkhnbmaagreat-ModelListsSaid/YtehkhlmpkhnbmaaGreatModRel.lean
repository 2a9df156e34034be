/- How states and events lie in memory. -/
import Derived.Test.YtehkhlmpkhnbmaaGreatModPure
import Derived.Test.YtehkhlmpkhnbmaaGreatMem
import Derived.Deep.MidRow
namespace Go.Proofs.YtehkhlmpkhnbmaaGreat.Mod
set_option linter.unusedVariables false
set_option linter.unusedSimpArgs false
open Go.RowKit Go.Proofs.YtehkhlmpkhnbmaaGreat.Mem

abbrev Stp.val (s : Stp) : Value := .agg #[.int .i64 s.t, .int .i64 s.who]
abbrev Vec.val (v : Vec) : Value := .agg #[.int .i64 v.v0, .int .i64 v.v1, .int .i64 v.v2, .int .i64 v.v3, .int .i64 v.v4, .int .i64 v.v5, .int .i64 v.v6, .int .i64 v.v7]
abbrev Piece.list (a : Piece) : List Value :=
  [.int .i64 a.index, .int .i64 a.at_.t, .int .i64 a.at_.who, .string a.data]
abbrev Piece.row (a : Piece) : Array Value := (a.list).toArray
abbrev Xattr.list (a : Xattr) : List Value :=
  [.string a.name, .int .i64 a.at_.t, .int .i64 a.at_.who, .string a.val, .bool a.gone]
abbrev Xattr.row (a : Xattr) : Array Value := (a.list).toArray
abbrev Inode.list (a : Inode) (vp vx : Value) : List Value :=
  [.int .i64 a.id.t, .int .i64 a.id.who, .int .i64 a.kind, .string a.text, .int .i64 a.aAt.t, .int .i64 a.aAt.who, .int .i64 a.mode, .int .u64 a.time, .int .i64 a.sAt.t, .int .i64 a.sAt.who, .int .i64 a.n, vp, vx]
abbrev Inode.row (a : Inode) (vp vx : Value) : Array Value := (a.list vp vx).toArray
abbrev Link.list (a : Link) : List Value :=
  [.int .i64 a.id.t, .int .i64 a.id.who, .int .i64 a.node.t, .int .i64 a.node.who, .int .i64 a.at_.t, .int .i64 a.at_.who, .int .i64 a.parent.t, .int .i64 a.parent.who, .string a.name,
    .int .i64 a.alive.v0, .int .i64 a.alive.v1, .int .i64 a.alive.v2, .int .i64 a.alive.v3, .int .i64 a.alive.v4, .int .i64 a.alive.v5, .int .i64 a.alive.v6, .int .i64 a.alive.v7,
    .int .i64 a.dead.v0, .int .i64 a.dead.v1, .int .i64 a.dead.v2, .int .i64 a.dead.v3, .int .i64 a.dead.v4, .int .i64 a.dead.v5, .int .i64 a.dead.v6, .int .i64 a.dead.v7]
abbrev Link.row (a : Link) : Array Value := (a.list).toArray
abbrev State.list (s : State) (vn vl : Value) : List Value :=
  [.int .i64 s.seen.v0, .int .i64 s.seen.v1, .int .i64 s.seen.v2, .int .i64 s.seen.v3, .int .i64 s.seen.v4, .int .i64 s.seen.v5, .int .i64 s.seen.v6, .int .i64 s.seen.v7, vn, vl]
abbrev State.row (s : State) (vn vl : Value) : Array Value := (s.list vn vl).toArray
abbrev Event.list (e : Event) (vn vl : Value) : List Value :=
  [.int .i64 e.at_.t, .int .i64 e.at_.who, .int .i64 e.vol, .int .i64 e.knew.v0, .int .i64 e.knew.v1, .int .i64 e.knew.v2, .int .i64 e.knew.v3, .int .i64 e.knew.v4, .int .i64 e.knew.v5, .int .i64 e.knew.v6, .int .i64 e.knew.v7,
    .int .i64 e.delta.seen.v0, .int .i64 e.delta.seen.v1, .int .i64 e.delta.seen.v2, .int .i64 e.delta.seen.v3, .int .i64 e.delta.seen.v4, .int .i64 e.delta.seen.v5, .int .i64 e.delta.seen.v6, .int .i64 e.delta.seen.v7, vn, vl]
abbrev Event.row (e : Event) (vn vl : Value) : Array Value := (e.list vn vl).toArray

/-- no text is longer than a machine reaches -/
def fitsS (s : ByteArray) : Prop := s.size ≤ 140737488351232
def PieceR (w : World) (cs : List Value) (a : Piece) : Prop := cs = a.list ∧ fitsS a.data
def XattrR (w : World) (cs : List Value) (a : Xattr) : Prop := cs = a.list ∧ fitsS a.name ∧ fitsS a.val
def LinkR (w : World) (cs : List Value) (a : Link) : Prop := cs = a.list ∧ fitsS a.name
def Pieces (p : Nat → Prop) (w : World) (v : Value) (l : List Piece) : Prop := SliceOf 4 PieceR p w v l
def Xattrs (p : Nat → Prop) (w : World) (v : Value) (l : List Xattr) : Prop := SliceOf 5 XattrR p w v l
def InodeR (p : Nat → Prop) (w : World) (cs : List Value) (a : Inode) : Prop := ∃ vp vx, cs = a.list vp vx ∧ fitsS a.text ∧ Pieces p w vp a.pieces ∧ Xattrs p w vx a.xattrs
def Nodes (p : Nat → Prop) (w : World) (v : Value) (l : List Inode) : Prop := SliceOf 13 (InodeR p) p w v l
def Links (p : Nat → Prop) (w : World) (v : Value) (l : List Link) : Prop := SliceOf 25 LinkR p w v l
structure StateR (p : Nat → Prop) (w : World) (vn vl : Value) (s : State) : Prop where
  nodes : Nodes p w vn s.nodes
  links : Links p w vl s.links
def EventR (p : Nat → Prop) (w : World) (cs : List Value) (e : Event) : Prop := ∃ vn vl, cs = e.list vn vl ∧ StateR p w vn vl e.delta
def Events (p : Nat → Prop) (w : World) (v : Value) (l : List Event) : Prop := SliceOf 21 (EventR p) p w v l

section
variable {B : Nat} {w w' : World} {v vn vl : Value}
theorem Pieces.below {l : List Piece} (h : Pieces (· < B) w v l) (hb : Below B w w') : Pieces (· < B) w' v l := SliceOf.below h hb (fun _ _ h => h)
theorem Xattrs.below {l : List Xattr} (h : Xattrs (· < B) w v l) (hb : Below B w w') : Xattrs (· < B) w' v l := SliceOf.below h hb (fun _ _ h => h)
theorem InodeR.below {cs : List Value} {a : Inode} (h : InodeR (· < B) w cs a) (hb : Below B w w') : InodeR (· < B) w' cs a := by
  obtain ⟨vp, vx, h1, h2, h3, h4⟩ := h
  exact ⟨vp, vx, h1, h2, h3.below hb, h4.below hb⟩
theorem Nodes.below {l : List Inode} (h : Nodes (· < B) w v l) (hb : Below B w w') : Nodes (· < B) w' v l := SliceOf.below h hb (fun _ _ h => h.below hb)
theorem Links.below {l : List Link} (h : Links (· < B) w v l) (hb : Below B w w') : Links (· < B) w' v l := SliceOf.below h hb (fun _ _ h => h)
theorem StateR.below {s : State} (h : StateR (· < B) w vn vl s) (hb : Below B w w') : StateR (· < B) w' vn vl s := ⟨h.nodes.below hb, h.links.below hb⟩
theorem EventR.below {cs : List Value} {e : Event} (h : EventR (· < B) w cs e) (hb : Below B w w') : EventR (· < B) w' cs e := by
  obtain ⟨vn, vl, h1, h2⟩ := h
  exact ⟨vn, vl, h1, h2.below hb⟩
theorem Events.below {l : List Event} (h : Events (· < B) w v l) (hb : Below B w w') : Events (· < B) w' v l := SliceOf.below h hb (fun _ _ h => h.below hb)
end

theorem SliceOf.mono {α : Type} {sz : Nat} {R R' : World → List Value → α → Prop} {p p' : Nat → Prop} {w : World} {v : Value} {l : List α} (h : SliceOf sz R p w v l) (hp : ∀ k, p k → p' k) (hR : ∀ cs a, R w cs a → R' w cs a) : SliceOf sz R' p' w v l := by
  rcases h with h | ⟨b, o, c, e, hb, hm, hc⟩
  · exact .inl h
  · refine .inr ⟨b, o, c, e, hp b hb, hm, fun j hj => ?_⟩
    obtain ⟨cs, h1, h2, h3⟩ := hc j hj
    exact ⟨cs, h1, h2, hR _ _ h3⟩
section
variable {p p' : Nat → Prop} {w : World} {v vn vl : Value}
theorem Pieces.mono {l : List Piece} (h : Pieces p w v l) (hp : ∀ k, p k → p' k) : Pieces p' w v l := SliceOf.mono h hp (fun _ _ h => h)
theorem Xattrs.mono {l : List Xattr} (h : Xattrs p w v l) (hp : ∀ k, p k → p' k) : Xattrs p' w v l := SliceOf.mono h hp (fun _ _ h => h)
theorem Nodes.mono {l : List Inode} (h : Nodes p w v l) (hp : ∀ k, p k → p' k) : Nodes p' w v l :=
  SliceOf.mono h hp (fun _ _ ⟨vp, vx, h1, h2, h3, h4⟩ => ⟨vp, vx, h1, h2, h3.mono hp, h4.mono hp⟩)
theorem Links.mono {l : List Link} (h : Links p w v l) (hp : ∀ k, p k → p' k) : Links p' w v l := SliceOf.mono h hp (fun _ _ h => h)
theorem StateR.mono {s : State} (h : StateR p w vn vl s) (hp : ∀ k, p k → p' k) : StateR p' w vn vl s := ⟨h.nodes.mono hp, h.links.mono hp⟩
theorem EventR.mono {cs : List Value} {e : Event} (h : EventR p w cs e) (hp : ∀ k, p k → p' k) : EventR p' w cs e := by
  obtain ⟨a, b, h1, h2⟩ := h
  exact ⟨a, b, h1, h2.mono hp⟩
theorem Events.mono {l : List Event} (h : Events p w v l) (hp : ∀ k, p k → p' k) : Events p' w v l := SliceOf.mono h hp (fun _ _ h => h.mono hp)
end
section
variable {w w' : World} {v vn vl : Value}
/-- what lies in a world lies in a later one -/
theorem StateR.on {s : State} (h : StateR (· < w.heap.size) w vn vl s) (hb : Below w.heap.size w w') : StateR (· < w'.heap.size) w' vn vl s :=
  (h.below hb).mono (fun k hk => Nat.lt_of_lt_of_le hk hb.size)
theorem Events.on {l : List Event} (h : Events (· < w.heap.size) w v l) (hb : Below w.heap.size w w') : Events (· < w'.heap.size) w' v l :=
  (h.below hb).mono (fun k hk => Nat.lt_of_lt_of_le hk hb.size)
theorem Nodes.on {l : List Inode} (h : Nodes (· < w.heap.size) w v l) (hb : Below w.heap.size w w') : Nodes (· < w'.heap.size) w' v l :=
  (h.below hb).mono (fun k hk => Nat.lt_of_lt_of_le hk hb.size)
theorem Links.on {l : List Link} (h : Links (· < w.heap.size) w v l) (hb : Below w.heap.size w w') : Links (· < w'.heap.size) w' v l :=
  (h.below hb).mono (fun k hk => Nat.lt_of_lt_of_le hk hb.size)
theorem Pieces.on {l : List Piece} (h : Pieces (· < w.heap.size) w v l) (hb : Below w.heap.size w w') : Pieces (· < w'.heap.size) w' v l :=
  (h.below hb).mono (fun k hk => Nat.lt_of_lt_of_le hk hb.size)
theorem Xattrs.on {l : List Xattr} (h : Xattrs (· < w.heap.size) w v l) (hb : Below w.heap.size w w') : Xattrs (· < w'.heap.size) w' v l :=
  (h.below hb).mono (fun k hk => Nat.lt_of_lt_of_le hk hb.size)
end

/-- an element's cells -/
theorem row_at {α : Type} {k : Nat} {R : World → List Value → α → Prop} {p : Nat → Prop} {w : World} {a : Option Addr} {c : Nat} {l : List α} (h : SliceOf k R p w (.slice a l.length c) l) (j : Nat) (hj : j < l.length) :
    ∃ (b o : Nat) (cs : List Value), a = some ⟨b, o, none⟩ ∧ p b ∧ R w cs l[j] ∧ w.rangeAt b (o + j * k) cs := by
  rcases h with ⟨rfl, _⟩ | ⟨b, o, c', e, hp, hm, hc⟩
  · simp at hj
  · injection e with e _ _
    subst e
    obtain ⟨cs, h1, h2, h3⟩ := hc j hj
    refine ⟨b, o, cs, rfl, hp, h3, fun i v hi => ?_⟩
    have hik : i < k := by rw [← h1]; exact (List.getElem?_eq_some_iff.1 hi).1
    rw [Nat.add_assoc, h2 i hik]
    exact hi
/-- the same slice, its length opened -/
theorem slice_form {α : Type} {k : Nat} {R : World → List Value → α → Prop} {p : Nat → Prop} {w : World} {v : Value} {l : List α} (h : SliceOf k R p w v l) : ∃ a c, v = .slice a l.length c ∧ l.length ≤ 9223372036854775807 := by
  obtain ⟨a, c, h1, h2, _⟩ := h.form
  exact ⟨a, c, h1, h2⟩
end Go.Proofs.YtehkhlmpkhnbmaaGreat.Mod
