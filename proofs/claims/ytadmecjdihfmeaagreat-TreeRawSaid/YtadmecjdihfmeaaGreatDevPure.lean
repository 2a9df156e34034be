/- Layer 5 in plain Lean: a device as numbers, marks and two functions. -/
import Derived.Test.YtadmecjdihfmeaaGreatMem
namespace Go.Proofs.YtadmecjdihfmeaaGreat.Dev
set_option linter.unusedVariables false
set_option linter.unusedSimpArgs false
open Go.RowKit Go.Proofs.YtadmecjdihfmeaaGreat.Mem

structure DevS where
  left : Int
  burns : Bool
  off : Bool
  n : Int
  kept : Int → Option ByteArray
  dirty : Int → Option ByteArray
def DevS.ok (S : DevS) : Prop := 0 ≤ S.left ∧ S.left ≤ 9223372036854775807 ∧ 8 ≤ S.n ∧ S.n ≤ 4096
def DevS.cells (S : DevS) (bk bd : Nat) : Array Value := #[.int .i64 S.left, .bool S.burns, .bool S.off, .int .i64 S.n, .map (some bk), .map (some bd)]

def DevS.new (n : Int) : DevS := ⟨0, false, false, n, fun _ => none, fun _ => none⟩
/-- an act; false: the power is off, or goes now -/
def DevS.spent (S : DevS) : Bool := !S.off && !(S.burns && S.left == 0)
def DevS.spend (S : DevS) : DevS := if S.off then S else if S.burns then (if S.left = 0 then { S with off := true } else { S with left := S.left - 1 }) else S
def DevS.inside (S : DevS) (i : Int) : Bool := decide (0 ≤ i) && decide (i < S.n)
def DevS.writeE (S : DevS) (i : Int) (s : ByteArray) : Int := if S.off then 5 else if S.inside i && decide (s.size ≤ 4096) then (if S.spent then 0 else 5) else 22
def DevS.write (S : DevS) (i : Int) (s : ByteArray) : DevS := if S.off then S else if S.inside i && decide (s.size ≤ 4096) then (if S.spent then { S.spend with dirty := upd S.dirty i (some s) } else S.spend) else S
/-- what is kept, with what was written over it -/
def over (d k : Int → Option ByteArray) : Int → Option ByteArray := fun i => match d i with | some s => some s | none => k i
def DevS.flushE (S : DevS) : Int := if S.spent then 0 else 5
def DevS.flush (S : DevS) : DevS := if S.spent then { S.spend with kept := over S.dirty S.kept, dirty := fun _ => none } else S.spend
def text (o : Option ByteArray) : ByteArray := match o with | some s => s | none => ⟨#[]⟩
def DevS.readE (S : DevS) (i : Int) : Int := if S.off then 5 else if S.inside i then 0 else 22
def DevS.read (S : DevS) (i : Int) : ByteArray := if S.off then ⟨#[]⟩ else if S.inside i then text (over S.dirty S.kept i) else ⟨#[]⟩
def DevS.fuseE (S : DevS) : Int := if S.off then 5 else 0
def DevS.fuse (S : DevS) (n : Int) : DevS := if S.off then S else { S with left := (if n ≤ 0 then 0 else n), burns := decide (0 ≤ n) }
/-- what is kept behind a crash -/
def saved (keep : List Int) (d k : Int → Option ByteArray) : Int → Option ByteArray := fun i => if i ∈ keep then over d k i else k i
def DevS.crash (S : DevS) (keep : List Int) : DevS := { S with left := 0, burns := false, off := true, kept := saved keep S.dirty S.kept, dirty := fun _ => none }
def DevS.start (S : DevS) : DevS := if S.off then { S with left := 0, burns := false, off := false, dirty := fun _ => none } else S

/-- what a device has, with power -/
def DevS.blocks (S : DevS) : List ByteArray := (List.range S.n.toNat).map fun (i : Nat) => S.start.read (i : Int)

theorem DevS.new_ok {n : Int} (h : 8 ≤ n ∧ n ≤ 4096) : (DevS.new n).ok := ⟨by simp [new], by simp [new], h.1, h.2⟩
theorem DevS.spend_ok {S : DevS} (h : S.ok) : S.spend.ok := by
  obtain ⟨h1, h2, h3, h4⟩ := h
  unfold spend
  split
  · exact ⟨h1, h2, h3, h4⟩
  · split
    · split
      · exact ⟨h1, h2, h3, h4⟩
      · exact ⟨by show 0 ≤ S.left - 1; omega, by show S.left - 1 ≤ _; omega, h3, h4⟩
    · exact ⟨h1, h2, h3, h4⟩
theorem DevS.spend_dirty (S : DevS) : S.spend.dirty = S.dirty := by unfold spend; split; rfl; split; split; rfl; rfl; rfl
theorem DevS.spend_kept (S : DevS) : S.spend.kept = S.kept := by unfold spend; split; rfl; split; split; rfl; rfl; rfl
theorem DevS.spend_n (S : DevS) : S.spend.n = S.n := by unfold spend; split; rfl; split; split; rfl; rfl; rfl
theorem saved_nil (d k : Int → Option ByteArray) : saved [] d k = k := by funext i; simp [saved]
theorem saved_some (l : List Int) (x : Int) (d k : Int → Option ByteArray) (s : ByteArray) (h : d x = some s) : saved (l ++ [x]) d k = upd (saved l d k) x (some s) := by
  funext i
  by_cases hi : i = x
  · subst hi; simp [saved, upd, over, h]
  · simp [saved, upd, hi]
theorem saved_none (l : List Int) (x : Int) (d k : Int → Option ByteArray) (h : d x = none) : saved (l ++ [x]) d k = saved l d k := by
  funext i
  by_cases hi : i = x
  · subst hi; simp [saved, over, h]
  · simp [saved, hi]
end Go.Proofs.YtadmecjdihfmeaaGreat.Dev
