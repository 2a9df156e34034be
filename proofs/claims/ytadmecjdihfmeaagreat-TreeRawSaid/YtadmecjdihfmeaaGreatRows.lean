/-
  No cell of these rows narrows 'for every input' (looked for: loops, veiled, ifaces, maps, wideKeys, modest, calm, conditions, laid).
  DERIVED. THE GIVEN ROWS OF THIS SEAT. 7 by the template 'for every input the law returns true; each argument reads behind the call as it read before'; 0 by the template 'total and deterministic' (their statements: YtadmecjdihfmeaaGreatTotals.lean).
  GIVEN WITH THE SEED: the statements are not yours to turn. If you find one false, say at which input.
  Laid BY PROGRAM, IN A SANDBOX (cutbox-rows.mjs): the forced cells as the released guide's own fill.sh prints them over the translation bd5926e4e8a38552… (all of the seat's roots in one cut). By AI agents, Wed Nov 11 2026. No macro, syntax, notation, axiom, sorry.
-/
import Derived.Test.YtadmecjdihfmeaaGreatChecked
import GoSem.Claim
import GoSem.ClaimJoined
import GoSem.ClaimMapViews
import Derived.JoinedTies
import Derived.KernelRfl
namespace Go.Proofs.YtadmecjdihfmeaaGreat
/- THE CELL 'sum', in the pinned program and in every row, IS THE sha256 OF THE DUMP (.gsa) THAT YtadmecjdihfmeaaGreatProg.lean LOADS. Nothing in Lean hashes anything: it is a label: what it is worth is what the hold of that sum in a sandbox is worth. -/
noncomputable def Tryz.pinned : Pinned := { name := "ytadmecjdihfmeaagreat", sum := "bd5926e4e8a38552fc7266d42be88c7f3ccde0df32766c50e754b6bfae3e8c52", checked := Tryz.checked }
namespace Rows
def none {H : Type} : Left H := { results := [], args := [] }

/-- 'crannoglaw07.TreeLow': WHATEVER THE INPUT: true; the input reads as it did. -/
def treeLowSpec : ChangeSpec := { name := "treeLow", fn := fun _ => fun
  | [d] => { results := [.lit (.bool true)], args := [d] }
  | _ => none }
def treeLowRow : OpenClaim := { program := "ytadmecjdihfmeaagreat", sum := "bd5926e4e8a38552fc7266d42be88c7f3ccde0df32766c50e754b6bfae3e8c52", func := "crannog/crannoglaw07.TreeLow", spec := "treeLow", unfollowed := true, recurses := true, apart := false }
def TreeLowSaid : Prop := treeLowRow.holds Tryz.pinned (OpenSpec.ofChange treeLowSpec)

/-- ITS FALSE NEIGHBOUR: 'it returns false'. Refute it at one input. -/
def treeLowWrong : ChangeSpec := { name := "treeLow", fn := fun _ => fun
  | [d] => { results := [.lit (.bool false)], args := [d] }
  | _ => none }
def TreeLowWrongFalsely : Prop := treeLowRow.holds Tryz.pinned (OpenSpec.ofChange treeLowWrong)

/-- 'crannoglaw07.TreeOpens': WHATEVER THE INPUT: true; the input reads as it did. -/
def treeOpensSpec : ChangeSpec := { name := "treeOpens", fn := fun _ => fun
  | [d] => { results := [.lit (.bool true)], args := [d] }
  | _ => none }
def treeOpensRow : OpenClaim := { program := "ytadmecjdihfmeaagreat", sum := "bd5926e4e8a38552fc7266d42be88c7f3ccde0df32766c50e754b6bfae3e8c52", func := "crannog/crannoglaw07.TreeOpens", spec := "treeOpens", unfollowed := true, recurses := true, apart := false }
def TreeOpensSaid : Prop := treeOpensRow.holds Tryz.pinned (OpenSpec.ofChange treeOpensSpec)

/-- ITS FALSE NEIGHBOUR: 'it returns false'. Refute it at one input. -/
def treeOpensWrong : ChangeSpec := { name := "treeOpens", fn := fun _ => fun
  | [d] => { results := [.lit (.bool false)], args := [d] }
  | _ => none }
def TreeOpensWrongFalsely : Prop := treeOpensRow.holds Tryz.pinned (OpenSpec.ofChange treeOpensWrong)

/-- 'crannoglaw07.TreePlays': WHATEVER THE INPUT: true; the input reads as it did. -/
def treePlaysSpec : ChangeSpec := { name := "treePlays", fn := fun _ => fun
  | [d] => { results := [.lit (.bool true)], args := [d] }
  | _ => none }
def treePlaysRow : OpenClaim := { program := "ytadmecjdihfmeaagreat", sum := "bd5926e4e8a38552fc7266d42be88c7f3ccde0df32766c50e754b6bfae3e8c52", func := "crannog/crannoglaw07.TreePlays", spec := "treePlays", unfollowed := true, recurses := true, apart := false }
def TreePlaysSaid : Prop := treePlaysRow.holds Tryz.pinned (OpenSpec.ofChange treePlaysSpec)

/-- ITS FALSE NEIGHBOUR: 'it returns false'. Refute it at one input. -/
def treePlaysWrong : ChangeSpec := { name := "treePlays", fn := fun _ => fun
  | [d] => { results := [.lit (.bool false)], args := [d] }
  | _ => none }
def TreePlaysWrongFalsely : Prop := treePlaysRow.holds Tryz.pinned (OpenSpec.ofChange treePlaysWrong)

/-- 'crannoglaw07.TreeRanges': WHATEVER THE INPUT: true; the input reads as it did. -/
def treeRangesSpec : ChangeSpec := { name := "treeRanges", fn := fun _ => fun
  | [d1, d2, d3, d4] => { results := [.lit (.bool true)], args := [d1, d2, d3, d4] }
  | _ => none }
def treeRangesRow : OpenClaim := { program := "ytadmecjdihfmeaagreat", sum := "bd5926e4e8a38552fc7266d42be88c7f3ccde0df32766c50e754b6bfae3e8c52", func := "crannog/crannoglaw07.TreeRanges", spec := "treeRanges", unfollowed := true, recurses := true, apart := false }
def TreeRangesSaid : Prop := treeRangesRow.holds Tryz.pinned (OpenSpec.ofChange treeRangesSpec)

/-- ITS FALSE NEIGHBOUR: 'it returns false'. Refute it at one input. -/
def treeRangesWrong : ChangeSpec := { name := "treeRanges", fn := fun _ => fun
  | [d1, d2, d3, d4] => { results := [.lit (.bool false)], args := [d1, d2, d3, d4] }
  | _ => none }
def TreeRangesWrongFalsely : Prop := treeRangesRow.holds Tryz.pinned (OpenSpec.ofChange treeRangesWrong)

/-- 'crannoglaw07.TreeStays': WHATEVER THE INPUT: true; the input reads as it did. -/
def treeStaysSpec : ChangeSpec := { name := "treeStays", fn := fun _ => fun
  | [d1, d2] => { results := [.lit (.bool true)], args := [d1, d2] }
  | _ => none }
def treeStaysRow : OpenClaim := { program := "ytadmecjdihfmeaagreat", sum := "bd5926e4e8a38552fc7266d42be88c7f3ccde0df32766c50e754b6bfae3e8c52", func := "crannog/crannoglaw07.TreeStays", spec := "treeStays", unfollowed := true, recurses := true, apart := false }
def TreeStaysSaid : Prop := treeStaysRow.holds Tryz.pinned (OpenSpec.ofChange treeStaysSpec)

/-- ITS FALSE NEIGHBOUR: 'it returns false'. Refute it at one input. -/
def treeStaysWrong : ChangeSpec := { name := "treeStays", fn := fun _ => fun
  | [d1, d2] => { results := [.lit (.bool false)], args := [d1, d2] }
  | _ => none }
def TreeStaysWrongFalsely : Prop := treeStaysRow.holds Tryz.pinned (OpenSpec.ofChange treeStaysWrong)

/-- 'crannoglaw07.TreeCosts': WHATEVER THE INPUT: true; the input reads as it did. -/
def treeCostsSpec : ChangeSpec := { name := "treeCosts", fn := fun _ => fun
  | [d1, d2] => { results := [.lit (.bool true)], args := [d1, d2] }
  | _ => none }
def treeCostsRow : OpenClaim := { program := "ytadmecjdihfmeaagreat", sum := "bd5926e4e8a38552fc7266d42be88c7f3ccde0df32766c50e754b6bfae3e8c52", func := "crannog/crannoglaw07.TreeCosts", spec := "treeCosts", unfollowed := true, recurses := true, apart := false }
def TreeCostsSaid : Prop := treeCostsRow.holds Tryz.pinned (OpenSpec.ofChange treeCostsSpec)

/-- ITS FALSE NEIGHBOUR: 'it returns false'. Refute it at one input. -/
def treeCostsWrong : ChangeSpec := { name := "treeCosts", fn := fun _ => fun
  | [d1, d2] => { results := [.lit (.bool false)], args := [d1, d2] }
  | _ => none }
def TreeCostsWrongFalsely : Prop := treeCostsRow.holds Tryz.pinned (OpenSpec.ofChange treeCostsWrong)

/-- 'crannoglaw07.TreeRaw': WHATEVER THE INPUT: true; the input reads as it did. -/
def treeRawSpec : ChangeSpec := { name := "treeRaw", fn := fun _ => fun
  | [d1, d2, d3, d4] => { results := [.lit (.bool true)], args := [d1, d2, d3, d4] }
  | _ => none }
def treeRawRow : OpenClaim := { program := "ytadmecjdihfmeaagreat", sum := "bd5926e4e8a38552fc7266d42be88c7f3ccde0df32766c50e754b6bfae3e8c52", func := "crannog/crannoglaw07.TreeRaw", spec := "treeRaw", unfollowed := true, recurses := true, apart := false }
def TreeRawSaid : Prop := treeRawRow.holds Tryz.pinned (OpenSpec.ofChange treeRawSpec)

/-- ITS FALSE NEIGHBOUR: 'it returns false'. Refute it at one input. -/
def treeRawWrong : ChangeSpec := { name := "treeRaw", fn := fun _ => fun
  | [d1, d2, d3, d4] => { results := [.lit (.bool false)], args := [d1, d2, d3, d4] }
  | _ => none }
def TreeRawWrongFalsely : Prop := treeRawRow.holds Tryz.pinned (OpenSpec.ofChange treeRawWrong)

/- THE SECOND FORM. 'bulk': how many values and letters a reading holds, each counted each time it is reached (what is shared counts as often as it is met; a slice's spare places count too). A statement '..UptoSaid' is the law's where the arguments, and the package variables that the reading takes, are together of bulk at most 1048576: NARROWER than '..Said'. Prove '..Said' where nothing that the law and all that it calls make is longer than what came in: it says more and counts as full. Else prove '..UptoSaid'. A law counts once. -/
mutual
def uptoBulk {H : Type} : DataW H → Nat
  | .lit (.string bytes) => bytes.length + 1
  | .lit _ => 1
  | .nil => 1
  | .ptr d => uptoBulk d + 1
  | .slice elems spare => uptoBulkAll elems + uptoBulkAll spare + 1
  | .agg parts => uptoBulkAll parts + 1
  | .iface _ d => uptoBulk d + 1
  | .map entries => uptoBulkEntries entries + 1
  | .held _ => 1
def uptoBulkAll {H : Type} : List (DataW H) → Nat
  | [] => 0
  | d :: r => uptoBulk d + uptoBulkAll r
def uptoBulkEntries {H : Type} : List (Lit × DataW H) → Nat
  | [] => 0
  | x :: r => uptoBulkEntry x + uptoBulkEntries r
def uptoBulkEntry {H : Type} : Lit × DataW H → Nat
  | (.string bytes, d) => bytes.length + uptoBulk d + 1
  | (_, d) => uptoBulk d + 1
 end
def uptoSmall : (H : Type) → List (DataW H) → Bool := fun _ ds => decide (uptoBulkAll ds ≤ 1048576)
def OpenSpec.upto (s : _root_.Go.ChangeSpec) : _root_.Go.OpenSpec := { _root_.Go.OpenSpec.ofChange s with cond := some uptoSmall }

/-- 'crannoglaw07.TreeLow', WHERE WHAT IT READS IS OF BULK AT MOST 1048576: true; the input reads as it did. -/
def treeLowUptoRow : OpenClaim := { program := "ytadmecjdihfmeaagreat", sum := "bd5926e4e8a38552fc7266d42be88c7f3ccde0df32766c50e754b6bfae3e8c52", func := "crannog/crannoglaw07.TreeLow", spec := "treeLow", unfollowed := true, recurses := true, apart := false, narrowed := true }
def TreeLowUptoSaid : Prop := treeLowUptoRow.holds Tryz.pinned (OpenSpec.upto treeLowSpec)

/-- 'crannoglaw07.TreeOpens', WHERE WHAT IT READS IS OF BULK AT MOST 1048576: true; the input reads as it did. -/
def treeOpensUptoRow : OpenClaim := { program := "ytadmecjdihfmeaagreat", sum := "bd5926e4e8a38552fc7266d42be88c7f3ccde0df32766c50e754b6bfae3e8c52", func := "crannog/crannoglaw07.TreeOpens", spec := "treeOpens", unfollowed := true, recurses := true, apart := false, narrowed := true }
def TreeOpensUptoSaid : Prop := treeOpensUptoRow.holds Tryz.pinned (OpenSpec.upto treeOpensSpec)

/-- 'crannoglaw07.TreePlays', WHERE WHAT IT READS IS OF BULK AT MOST 1048576: true; the input reads as it did. -/
def treePlaysUptoRow : OpenClaim := { program := "ytadmecjdihfmeaagreat", sum := "bd5926e4e8a38552fc7266d42be88c7f3ccde0df32766c50e754b6bfae3e8c52", func := "crannog/crannoglaw07.TreePlays", spec := "treePlays", unfollowed := true, recurses := true, apart := false, narrowed := true }
def TreePlaysUptoSaid : Prop := treePlaysUptoRow.holds Tryz.pinned (OpenSpec.upto treePlaysSpec)

/-- 'crannoglaw07.TreeRanges', WHERE WHAT IT READS IS OF BULK AT MOST 1048576: true; the input reads as it did. -/
def treeRangesUptoRow : OpenClaim := { program := "ytadmecjdihfmeaagreat", sum := "bd5926e4e8a38552fc7266d42be88c7f3ccde0df32766c50e754b6bfae3e8c52", func := "crannog/crannoglaw07.TreeRanges", spec := "treeRanges", unfollowed := true, recurses := true, apart := false, narrowed := true }
def TreeRangesUptoSaid : Prop := treeRangesUptoRow.holds Tryz.pinned (OpenSpec.upto treeRangesSpec)

/-- 'crannoglaw07.TreeStays', WHERE WHAT IT READS IS OF BULK AT MOST 1048576: true; the input reads as it did. -/
def treeStaysUptoRow : OpenClaim := { program := "ytadmecjdihfmeaagreat", sum := "bd5926e4e8a38552fc7266d42be88c7f3ccde0df32766c50e754b6bfae3e8c52", func := "crannog/crannoglaw07.TreeStays", spec := "treeStays", unfollowed := true, recurses := true, apart := false, narrowed := true }
def TreeStaysUptoSaid : Prop := treeStaysUptoRow.holds Tryz.pinned (OpenSpec.upto treeStaysSpec)

/-- 'crannoglaw07.TreeCosts', WHERE WHAT IT READS IS OF BULK AT MOST 1048576: true; the input reads as it did. -/
def treeCostsUptoRow : OpenClaim := { program := "ytadmecjdihfmeaagreat", sum := "bd5926e4e8a38552fc7266d42be88c7f3ccde0df32766c50e754b6bfae3e8c52", func := "crannog/crannoglaw07.TreeCosts", spec := "treeCosts", unfollowed := true, recurses := true, apart := false, narrowed := true }
def TreeCostsUptoSaid : Prop := treeCostsUptoRow.holds Tryz.pinned (OpenSpec.upto treeCostsSpec)

/-- 'crannoglaw07.TreeRaw', WHERE WHAT IT READS IS OF BULK AT MOST 1048576: true; the input reads as it did. -/
def treeRawUptoRow : OpenClaim := { program := "ytadmecjdihfmeaagreat", sum := "bd5926e4e8a38552fc7266d42be88c7f3ccde0df32766c50e754b6bfae3e8c52", func := "crannog/crannoglaw07.TreeRaw", spec := "treeRaw", unfollowed := true, recurses := true, apart := false, narrowed := true }
def TreeRawUptoSaid : Prop := treeRawUptoRow.holds Tryz.pinned (OpenSpec.upto treeRawSpec)

end Rows
end Go.Proofs.YtadmecjdihfmeaaGreat
