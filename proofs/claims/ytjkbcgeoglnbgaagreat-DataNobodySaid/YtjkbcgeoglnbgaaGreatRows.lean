/-
  NARROWER THAN 'FOR EVERY INPUT', by the rows' own cells (each row's printed sentence says how): DataPoints: loops · DataLayouts: loops · DataNobody: loops · DataFills: loops · DataReads: loops · DataBack: loops.
  DERIVED. THE GIVEN ROWS OF THIS SEAT. 6 by the template 'for every input the law returns true; each argument reads behind the call as it read before'; 0 by the template 'total and deterministic' (their statements: YtjkbcgeoglnbgaaGreatTotals.lean).
  GIVEN WITH THE SEED: the statements are not yours to turn. If you find one false, say at which input.
  Laid BY PROGRAM, IN A SANDBOX (cutbox-rows.mjs): the forced cells as the released guide's own fill.sh prints them over the translation 119d2c6772ebb550… (all of the seat's roots in one cut). By AI agents, Wed Nov 11 2026. No macro, syntax, notation, axiom, sorry.
-/
import Derived.Test.YtjkbcgeoglnbgaaGreatChecked
import GoSem.Claim
import GoSem.ClaimJoined
import GoSem.ClaimMapViews
import Derived.JoinedTies
import Derived.KernelRfl
namespace Go.Proofs.YtjkbcgeoglnbgaaGreat
/- THE CELL 'sum', in the pinned program and in every row, IS THE sha256 OF THE DUMP (.gsa) THAT YtjkbcgeoglnbgaaGreatProg.lean LOADS. Nothing in Lean hashes anything: it is a label: what it is worth is what the hold of that sum in a sandbox is worth. -/
noncomputable def Tryz.pinned : Pinned := { name := "ytjkbcgeoglnbgaagreat", sum := "119d2c6772ebb55049adeb7b7563bdfb4c31056aaa5c2d6353fb714b2e0b0648", checked := Tryz.checked }
namespace Rows
def none {H : Type} : Left H := { results := [], args := [] }

/-- 'slabvaultlaw19.DataPoints': WHATEVER THE INPUT: true; the input reads as it did. -/
def dataPointsSpec : ChangeSpec := { name := "dataPoints", fn := fun _ => fun
  | [d1, d2, d3] => { results := [.lit (.bool true)], args := [d1, d2, d3] }
  | _ => none }
def dataPointsRow : OpenClaim := { program := "ytjkbcgeoglnbgaagreat", sum := "119d2c6772ebb55049adeb7b7563bdfb4c31056aaa5c2d6353fb714b2e0b0648", func := "slabvault/slabvaultlaw19.DataPoints", spec := "dataPoints", inPlace := ["internal/bytealg.IndexByteString", "internal/bytealg.IndexString", "slices.overlaps[byte]", "internal/bytealg.MakeNoZero", "math.Float32frombits", "math.Float64bits", "math.Float64frombits", "math.Float32bits", "math.archTrunc", "slices.overlaps[[]int]", "slices.overlaps[uint64]", "slices.overlaps[*slabvault/btree.node[[]int]]"], unfollowed := true, recurses := true, named := ["internal/bytealg.MaxLen"], loops := true, apart := false }
def DataPointsSaid : Prop := dataPointsRow.holds Tryz.pinned (OpenSpec.ofChange dataPointsSpec)

/-- ITS FALSE NEIGHBOUR: 'it returns false'. Refute it at one input. -/
def dataPointsWrong : ChangeSpec := { name := "dataPoints", fn := fun _ => fun
  | [d1, d2, d3] => { results := [.lit (.bool false)], args := [d1, d2, d3] }
  | _ => none }
def DataPointsWrongFalsely : Prop := dataPointsRow.holds Tryz.pinned (OpenSpec.ofChange dataPointsWrong)

/-- 'slabvaultlaw19.DataLayouts': WHATEVER THE INPUT: true; the input reads as it did. -/
def dataLayoutsSpec : ChangeSpec := { name := "dataLayouts", fn := fun _ => fun
  | [d1, d2, d3] => { results := [.lit (.bool true)], args := [d1, d2, d3] }
  | _ => none }
def dataLayoutsRow : OpenClaim := { program := "ytjkbcgeoglnbgaagreat", sum := "119d2c6772ebb55049adeb7b7563bdfb4c31056aaa5c2d6353fb714b2e0b0648", func := "slabvault/slabvaultlaw19.DataLayouts", spec := "dataLayouts", inPlace := ["internal/bytealg.IndexByteString", "internal/bytealg.IndexString", "slices.overlaps[byte]", "internal/bytealg.MakeNoZero", "math.Float32frombits", "math.Float64bits", "math.Float64frombits", "math.Float32bits", "math.archTrunc", "slices.overlaps[[]int]", "slices.overlaps[uint64]", "slices.overlaps[*slabvault/btree.node[[]int]]"], unfollowed := true, recurses := true, named := ["internal/bytealg.MaxLen"], loops := true, apart := false }
def DataLayoutsSaid : Prop := dataLayoutsRow.holds Tryz.pinned (OpenSpec.ofChange dataLayoutsSpec)

/-- ITS FALSE NEIGHBOUR: 'it returns false'. Refute it at one input. -/
def dataLayoutsWrong : ChangeSpec := { name := "dataLayouts", fn := fun _ => fun
  | [d1, d2, d3] => { results := [.lit (.bool false)], args := [d1, d2, d3] }
  | _ => none }
def DataLayoutsWrongFalsely : Prop := dataLayoutsRow.holds Tryz.pinned (OpenSpec.ofChange dataLayoutsWrong)

/-- 'slabvaultlaw19.DataNobody': WHATEVER THE INPUT: true; the input reads as it did. -/
def dataNobodySpec : ChangeSpec := { name := "dataNobody", fn := fun _ => fun
  | [d] => { results := [.lit (.bool true)], args := [d] }
  | _ => none }
def dataNobodyRow : OpenClaim := { program := "ytjkbcgeoglnbgaagreat", sum := "119d2c6772ebb55049adeb7b7563bdfb4c31056aaa5c2d6353fb714b2e0b0648", func := "slabvault/slabvaultlaw19.DataNobody", spec := "dataNobody", inPlace := ["internal/bytealg.IndexByteString", "internal/bytealg.IndexString", "math.Float32frombits", "math.Float64bits", "math.Float64frombits", "math.Float32bits", "math.archTrunc", "slices.overlaps[[]int]", "slices.overlaps[uint64]", "slices.overlaps[*slabvault/btree.node[[]int]]", "internal/bytealg.MakeNoZero", "slices.overlaps[byte]"], unfollowed := true, recurses := true, named := ["internal/bytealg.MaxLen"], loops := true, apart := false }
def DataNobodySaid : Prop := dataNobodyRow.holds Tryz.pinned (OpenSpec.ofChange dataNobodySpec)

/-- ITS FALSE NEIGHBOUR: 'it returns false'. Refute it at one input. -/
def dataNobodyWrong : ChangeSpec := { name := "dataNobody", fn := fun _ => fun
  | [d] => { results := [.lit (.bool false)], args := [d] }
  | _ => none }
def DataNobodyWrongFalsely : Prop := dataNobodyRow.holds Tryz.pinned (OpenSpec.ofChange dataNobodyWrong)

/-- 'slabvaultlaw19.DataFills': WHATEVER THE INPUT: true; the input reads as it did. -/
def dataFillsSpec : ChangeSpec := { name := "dataFills", fn := fun _ => fun
  | [d1, d2] => { results := [.lit (.bool true)], args := [d1, d2] }
  | _ => none }
def dataFillsRow : OpenClaim := { program := "ytjkbcgeoglnbgaagreat", sum := "119d2c6772ebb55049adeb7b7563bdfb4c31056aaa5c2d6353fb714b2e0b0648", func := "slabvault/slabvaultlaw19.DataFills", spec := "dataFills", inPlace := ["internal/bytealg.IndexByteString", "internal/bytealg.IndexString", "slices.overlaps[byte]", "internal/bytealg.MakeNoZero", "math.Float32frombits", "math.Float64bits", "math.Float64frombits", "math.Float32bits", "math.archTrunc", "slices.overlaps[[]int]", "slices.overlaps[uint64]", "slices.overlaps[*slabvault/btree.node[[]int]]"], unfollowed := true, recurses := true, named := ["internal/bytealg.MaxLen"], loops := true, apart := false }
def DataFillsSaid : Prop := dataFillsRow.holds Tryz.pinned (OpenSpec.ofChange dataFillsSpec)

/-- ITS FALSE NEIGHBOUR: 'it returns false'. Refute it at one input. -/
def dataFillsWrong : ChangeSpec := { name := "dataFills", fn := fun _ => fun
  | [d1, d2] => { results := [.lit (.bool false)], args := [d1, d2] }
  | _ => none }
def DataFillsWrongFalsely : Prop := dataFillsRow.holds Tryz.pinned (OpenSpec.ofChange dataFillsWrong)

/-- 'slabvaultlaw19.DataReads': WHATEVER THE INPUT: true; the input reads as it did. -/
def dataReadsSpec : ChangeSpec := { name := "dataReads", fn := fun _ => fun
  | [d1, d2, d3, d4] => { results := [.lit (.bool true)], args := [d1, d2, d3, d4] }
  | _ => none }
def dataReadsRow : OpenClaim := { program := "ytjkbcgeoglnbgaagreat", sum := "119d2c6772ebb55049adeb7b7563bdfb4c31056aaa5c2d6353fb714b2e0b0648", func := "slabvault/slabvaultlaw19.DataReads", spec := "dataReads", inPlace := ["internal/bytealg.IndexByteString", "internal/bytealg.IndexString", "slices.overlaps[byte]", "internal/bytealg.MakeNoZero", "math.Float32frombits", "math.Float64bits", "math.Float64frombits", "math.Float32bits", "math.archTrunc", "slices.overlaps[[]int]", "slices.overlaps[uint64]", "slices.overlaps[*slabvault/btree.node[[]int]]"], unfollowed := true, recurses := true, named := ["internal/bytealg.MaxLen"], loops := true, apart := false }
def DataReadsSaid : Prop := dataReadsRow.holds Tryz.pinned (OpenSpec.ofChange dataReadsSpec)

/-- ITS FALSE NEIGHBOUR: 'it returns false'. Refute it at one input. -/
def dataReadsWrong : ChangeSpec := { name := "dataReads", fn := fun _ => fun
  | [d1, d2, d3, d4] => { results := [.lit (.bool false)], args := [d1, d2, d3, d4] }
  | _ => none }
def DataReadsWrongFalsely : Prop := dataReadsRow.holds Tryz.pinned (OpenSpec.ofChange dataReadsWrong)

/-- 'slabvaultlaw19.DataBack': WHATEVER THE INPUT: true; the input reads as it did. -/
def dataBackSpec : ChangeSpec := { name := "dataBack", fn := fun _ => fun
  | [d1, d2, d3] => { results := [.lit (.bool true)], args := [d1, d2, d3] }
  | _ => none }
def dataBackRow : OpenClaim := { program := "ytjkbcgeoglnbgaagreat", sum := "119d2c6772ebb55049adeb7b7563bdfb4c31056aaa5c2d6353fb714b2e0b0648", func := "slabvault/slabvaultlaw19.DataBack", spec := "dataBack", inPlace := ["internal/bytealg.IndexByteString", "internal/bytealg.IndexString", "slices.overlaps[byte]", "internal/bytealg.MakeNoZero", "math.Float32frombits", "math.Float64bits", "math.Float64frombits", "math.Float32bits", "math.archTrunc", "slices.overlaps[[]int]", "slices.overlaps[uint64]", "slices.overlaps[*slabvault/btree.node[[]int]]"], unfollowed := true, recurses := true, named := ["internal/bytealg.MaxLen"], loops := true, apart := false }
def DataBackSaid : Prop := dataBackRow.holds Tryz.pinned (OpenSpec.ofChange dataBackSpec)

/-- ITS FALSE NEIGHBOUR: 'it returns false'. Refute it at one input. -/
def dataBackWrong : ChangeSpec := { name := "dataBack", fn := fun _ => fun
  | [d1, d2, d3] => { results := [.lit (.bool false)], args := [d1, d2, d3] }
  | _ => none }
def DataBackWrongFalsely : Prop := dataBackRow.holds Tryz.pinned (OpenSpec.ofChange dataBackWrong)

/- THE SECOND FORM. 'bulk': how many values and letters a reading holds, each counted each time it is reached (what is shared counts as often as it is met; a slice's spare places count too). A statement '..UptoSaid' is the law's where the arguments, and the package variables that the reading takes, are together of bulk at most 1048576: NARROWER than '..Said'. Prove '..Said' where nothing that the law and all that it calls make is longer than what came in: it says more and counts as full. Else prove '..UptoSaid'. A law counts once. -/
mutual
def uptoBulk {H : Type} : DataW H → Nat
  | .lit (.string bytes) => bytes.length + 1
  | .lit _ => 1
  | .nil => 1
  | .ptr d => uptoBulk d + 1
  | .slice elems spare => uptoBulkAll elems + uptoBulkAll spare + 1
  | .agg parts => uptoBulkAll parts + 1
  | .iface _ d => uptoBulk d + 1
  | .map entries => uptoBulkEntries entries + 1
  | .held _ => 1
def uptoBulkAll {H : Type} : List (DataW H) → Nat
  | [] => 0
  | d :: r => uptoBulk d + uptoBulkAll r
def uptoBulkEntries {H : Type} : List (Lit × DataW H) → Nat
  | [] => 0
  | x :: r => uptoBulkEntry x + uptoBulkEntries r
def uptoBulkEntry {H : Type} : Lit × DataW H → Nat
  | (.string bytes, d) => bytes.length + uptoBulk d + 1
  | (_, d) => uptoBulk d + 1
 end
def uptoSmall : (H : Type) → List (DataW H) → Bool := fun _ ds => decide (uptoBulkAll ds ≤ 1048576)
def OpenSpec.upto (s : _root_.Go.ChangeSpec) : _root_.Go.OpenSpec := { _root_.Go.OpenSpec.ofChange s with cond := some uptoSmall }

/-- 'slabvaultlaw19.DataPoints', WHERE WHAT IT READS IS OF BULK AT MOST 1048576: true; the input reads as it did. -/
def dataPointsUptoRow : OpenClaim := { program := "ytjkbcgeoglnbgaagreat", sum := "119d2c6772ebb55049adeb7b7563bdfb4c31056aaa5c2d6353fb714b2e0b0648", func := "slabvault/slabvaultlaw19.DataPoints", spec := "dataPoints", inPlace := ["internal/bytealg.IndexByteString", "internal/bytealg.IndexString", "slices.overlaps[byte]", "internal/bytealg.MakeNoZero", "math.Float32frombits", "math.Float64bits", "math.Float64frombits", "math.Float32bits", "math.archTrunc", "slices.overlaps[[]int]", "slices.overlaps[uint64]", "slices.overlaps[*slabvault/btree.node[[]int]]"], unfollowed := true, recurses := true, named := ["internal/bytealg.MaxLen"], loops := true, apart := false, narrowed := true }
def DataPointsUptoSaid : Prop := dataPointsUptoRow.holds Tryz.pinned (OpenSpec.upto dataPointsSpec)

/-- 'slabvaultlaw19.DataLayouts', WHERE WHAT IT READS IS OF BULK AT MOST 1048576: true; the input reads as it did. -/
def dataLayoutsUptoRow : OpenClaim := { program := "ytjkbcgeoglnbgaagreat", sum := "119d2c6772ebb55049adeb7b7563bdfb4c31056aaa5c2d6353fb714b2e0b0648", func := "slabvault/slabvaultlaw19.DataLayouts", spec := "dataLayouts", inPlace := ["internal/bytealg.IndexByteString", "internal/bytealg.IndexString", "slices.overlaps[byte]", "internal/bytealg.MakeNoZero", "math.Float32frombits", "math.Float64bits", "math.Float64frombits", "math.Float32bits", "math.archTrunc", "slices.overlaps[[]int]", "slices.overlaps[uint64]", "slices.overlaps[*slabvault/btree.node[[]int]]"], unfollowed := true, recurses := true, named := ["internal/bytealg.MaxLen"], loops := true, apart := false, narrowed := true }
def DataLayoutsUptoSaid : Prop := dataLayoutsUptoRow.holds Tryz.pinned (OpenSpec.upto dataLayoutsSpec)

/-- 'slabvaultlaw19.DataNobody', WHERE WHAT IT READS IS OF BULK AT MOST 1048576: true; the input reads as it did. -/
def dataNobodyUptoRow : OpenClaim := { program := "ytjkbcgeoglnbgaagreat", sum := "119d2c6772ebb55049adeb7b7563bdfb4c31056aaa5c2d6353fb714b2e0b0648", func := "slabvault/slabvaultlaw19.DataNobody", spec := "dataNobody", inPlace := ["internal/bytealg.IndexByteString", "internal/bytealg.IndexString", "math.Float32frombits", "math.Float64bits", "math.Float64frombits", "math.Float32bits", "math.archTrunc", "slices.overlaps[[]int]", "slices.overlaps[uint64]", "slices.overlaps[*slabvault/btree.node[[]int]]", "internal/bytealg.MakeNoZero", "slices.overlaps[byte]"], unfollowed := true, recurses := true, named := ["internal/bytealg.MaxLen"], loops := true, apart := false, narrowed := true }
def DataNobodyUptoSaid : Prop := dataNobodyUptoRow.holds Tryz.pinned (OpenSpec.upto dataNobodySpec)

/-- 'slabvaultlaw19.DataFills', WHERE WHAT IT READS IS OF BULK AT MOST 1048576: true; the input reads as it did. -/
def dataFillsUptoRow : OpenClaim := { program := "ytjkbcgeoglnbgaagreat", sum := "119d2c6772ebb55049adeb7b7563bdfb4c31056aaa5c2d6353fb714b2e0b0648", func := "slabvault/slabvaultlaw19.DataFills", spec := "dataFills", inPlace := ["internal/bytealg.IndexByteString", "internal/bytealg.IndexString", "slices.overlaps[byte]", "internal/bytealg.MakeNoZero", "math.Float32frombits", "math.Float64bits", "math.Float64frombits", "math.Float32bits", "math.archTrunc", "slices.overlaps[[]int]", "slices.overlaps[uint64]", "slices.overlaps[*slabvault/btree.node[[]int]]"], unfollowed := true, recurses := true, named := ["internal/bytealg.MaxLen"], loops := true, apart := false, narrowed := true }
def DataFillsUptoSaid : Prop := dataFillsUptoRow.holds Tryz.pinned (OpenSpec.upto dataFillsSpec)

/-- 'slabvaultlaw19.DataReads', WHERE WHAT IT READS IS OF BULK AT MOST 1048576: true; the input reads as it did. -/
def dataReadsUptoRow : OpenClaim := { program := "ytjkbcgeoglnbgaagreat", sum := "119d2c6772ebb55049adeb7b7563bdfb4c31056aaa5c2d6353fb714b2e0b0648", func := "slabvault/slabvaultlaw19.DataReads", spec := "dataReads", inPlace := ["internal/bytealg.IndexByteString", "internal/bytealg.IndexString", "slices.overlaps[byte]", "internal/bytealg.MakeNoZero", "math.Float32frombits", "math.Float64bits", "math.Float64frombits", "math.Float32bits", "math.archTrunc", "slices.overlaps[[]int]", "slices.overlaps[uint64]", "slices.overlaps[*slabvault/btree.node[[]int]]"], unfollowed := true, recurses := true, named := ["internal/bytealg.MaxLen"], loops := true, apart := false, narrowed := true }
def DataReadsUptoSaid : Prop := dataReadsUptoRow.holds Tryz.pinned (OpenSpec.upto dataReadsSpec)

/-- 'slabvaultlaw19.DataBack', WHERE WHAT IT READS IS OF BULK AT MOST 1048576: true; the input reads as it did. -/
def dataBackUptoRow : OpenClaim := { program := "ytjkbcgeoglnbgaagreat", sum := "119d2c6772ebb55049adeb7b7563bdfb4c31056aaa5c2d6353fb714b2e0b0648", func := "slabvault/slabvaultlaw19.DataBack", spec := "dataBack", inPlace := ["internal/bytealg.IndexByteString", "internal/bytealg.IndexString", "slices.overlaps[byte]", "internal/bytealg.MakeNoZero", "math.Float32frombits", "math.Float64bits", "math.Float64frombits", "math.Float32bits", "math.archTrunc", "slices.overlaps[[]int]", "slices.overlaps[uint64]", "slices.overlaps[*slabvault/btree.node[[]int]]"], unfollowed := true, recurses := true, named := ["internal/bytealg.MaxLen"], loops := true, apart := false, narrowed := true }
def DataBackUptoSaid : Prop := dataBackUptoRow.holds Tryz.pinned (OpenSpec.upto dataBackSpec)

end Rows
end Go.Proofs.YtjkbcgeoglnbgaaGreat
