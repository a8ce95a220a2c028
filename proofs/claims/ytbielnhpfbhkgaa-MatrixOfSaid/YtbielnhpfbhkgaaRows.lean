/-
  No cell of these rows narrows 'for every input' (looked for: loops, veiled, ifaces, maps, wideKeys, modest, calm, conditions, laid).
  DERIVED. THE GIVEN ROWS OF THIS SEAT. 10 by the template 'for every input the law returns true; each argument reads behind the call as it read before'; 0 by the template 'total and deterministic' (their statements: YtbielnhpfbhkgaaTotals.lean).
  GIVEN WITH THE SEED: the statements are not yours to turn. If you find one false, say at which input.
  Laid BY PROGRAM, IN A SANDBOX (cutbox-rows.mjs): the forced cells as the released guide's own fill.sh prints them over the translation 4e4b02ef2925e562… (all of the seat's roots in one cut). By AI agents, Wed Nov 11 2026. No macro, syntax, notation, axiom, sorry.
-/
import Derived.Test.YtbielnhpfbhkgaaChecked
import GoSem.Claim
import GoSem.ClaimJoined
import GoSem.ClaimMapViews
import Derived.JoinedTies
import Derived.KernelRfl
namespace Go.Proofs.Ytbielnhpfbhkgaa
/- THE CELL 'sum', in the pinned program and in every row, IS THE sha256 OF THE DUMP (.gsa) THAT YtbielnhpfbhkgaaProg.lean LOADS. Nothing in Lean hashes anything: it is a label: what it is worth is what the hold of that sum in a sandbox is worth. -/
noncomputable def Try.pinned : Pinned := { name := "ytbielnhpfbhkgaa", sum := "4e4b02ef2925e562a378cba82fba9093445d08b150ca284dc0b2687fe839eff9", checked := Try.checked }
namespace Rows
def none {H : Type} : Left H := { results := [], args := [] }

/-- 'waymarklaw03.DiskClones': WHATEVER THE INPUT: true; the input reads as it did. -/
def diskClonesSpec : ChangeSpec := { name := "diskClones", fn := fun _ => fun
  | [d1, d2] => { results := [.lit (.bool true)], args := [d1, d2] }
  | _ => none }
def diskClonesRow : OpenClaim := { program := "ytbielnhpfbhkgaa", sum := "4e4b02ef2925e562a378cba82fba9093445d08b150ca284dc0b2687fe839eff9", func := "waymark/waymarklaw03.DiskClones", spec := "diskClones", inPlace := ["maps.clone"], unfollowed := true, recurses := true, plainKeys := false, apart := false }
def DiskClonesSaid : Prop := diskClonesRow.holds Try.pinned (OpenSpec.ofChange diskClonesSpec)

/-- ITS FALSE NEIGHBOUR: 'it returns false'. Refute it at one input. -/
def diskClonesWrong : ChangeSpec := { name := "diskClones", fn := fun _ => fun
  | [d1, d2] => { results := [.lit (.bool false)], args := [d1, d2] }
  | _ => none }
def DiskClonesWrongFalsely : Prop := diskClonesRow.holds Try.pinned (OpenSpec.ofChange diskClonesWrong)

/-- 'waymarklaw49.FlowCuts': WHATEVER THE INPUT: true; the input reads as it did. -/
def flowCutsSpec : ChangeSpec := { name := "flowCuts", fn := fun _ => fun
  | [d1, d2, d3] => { results := [.lit (.bool true)], args := [d1, d2, d3] }
  | _ => none }
def flowCutsRow : OpenClaim := { program := "ytbielnhpfbhkgaa", sum := "4e4b02ef2925e562a378cba82fba9093445d08b150ca284dc0b2687fe839eff9", func := "waymark/waymarklaw49.FlowCuts", spec := "flowCuts", unfollowed := true, recurses := true, plainKeys := false, apart := false }
def FlowCutsSaid : Prop := flowCutsRow.holds Try.pinned (OpenSpec.ofChange flowCutsSpec)

/-- ITS FALSE NEIGHBOUR: 'it returns false'. Refute it at one input. -/
def flowCutsWrong : ChangeSpec := { name := "flowCuts", fn := fun _ => fun
  | [d1, d2, d3] => { results := [.lit (.bool false)], args := [d1, d2, d3] }
  | _ => none }
def FlowCutsWrongFalsely : Prop := flowCutsRow.holds Try.pinned (OpenSpec.ofChange flowCutsWrong)

/-- 'waymarklaw47.MatrixOf': WHATEVER THE INPUT: true; the input reads as it did. -/
def matrixOfSpec : ChangeSpec := { name := "matrixOf", fn := fun _ => fun
  | [d] => { results := [.lit (.bool true)], args := [d] }
  | _ => none }
def matrixOfRow : OpenClaim := { program := "ytbielnhpfbhkgaa", sum := "4e4b02ef2925e562a378cba82fba9093445d08b150ca284dc0b2687fe839eff9", func := "waymark/waymarklaw47.MatrixOf", spec := "matrixOf", unfollowed := true, recurses := true, plainKeys := false, apart := false }
def MatrixOfSaid : Prop := matrixOfRow.holds Try.pinned (OpenSpec.ofChange matrixOfSpec)

/-- ITS FALSE NEIGHBOUR: 'it returns false'. Refute it at one input. -/
def matrixOfWrong : ChangeSpec := { name := "matrixOf", fn := fun _ => fun
  | [d] => { results := [.lit (.bool false)], args := [d] }
  | _ => none }
def MatrixOfWrongFalsely : Prop := matrixOfRow.holds Try.pinned (OpenSpec.ofChange matrixOfWrong)

/-- 'waymarklaw48.KpathPaths': WHATEVER THE INPUT: true; the input reads as it did. -/
def kpathPathsSpec : ChangeSpec := { name := "kpathPaths", fn := fun _ => fun
  | [d1, d2] => { results := [.lit (.bool true)], args := [d1, d2] }
  | _ => none }
def kpathPathsRow : OpenClaim := { program := "ytbielnhpfbhkgaa", sum := "4e4b02ef2925e562a378cba82fba9093445d08b150ca284dc0b2687fe839eff9", func := "waymark/waymarklaw48.KpathPaths", spec := "kpathPaths", unfollowed := true, recurses := true, plainKeys := false, apart := false }
def KpathPathsSaid : Prop := kpathPathsRow.holds Try.pinned (OpenSpec.ofChange kpathPathsSpec)

/-- ITS FALSE NEIGHBOUR: 'it returns false'. Refute it at one input. -/
def kpathPathsWrong : ChangeSpec := { name := "kpathPaths", fn := fun _ => fun
  | [d1, d2] => { results := [.lit (.bool false)], args := [d1, d2] }
  | _ => none }
def KpathPathsWrongFalsely : Prop := kpathPathsRow.holds Try.pinned (OpenSpec.ofChange kpathPathsWrong)

/-- 'waymarklaw39.BridgeFinds': WHATEVER THE INPUT: true; the input reads as it did. -/
def bridgeFindsSpec : ChangeSpec := { name := "bridgeFinds", fn := fun _ => fun
  | [d] => { results := [.lit (.bool true)], args := [d] }
  | _ => none }
def bridgeFindsRow : OpenClaim := { program := "ytbielnhpfbhkgaa", sum := "4e4b02ef2925e562a378cba82fba9093445d08b150ca284dc0b2687fe839eff9", func := "waymark/waymarklaw39.BridgeFinds", spec := "bridgeFinds", inPlace := ["maps.clone"], unfollowed := true, recurses := true, plainKeys := false, apart := false }
def BridgeFindsSaid : Prop := bridgeFindsRow.holds Try.pinned (OpenSpec.ofChange bridgeFindsSpec)

/-- ITS FALSE NEIGHBOUR: 'it returns false'. Refute it at one input. -/
def bridgeFindsWrong : ChangeSpec := { name := "bridgeFinds", fn := fun _ => fun
  | [d] => { results := [.lit (.bool false)], args := [d] }
  | _ => none }
def BridgeFindsWrongFalsely : Prop := bridgeFindsRow.holds Try.pinned (OpenSpec.ofChange bridgeFindsWrong)

/-- 'waymarklaw39.BridgePieces': WHATEVER THE INPUT: true; the input reads as it did. -/
def bridgePiecesSpec : ChangeSpec := { name := "bridgePieces", fn := fun _ => fun
  | [d] => { results := [.lit (.bool true)], args := [d] }
  | _ => none }
def bridgePiecesRow : OpenClaim := { program := "ytbielnhpfbhkgaa", sum := "4e4b02ef2925e562a378cba82fba9093445d08b150ca284dc0b2687fe839eff9", func := "waymark/waymarklaw39.BridgePieces", spec := "bridgePieces", inPlace := ["maps.clone"], unfollowed := true, recurses := true, plainKeys := false, apart := false }
def BridgePiecesSaid : Prop := bridgePiecesRow.holds Try.pinned (OpenSpec.ofChange bridgePiecesSpec)

/-- ITS FALSE NEIGHBOUR: 'it returns false'. Refute it at one input. -/
def bridgePiecesWrong : ChangeSpec := { name := "bridgePieces", fn := fun _ => fun
  | [d] => { results := [.lit (.bool false)], args := [d] }
  | _ => none }
def BridgePiecesWrongFalsely : Prop := bridgePiecesRow.holds Try.pinned (OpenSpec.ofChange bridgePiecesWrong)

/-- 'waymarklaw36.EcmpAll': WHATEVER THE INPUT: true; the input reads as it did. -/
def ecmpAllSpec : ChangeSpec := { name := "ecmpAll", fn := fun _ => fun
  | [d1, d2] => { results := [.lit (.bool true)], args := [d1, d2] }
  | _ => none }
def ecmpAllRow : OpenClaim := { program := "ytbielnhpfbhkgaa", sum := "4e4b02ef2925e562a378cba82fba9093445d08b150ca284dc0b2687fe839eff9", func := "waymark/waymarklaw36.EcmpAll", spec := "ecmpAll", unfollowed := true, recurses := true, plainKeys := false, apart := false }
def EcmpAllSaid : Prop := ecmpAllRow.holds Try.pinned (OpenSpec.ofChange ecmpAllSpec)

/-- ITS FALSE NEIGHBOUR: 'it returns false'. Refute it at one input. -/
def ecmpAllWrong : ChangeSpec := { name := "ecmpAll", fn := fun _ => fun
  | [d1, d2] => { results := [.lit (.bool false)], args := [d1, d2] }
  | _ => none }
def EcmpAllWrongFalsely : Prop := ecmpAllRow.holds Try.pinned (OpenSpec.ofChange ecmpAllWrong)

/-- 'waymarklaw36.EcmpLeast': WHATEVER THE INPUT: true; the input reads as it did. -/
def ecmpLeastSpec : ChangeSpec := { name := "ecmpLeast", fn := fun _ => fun
  | [d1, d2, d3] => { results := [.lit (.bool true)], args := [d1, d2, d3] }
  | _ => none }
def ecmpLeastRow : OpenClaim := { program := "ytbielnhpfbhkgaa", sum := "4e4b02ef2925e562a378cba82fba9093445d08b150ca284dc0b2687fe839eff9", func := "waymark/waymarklaw36.EcmpLeast", spec := "ecmpLeast", unfollowed := true, recurses := true, plainKeys := false, apart := false }
def EcmpLeastSaid : Prop := ecmpLeastRow.holds Try.pinned (OpenSpec.ofChange ecmpLeastSpec)

/-- ITS FALSE NEIGHBOUR: 'it returns false'. Refute it at one input. -/
def ecmpLeastWrong : ChangeSpec := { name := "ecmpLeast", fn := fun _ => fun
  | [d1, d2, d3] => { results := [.lit (.bool false)], args := [d1, d2, d3] }
  | _ => none }
def EcmpLeastWrongFalsely : Prop := ecmpLeastRow.holds Try.pinned (OpenSpec.ofChange ecmpLeastWrong)

/-- 'waymarklaw48.KpathFirst': WHATEVER THE INPUT: true; the input reads as it did. -/
def kpathFirstSpec : ChangeSpec := { name := "kpathFirst", fn := fun _ => fun
  | [d1, d2] => { results := [.lit (.bool true)], args := [d1, d2] }
  | _ => none }
def kpathFirstRow : OpenClaim := { program := "ytbielnhpfbhkgaa", sum := "4e4b02ef2925e562a378cba82fba9093445d08b150ca284dc0b2687fe839eff9", func := "waymark/waymarklaw48.KpathFirst", spec := "kpathFirst", unfollowed := true, recurses := true, plainKeys := false, apart := false }
def KpathFirstSaid : Prop := kpathFirstRow.holds Try.pinned (OpenSpec.ofChange kpathFirstSpec)

/-- ITS FALSE NEIGHBOUR: 'it returns false'. Refute it at one input. -/
def kpathFirstWrong : ChangeSpec := { name := "kpathFirst", fn := fun _ => fun
  | [d1, d2] => { results := [.lit (.bool false)], args := [d1, d2] }
  | _ => none }
def KpathFirstWrongFalsely : Prop := kpathFirstRow.holds Try.pinned (OpenSpec.ofChange kpathFirstWrong)

/-- 'waymarklaw51.GenHangs': WHATEVER THE INPUT: true; the input reads as it did. -/
def genHangsSpec : ChangeSpec := { name := "genHangs", fn := fun _ => fun
  | [d1, d2, d3] => { results := [.lit (.bool true)], args := [d1, d2, d3] }
  | _ => none }
def genHangsRow : OpenClaim := { program := "ytbielnhpfbhkgaa", sum := "4e4b02ef2925e562a378cba82fba9093445d08b150ca284dc0b2687fe839eff9", func := "waymark/waymarklaw51.GenHangs", spec := "genHangs", unfollowed := true, recurses := true, plainKeys := false, apart := false }
def GenHangsSaid : Prop := genHangsRow.holds Try.pinned (OpenSpec.ofChange genHangsSpec)

/-- ITS FALSE NEIGHBOUR: 'it returns false'. Refute it at one input. -/
def genHangsWrong : ChangeSpec := { name := "genHangs", fn := fun _ => fun
  | [d1, d2, d3] => { results := [.lit (.bool false)], args := [d1, d2, d3] }
  | _ => none }
def GenHangsWrongFalsely : Prop := genHangsRow.holds Try.pinned (OpenSpec.ofChange genHangsWrong)

/- THE SECOND FORM. 'bulk': how many values and letters a reading holds, each counted each time it is reached (what is shared counts as often as it is met; a slice's spare places count too). A statement '..UptoSaid' is the law's where the arguments, and the package variables that the reading takes, are together of bulk at most 1048576: NARROWER than '..Said'. Prove '..Said' where nothing that the law and all that it calls make is longer than what came in: it says more and counts as full. Else prove '..UptoSaid'. A law counts once. -/
mutual
def uptoBulk {H : Type} : DataW H → Nat
  | .lit (.string bytes) => bytes.length + 1
  | .lit _ => 1
  | .nil => 1
  | .ptr d => uptoBulk d + 1
  | .slice elems spare => uptoBulkAll elems + uptoBulkAll spare + 1
  | .agg parts => uptoBulkAll parts + 1
  | .iface _ d => uptoBulk d + 1
  | .map entries => uptoBulkEntries entries + 1
  | .held _ => 1
def uptoBulkAll {H : Type} : List (DataW H) → Nat
  | [] => 0
  | d :: r => uptoBulk d + uptoBulkAll r
def uptoBulkEntries {H : Type} : List (Lit × DataW H) → Nat
  | [] => 0
  | x :: r => uptoBulkEntry x + uptoBulkEntries r
def uptoBulkEntry {H : Type} : Lit × DataW H → Nat
  | (.string bytes, d) => bytes.length + uptoBulk d + 1
  | (_, d) => uptoBulk d + 1
 end
def uptoSmall : (H : Type) → List (DataW H) → Bool := fun _ ds => decide (uptoBulkAll ds ≤ 1048576)
def OpenSpec.upto (s : _root_.Go.ChangeSpec) : _root_.Go.OpenSpec := { _root_.Go.OpenSpec.ofChange s with cond := some uptoSmall }

/-- 'waymarklaw03.DiskClones', WHERE WHAT IT READS IS OF BULK AT MOST 1048576: true; the input reads as it did. -/
def diskClonesUptoRow : OpenClaim := { program := "ytbielnhpfbhkgaa", sum := "4e4b02ef2925e562a378cba82fba9093445d08b150ca284dc0b2687fe839eff9", func := "waymark/waymarklaw03.DiskClones", spec := "diskClones", inPlace := ["maps.clone"], unfollowed := true, recurses := true, plainKeys := false, apart := false, narrowed := true }
def DiskClonesUptoSaid : Prop := diskClonesUptoRow.holds Try.pinned (OpenSpec.upto diskClonesSpec)

/-- 'waymarklaw49.FlowCuts', WHERE WHAT IT READS IS OF BULK AT MOST 1048576: true; the input reads as it did. -/
def flowCutsUptoRow : OpenClaim := { program := "ytbielnhpfbhkgaa", sum := "4e4b02ef2925e562a378cba82fba9093445d08b150ca284dc0b2687fe839eff9", func := "waymark/waymarklaw49.FlowCuts", spec := "flowCuts", unfollowed := true, recurses := true, plainKeys := false, apart := false, narrowed := true }
def FlowCutsUptoSaid : Prop := flowCutsUptoRow.holds Try.pinned (OpenSpec.upto flowCutsSpec)

/-- 'waymarklaw47.MatrixOf', WHERE WHAT IT READS IS OF BULK AT MOST 1048576: true; the input reads as it did. -/
def matrixOfUptoRow : OpenClaim := { program := "ytbielnhpfbhkgaa", sum := "4e4b02ef2925e562a378cba82fba9093445d08b150ca284dc0b2687fe839eff9", func := "waymark/waymarklaw47.MatrixOf", spec := "matrixOf", unfollowed := true, recurses := true, plainKeys := false, apart := false, narrowed := true }
def MatrixOfUptoSaid : Prop := matrixOfUptoRow.holds Try.pinned (OpenSpec.upto matrixOfSpec)

/-- 'waymarklaw48.KpathPaths', WHERE WHAT IT READS IS OF BULK AT MOST 1048576: true; the input reads as it did. -/
def kpathPathsUptoRow : OpenClaim := { program := "ytbielnhpfbhkgaa", sum := "4e4b02ef2925e562a378cba82fba9093445d08b150ca284dc0b2687fe839eff9", func := "waymark/waymarklaw48.KpathPaths", spec := "kpathPaths", unfollowed := true, recurses := true, plainKeys := false, apart := false, narrowed := true }
def KpathPathsUptoSaid : Prop := kpathPathsUptoRow.holds Try.pinned (OpenSpec.upto kpathPathsSpec)

/-- 'waymarklaw39.BridgeFinds', WHERE WHAT IT READS IS OF BULK AT MOST 1048576: true; the input reads as it did. -/
def bridgeFindsUptoRow : OpenClaim := { program := "ytbielnhpfbhkgaa", sum := "4e4b02ef2925e562a378cba82fba9093445d08b150ca284dc0b2687fe839eff9", func := "waymark/waymarklaw39.BridgeFinds", spec := "bridgeFinds", inPlace := ["maps.clone"], unfollowed := true, recurses := true, plainKeys := false, apart := false, narrowed := true }
def BridgeFindsUptoSaid : Prop := bridgeFindsUptoRow.holds Try.pinned (OpenSpec.upto bridgeFindsSpec)

/-- 'waymarklaw39.BridgePieces', WHERE WHAT IT READS IS OF BULK AT MOST 1048576: true; the input reads as it did. -/
def bridgePiecesUptoRow : OpenClaim := { program := "ytbielnhpfbhkgaa", sum := "4e4b02ef2925e562a378cba82fba9093445d08b150ca284dc0b2687fe839eff9", func := "waymark/waymarklaw39.BridgePieces", spec := "bridgePieces", inPlace := ["maps.clone"], unfollowed := true, recurses := true, plainKeys := false, apart := false, narrowed := true }
def BridgePiecesUptoSaid : Prop := bridgePiecesUptoRow.holds Try.pinned (OpenSpec.upto bridgePiecesSpec)

/-- 'waymarklaw36.EcmpAll', WHERE WHAT IT READS IS OF BULK AT MOST 1048576: true; the input reads as it did. -/
def ecmpAllUptoRow : OpenClaim := { program := "ytbielnhpfbhkgaa", sum := "4e4b02ef2925e562a378cba82fba9093445d08b150ca284dc0b2687fe839eff9", func := "waymark/waymarklaw36.EcmpAll", spec := "ecmpAll", unfollowed := true, recurses := true, plainKeys := false, apart := false, narrowed := true }
def EcmpAllUptoSaid : Prop := ecmpAllUptoRow.holds Try.pinned (OpenSpec.upto ecmpAllSpec)

/-- 'waymarklaw36.EcmpLeast', WHERE WHAT IT READS IS OF BULK AT MOST 1048576: true; the input reads as it did. -/
def ecmpLeastUptoRow : OpenClaim := { program := "ytbielnhpfbhkgaa", sum := "4e4b02ef2925e562a378cba82fba9093445d08b150ca284dc0b2687fe839eff9", func := "waymark/waymarklaw36.EcmpLeast", spec := "ecmpLeast", unfollowed := true, recurses := true, plainKeys := false, apart := false, narrowed := true }
def EcmpLeastUptoSaid : Prop := ecmpLeastUptoRow.holds Try.pinned (OpenSpec.upto ecmpLeastSpec)

/-- 'waymarklaw48.KpathFirst', WHERE WHAT IT READS IS OF BULK AT MOST 1048576: true; the input reads as it did. -/
def kpathFirstUptoRow : OpenClaim := { program := "ytbielnhpfbhkgaa", sum := "4e4b02ef2925e562a378cba82fba9093445d08b150ca284dc0b2687fe839eff9", func := "waymark/waymarklaw48.KpathFirst", spec := "kpathFirst", unfollowed := true, recurses := true, plainKeys := false, apart := false, narrowed := true }
def KpathFirstUptoSaid : Prop := kpathFirstUptoRow.holds Try.pinned (OpenSpec.upto kpathFirstSpec)

/-- 'waymarklaw51.GenHangs', WHERE WHAT IT READS IS OF BULK AT MOST 1048576: true; the input reads as it did. -/
def genHangsUptoRow : OpenClaim := { program := "ytbielnhpfbhkgaa", sum := "4e4b02ef2925e562a378cba82fba9093445d08b150ca284dc0b2687fe839eff9", func := "waymark/waymarklaw51.GenHangs", spec := "genHangs", unfollowed := true, recurses := true, plainKeys := false, apart := false, narrowed := true }
def GenHangsUptoSaid : Prop := genHangsUptoRow.holds Try.pinned (OpenSpec.upto genHangsSpec)

end Rows
end Go.Proofs.Ytbielnhpfbhkgaa
