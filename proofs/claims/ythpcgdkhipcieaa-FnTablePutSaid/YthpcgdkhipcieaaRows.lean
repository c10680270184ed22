/-
  No cell of these rows narrows 'for every input' (looked for: loops, veiled, ifaces, maps, wideKeys, modest, calm, conditions, laid).
  DERIVED. THE GIVEN ROWS OF THIS SEAT. 12 by the template 'for every input the law returns true; each argument reads behind the call as it read before'; 0 by the template 'total and deterministic' (their statements: YthpcgdkhipcieaaTotals.lean).
  GIVEN WITH THE SEED: the statements are not yours to turn. If you find one false, say at which input.
  Laid BY PROGRAM, IN A SANDBOX (cutbox-rows.mjs): the forced cells as the released guide's own fill.sh prints them over the translation 42f1d3563320aa4b… (all of the seat's roots in one cut). By AI agents, Wed Nov 11 2026. No macro, syntax, notation, axiom, sorry.
-/
import Derived.Test.YthpcgdkhipcieaaChecked
import GoSem.Claim
import GoSem.ClaimJoined
import GoSem.ClaimMapViews
import Derived.JoinedTies
import Derived.KernelRfl
namespace Go.Proofs.Ythpcgdkhipcieaa
/- THE CELL 'sum', in the pinned program and in every row, IS THE sha256 OF THE DUMP (.gsa) THAT YthpcgdkhipcieaaProg.lean LOADS. Nothing in Lean hashes anything: it is a label: what it is worth is what the hold of that sum in a sandbox is worth. -/
noncomputable def Try.pinned : Pinned := { name := "ythpcgdkhipcieaa", sum := "42f1d3563320aa4b8c45aa6d9ef8ad118333a28ba90b4c68988523d2ea1f11ad", checked := Try.checked }
namespace Rows
def none {H : Type} : Left H := { results := [], args := [] }

/-- 'laws.FnExactFileSize': WHATEVER THE INPUT: true; the input reads as it did. -/
def fnExactFileSizeSpec : ChangeSpec := { name := "fnExactFileSize", fn := fun _ => fun
  | [d1, d2] => { results := [.lit (.bool true)], args := [d1, d2] }
  | _ => none }
def fnExactFileSizeRow : OpenClaim := { program := "ythpcgdkhipcieaa", sum := "42f1d3563320aa4b8c45aa6d9ef8ad118333a28ba90b4c68988523d2ea1f11ad", func := "loop.example/flashfiles/laws.FnExactFileSize", spec := "fnExactFileSize", apart := false }
def FnExactFileSizeSaid : Prop := fnExactFileSizeRow.holds Try.pinned (OpenSpec.ofChange fnExactFileSizeSpec)

/-- ITS FALSE NEIGHBOUR: 'it returns false'. Refute it at one input. -/
def fnExactFileSizeWrong : ChangeSpec := { name := "fnExactFileSize", fn := fun _ => fun
  | [d1, d2] => { results := [.lit (.bool false)], args := [d1, d2] }
  | _ => none }
def FnExactFileSizeWrongFalsely : Prop := fnExactFileSizeRow.holds Try.pinned (OpenSpec.ofChange fnExactFileSizeWrong)

/-- 'laws.FnFileSize': WHATEVER THE INPUT: true; the input reads as it did. -/
def fnFileSizeSpec : ChangeSpec := { name := "fnFileSize", fn := fun _ => fun
  | [d] => { results := [.lit (.bool true)], args := [d] }
  | _ => none }
def fnFileSizeRow : OpenClaim := { program := "ythpcgdkhipcieaa", sum := "42f1d3563320aa4b8c45aa6d9ef8ad118333a28ba90b4c68988523d2ea1f11ad", func := "loop.example/flashfiles/laws.FnFileSize", spec := "fnFileSize", apart := false }
def FnFileSizeSaid : Prop := fnFileSizeRow.holds Try.pinned (OpenSpec.ofChange fnFileSizeSpec)

/-- ITS FALSE NEIGHBOUR: 'it returns false'. Refute it at one input. -/
def fnFileSizeWrong : ChangeSpec := { name := "fnFileSize", fn := fun _ => fun
  | [d] => { results := [.lit (.bool false)], args := [d] }
  | _ => none }
def FnFileSizeWrongFalsely : Prop := fnFileSizeRow.holds Try.pinned (OpenSpec.ofChange fnFileSizeWrong)

/-- 'laws.FnExactTableChanges': WHATEVER THE INPUT: true; the input reads as it did. -/
def fnExactTableChangesSpec : ChangeSpec := { name := "fnExactTableChanges", fn := fun _ => fun
  | [d1, d2] => { results := [.lit (.bool true)], args := [d1, d2] }
  | _ => none }
def fnExactTableChangesRow : OpenClaim := { program := "ythpcgdkhipcieaa", sum := "42f1d3563320aa4b8c45aa6d9ef8ad118333a28ba90b4c68988523d2ea1f11ad", func := "loop.example/flashfiles/laws.FnExactTableChanges", spec := "fnExactTableChanges", apart := false }
def FnExactTableChangesSaid : Prop := fnExactTableChangesRow.holds Try.pinned (OpenSpec.ofChange fnExactTableChangesSpec)

/-- ITS FALSE NEIGHBOUR: 'it returns false'. Refute it at one input. -/
def fnExactTableChangesWrong : ChangeSpec := { name := "fnExactTableChanges", fn := fun _ => fun
  | [d1, d2] => { results := [.lit (.bool false)], args := [d1, d2] }
  | _ => none }
def FnExactTableChangesWrongFalsely : Prop := fnExactTableChangesRow.holds Try.pinned (OpenSpec.ofChange fnExactTableChangesWrong)

/-- 'laws.FnTableChanges': WHATEVER THE INPUT: true; the input reads as it did. -/
def fnTableChangesSpec : ChangeSpec := { name := "fnTableChanges", fn := fun _ => fun
  | [d] => { results := [.lit (.bool true)], args := [d] }
  | _ => none }
def fnTableChangesRow : OpenClaim := { program := "ythpcgdkhipcieaa", sum := "42f1d3563320aa4b8c45aa6d9ef8ad118333a28ba90b4c68988523d2ea1f11ad", func := "loop.example/flashfiles/laws.FnTableChanges", spec := "fnTableChanges", apart := false }
def FnTableChangesSaid : Prop := fnTableChangesRow.holds Try.pinned (OpenSpec.ofChange fnTableChangesSpec)

/-- ITS FALSE NEIGHBOUR: 'it returns false'. Refute it at one input. -/
def fnTableChangesWrong : ChangeSpec := { name := "fnTableChanges", fn := fun _ => fun
  | [d] => { results := [.lit (.bool false)], args := [d] }
  | _ => none }
def FnTableChangesWrongFalsely : Prop := fnTableChangesRow.holds Try.pinned (OpenSpec.ofChange fnTableChangesWrong)

/-- 'laws.FnTableGet': WHATEVER THE INPUT: true; the input reads as it did. -/
def fnTableGetSpec : ChangeSpec := { name := "fnTableGet", fn := fun _ => fun
  | [d] => { results := [.lit (.bool true)], args := [d] }
  | _ => none }
def fnTableGetRow : OpenClaim := { program := "ythpcgdkhipcieaa", sum := "42f1d3563320aa4b8c45aa6d9ef8ad118333a28ba90b4c68988523d2ea1f11ad", func := "loop.example/flashfiles/laws.FnTableGet", spec := "fnTableGet", apart := false }
def FnTableGetSaid : Prop := fnTableGetRow.holds Try.pinned (OpenSpec.ofChange fnTableGetSpec)

/-- ITS FALSE NEIGHBOUR: 'it returns false'. Refute it at one input. -/
def fnTableGetWrong : ChangeSpec := { name := "fnTableGet", fn := fun _ => fun
  | [d] => { results := [.lit (.bool false)], args := [d] }
  | _ => none }
def FnTableGetWrongFalsely : Prop := fnTableGetRow.holds Try.pinned (OpenSpec.ofChange fnTableGetWrong)

/-- 'laws.FnTableValid': WHATEVER THE INPUT: true; the input reads as it did. -/
def fnTableValidSpec : ChangeSpec := { name := "fnTableValid", fn := fun _ => fun
  | [d] => { results := [.lit (.bool true)], args := [d] }
  | _ => none }
def fnTableValidRow : OpenClaim := { program := "ythpcgdkhipcieaa", sum := "42f1d3563320aa4b8c45aa6d9ef8ad118333a28ba90b4c68988523d2ea1f11ad", func := "loop.example/flashfiles/laws.FnTableValid", spec := "fnTableValid", apart := false }
def FnTableValidSaid : Prop := fnTableValidRow.holds Try.pinned (OpenSpec.ofChange fnTableValidSpec)

/-- ITS FALSE NEIGHBOUR: 'it returns false'. Refute it at one input. -/
def fnTableValidWrong : ChangeSpec := { name := "fnTableValid", fn := fun _ => fun
  | [d] => { results := [.lit (.bool false)], args := [d] }
  | _ => none }
def FnTableValidWrongFalsely : Prop := fnTableValidRow.holds Try.pinned (OpenSpec.ofChange fnTableValidWrong)

/-- 'laws.FnExactFileHoles': WHATEVER THE INPUT: true; the input reads as it did. -/
def fnExactFileHolesSpec : ChangeSpec := { name := "fnExactFileHoles", fn := fun _ => fun
  | [d1, d2] => { results := [.lit (.bool true)], args := [d1, d2] }
  | _ => none }
def fnExactFileHolesRow : OpenClaim := { program := "ythpcgdkhipcieaa", sum := "42f1d3563320aa4b8c45aa6d9ef8ad118333a28ba90b4c68988523d2ea1f11ad", func := "loop.example/flashfiles/laws.FnExactFileHoles", spec := "fnExactFileHoles", apart := false }
def FnExactFileHolesSaid : Prop := fnExactFileHolesRow.holds Try.pinned (OpenSpec.ofChange fnExactFileHolesSpec)

/-- ITS FALSE NEIGHBOUR: 'it returns false'. Refute it at one input. -/
def fnExactFileHolesWrong : ChangeSpec := { name := "fnExactFileHoles", fn := fun _ => fun
  | [d1, d2] => { results := [.lit (.bool false)], args := [d1, d2] }
  | _ => none }
def FnExactFileHolesWrongFalsely : Prop := fnExactFileHolesRow.holds Try.pinned (OpenSpec.ofChange fnExactFileHolesWrong)

/-- 'laws.FnFileHoles': WHATEVER THE INPUT: true; the input reads as it did. -/
def fnFileHolesSpec : ChangeSpec := { name := "fnFileHoles", fn := fun _ => fun
  | [d] => { results := [.lit (.bool true)], args := [d] }
  | _ => none }
def fnFileHolesRow : OpenClaim := { program := "ythpcgdkhipcieaa", sum := "42f1d3563320aa4b8c45aa6d9ef8ad118333a28ba90b4c68988523d2ea1f11ad", func := "loop.example/flashfiles/laws.FnFileHoles", spec := "fnFileHoles", apart := false }
def FnFileHolesSaid : Prop := fnFileHolesRow.holds Try.pinned (OpenSpec.ofChange fnFileHolesSpec)

/-- ITS FALSE NEIGHBOUR: 'it returns false'. Refute it at one input. -/
def fnFileHolesWrong : ChangeSpec := { name := "fnFileHoles", fn := fun _ => fun
  | [d] => { results := [.lit (.bool false)], args := [d] }
  | _ => none }
def FnFileHolesWrongFalsely : Prop := fnFileHolesRow.holds Try.pinned (OpenSpec.ofChange fnFileHolesWrong)

/-- 'laws.FnExactCutFile': WHATEVER THE INPUT: true; the input reads as it did. -/
def fnExactCutFileSpec : ChangeSpec := { name := "fnExactCutFile", fn := fun _ => fun
  | [d1, d2, d3] => { results := [.lit (.bool true)], args := [d1, d2, d3] }
  | _ => none }
def fnExactCutFileRow : OpenClaim := { program := "ythpcgdkhipcieaa", sum := "42f1d3563320aa4b8c45aa6d9ef8ad118333a28ba90b4c68988523d2ea1f11ad", func := "loop.example/flashfiles/laws.FnExactCutFile", spec := "fnExactCutFile", apart := false }
def FnExactCutFileSaid : Prop := fnExactCutFileRow.holds Try.pinned (OpenSpec.ofChange fnExactCutFileSpec)

/-- ITS FALSE NEIGHBOUR: 'it returns false'. Refute it at one input. -/
def fnExactCutFileWrong : ChangeSpec := { name := "fnExactCutFile", fn := fun _ => fun
  | [d1, d2, d3] => { results := [.lit (.bool false)], args := [d1, d2, d3] }
  | _ => none }
def FnExactCutFileWrongFalsely : Prop := fnExactCutFileRow.holds Try.pinned (OpenSpec.ofChange fnExactCutFileWrong)

/-- 'laws.FnCutFile': WHATEVER THE INPUT: true; the input reads as it did. -/
def fnCutFileSpec : ChangeSpec := { name := "fnCutFile", fn := fun _ => fun
  | [d] => { results := [.lit (.bool true)], args := [d] }
  | _ => none }
def fnCutFileRow : OpenClaim := { program := "ythpcgdkhipcieaa", sum := "42f1d3563320aa4b8c45aa6d9ef8ad118333a28ba90b4c68988523d2ea1f11ad", func := "loop.example/flashfiles/laws.FnCutFile", spec := "fnCutFile", apart := false }
def FnCutFileSaid : Prop := fnCutFileRow.holds Try.pinned (OpenSpec.ofChange fnCutFileSpec)

/-- ITS FALSE NEIGHBOUR: 'it returns false'. Refute it at one input. -/
def fnCutFileWrong : ChangeSpec := { name := "fnCutFile", fn := fun _ => fun
  | [d] => { results := [.lit (.bool false)], args := [d] }
  | _ => none }
def FnCutFileWrongFalsely : Prop := fnCutFileRow.holds Try.pinned (OpenSpec.ofChange fnCutFileWrong)

/-- 'laws.FnExactTablePut': WHATEVER THE INPUT: true; the input reads as it did. -/
def fnExactTablePutSpec : ChangeSpec := { name := "fnExactTablePut", fn := fun _ => fun
  | [d1, d2, d3, d4] => { results := [.lit (.bool true)], args := [d1, d2, d3, d4] }
  | _ => none }
def fnExactTablePutRow : OpenClaim := { program := "ythpcgdkhipcieaa", sum := "42f1d3563320aa4b8c45aa6d9ef8ad118333a28ba90b4c68988523d2ea1f11ad", func := "loop.example/flashfiles/laws.FnExactTablePut", spec := "fnExactTablePut", apart := false }
def FnExactTablePutSaid : Prop := fnExactTablePutRow.holds Try.pinned (OpenSpec.ofChange fnExactTablePutSpec)

/-- ITS FALSE NEIGHBOUR: 'it returns false'. Refute it at one input. -/
def fnExactTablePutWrong : ChangeSpec := { name := "fnExactTablePut", fn := fun _ => fun
  | [d1, d2, d3, d4] => { results := [.lit (.bool false)], args := [d1, d2, d3, d4] }
  | _ => none }
def FnExactTablePutWrongFalsely : Prop := fnExactTablePutRow.holds Try.pinned (OpenSpec.ofChange fnExactTablePutWrong)

/-- 'laws.FnTablePut': WHATEVER THE INPUT: true; the input reads as it did. -/
def fnTablePutSpec : ChangeSpec := { name := "fnTablePut", fn := fun _ => fun
  | [d] => { results := [.lit (.bool true)], args := [d] }
  | _ => none }
def fnTablePutRow : OpenClaim := { program := "ythpcgdkhipcieaa", sum := "42f1d3563320aa4b8c45aa6d9ef8ad118333a28ba90b4c68988523d2ea1f11ad", func := "loop.example/flashfiles/laws.FnTablePut", spec := "fnTablePut", apart := false }
def FnTablePutSaid : Prop := fnTablePutRow.holds Try.pinned (OpenSpec.ofChange fnTablePutSpec)

/-- ITS FALSE NEIGHBOUR: 'it returns false'. Refute it at one input. -/
def fnTablePutWrong : ChangeSpec := { name := "fnTablePut", fn := fun _ => fun
  | [d] => { results := [.lit (.bool false)], args := [d] }
  | _ => none }
def FnTablePutWrongFalsely : Prop := fnTablePutRow.holds Try.pinned (OpenSpec.ofChange fnTablePutWrong)

/- THE SECOND FORM. 'bulk': how many values and letters a reading holds, each counted each time it is reached (what is shared counts as often as it is met; a slice's spare places count too). A statement '..UptoSaid' is the law's where the arguments, and the package variables that the reading takes, are together of bulk at most 1048576: NARROWER than '..Said'. Prove '..Said' where nothing that the law and all that it calls make is longer than what came in: it says more and counts as full. Else prove '..UptoSaid'. A law counts once. -/
mutual
def uptoBulk {H : Type} : DataW H → Nat
  | .lit (.string bytes) => bytes.length + 1
  | .lit _ => 1
  | .nil => 1
  | .ptr d => uptoBulk d + 1
  | .slice elems spare => uptoBulkAll elems + uptoBulkAll spare + 1
  | .agg parts => uptoBulkAll parts + 1
  | .iface _ d => uptoBulk d + 1
  | .map entries => uptoBulkEntries entries + 1
  | .held _ => 1
def uptoBulkAll {H : Type} : List (DataW H) → Nat
  | [] => 0
  | d :: r => uptoBulk d + uptoBulkAll r
def uptoBulkEntries {H : Type} : List (Lit × DataW H) → Nat
  | [] => 0
  | x :: r => uptoBulkEntry x + uptoBulkEntries r
def uptoBulkEntry {H : Type} : Lit × DataW H → Nat
  | (.string bytes, d) => bytes.length + uptoBulk d + 1
  | (_, d) => uptoBulk d + 1
 end
def uptoSmall : (H : Type) → List (DataW H) → Bool := fun _ ds => decide (uptoBulkAll ds ≤ 1048576)
def OpenSpec.upto (s : _root_.Go.ChangeSpec) : _root_.Go.OpenSpec := { _root_.Go.OpenSpec.ofChange s with cond := some uptoSmall }

/-- 'laws.FnExactFileSize', WHERE WHAT IT READS IS OF BULK AT MOST 1048576: true; the input reads as it did. -/
def fnExactFileSizeUptoRow : OpenClaim := { program := "ythpcgdkhipcieaa", sum := "42f1d3563320aa4b8c45aa6d9ef8ad118333a28ba90b4c68988523d2ea1f11ad", func := "loop.example/flashfiles/laws.FnExactFileSize", spec := "fnExactFileSize", apart := false, narrowed := true }
def FnExactFileSizeUptoSaid : Prop := fnExactFileSizeUptoRow.holds Try.pinned (OpenSpec.upto fnExactFileSizeSpec)

/-- 'laws.FnFileSize', WHERE WHAT IT READS IS OF BULK AT MOST 1048576: true; the input reads as it did. -/
def fnFileSizeUptoRow : OpenClaim := { program := "ythpcgdkhipcieaa", sum := "42f1d3563320aa4b8c45aa6d9ef8ad118333a28ba90b4c68988523d2ea1f11ad", func := "loop.example/flashfiles/laws.FnFileSize", spec := "fnFileSize", apart := false, narrowed := true }
def FnFileSizeUptoSaid : Prop := fnFileSizeUptoRow.holds Try.pinned (OpenSpec.upto fnFileSizeSpec)

/-- 'laws.FnExactTableChanges', WHERE WHAT IT READS IS OF BULK AT MOST 1048576: true; the input reads as it did. -/
def fnExactTableChangesUptoRow : OpenClaim := { program := "ythpcgdkhipcieaa", sum := "42f1d3563320aa4b8c45aa6d9ef8ad118333a28ba90b4c68988523d2ea1f11ad", func := "loop.example/flashfiles/laws.FnExactTableChanges", spec := "fnExactTableChanges", apart := false, narrowed := true }
def FnExactTableChangesUptoSaid : Prop := fnExactTableChangesUptoRow.holds Try.pinned (OpenSpec.upto fnExactTableChangesSpec)

/-- 'laws.FnTableChanges', WHERE WHAT IT READS IS OF BULK AT MOST 1048576: true; the input reads as it did. -/
def fnTableChangesUptoRow : OpenClaim := { program := "ythpcgdkhipcieaa", sum := "42f1d3563320aa4b8c45aa6d9ef8ad118333a28ba90b4c68988523d2ea1f11ad", func := "loop.example/flashfiles/laws.FnTableChanges", spec := "fnTableChanges", apart := false, narrowed := true }
def FnTableChangesUptoSaid : Prop := fnTableChangesUptoRow.holds Try.pinned (OpenSpec.upto fnTableChangesSpec)

/-- 'laws.FnTableGet', WHERE WHAT IT READS IS OF BULK AT MOST 1048576: true; the input reads as it did. -/
def fnTableGetUptoRow : OpenClaim := { program := "ythpcgdkhipcieaa", sum := "42f1d3563320aa4b8c45aa6d9ef8ad118333a28ba90b4c68988523d2ea1f11ad", func := "loop.example/flashfiles/laws.FnTableGet", spec := "fnTableGet", apart := false, narrowed := true }
def FnTableGetUptoSaid : Prop := fnTableGetUptoRow.holds Try.pinned (OpenSpec.upto fnTableGetSpec)

/-- 'laws.FnTableValid', WHERE WHAT IT READS IS OF BULK AT MOST 1048576: true; the input reads as it did. -/
def fnTableValidUptoRow : OpenClaim := { program := "ythpcgdkhipcieaa", sum := "42f1d3563320aa4b8c45aa6d9ef8ad118333a28ba90b4c68988523d2ea1f11ad", func := "loop.example/flashfiles/laws.FnTableValid", spec := "fnTableValid", apart := false, narrowed := true }
def FnTableValidUptoSaid : Prop := fnTableValidUptoRow.holds Try.pinned (OpenSpec.upto fnTableValidSpec)

/-- 'laws.FnExactFileHoles', WHERE WHAT IT READS IS OF BULK AT MOST 1048576: true; the input reads as it did. -/
def fnExactFileHolesUptoRow : OpenClaim := { program := "ythpcgdkhipcieaa", sum := "42f1d3563320aa4b8c45aa6d9ef8ad118333a28ba90b4c68988523d2ea1f11ad", func := "loop.example/flashfiles/laws.FnExactFileHoles", spec := "fnExactFileHoles", apart := false, narrowed := true }
def FnExactFileHolesUptoSaid : Prop := fnExactFileHolesUptoRow.holds Try.pinned (OpenSpec.upto fnExactFileHolesSpec)

/-- 'laws.FnFileHoles', WHERE WHAT IT READS IS OF BULK AT MOST 1048576: true; the input reads as it did. -/
def fnFileHolesUptoRow : OpenClaim := { program := "ythpcgdkhipcieaa", sum := "42f1d3563320aa4b8c45aa6d9ef8ad118333a28ba90b4c68988523d2ea1f11ad", func := "loop.example/flashfiles/laws.FnFileHoles", spec := "fnFileHoles", apart := false, narrowed := true }
def FnFileHolesUptoSaid : Prop := fnFileHolesUptoRow.holds Try.pinned (OpenSpec.upto fnFileHolesSpec)

/-- 'laws.FnExactCutFile', WHERE WHAT IT READS IS OF BULK AT MOST 1048576: true; the input reads as it did. -/
def fnExactCutFileUptoRow : OpenClaim := { program := "ythpcgdkhipcieaa", sum := "42f1d3563320aa4b8c45aa6d9ef8ad118333a28ba90b4c68988523d2ea1f11ad", func := "loop.example/flashfiles/laws.FnExactCutFile", spec := "fnExactCutFile", apart := false, narrowed := true }
def FnExactCutFileUptoSaid : Prop := fnExactCutFileUptoRow.holds Try.pinned (OpenSpec.upto fnExactCutFileSpec)

/-- 'laws.FnCutFile', WHERE WHAT IT READS IS OF BULK AT MOST 1048576: true; the input reads as it did. -/
def fnCutFileUptoRow : OpenClaim := { program := "ythpcgdkhipcieaa", sum := "42f1d3563320aa4b8c45aa6d9ef8ad118333a28ba90b4c68988523d2ea1f11ad", func := "loop.example/flashfiles/laws.FnCutFile", spec := "fnCutFile", apart := false, narrowed := true }
def FnCutFileUptoSaid : Prop := fnCutFileUptoRow.holds Try.pinned (OpenSpec.upto fnCutFileSpec)

/-- 'laws.FnExactTablePut', WHERE WHAT IT READS IS OF BULK AT MOST 1048576: true; the input reads as it did. -/
def fnExactTablePutUptoRow : OpenClaim := { program := "ythpcgdkhipcieaa", sum := "42f1d3563320aa4b8c45aa6d9ef8ad118333a28ba90b4c68988523d2ea1f11ad", func := "loop.example/flashfiles/laws.FnExactTablePut", spec := "fnExactTablePut", apart := false, narrowed := true }
def FnExactTablePutUptoSaid : Prop := fnExactTablePutUptoRow.holds Try.pinned (OpenSpec.upto fnExactTablePutSpec)

/-- 'laws.FnTablePut', WHERE WHAT IT READS IS OF BULK AT MOST 1048576: true; the input reads as it did. -/
def fnTablePutUptoRow : OpenClaim := { program := "ythpcgdkhipcieaa", sum := "42f1d3563320aa4b8c45aa6d9ef8ad118333a28ba90b4c68988523d2ea1f11ad", func := "loop.example/flashfiles/laws.FnTablePut", spec := "fnTablePut", apart := false, narrowed := true }
def FnTablePutUptoSaid : Prop := fnTablePutUptoRow.holds Try.pinned (OpenSpec.upto fnTablePutSpec)

end Rows
end Go.Proofs.Ythpcgdkhipcieaa
