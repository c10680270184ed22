/-
  No cell of these rows narrows 'for every input' (looked for: loops, veiled, ifaces, maps, wideKeys, modest, calm, conditions, laid).
  DERIVED. THE GIVEN ROWS OF THIS SEAT. 6 by the template 'for every input the law returns true; each argument reads behind the call as it read before'; 0 by the template 'total and deterministic' (their statements: YtjmofmdcegefgaaTotals.lean).
  GIVEN WITH THE SEED: the statements are not yours to turn. If you find one false, say at which input.
  Laid BY PROGRAM, IN A SANDBOX (cutbox-rows.mjs): the forced cells as the released guide's own fill.sh prints them over the translation 1a359065d57e4840… (all of the seat's roots in one cut). By AI agents, Wed Nov 11 2026. No macro, syntax, notation, axiom, sorry.
-/
import Derived.Test.YtjmofmdcegefgaaChecked
import GoSem.Claim
import GoSem.ClaimJoined
import GoSem.ClaimMapViews
import Derived.JoinedTies
import Derived.KernelRfl
namespace Go.Proofs.Ytjmofmdcegefgaa
/- THE CELL 'sum', in the pinned program and in every row, IS THE sha256 OF THE DUMP (.gsa) THAT YtjmofmdcegefgaaProg.lean LOADS. Nothing in Lean hashes anything: it is a label: what it is worth is what the hold of that sum in a sandbox is worth. -/
noncomputable def Try.pinned : Pinned := { name := "ytjmofmdcegefgaa", sum := "1a359065d57e4840c98bb26251b93cb80f3769c03b3a622843cffae5378f049e", checked := Try.checked }
namespace Rows
def none {H : Type} : Left H := { results := [], args := [] }

/-- 'laws.FnOldPages': WHATEVER THE INPUT: true; the input reads as it did. -/
def fnOldPagesSpec : ChangeSpec := { name := "fnOldPages", fn := fun _ => fun
  | [d] => { results := [.lit (.bool true)], args := [d] }
  | _ => none }
def fnOldPagesRow : OpenClaim := { program := "ytjmofmdcegefgaa", sum := "1a359065d57e4840c98bb26251b93cb80f3769c03b3a622843cffae5378f049e", func := "loop.example/flashfiles/laws.FnOldPages", spec := "fnOldPages", recurses := true, apart := false }
def FnOldPagesSaid : Prop := fnOldPagesRow.holds Try.pinned (OpenSpec.ofChange fnOldPagesSpec)

/-- ITS FALSE NEIGHBOUR: 'it returns false'. Refute it at one input. -/
def fnOldPagesWrong : ChangeSpec := { name := "fnOldPages", fn := fun _ => fun
  | [d] => { results := [.lit (.bool false)], args := [d] }
  | _ => none }
def FnOldPagesWrongFalsely : Prop := fnOldPagesRow.holds Try.pinned (OpenSpec.ofChange fnOldPagesWrong)

/-- 'laws.FnGreedyVictim': WHATEVER THE INPUT: true; the input reads as it did. -/
def fnGreedyVictimSpec : ChangeSpec := { name := "fnGreedyVictim", fn := fun _ => fun
  | [d] => { results := [.lit (.bool true)], args := [d] }
  | _ => none }
def fnGreedyVictimRow : OpenClaim := { program := "ytjmofmdcegefgaa", sum := "1a359065d57e4840c98bb26251b93cb80f3769c03b3a622843cffae5378f049e", func := "loop.example/flashfiles/laws.FnGreedyVictim", spec := "fnGreedyVictim", recurses := true, apart := false }
def FnGreedyVictimSaid : Prop := fnGreedyVictimRow.holds Try.pinned (OpenSpec.ofChange fnGreedyVictimSpec)

/-- ITS FALSE NEIGHBOUR: 'it returns false'. Refute it at one input. -/
def fnGreedyVictimWrong : ChangeSpec := { name := "fnGreedyVictim", fn := fun _ => fun
  | [d] => { results := [.lit (.bool false)], args := [d] }
  | _ => none }
def FnGreedyVictimWrongFalsely : Prop := fnGreedyVictimRow.holds Try.pinned (OpenSpec.ofChange fnGreedyVictimWrong)

/-- 'laws.FnBestVictim': WHATEVER THE INPUT: true; the input reads as it did. -/
def fnBestVictimSpec : ChangeSpec := { name := "fnBestVictim", fn := fun _ => fun
  | [d] => { results := [.lit (.bool true)], args := [d] }
  | _ => none }
def fnBestVictimRow : OpenClaim := { program := "ytjmofmdcegefgaa", sum := "1a359065d57e4840c98bb26251b93cb80f3769c03b3a622843cffae5378f049e", func := "loop.example/flashfiles/laws.FnBestVictim", spec := "fnBestVictim", recurses := true, apart := false }
def FnBestVictimSaid : Prop := fnBestVictimRow.holds Try.pinned (OpenSpec.ofChange fnBestVictimSpec)

/-- ITS FALSE NEIGHBOUR: 'it returns false'. Refute it at one input. -/
def fnBestVictimWrong : ChangeSpec := { name := "fnBestVictim", fn := fun _ => fun
  | [d] => { results := [.lit (.bool false)], args := [d] }
  | _ => none }
def FnBestVictimWrongFalsely : Prop := fnBestVictimRow.holds Try.pinned (OpenSpec.ofChange fnBestVictimWrong)

/-- 'laws.FnTableOf': WHATEVER THE INPUT: true; the input reads as it did. -/
def fnTableOfSpec : ChangeSpec := { name := "fnTableOf", fn := fun _ => fun
  | [d] => { results := [.lit (.bool true)], args := [d] }
  | _ => none }
def fnTableOfRow : OpenClaim := { program := "ytjmofmdcegefgaa", sum := "1a359065d57e4840c98bb26251b93cb80f3769c03b3a622843cffae5378f049e", func := "loop.example/flashfiles/laws.FnTableOf", spec := "fnTableOf", apart := false }
def FnTableOfSaid : Prop := fnTableOfRow.holds Try.pinned (OpenSpec.ofChange fnTableOfSpec)

/-- ITS FALSE NEIGHBOUR: 'it returns false'. Refute it at one input. -/
def fnTableOfWrong : ChangeSpec := { name := "fnTableOf", fn := fun _ => fun
  | [d] => { results := [.lit (.bool false)], args := [d] }
  | _ => none }
def FnTableOfWrongFalsely : Prop := fnTableOfRow.holds Try.pinned (OpenSpec.ofChange fnTableOfWrong)

/-- 'laws.FnFileValues': WHATEVER THE INPUT: true; the input reads as it did. -/
def fnFileValuesSpec : ChangeSpec := { name := "fnFileValues", fn := fun _ => fun
  | [d] => { results := [.lit (.bool true)], args := [d] }
  | _ => none }
def fnFileValuesRow : OpenClaim := { program := "ytjmofmdcegefgaa", sum := "1a359065d57e4840c98bb26251b93cb80f3769c03b3a622843cffae5378f049e", func := "loop.example/flashfiles/laws.FnFileValues", spec := "fnFileValues", apart := false }
def FnFileValuesSaid : Prop := fnFileValuesRow.holds Try.pinned (OpenSpec.ofChange fnFileValuesSpec)

/-- ITS FALSE NEIGHBOUR: 'it returns false'. Refute it at one input. -/
def fnFileValuesWrong : ChangeSpec := { name := "fnFileValues", fn := fun _ => fun
  | [d] => { results := [.lit (.bool false)], args := [d] }
  | _ => none }
def FnFileValuesWrongFalsely : Prop := fnFileValuesRow.holds Try.pinned (OpenSpec.ofChange fnFileValuesWrong)

/-- 'laws.FnBlockCounts': WHATEVER THE INPUT: true; the input reads as it did. -/
def fnBlockCountsSpec : ChangeSpec := { name := "fnBlockCounts", fn := fun _ => fun
  | [d] => { results := [.lit (.bool true)], args := [d] }
  | _ => none }
def fnBlockCountsRow : OpenClaim := { program := "ytjmofmdcegefgaa", sum := "1a359065d57e4840c98bb26251b93cb80f3769c03b3a622843cffae5378f049e", func := "loop.example/flashfiles/laws.FnBlockCounts", spec := "fnBlockCounts", recurses := true, apart := false }
def FnBlockCountsSaid : Prop := fnBlockCountsRow.holds Try.pinned (OpenSpec.ofChange fnBlockCountsSpec)

/-- ITS FALSE NEIGHBOUR: 'it returns false'. Refute it at one input. -/
def fnBlockCountsWrong : ChangeSpec := { name := "fnBlockCounts", fn := fun _ => fun
  | [d] => { results := [.lit (.bool false)], args := [d] }
  | _ => none }
def FnBlockCountsWrongFalsely : Prop := fnBlockCountsRow.holds Try.pinned (OpenSpec.ofChange fnBlockCountsWrong)

/- THE SECOND FORM. 'bulk': how many values and letters a reading holds, each counted each time it is reached (what is shared counts as often as it is met; a slice's spare places count too). A statement '..UptoSaid' is the law's where the arguments, and the package variables that the reading takes, are together of bulk at most 1048576: NARROWER than '..Said'. Prove '..Said' where nothing that the law and all that it calls make is longer than what came in: it says more and counts as full. Else prove '..UptoSaid'. A law counts once. -/
mutual
def uptoBulk {H : Type} : DataW H → Nat
  | .lit (.string bytes) => bytes.length + 1
  | .lit _ => 1
  | .nil => 1
  | .ptr d => uptoBulk d + 1
  | .slice elems spare => uptoBulkAll elems + uptoBulkAll spare + 1
  | .agg parts => uptoBulkAll parts + 1
  | .iface _ d => uptoBulk d + 1
  | .map entries => uptoBulkEntries entries + 1
  | .held _ => 1
def uptoBulkAll {H : Type} : List (DataW H) → Nat
  | [] => 0
  | d :: r => uptoBulk d + uptoBulkAll r
def uptoBulkEntries {H : Type} : List (Lit × DataW H) → Nat
  | [] => 0
  | x :: r => uptoBulkEntry x + uptoBulkEntries r
def uptoBulkEntry {H : Type} : Lit × DataW H → Nat
  | (.string bytes, d) => bytes.length + uptoBulk d + 1
  | (_, d) => uptoBulk d + 1
 end
def uptoSmall : (H : Type) → List (DataW H) → Bool := fun _ ds => decide (uptoBulkAll ds ≤ 1048576)
def OpenSpec.upto (s : _root_.Go.ChangeSpec) : _root_.Go.OpenSpec := { _root_.Go.OpenSpec.ofChange s with cond := some uptoSmall }

/-- 'laws.FnOldPages', WHERE WHAT IT READS IS OF BULK AT MOST 1048576: true; the input reads as it did. -/
def fnOldPagesUptoRow : OpenClaim := { program := "ytjmofmdcegefgaa", sum := "1a359065d57e4840c98bb26251b93cb80f3769c03b3a622843cffae5378f049e", func := "loop.example/flashfiles/laws.FnOldPages", spec := "fnOldPages", recurses := true, apart := false, narrowed := true }
def FnOldPagesUptoSaid : Prop := fnOldPagesUptoRow.holds Try.pinned (OpenSpec.upto fnOldPagesSpec)

/-- 'laws.FnGreedyVictim', WHERE WHAT IT READS IS OF BULK AT MOST 1048576: true; the input reads as it did. -/
def fnGreedyVictimUptoRow : OpenClaim := { program := "ytjmofmdcegefgaa", sum := "1a359065d57e4840c98bb26251b93cb80f3769c03b3a622843cffae5378f049e", func := "loop.example/flashfiles/laws.FnGreedyVictim", spec := "fnGreedyVictim", recurses := true, apart := false, narrowed := true }
def FnGreedyVictimUptoSaid : Prop := fnGreedyVictimUptoRow.holds Try.pinned (OpenSpec.upto fnGreedyVictimSpec)

/-- 'laws.FnBestVictim', WHERE WHAT IT READS IS OF BULK AT MOST 1048576: true; the input reads as it did. -/
def fnBestVictimUptoRow : OpenClaim := { program := "ytjmofmdcegefgaa", sum := "1a359065d57e4840c98bb26251b93cb80f3769c03b3a622843cffae5378f049e", func := "loop.example/flashfiles/laws.FnBestVictim", spec := "fnBestVictim", recurses := true, apart := false, narrowed := true }
def FnBestVictimUptoSaid : Prop := fnBestVictimUptoRow.holds Try.pinned (OpenSpec.upto fnBestVictimSpec)

/-- 'laws.FnTableOf', WHERE WHAT IT READS IS OF BULK AT MOST 1048576: true; the input reads as it did. -/
def fnTableOfUptoRow : OpenClaim := { program := "ytjmofmdcegefgaa", sum := "1a359065d57e4840c98bb26251b93cb80f3769c03b3a622843cffae5378f049e", func := "loop.example/flashfiles/laws.FnTableOf", spec := "fnTableOf", apart := false, narrowed := true }
def FnTableOfUptoSaid : Prop := fnTableOfUptoRow.holds Try.pinned (OpenSpec.upto fnTableOfSpec)

/-- 'laws.FnFileValues', WHERE WHAT IT READS IS OF BULK AT MOST 1048576: true; the input reads as it did. -/
def fnFileValuesUptoRow : OpenClaim := { program := "ytjmofmdcegefgaa", sum := "1a359065d57e4840c98bb26251b93cb80f3769c03b3a622843cffae5378f049e", func := "loop.example/flashfiles/laws.FnFileValues", spec := "fnFileValues", apart := false, narrowed := true }
def FnFileValuesUptoSaid : Prop := fnFileValuesUptoRow.holds Try.pinned (OpenSpec.upto fnFileValuesSpec)

/-- 'laws.FnBlockCounts', WHERE WHAT IT READS IS OF BULK AT MOST 1048576: true; the input reads as it did. -/
def fnBlockCountsUptoRow : OpenClaim := { program := "ytjmofmdcegefgaa", sum := "1a359065d57e4840c98bb26251b93cb80f3769c03b3a622843cffae5378f049e", func := "loop.example/flashfiles/laws.FnBlockCounts", spec := "fnBlockCounts", recurses := true, apart := false, narrowed := true }
def FnBlockCountsUptoSaid : Prop := fnBlockCountsUptoRow.holds Try.pinned (OpenSpec.upto fnBlockCountsSpec)

end Rows
end Go.Proofs.Ytjmofmdcegefgaa
