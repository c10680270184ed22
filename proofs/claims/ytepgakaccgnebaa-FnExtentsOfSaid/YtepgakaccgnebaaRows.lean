/-
  No cell of these rows narrows 'for every input' (looked for: loops, veiled, ifaces, maps, wideKeys, modest, calm, conditions, laid).
  DERIVED. THE GIVEN ROWS OF THIS SEAT. 8 by the template 'for every input the law returns true; each argument reads behind the call as it read before'; 0 by the template 'total and deterministic' (their statements: YtepgakaccgnebaaTotals.lean).
  GIVEN WITH THE SEED: the statements are not yours to turn. If you find one false, say at which input.
  Laid BY PROGRAM, IN A SANDBOX (cutbox-rows.mjs): the forced cells as the released guide's own fill.sh prints them over the translation 319c555a47d794af… (all of the seat's roots in one cut). By AI agents, Wed Nov 11 2026. No macro, syntax, notation, axiom, sorry.
-/
import Derived.Test.YtepgakaccgnebaaChecked
import GoSem.Claim
import GoSem.ClaimJoined
import GoSem.ClaimMapViews
import Derived.JoinedTies
import Derived.KernelRfl
namespace Go.Proofs.Ytepgakaccgnebaa
/- THE CELL 'sum', in the pinned program and in every row, IS THE sha256 OF THE DUMP (.gsa) THAT YtepgakaccgnebaaProg.lean LOADS. Nothing in Lean hashes anything: it is a label: what it is worth is what the hold of that sum in a sandbox is worth. -/
noncomputable def Try.pinned : Pinned := { name := "ytepgakaccgnebaa", sum := "319c555a47d794af389e296b3387e946433de885cfe456132b0e704a592e6a3f", checked := Try.checked }
namespace Rows
def none {H : Type} : Left H := { results := [], args := [] }

/-- 'laws.FnExactExtentsValid': WHATEVER THE INPUT: true; the input reads as it did. -/
def fnExactExtentsValidSpec : ChangeSpec := { name := "fnExactExtentsValid", fn := fun _ => fun
  | [d] => { results := [.lit (.bool true)], args := [d] }
  | _ => none }
def fnExactExtentsValidRow : OpenClaim := { program := "ytepgakaccgnebaa", sum := "319c555a47d794af389e296b3387e946433de885cfe456132b0e704a592e6a3f", func := "loop.example/flashfiles/laws.FnExactExtentsValid", spec := "fnExactExtentsValid", apart := false }
def FnExactExtentsValidSaid : Prop := fnExactExtentsValidRow.holds Try.pinned (OpenSpec.ofChange fnExactExtentsValidSpec)

/-- ITS FALSE NEIGHBOUR: 'it returns false'. Refute it at one input. -/
def fnExactExtentsValidWrong : ChangeSpec := { name := "fnExactExtentsValid", fn := fun _ => fun
  | [d] => { results := [.lit (.bool false)], args := [d] }
  | _ => none }
def FnExactExtentsValidWrongFalsely : Prop := fnExactExtentsValidRow.holds Try.pinned (OpenSpec.ofChange fnExactExtentsValidWrong)

/-- 'laws.FnExtentsValid': WHATEVER THE INPUT: true; the input reads as it did. -/
def fnExtentsValidSpec : ChangeSpec := { name := "fnExtentsValid", fn := fun _ => fun
  | [d] => { results := [.lit (.bool true)], args := [d] }
  | _ => none }
def fnExtentsValidRow : OpenClaim := { program := "ytepgakaccgnebaa", sum := "319c555a47d794af389e296b3387e946433de885cfe456132b0e704a592e6a3f", func := "loop.example/flashfiles/laws.FnExtentsValid", spec := "fnExtentsValid", apart := false }
def FnExtentsValidSaid : Prop := fnExtentsValidRow.holds Try.pinned (OpenSpec.ofChange fnExtentsValidSpec)

/-- ITS FALSE NEIGHBOUR: 'it returns false'. Refute it at one input. -/
def fnExtentsValidWrong : ChangeSpec := { name := "fnExtentsValid", fn := fun _ => fun
  | [d] => { results := [.lit (.bool false)], args := [d] }
  | _ => none }
def FnExtentsValidWrongFalsely : Prop := fnExtentsValidRow.holds Try.pinned (OpenSpec.ofChange fnExtentsValidWrong)

/-- 'laws.FnExactExtentAt': WHATEVER THE INPUT: true; the input reads as it did. -/
def fnExactExtentAtSpec : ChangeSpec := { name := "fnExactExtentAt", fn := fun _ => fun
  | [d1, d2] => { results := [.lit (.bool true)], args := [d1, d2] }
  | _ => none }
def fnExactExtentAtRow : OpenClaim := { program := "ytepgakaccgnebaa", sum := "319c555a47d794af389e296b3387e946433de885cfe456132b0e704a592e6a3f", func := "loop.example/flashfiles/laws.FnExactExtentAt", spec := "fnExactExtentAt", apart := false }
def FnExactExtentAtSaid : Prop := fnExactExtentAtRow.holds Try.pinned (OpenSpec.ofChange fnExactExtentAtSpec)

/-- ITS FALSE NEIGHBOUR: 'it returns false'. Refute it at one input. -/
def fnExactExtentAtWrong : ChangeSpec := { name := "fnExactExtentAt", fn := fun _ => fun
  | [d1, d2] => { results := [.lit (.bool false)], args := [d1, d2] }
  | _ => none }
def FnExactExtentAtWrongFalsely : Prop := fnExactExtentAtRow.holds Try.pinned (OpenSpec.ofChange fnExactExtentAtWrong)

/-- 'laws.FnExtentAt': WHATEVER THE INPUT: true; the input reads as it did. -/
def fnExtentAtSpec : ChangeSpec := { name := "fnExtentAt", fn := fun _ => fun
  | [d] => { results := [.lit (.bool true)], args := [d] }
  | _ => none }
def fnExtentAtRow : OpenClaim := { program := "ytepgakaccgnebaa", sum := "319c555a47d794af389e296b3387e946433de885cfe456132b0e704a592e6a3f", func := "loop.example/flashfiles/laws.FnExtentAt", spec := "fnExtentAt", apart := false }
def FnExtentAtSaid : Prop := fnExtentAtRow.holds Try.pinned (OpenSpec.ofChange fnExtentAtSpec)

/-- ITS FALSE NEIGHBOUR: 'it returns false'. Refute it at one input. -/
def fnExtentAtWrong : ChangeSpec := { name := "fnExtentAt", fn := fun _ => fun
  | [d] => { results := [.lit (.bool false)], args := [d] }
  | _ => none }
def FnExtentAtWrongFalsely : Prop := fnExtentAtRow.holds Try.pinned (OpenSpec.ofChange fnExtentAtWrong)

/-- 'laws.FnExactExtentsList': WHATEVER THE INPUT: true; the input reads as it did. -/
def fnExactExtentsListSpec : ChangeSpec := { name := "fnExactExtentsList", fn := fun _ => fun
  | [d] => { results := [.lit (.bool true)], args := [d] }
  | _ => none }
def fnExactExtentsListRow : OpenClaim := { program := "ytepgakaccgnebaa", sum := "319c555a47d794af389e296b3387e946433de885cfe456132b0e704a592e6a3f", func := "loop.example/flashfiles/laws.FnExactExtentsList", spec := "fnExactExtentsList", apart := false }
def FnExactExtentsListSaid : Prop := fnExactExtentsListRow.holds Try.pinned (OpenSpec.ofChange fnExactExtentsListSpec)

/-- ITS FALSE NEIGHBOUR: 'it returns false'. Refute it at one input. -/
def fnExactExtentsListWrong : ChangeSpec := { name := "fnExactExtentsList", fn := fun _ => fun
  | [d] => { results := [.lit (.bool false)], args := [d] }
  | _ => none }
def FnExactExtentsListWrongFalsely : Prop := fnExactExtentsListRow.holds Try.pinned (OpenSpec.ofChange fnExactExtentsListWrong)

/-- 'laws.FnExtentsList': WHATEVER THE INPUT: true; the input reads as it did. -/
def fnExtentsListSpec : ChangeSpec := { name := "fnExtentsList", fn := fun _ => fun
  | [d] => { results := [.lit (.bool true)], args := [d] }
  | _ => none }
def fnExtentsListRow : OpenClaim := { program := "ytepgakaccgnebaa", sum := "319c555a47d794af389e296b3387e946433de885cfe456132b0e704a592e6a3f", func := "loop.example/flashfiles/laws.FnExtentsList", spec := "fnExtentsList", apart := false }
def FnExtentsListSaid : Prop := fnExtentsListRow.holds Try.pinned (OpenSpec.ofChange fnExtentsListSpec)

/-- ITS FALSE NEIGHBOUR: 'it returns false'. Refute it at one input. -/
def fnExtentsListWrong : ChangeSpec := { name := "fnExtentsList", fn := fun _ => fun
  | [d] => { results := [.lit (.bool false)], args := [d] }
  | _ => none }
def FnExtentsListWrongFalsely : Prop := fnExtentsListRow.holds Try.pinned (OpenSpec.ofChange fnExtentsListWrong)

/-- 'laws.FnExactExtentsOf': WHATEVER THE INPUT: true; the input reads as it did. -/
def fnExactExtentsOfSpec : ChangeSpec := { name := "fnExactExtentsOf", fn := fun _ => fun
  | [d] => { results := [.lit (.bool true)], args := [d] }
  | _ => none }
def fnExactExtentsOfRow : OpenClaim := { program := "ytepgakaccgnebaa", sum := "319c555a47d794af389e296b3387e946433de885cfe456132b0e704a592e6a3f", func := "loop.example/flashfiles/laws.FnExactExtentsOf", spec := "fnExactExtentsOf", apart := false }
def FnExactExtentsOfSaid : Prop := fnExactExtentsOfRow.holds Try.pinned (OpenSpec.ofChange fnExactExtentsOfSpec)

/-- ITS FALSE NEIGHBOUR: 'it returns false'. Refute it at one input. -/
def fnExactExtentsOfWrong : ChangeSpec := { name := "fnExactExtentsOf", fn := fun _ => fun
  | [d] => { results := [.lit (.bool false)], args := [d] }
  | _ => none }
def FnExactExtentsOfWrongFalsely : Prop := fnExactExtentsOfRow.holds Try.pinned (OpenSpec.ofChange fnExactExtentsOfWrong)

/-- 'laws.FnExtentsOf': WHATEVER THE INPUT: true; the input reads as it did. -/
def fnExtentsOfSpec : ChangeSpec := { name := "fnExtentsOf", fn := fun _ => fun
  | [d] => { results := [.lit (.bool true)], args := [d] }
  | _ => none }
def fnExtentsOfRow : OpenClaim := { program := "ytepgakaccgnebaa", sum := "319c555a47d794af389e296b3387e946433de885cfe456132b0e704a592e6a3f", func := "loop.example/flashfiles/laws.FnExtentsOf", spec := "fnExtentsOf", apart := false }
def FnExtentsOfSaid : Prop := fnExtentsOfRow.holds Try.pinned (OpenSpec.ofChange fnExtentsOfSpec)

/-- ITS FALSE NEIGHBOUR: 'it returns false'. Refute it at one input. -/
def fnExtentsOfWrong : ChangeSpec := { name := "fnExtentsOf", fn := fun _ => fun
  | [d] => { results := [.lit (.bool false)], args := [d] }
  | _ => none }
def FnExtentsOfWrongFalsely : Prop := fnExtentsOfRow.holds Try.pinned (OpenSpec.ofChange fnExtentsOfWrong)

/- THE SECOND FORM. 'bulk': how many values and letters a reading holds, each counted each time it is reached (what is shared counts as often as it is met; a slice's spare places count too). A statement '..UptoSaid' is the law's where the arguments, and the package variables that the reading takes, are together of bulk at most 1048576: NARROWER than '..Said'. Prove '..Said' where nothing that the law and all that it calls make is longer than what came in: it says more and counts as full. Else prove '..UptoSaid'. A law counts once. -/
mutual
def uptoBulk {H : Type} : DataW H → Nat
  | .lit (.string bytes) => bytes.length + 1
  | .lit _ => 1
  | .nil => 1
  | .ptr d => uptoBulk d + 1
  | .slice elems spare => uptoBulkAll elems + uptoBulkAll spare + 1
  | .agg parts => uptoBulkAll parts + 1
  | .iface _ d => uptoBulk d + 1
  | .map entries => uptoBulkEntries entries + 1
  | .held _ => 1
def uptoBulkAll {H : Type} : List (DataW H) → Nat
  | [] => 0
  | d :: r => uptoBulk d + uptoBulkAll r
def uptoBulkEntries {H : Type} : List (Lit × DataW H) → Nat
  | [] => 0
  | x :: r => uptoBulkEntry x + uptoBulkEntries r
def uptoBulkEntry {H : Type} : Lit × DataW H → Nat
  | (.string bytes, d) => bytes.length + uptoBulk d + 1
  | (_, d) => uptoBulk d + 1
 end
def uptoSmall : (H : Type) → List (DataW H) → Bool := fun _ ds => decide (uptoBulkAll ds ≤ 1048576)
def OpenSpec.upto (s : _root_.Go.ChangeSpec) : _root_.Go.OpenSpec := { _root_.Go.OpenSpec.ofChange s with cond := some uptoSmall }

/-- 'laws.FnExactExtentsValid', WHERE WHAT IT READS IS OF BULK AT MOST 1048576: true; the input reads as it did. -/
def fnExactExtentsValidUptoRow : OpenClaim := { program := "ytepgakaccgnebaa", sum := "319c555a47d794af389e296b3387e946433de885cfe456132b0e704a592e6a3f", func := "loop.example/flashfiles/laws.FnExactExtentsValid", spec := "fnExactExtentsValid", apart := false, narrowed := true }
def FnExactExtentsValidUptoSaid : Prop := fnExactExtentsValidUptoRow.holds Try.pinned (OpenSpec.upto fnExactExtentsValidSpec)

/-- 'laws.FnExtentsValid', WHERE WHAT IT READS IS OF BULK AT MOST 1048576: true; the input reads as it did. -/
def fnExtentsValidUptoRow : OpenClaim := { program := "ytepgakaccgnebaa", sum := "319c555a47d794af389e296b3387e946433de885cfe456132b0e704a592e6a3f", func := "loop.example/flashfiles/laws.FnExtentsValid", spec := "fnExtentsValid", apart := false, narrowed := true }
def FnExtentsValidUptoSaid : Prop := fnExtentsValidUptoRow.holds Try.pinned (OpenSpec.upto fnExtentsValidSpec)

/-- 'laws.FnExactExtentAt', WHERE WHAT IT READS IS OF BULK AT MOST 1048576: true; the input reads as it did. -/
def fnExactExtentAtUptoRow : OpenClaim := { program := "ytepgakaccgnebaa", sum := "319c555a47d794af389e296b3387e946433de885cfe456132b0e704a592e6a3f", func := "loop.example/flashfiles/laws.FnExactExtentAt", spec := "fnExactExtentAt", apart := false, narrowed := true }
def FnExactExtentAtUptoSaid : Prop := fnExactExtentAtUptoRow.holds Try.pinned (OpenSpec.upto fnExactExtentAtSpec)

/-- 'laws.FnExtentAt', WHERE WHAT IT READS IS OF BULK AT MOST 1048576: true; the input reads as it did. -/
def fnExtentAtUptoRow : OpenClaim := { program := "ytepgakaccgnebaa", sum := "319c555a47d794af389e296b3387e946433de885cfe456132b0e704a592e6a3f", func := "loop.example/flashfiles/laws.FnExtentAt", spec := "fnExtentAt", apart := false, narrowed := true }
def FnExtentAtUptoSaid : Prop := fnExtentAtUptoRow.holds Try.pinned (OpenSpec.upto fnExtentAtSpec)

/-- 'laws.FnExactExtentsList', WHERE WHAT IT READS IS OF BULK AT MOST 1048576: true; the input reads as it did. -/
def fnExactExtentsListUptoRow : OpenClaim := { program := "ytepgakaccgnebaa", sum := "319c555a47d794af389e296b3387e946433de885cfe456132b0e704a592e6a3f", func := "loop.example/flashfiles/laws.FnExactExtentsList", spec := "fnExactExtentsList", apart := false, narrowed := true }
def FnExactExtentsListUptoSaid : Prop := fnExactExtentsListUptoRow.holds Try.pinned (OpenSpec.upto fnExactExtentsListSpec)

/-- 'laws.FnExtentsList', WHERE WHAT IT READS IS OF BULK AT MOST 1048576: true; the input reads as it did. -/
def fnExtentsListUptoRow : OpenClaim := { program := "ytepgakaccgnebaa", sum := "319c555a47d794af389e296b3387e946433de885cfe456132b0e704a592e6a3f", func := "loop.example/flashfiles/laws.FnExtentsList", spec := "fnExtentsList", apart := false, narrowed := true }
def FnExtentsListUptoSaid : Prop := fnExtentsListUptoRow.holds Try.pinned (OpenSpec.upto fnExtentsListSpec)

/-- 'laws.FnExactExtentsOf', WHERE WHAT IT READS IS OF BULK AT MOST 1048576: true; the input reads as it did. -/
def fnExactExtentsOfUptoRow : OpenClaim := { program := "ytepgakaccgnebaa", sum := "319c555a47d794af389e296b3387e946433de885cfe456132b0e704a592e6a3f", func := "loop.example/flashfiles/laws.FnExactExtentsOf", spec := "fnExactExtentsOf", apart := false, narrowed := true }
def FnExactExtentsOfUptoSaid : Prop := fnExactExtentsOfUptoRow.holds Try.pinned (OpenSpec.upto fnExactExtentsOfSpec)

/-- 'laws.FnExtentsOf', WHERE WHAT IT READS IS OF BULK AT MOST 1048576: true; the input reads as it did. -/
def fnExtentsOfUptoRow : OpenClaim := { program := "ytepgakaccgnebaa", sum := "319c555a47d794af389e296b3387e946433de885cfe456132b0e704a592e6a3f", func := "loop.example/flashfiles/laws.FnExtentsOf", spec := "fnExtentsOf", apart := false, narrowed := true }
def FnExtentsOfUptoSaid : Prop := fnExtentsOfUptoRow.holds Try.pinned (OpenSpec.upto fnExtentsOfSpec)

end Rows
end Go.Proofs.Ytepgakaccgnebaa
