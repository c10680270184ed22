/-
  No cell of these rows narrows 'for every input' (looked for: loops, veiled, ifaces, maps, wideKeys, modest, calm, conditions, laid).
  DERIVED. THE GIVEN ROWS OF THIS SEAT. 8 by the template 'for every input the law returns true; each argument reads behind the call as it read before'; 0 by the template 'total and deterministic' (their statements: YthhganlnljoinaaTotals.lean).
  GIVEN WITH THE SEED: the statements are not yours to turn. If you find one false, say at which input.
  Laid BY PROGRAM, IN A SANDBOX (cutbox-rows.mjs): the forced cells as the released guide's own fill.sh prints them over the translation a93cb17faa572815… (all of the seat's roots in one cut). By AI agents, Wed Nov 11 2026. No macro, syntax, notation, axiom, sorry.
-/
import Derived.Test.YthhganlnljoinaaChecked
import GoSem.Claim
import GoSem.ClaimJoined
import GoSem.ClaimMapViews
import Derived.JoinedTies
import Derived.KernelRfl
namespace Go.Proofs.Ythhganlnljoinaa
/- THE CELL 'sum', in the pinned program and in every row, IS THE sha256 OF THE DUMP (.gsa) THAT YthhganlnljoinaaProg.lean LOADS. Nothing in Lean hashes anything: it is a label: what it is worth is what the hold of that sum in a sandbox is worth. -/
noncomputable def Try.pinned : Pinned := { name := "ythhganlnljoinaa", sum := "a93cb17faa5728155857297acbac2e9c8a17903880e8bf63eac3a08ddc462fb4", checked := Try.checked }
namespace Rows
def none {H : Type} : Left H := { results := [], args := [] }

/-- 'laws.FnExactNamesValid': WHATEVER THE INPUT: true; the input reads as it did. -/
def fnExactNamesValidSpec : ChangeSpec := { name := "fnExactNamesValid", fn := fun _ => fun
  | [d] => { results := [.lit (.bool true)], args := [d] }
  | _ => none }
def fnExactNamesValidRow : OpenClaim := { program := "ythhganlnljoinaa", sum := "a93cb17faa5728155857297acbac2e9c8a17903880e8bf63eac3a08ddc462fb4", func := "loop.example/flashfiles/laws.FnExactNamesValid", spec := "fnExactNamesValid", apart := false }
def FnExactNamesValidSaid : Prop := fnExactNamesValidRow.holds Try.pinned (OpenSpec.ofChange fnExactNamesValidSpec)

/-- ITS FALSE NEIGHBOUR: 'it returns false'. Refute it at one input. -/
def fnExactNamesValidWrong : ChangeSpec := { name := "fnExactNamesValid", fn := fun _ => fun
  | [d] => { results := [.lit (.bool false)], args := [d] }
  | _ => none }
def FnExactNamesValidWrongFalsely : Prop := fnExactNamesValidRow.holds Try.pinned (OpenSpec.ofChange fnExactNamesValidWrong)

/-- 'laws.FnNamesValid': WHATEVER THE INPUT: true; the input reads as it did. -/
def fnNamesValidSpec : ChangeSpec := { name := "fnNamesValid", fn := fun _ => fun
  | [d] => { results := [.lit (.bool true)], args := [d] }
  | _ => none }
def fnNamesValidRow : OpenClaim := { program := "ythhganlnljoinaa", sum := "a93cb17faa5728155857297acbac2e9c8a17903880e8bf63eac3a08ddc462fb4", func := "loop.example/flashfiles/laws.FnNamesValid", spec := "fnNamesValid", apart := false }
def FnNamesValidSaid : Prop := fnNamesValidRow.holds Try.pinned (OpenSpec.ofChange fnNamesValidSpec)

/-- ITS FALSE NEIGHBOUR: 'it returns false'. Refute it at one input. -/
def fnNamesValidWrong : ChangeSpec := { name := "fnNamesValid", fn := fun _ => fun
  | [d] => { results := [.lit (.bool false)], args := [d] }
  | _ => none }
def FnNamesValidWrongFalsely : Prop := fnNamesValidRow.holds Try.pinned (OpenSpec.ofChange fnNamesValidWrong)

/-- 'laws.FnExactFindName': WHATEVER THE INPUT: true; the input reads as it did. -/
def fnExactFindNameSpec : ChangeSpec := { name := "fnExactFindName", fn := fun _ => fun
  | [d1, d2] => { results := [.lit (.bool true)], args := [d1, d2] }
  | _ => none }
def fnExactFindNameRow : OpenClaim := { program := "ythhganlnljoinaa", sum := "a93cb17faa5728155857297acbac2e9c8a17903880e8bf63eac3a08ddc462fb4", func := "loop.example/flashfiles/laws.FnExactFindName", spec := "fnExactFindName", apart := false }
def FnExactFindNameSaid : Prop := fnExactFindNameRow.holds Try.pinned (OpenSpec.ofChange fnExactFindNameSpec)

/-- ITS FALSE NEIGHBOUR: 'it returns false'. Refute it at one input. -/
def fnExactFindNameWrong : ChangeSpec := { name := "fnExactFindName", fn := fun _ => fun
  | [d1, d2] => { results := [.lit (.bool false)], args := [d1, d2] }
  | _ => none }
def FnExactFindNameWrongFalsely : Prop := fnExactFindNameRow.holds Try.pinned (OpenSpec.ofChange fnExactFindNameWrong)

/-- 'laws.FnFindName': WHATEVER THE INPUT: true; the input reads as it did. -/
def fnFindNameSpec : ChangeSpec := { name := "fnFindName", fn := fun _ => fun
  | [d] => { results := [.lit (.bool true)], args := [d] }
  | _ => none }
def fnFindNameRow : OpenClaim := { program := "ythhganlnljoinaa", sum := "a93cb17faa5728155857297acbac2e9c8a17903880e8bf63eac3a08ddc462fb4", func := "loop.example/flashfiles/laws.FnFindName", spec := "fnFindName", apart := false }
def FnFindNameSaid : Prop := fnFindNameRow.holds Try.pinned (OpenSpec.ofChange fnFindNameSpec)

/-- ITS FALSE NEIGHBOUR: 'it returns false'. Refute it at one input. -/
def fnFindNameWrong : ChangeSpec := { name := "fnFindName", fn := fun _ => fun
  | [d] => { results := [.lit (.bool false)], args := [d] }
  | _ => none }
def FnFindNameWrongFalsely : Prop := fnFindNameRow.holds Try.pinned (OpenSpec.ofChange fnFindNameWrong)

/-- 'laws.FnExactDropName': WHATEVER THE INPUT: true; the input reads as it did. -/
def fnExactDropNameSpec : ChangeSpec := { name := "fnExactDropName", fn := fun _ => fun
  | [d1, d2] => { results := [.lit (.bool true)], args := [d1, d2] }
  | _ => none }
def fnExactDropNameRow : OpenClaim := { program := "ythhganlnljoinaa", sum := "a93cb17faa5728155857297acbac2e9c8a17903880e8bf63eac3a08ddc462fb4", func := "loop.example/flashfiles/laws.FnExactDropName", spec := "fnExactDropName", apart := false }
def FnExactDropNameSaid : Prop := fnExactDropNameRow.holds Try.pinned (OpenSpec.ofChange fnExactDropNameSpec)

/-- ITS FALSE NEIGHBOUR: 'it returns false'. Refute it at one input. -/
def fnExactDropNameWrong : ChangeSpec := { name := "fnExactDropName", fn := fun _ => fun
  | [d1, d2] => { results := [.lit (.bool false)], args := [d1, d2] }
  | _ => none }
def FnExactDropNameWrongFalsely : Prop := fnExactDropNameRow.holds Try.pinned (OpenSpec.ofChange fnExactDropNameWrong)

/-- 'laws.FnDropName': WHATEVER THE INPUT: true; the input reads as it did. -/
def fnDropNameSpec : ChangeSpec := { name := "fnDropName", fn := fun _ => fun
  | [d] => { results := [.lit (.bool true)], args := [d] }
  | _ => none }
def fnDropNameRow : OpenClaim := { program := "ythhganlnljoinaa", sum := "a93cb17faa5728155857297acbac2e9c8a17903880e8bf63eac3a08ddc462fb4", func := "loop.example/flashfiles/laws.FnDropName", spec := "fnDropName", apart := false }
def FnDropNameSaid : Prop := fnDropNameRow.holds Try.pinned (OpenSpec.ofChange fnDropNameSpec)

/-- ITS FALSE NEIGHBOUR: 'it returns false'. Refute it at one input. -/
def fnDropNameWrong : ChangeSpec := { name := "fnDropName", fn := fun _ => fun
  | [d] => { results := [.lit (.bool false)], args := [d] }
  | _ => none }
def FnDropNameWrongFalsely : Prop := fnDropNameRow.holds Try.pinned (OpenSpec.ofChange fnDropNameWrong)

/-- 'laws.FnExactPutName': WHATEVER THE INPUT: true; the input reads as it did. -/
def fnExactPutNameSpec : ChangeSpec := { name := "fnExactPutName", fn := fun _ => fun
  | [d1, d2] => { results := [.lit (.bool true)], args := [d1, d2] }
  | _ => none }
def fnExactPutNameRow : OpenClaim := { program := "ythhganlnljoinaa", sum := "a93cb17faa5728155857297acbac2e9c8a17903880e8bf63eac3a08ddc462fb4", func := "loop.example/flashfiles/laws.FnExactPutName", spec := "fnExactPutName", apart := false }
def FnExactPutNameSaid : Prop := fnExactPutNameRow.holds Try.pinned (OpenSpec.ofChange fnExactPutNameSpec)

/-- ITS FALSE NEIGHBOUR: 'it returns false'. Refute it at one input. -/
def fnExactPutNameWrong : ChangeSpec := { name := "fnExactPutName", fn := fun _ => fun
  | [d1, d2] => { results := [.lit (.bool false)], args := [d1, d2] }
  | _ => none }
def FnExactPutNameWrongFalsely : Prop := fnExactPutNameRow.holds Try.pinned (OpenSpec.ofChange fnExactPutNameWrong)

/-- 'laws.FnPutName': WHATEVER THE INPUT: true; the input reads as it did. -/
def fnPutNameSpec : ChangeSpec := { name := "fnPutName", fn := fun _ => fun
  | [d] => { results := [.lit (.bool true)], args := [d] }
  | _ => none }
def fnPutNameRow : OpenClaim := { program := "ythhganlnljoinaa", sum := "a93cb17faa5728155857297acbac2e9c8a17903880e8bf63eac3a08ddc462fb4", func := "loop.example/flashfiles/laws.FnPutName", spec := "fnPutName", apart := false }
def FnPutNameSaid : Prop := fnPutNameRow.holds Try.pinned (OpenSpec.ofChange fnPutNameSpec)

/-- ITS FALSE NEIGHBOUR: 'it returns false'. Refute it at one input. -/
def fnPutNameWrong : ChangeSpec := { name := "fnPutName", fn := fun _ => fun
  | [d] => { results := [.lit (.bool false)], args := [d] }
  | _ => none }
def FnPutNameWrongFalsely : Prop := fnPutNameRow.holds Try.pinned (OpenSpec.ofChange fnPutNameWrong)

/- THE SECOND FORM. 'bulk': how many values and letters a reading holds, each counted each time it is reached (what is shared counts as often as it is met; a slice's spare places count too). A statement '..UptoSaid' is the law's where the arguments, and the package variables that the reading takes, are together of bulk at most 1048576: NARROWER than '..Said'. Prove '..Said' where nothing that the law and all that it calls make is longer than what came in: it says more and counts as full. Else prove '..UptoSaid'. A law counts once. -/
mutual
def uptoBulk {H : Type} : DataW H → Nat
  | .lit (.string bytes) => bytes.length + 1
  | .lit _ => 1
  | .nil => 1
  | .ptr d => uptoBulk d + 1
  | .slice elems spare => uptoBulkAll elems + uptoBulkAll spare + 1
  | .agg parts => uptoBulkAll parts + 1
  | .iface _ d => uptoBulk d + 1
  | .map entries => uptoBulkEntries entries + 1
  | .held _ => 1
def uptoBulkAll {H : Type} : List (DataW H) → Nat
  | [] => 0
  | d :: r => uptoBulk d + uptoBulkAll r
def uptoBulkEntries {H : Type} : List (Lit × DataW H) → Nat
  | [] => 0
  | x :: r => uptoBulkEntry x + uptoBulkEntries r
def uptoBulkEntry {H : Type} : Lit × DataW H → Nat
  | (.string bytes, d) => bytes.length + uptoBulk d + 1
  | (_, d) => uptoBulk d + 1
 end
def uptoSmall : (H : Type) → List (DataW H) → Bool := fun _ ds => decide (uptoBulkAll ds ≤ 1048576)
def OpenSpec.upto (s : _root_.Go.ChangeSpec) : _root_.Go.OpenSpec := { _root_.Go.OpenSpec.ofChange s with cond := some uptoSmall }

/-- 'laws.FnExactNamesValid', WHERE WHAT IT READS IS OF BULK AT MOST 1048576: true; the input reads as it did. -/
def fnExactNamesValidUptoRow : OpenClaim := { program := "ythhganlnljoinaa", sum := "a93cb17faa5728155857297acbac2e9c8a17903880e8bf63eac3a08ddc462fb4", func := "loop.example/flashfiles/laws.FnExactNamesValid", spec := "fnExactNamesValid", apart := false, narrowed := true }
def FnExactNamesValidUptoSaid : Prop := fnExactNamesValidUptoRow.holds Try.pinned (OpenSpec.upto fnExactNamesValidSpec)

/-- 'laws.FnNamesValid', WHERE WHAT IT READS IS OF BULK AT MOST 1048576: true; the input reads as it did. -/
def fnNamesValidUptoRow : OpenClaim := { program := "ythhganlnljoinaa", sum := "a93cb17faa5728155857297acbac2e9c8a17903880e8bf63eac3a08ddc462fb4", func := "loop.example/flashfiles/laws.FnNamesValid", spec := "fnNamesValid", apart := false, narrowed := true }
def FnNamesValidUptoSaid : Prop := fnNamesValidUptoRow.holds Try.pinned (OpenSpec.upto fnNamesValidSpec)

/-- 'laws.FnExactFindName', WHERE WHAT IT READS IS OF BULK AT MOST 1048576: true; the input reads as it did. -/
def fnExactFindNameUptoRow : OpenClaim := { program := "ythhganlnljoinaa", sum := "a93cb17faa5728155857297acbac2e9c8a17903880e8bf63eac3a08ddc462fb4", func := "loop.example/flashfiles/laws.FnExactFindName", spec := "fnExactFindName", apart := false, narrowed := true }
def FnExactFindNameUptoSaid : Prop := fnExactFindNameUptoRow.holds Try.pinned (OpenSpec.upto fnExactFindNameSpec)

/-- 'laws.FnFindName', WHERE WHAT IT READS IS OF BULK AT MOST 1048576: true; the input reads as it did. -/
def fnFindNameUptoRow : OpenClaim := { program := "ythhganlnljoinaa", sum := "a93cb17faa5728155857297acbac2e9c8a17903880e8bf63eac3a08ddc462fb4", func := "loop.example/flashfiles/laws.FnFindName", spec := "fnFindName", apart := false, narrowed := true }
def FnFindNameUptoSaid : Prop := fnFindNameUptoRow.holds Try.pinned (OpenSpec.upto fnFindNameSpec)

/-- 'laws.FnExactDropName', WHERE WHAT IT READS IS OF BULK AT MOST 1048576: true; the input reads as it did. -/
def fnExactDropNameUptoRow : OpenClaim := { program := "ythhganlnljoinaa", sum := "a93cb17faa5728155857297acbac2e9c8a17903880e8bf63eac3a08ddc462fb4", func := "loop.example/flashfiles/laws.FnExactDropName", spec := "fnExactDropName", apart := false, narrowed := true }
def FnExactDropNameUptoSaid : Prop := fnExactDropNameUptoRow.holds Try.pinned (OpenSpec.upto fnExactDropNameSpec)

/-- 'laws.FnDropName', WHERE WHAT IT READS IS OF BULK AT MOST 1048576: true; the input reads as it did. -/
def fnDropNameUptoRow : OpenClaim := { program := "ythhganlnljoinaa", sum := "a93cb17faa5728155857297acbac2e9c8a17903880e8bf63eac3a08ddc462fb4", func := "loop.example/flashfiles/laws.FnDropName", spec := "fnDropName", apart := false, narrowed := true }
def FnDropNameUptoSaid : Prop := fnDropNameUptoRow.holds Try.pinned (OpenSpec.upto fnDropNameSpec)

/-- 'laws.FnExactPutName', WHERE WHAT IT READS IS OF BULK AT MOST 1048576: true; the input reads as it did. -/
def fnExactPutNameUptoRow : OpenClaim := { program := "ythhganlnljoinaa", sum := "a93cb17faa5728155857297acbac2e9c8a17903880e8bf63eac3a08ddc462fb4", func := "loop.example/flashfiles/laws.FnExactPutName", spec := "fnExactPutName", apart := false, narrowed := true }
def FnExactPutNameUptoSaid : Prop := fnExactPutNameUptoRow.holds Try.pinned (OpenSpec.upto fnExactPutNameSpec)

/-- 'laws.FnPutName', WHERE WHAT IT READS IS OF BULK AT MOST 1048576: true; the input reads as it did. -/
def fnPutNameUptoRow : OpenClaim := { program := "ythhganlnljoinaa", sum := "a93cb17faa5728155857297acbac2e9c8a17903880e8bf63eac3a08ddc462fb4", func := "loop.example/flashfiles/laws.FnPutName", spec := "fnPutName", apart := false, narrowed := true }
def FnPutNameUptoSaid : Prop := fnPutNameUptoRow.holds Try.pinned (OpenSpec.upto fnPutNameSpec)

end Rows
end Go.Proofs.Ythhganlnljoinaa
