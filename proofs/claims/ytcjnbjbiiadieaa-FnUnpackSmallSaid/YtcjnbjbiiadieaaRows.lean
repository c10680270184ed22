/-
  No cell of these rows narrows 'for every input' (looked for: loops, veiled, ifaces, maps, wideKeys, modest, calm, conditions, laid).
  DERIVED. THE GIVEN ROWS OF THIS SEAT. 12 by the template 'for every input the law returns true; each argument reads behind the call as it read before'; 0 by the template 'total and deterministic' (their statements: YtcjnbjbiiadieaaTotals.lean).
  GIVEN WITH THE SEED: the statements are not yours to turn. If you find one false, say at which input.
  Laid BY PROGRAM, IN A SANDBOX (cutbox-rows.mjs): the forced cells as the released guide's own fill.sh prints them over the translation f105e69aa3997dfe… (all of the seat's roots in one cut). By AI agents, Wed Nov 11 2026. No macro, syntax, notation, axiom, sorry.
-/
import Derived.Test.YtcjnbjbiiadieaaChecked
import GoSem.Claim
import GoSem.ClaimJoined
import GoSem.ClaimMapViews
import Derived.JoinedTies
import Derived.KernelRfl
namespace Go.Proofs.Ytcjnbjbiiadieaa
/- THE CELL 'sum', in the pinned program and in every row, IS THE sha256 OF THE DUMP (.gsa) THAT YtcjnbjbiiadieaaProg.lean LOADS. Nothing in Lean hashes anything: it is a label: what it is worth is what the hold of that sum in a sandbox is worth. -/
noncomputable def Try.pinned : Pinned := { name := "ytcjnbjbiiadieaa", sum := "f105e69aa3997dfe5daecf01fb3959de2cc9cfcfb6d64613457ce06e9e389af5", checked := Try.checked }
namespace Rows
def none {H : Type} : Left H := { results := [], args := [] }

/-- 'laws.FnExactVictimScore': WHATEVER THE INPUT: true; the input reads as it did. -/
def fnExactVictimScoreSpec : ChangeSpec := { name := "fnExactVictimScore", fn := fun _ => fun
  | [d1, d2] => { results := [.lit (.bool true)], args := [d1, d2] }
  | _ => none }
def fnExactVictimScoreRow : OpenClaim := { program := "ytcjnbjbiiadieaa", sum := "f105e69aa3997dfe5daecf01fb3959de2cc9cfcfb6d64613457ce06e9e389af5", func := "loop.example/flashfiles/laws.FnExactVictimScore", spec := "fnExactVictimScore", apart := false }
def FnExactVictimScoreSaid : Prop := fnExactVictimScoreRow.holds Try.pinned (OpenSpec.ofChange fnExactVictimScoreSpec)

/-- ITS FALSE NEIGHBOUR: 'it returns false'. Refute it at one input. -/
def fnExactVictimScoreWrong : ChangeSpec := { name := "fnExactVictimScore", fn := fun _ => fun
  | [d1, d2] => { results := [.lit (.bool false)], args := [d1, d2] }
  | _ => none }
def FnExactVictimScoreWrongFalsely : Prop := fnExactVictimScoreRow.holds Try.pinned (OpenSpec.ofChange fnExactVictimScoreWrong)

/-- 'laws.FnVictimScore': WHATEVER THE INPUT: true; the input reads as it did. -/
def fnVictimScoreSpec : ChangeSpec := { name := "fnVictimScore", fn := fun _ => fun
  | [d] => { results := [.lit (.bool true)], args := [d] }
  | _ => none }
def fnVictimScoreRow : OpenClaim := { program := "ytcjnbjbiiadieaa", sum := "f105e69aa3997dfe5daecf01fb3959de2cc9cfcfb6d64613457ce06e9e389af5", func := "loop.example/flashfiles/laws.FnVictimScore", spec := "fnVictimScore", apart := false }
def FnVictimScoreSaid : Prop := fnVictimScoreRow.holds Try.pinned (OpenSpec.ofChange fnVictimScoreSpec)

/-- ITS FALSE NEIGHBOUR: 'it returns false'. Refute it at one input. -/
def fnVictimScoreWrong : ChangeSpec := { name := "fnVictimScore", fn := fun _ => fun
  | [d] => { results := [.lit (.bool false)], args := [d] }
  | _ => none }
def FnVictimScoreWrongFalsely : Prop := fnVictimScoreRow.holds Try.pinned (OpenSpec.ofChange fnVictimScoreWrong)

/-- 'laws.FnExactTextValid': WHATEVER THE INPUT: true; the input reads as it did. -/
def fnExactTextValidSpec : ChangeSpec := { name := "fnExactTextValid", fn := fun _ => fun
  | [d] => { results := [.lit (.bool true)], args := [d] }
  | _ => none }
def fnExactTextValidRow : OpenClaim := { program := "ytcjnbjbiiadieaa", sum := "f105e69aa3997dfe5daecf01fb3959de2cc9cfcfb6d64613457ce06e9e389af5", func := "loop.example/flashfiles/laws.FnExactTextValid", spec := "fnExactTextValid", apart := false }
def FnExactTextValidSaid : Prop := fnExactTextValidRow.holds Try.pinned (OpenSpec.ofChange fnExactTextValidSpec)

/-- ITS FALSE NEIGHBOUR: 'it returns false'. Refute it at one input. -/
def fnExactTextValidWrong : ChangeSpec := { name := "fnExactTextValid", fn := fun _ => fun
  | [d] => { results := [.lit (.bool false)], args := [d] }
  | _ => none }
def FnExactTextValidWrongFalsely : Prop := fnExactTextValidRow.holds Try.pinned (OpenSpec.ofChange fnExactTextValidWrong)

/-- 'laws.FnTextValid': WHATEVER THE INPUT: true; the input reads as it did. -/
def fnTextValidSpec : ChangeSpec := { name := "fnTextValid", fn := fun _ => fun
  | [d] => { results := [.lit (.bool true)], args := [d] }
  | _ => none }
def fnTextValidRow : OpenClaim := { program := "ytcjnbjbiiadieaa", sum := "f105e69aa3997dfe5daecf01fb3959de2cc9cfcfb6d64613457ce06e9e389af5", func := "loop.example/flashfiles/laws.FnTextValid", spec := "fnTextValid", apart := false }
def FnTextValidSaid : Prop := fnTextValidRow.holds Try.pinned (OpenSpec.ofChange fnTextValidSpec)

/-- ITS FALSE NEIGHBOUR: 'it returns false'. Refute it at one input. -/
def fnTextValidWrong : ChangeSpec := { name := "fnTextValid", fn := fun _ => fun
  | [d] => { results := [.lit (.bool false)], args := [d] }
  | _ => none }
def FnTextValidWrongFalsely : Prop := fnTextValidRow.holds Try.pinned (OpenSpec.ofChange fnTextValidWrong)

/-- 'laws.FnExactSmallFits': WHATEVER THE INPUT: true; the input reads as it did. -/
def fnExactSmallFitsSpec : ChangeSpec := { name := "fnExactSmallFits", fn := fun _ => fun
  | [d] => { results := [.lit (.bool true)], args := [d] }
  | _ => none }
def fnExactSmallFitsRow : OpenClaim := { program := "ytcjnbjbiiadieaa", sum := "f105e69aa3997dfe5daecf01fb3959de2cc9cfcfb6d64613457ce06e9e389af5", func := "loop.example/flashfiles/laws.FnExactSmallFits", spec := "fnExactSmallFits", apart := false }
def FnExactSmallFitsSaid : Prop := fnExactSmallFitsRow.holds Try.pinned (OpenSpec.ofChange fnExactSmallFitsSpec)

/-- ITS FALSE NEIGHBOUR: 'it returns false'. Refute it at one input. -/
def fnExactSmallFitsWrong : ChangeSpec := { name := "fnExactSmallFits", fn := fun _ => fun
  | [d] => { results := [.lit (.bool false)], args := [d] }
  | _ => none }
def FnExactSmallFitsWrongFalsely : Prop := fnExactSmallFitsRow.holds Try.pinned (OpenSpec.ofChange fnExactSmallFitsWrong)

/-- 'laws.FnSmallFits': WHATEVER THE INPUT: true; the input reads as it did. -/
def fnSmallFitsSpec : ChangeSpec := { name := "fnSmallFits", fn := fun _ => fun
  | [d] => { results := [.lit (.bool true)], args := [d] }
  | _ => none }
def fnSmallFitsRow : OpenClaim := { program := "ytcjnbjbiiadieaa", sum := "f105e69aa3997dfe5daecf01fb3959de2cc9cfcfb6d64613457ce06e9e389af5", func := "loop.example/flashfiles/laws.FnSmallFits", spec := "fnSmallFits", apart := false }
def FnSmallFitsSaid : Prop := fnSmallFitsRow.holds Try.pinned (OpenSpec.ofChange fnSmallFitsSpec)

/-- ITS FALSE NEIGHBOUR: 'it returns false'. Refute it at one input. -/
def fnSmallFitsWrong : ChangeSpec := { name := "fnSmallFits", fn := fun _ => fun
  | [d] => { results := [.lit (.bool false)], args := [d] }
  | _ => none }
def FnSmallFitsWrongFalsely : Prop := fnSmallFitsRow.holds Try.pinned (OpenSpec.ofChange fnSmallFitsWrong)

/-- 'laws.FnExactNameBucket': WHATEVER THE INPUT: true; the input reads as it did. -/
def fnExactNameBucketSpec : ChangeSpec := { name := "fnExactNameBucket", fn := fun _ => fun
  | [d] => { results := [.lit (.bool true)], args := [d] }
  | _ => none }
def fnExactNameBucketRow : OpenClaim := { program := "ytcjnbjbiiadieaa", sum := "f105e69aa3997dfe5daecf01fb3959de2cc9cfcfb6d64613457ce06e9e389af5", func := "loop.example/flashfiles/laws.FnExactNameBucket", spec := "fnExactNameBucket", apart := false }
def FnExactNameBucketSaid : Prop := fnExactNameBucketRow.holds Try.pinned (OpenSpec.ofChange fnExactNameBucketSpec)

/-- ITS FALSE NEIGHBOUR: 'it returns false'. Refute it at one input. -/
def fnExactNameBucketWrong : ChangeSpec := { name := "fnExactNameBucket", fn := fun _ => fun
  | [d] => { results := [.lit (.bool false)], args := [d] }
  | _ => none }
def FnExactNameBucketWrongFalsely : Prop := fnExactNameBucketRow.holds Try.pinned (OpenSpec.ofChange fnExactNameBucketWrong)

/-- 'laws.FnNameBucket': WHATEVER THE INPUT: true; the input reads as it did. -/
def fnNameBucketSpec : ChangeSpec := { name := "fnNameBucket", fn := fun _ => fun
  | [d] => { results := [.lit (.bool true)], args := [d] }
  | _ => none }
def fnNameBucketRow : OpenClaim := { program := "ytcjnbjbiiadieaa", sum := "f105e69aa3997dfe5daecf01fb3959de2cc9cfcfb6d64613457ce06e9e389af5", func := "loop.example/flashfiles/laws.FnNameBucket", spec := "fnNameBucket", apart := false }
def FnNameBucketSaid : Prop := fnNameBucketRow.holds Try.pinned (OpenSpec.ofChange fnNameBucketSpec)

/-- ITS FALSE NEIGHBOUR: 'it returns false'. Refute it at one input. -/
def fnNameBucketWrong : ChangeSpec := { name := "fnNameBucket", fn := fun _ => fun
  | [d] => { results := [.lit (.bool false)], args := [d] }
  | _ => none }
def FnNameBucketWrongFalsely : Prop := fnNameBucketRow.holds Try.pinned (OpenSpec.ofChange fnNameBucketWrong)

/-- 'laws.FnExactPackSmall': WHATEVER THE INPUT: true; the input reads as it did. -/
def fnExactPackSmallSpec : ChangeSpec := { name := "fnExactPackSmall", fn := fun _ => fun
  | [d] => { results := [.lit (.bool true)], args := [d] }
  | _ => none }
def fnExactPackSmallRow : OpenClaim := { program := "ytcjnbjbiiadieaa", sum := "f105e69aa3997dfe5daecf01fb3959de2cc9cfcfb6d64613457ce06e9e389af5", func := "loop.example/flashfiles/laws.FnExactPackSmall", spec := "fnExactPackSmall", apart := false }
def FnExactPackSmallSaid : Prop := fnExactPackSmallRow.holds Try.pinned (OpenSpec.ofChange fnExactPackSmallSpec)

/-- ITS FALSE NEIGHBOUR: 'it returns false'. Refute it at one input. -/
def fnExactPackSmallWrong : ChangeSpec := { name := "fnExactPackSmall", fn := fun _ => fun
  | [d] => { results := [.lit (.bool false)], args := [d] }
  | _ => none }
def FnExactPackSmallWrongFalsely : Prop := fnExactPackSmallRow.holds Try.pinned (OpenSpec.ofChange fnExactPackSmallWrong)

/-- 'laws.FnPackSmall': WHATEVER THE INPUT: true; the input reads as it did. -/
def fnPackSmallSpec : ChangeSpec := { name := "fnPackSmall", fn := fun _ => fun
  | [d] => { results := [.lit (.bool true)], args := [d] }
  | _ => none }
def fnPackSmallRow : OpenClaim := { program := "ytcjnbjbiiadieaa", sum := "f105e69aa3997dfe5daecf01fb3959de2cc9cfcfb6d64613457ce06e9e389af5", func := "loop.example/flashfiles/laws.FnPackSmall", spec := "fnPackSmall", apart := false }
def FnPackSmallSaid : Prop := fnPackSmallRow.holds Try.pinned (OpenSpec.ofChange fnPackSmallSpec)

/-- ITS FALSE NEIGHBOUR: 'it returns false'. Refute it at one input. -/
def fnPackSmallWrong : ChangeSpec := { name := "fnPackSmall", fn := fun _ => fun
  | [d] => { results := [.lit (.bool false)], args := [d] }
  | _ => none }
def FnPackSmallWrongFalsely : Prop := fnPackSmallRow.holds Try.pinned (OpenSpec.ofChange fnPackSmallWrong)

/-- 'laws.FnExactUnpackSmall': WHATEVER THE INPUT: true; the input reads as it did. -/
def fnExactUnpackSmallSpec : ChangeSpec := { name := "fnExactUnpackSmall", fn := fun _ => fun
  | [d] => { results := [.lit (.bool true)], args := [d] }
  | _ => none }
def fnExactUnpackSmallRow : OpenClaim := { program := "ytcjnbjbiiadieaa", sum := "f105e69aa3997dfe5daecf01fb3959de2cc9cfcfb6d64613457ce06e9e389af5", func := "loop.example/flashfiles/laws.FnExactUnpackSmall", spec := "fnExactUnpackSmall", apart := false }
def FnExactUnpackSmallSaid : Prop := fnExactUnpackSmallRow.holds Try.pinned (OpenSpec.ofChange fnExactUnpackSmallSpec)

/-- ITS FALSE NEIGHBOUR: 'it returns false'. Refute it at one input. -/
def fnExactUnpackSmallWrong : ChangeSpec := { name := "fnExactUnpackSmall", fn := fun _ => fun
  | [d] => { results := [.lit (.bool false)], args := [d] }
  | _ => none }
def FnExactUnpackSmallWrongFalsely : Prop := fnExactUnpackSmallRow.holds Try.pinned (OpenSpec.ofChange fnExactUnpackSmallWrong)

/-- 'laws.FnUnpackSmall': WHATEVER THE INPUT: true; the input reads as it did. -/
def fnUnpackSmallSpec : ChangeSpec := { name := "fnUnpackSmall", fn := fun _ => fun
  | [d] => { results := [.lit (.bool true)], args := [d] }
  | _ => none }
def fnUnpackSmallRow : OpenClaim := { program := "ytcjnbjbiiadieaa", sum := "f105e69aa3997dfe5daecf01fb3959de2cc9cfcfb6d64613457ce06e9e389af5", func := "loop.example/flashfiles/laws.FnUnpackSmall", spec := "fnUnpackSmall", apart := false }
def FnUnpackSmallSaid : Prop := fnUnpackSmallRow.holds Try.pinned (OpenSpec.ofChange fnUnpackSmallSpec)

/-- ITS FALSE NEIGHBOUR: 'it returns false'. Refute it at one input. -/
def fnUnpackSmallWrong : ChangeSpec := { name := "fnUnpackSmall", fn := fun _ => fun
  | [d] => { results := [.lit (.bool false)], args := [d] }
  | _ => none }
def FnUnpackSmallWrongFalsely : Prop := fnUnpackSmallRow.holds Try.pinned (OpenSpec.ofChange fnUnpackSmallWrong)

/- THE SECOND FORM. 'bulk': how many values and letters a reading holds, each counted each time it is reached (what is shared counts as often as it is met; a slice's spare places count too). A statement '..UptoSaid' is the law's where the arguments, and the package variables that the reading takes, are together of bulk at most 1048576: NARROWER than '..Said'. Prove '..Said' where nothing that the law and all that it calls make is longer than what came in: it says more and counts as full. Else prove '..UptoSaid'. A law counts once. -/
mutual
def uptoBulk {H : Type} : DataW H → Nat
  | .lit (.string bytes) => bytes.length + 1
  | .lit _ => 1
  | .nil => 1
  | .ptr d => uptoBulk d + 1
  | .slice elems spare => uptoBulkAll elems + uptoBulkAll spare + 1
  | .agg parts => uptoBulkAll parts + 1
  | .iface _ d => uptoBulk d + 1
  | .map entries => uptoBulkEntries entries + 1
  | .held _ => 1
def uptoBulkAll {H : Type} : List (DataW H) → Nat
  | [] => 0
  | d :: r => uptoBulk d + uptoBulkAll r
def uptoBulkEntries {H : Type} : List (Lit × DataW H) → Nat
  | [] => 0
  | x :: r => uptoBulkEntry x + uptoBulkEntries r
def uptoBulkEntry {H : Type} : Lit × DataW H → Nat
  | (.string bytes, d) => bytes.length + uptoBulk d + 1
  | (_, d) => uptoBulk d + 1
 end
def uptoSmall : (H : Type) → List (DataW H) → Bool := fun _ ds => decide (uptoBulkAll ds ≤ 1048576)
def OpenSpec.upto (s : _root_.Go.ChangeSpec) : _root_.Go.OpenSpec := { _root_.Go.OpenSpec.ofChange s with cond := some uptoSmall }

/-- 'laws.FnExactVictimScore', WHERE WHAT IT READS IS OF BULK AT MOST 1048576: true; the input reads as it did. -/
def fnExactVictimScoreUptoRow : OpenClaim := { program := "ytcjnbjbiiadieaa", sum := "f105e69aa3997dfe5daecf01fb3959de2cc9cfcfb6d64613457ce06e9e389af5", func := "loop.example/flashfiles/laws.FnExactVictimScore", spec := "fnExactVictimScore", apart := false, narrowed := true }
def FnExactVictimScoreUptoSaid : Prop := fnExactVictimScoreUptoRow.holds Try.pinned (OpenSpec.upto fnExactVictimScoreSpec)

/-- 'laws.FnVictimScore', WHERE WHAT IT READS IS OF BULK AT MOST 1048576: true; the input reads as it did. -/
def fnVictimScoreUptoRow : OpenClaim := { program := "ytcjnbjbiiadieaa", sum := "f105e69aa3997dfe5daecf01fb3959de2cc9cfcfb6d64613457ce06e9e389af5", func := "loop.example/flashfiles/laws.FnVictimScore", spec := "fnVictimScore", apart := false, narrowed := true }
def FnVictimScoreUptoSaid : Prop := fnVictimScoreUptoRow.holds Try.pinned (OpenSpec.upto fnVictimScoreSpec)

/-- 'laws.FnExactTextValid', WHERE WHAT IT READS IS OF BULK AT MOST 1048576: true; the input reads as it did. -/
def fnExactTextValidUptoRow : OpenClaim := { program := "ytcjnbjbiiadieaa", sum := "f105e69aa3997dfe5daecf01fb3959de2cc9cfcfb6d64613457ce06e9e389af5", func := "loop.example/flashfiles/laws.FnExactTextValid", spec := "fnExactTextValid", apart := false, narrowed := true }
def FnExactTextValidUptoSaid : Prop := fnExactTextValidUptoRow.holds Try.pinned (OpenSpec.upto fnExactTextValidSpec)

/-- 'laws.FnTextValid', WHERE WHAT IT READS IS OF BULK AT MOST 1048576: true; the input reads as it did. -/
def fnTextValidUptoRow : OpenClaim := { program := "ytcjnbjbiiadieaa", sum := "f105e69aa3997dfe5daecf01fb3959de2cc9cfcfb6d64613457ce06e9e389af5", func := "loop.example/flashfiles/laws.FnTextValid", spec := "fnTextValid", apart := false, narrowed := true }
def FnTextValidUptoSaid : Prop := fnTextValidUptoRow.holds Try.pinned (OpenSpec.upto fnTextValidSpec)

/-- 'laws.FnExactSmallFits', WHERE WHAT IT READS IS OF BULK AT MOST 1048576: true; the input reads as it did. -/
def fnExactSmallFitsUptoRow : OpenClaim := { program := "ytcjnbjbiiadieaa", sum := "f105e69aa3997dfe5daecf01fb3959de2cc9cfcfb6d64613457ce06e9e389af5", func := "loop.example/flashfiles/laws.FnExactSmallFits", spec := "fnExactSmallFits", apart := false, narrowed := true }
def FnExactSmallFitsUptoSaid : Prop := fnExactSmallFitsUptoRow.holds Try.pinned (OpenSpec.upto fnExactSmallFitsSpec)

/-- 'laws.FnSmallFits', WHERE WHAT IT READS IS OF BULK AT MOST 1048576: true; the input reads as it did. -/
def fnSmallFitsUptoRow : OpenClaim := { program := "ytcjnbjbiiadieaa", sum := "f105e69aa3997dfe5daecf01fb3959de2cc9cfcfb6d64613457ce06e9e389af5", func := "loop.example/flashfiles/laws.FnSmallFits", spec := "fnSmallFits", apart := false, narrowed := true }
def FnSmallFitsUptoSaid : Prop := fnSmallFitsUptoRow.holds Try.pinned (OpenSpec.upto fnSmallFitsSpec)

/-- 'laws.FnExactNameBucket', WHERE WHAT IT READS IS OF BULK AT MOST 1048576: true; the input reads as it did. -/
def fnExactNameBucketUptoRow : OpenClaim := { program := "ytcjnbjbiiadieaa", sum := "f105e69aa3997dfe5daecf01fb3959de2cc9cfcfb6d64613457ce06e9e389af5", func := "loop.example/flashfiles/laws.FnExactNameBucket", spec := "fnExactNameBucket", apart := false, narrowed := true }
def FnExactNameBucketUptoSaid : Prop := fnExactNameBucketUptoRow.holds Try.pinned (OpenSpec.upto fnExactNameBucketSpec)

/-- 'laws.FnNameBucket', WHERE WHAT IT READS IS OF BULK AT MOST 1048576: true; the input reads as it did. -/
def fnNameBucketUptoRow : OpenClaim := { program := "ytcjnbjbiiadieaa", sum := "f105e69aa3997dfe5daecf01fb3959de2cc9cfcfb6d64613457ce06e9e389af5", func := "loop.example/flashfiles/laws.FnNameBucket", spec := "fnNameBucket", apart := false, narrowed := true }
def FnNameBucketUptoSaid : Prop := fnNameBucketUptoRow.holds Try.pinned (OpenSpec.upto fnNameBucketSpec)

/-- 'laws.FnExactPackSmall', WHERE WHAT IT READS IS OF BULK AT MOST 1048576: true; the input reads as it did. -/
def fnExactPackSmallUptoRow : OpenClaim := { program := "ytcjnbjbiiadieaa", sum := "f105e69aa3997dfe5daecf01fb3959de2cc9cfcfb6d64613457ce06e9e389af5", func := "loop.example/flashfiles/laws.FnExactPackSmall", spec := "fnExactPackSmall", apart := false, narrowed := true }
def FnExactPackSmallUptoSaid : Prop := fnExactPackSmallUptoRow.holds Try.pinned (OpenSpec.upto fnExactPackSmallSpec)

/-- 'laws.FnPackSmall', WHERE WHAT IT READS IS OF BULK AT MOST 1048576: true; the input reads as it did. -/
def fnPackSmallUptoRow : OpenClaim := { program := "ytcjnbjbiiadieaa", sum := "f105e69aa3997dfe5daecf01fb3959de2cc9cfcfb6d64613457ce06e9e389af5", func := "loop.example/flashfiles/laws.FnPackSmall", spec := "fnPackSmall", apart := false, narrowed := true }
def FnPackSmallUptoSaid : Prop := fnPackSmallUptoRow.holds Try.pinned (OpenSpec.upto fnPackSmallSpec)

/-- 'laws.FnExactUnpackSmall', WHERE WHAT IT READS IS OF BULK AT MOST 1048576: true; the input reads as it did. -/
def fnExactUnpackSmallUptoRow : OpenClaim := { program := "ytcjnbjbiiadieaa", sum := "f105e69aa3997dfe5daecf01fb3959de2cc9cfcfb6d64613457ce06e9e389af5", func := "loop.example/flashfiles/laws.FnExactUnpackSmall", spec := "fnExactUnpackSmall", apart := false, narrowed := true }
def FnExactUnpackSmallUptoSaid : Prop := fnExactUnpackSmallUptoRow.holds Try.pinned (OpenSpec.upto fnExactUnpackSmallSpec)

/-- 'laws.FnUnpackSmall', WHERE WHAT IT READS IS OF BULK AT MOST 1048576: true; the input reads as it did. -/
def fnUnpackSmallUptoRow : OpenClaim := { program := "ytcjnbjbiiadieaa", sum := "f105e69aa3997dfe5daecf01fb3959de2cc9cfcfb6d64613457ce06e9e389af5", func := "loop.example/flashfiles/laws.FnUnpackSmall", spec := "fnUnpackSmall", apart := false, narrowed := true }
def FnUnpackSmallUptoSaid : Prop := fnUnpackSmallUptoRow.holds Try.pinned (OpenSpec.upto fnUnpackSmallSpec)

end Rows
end Go.Proofs.Ytcjnbjbiiadieaa
