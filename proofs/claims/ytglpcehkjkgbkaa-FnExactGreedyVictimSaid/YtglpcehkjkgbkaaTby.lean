/-
  The walk of spec.l7Copy.
-/
import Derived.Test.YtglpcehkjkgbkaaTbx
namespace Go.Proofs.Ytglpcehkjkgbkaa
open Go.RowKit








end Go.Proofs.Ytglpcehkjkgbkaa
