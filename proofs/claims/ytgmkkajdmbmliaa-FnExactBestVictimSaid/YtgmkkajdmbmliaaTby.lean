/-
  The walk of spec.l7Copy.
-/
import Derived.Test.YtgmkkajdmbmliaaTbx
namespace Go.Proofs.Ytgmkkajdmbmliaa
open Go.RowKit








end Go.Proofs.Ytgmkkajdmbmliaa
