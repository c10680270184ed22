/-
  szTable by cases.
-/
import Derived.Test.YtpfekeflkmafcaaTbg
import Derived.Test.YtpfekeflkmafcaaTbh
namespace Go.Proofs.Ytpfekeflkmafcaa
open Go.RowKit


end Go.Proofs.Ytpfekeflkmafcaa
