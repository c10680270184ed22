/-
  What came in as an argument, opened for the walks: heads.
-/
import Derived.Test.YtgmkkajdmbmliaaOpen
import Derived.Test.YtgmkkajdmbmliaaHdw
import Derived.Lib.SmallJoins
namespace Go.Proofs.Ytgmkkajdmbmliaa
open Go.ChangeShapes Go.WideShapes Go.ChangeAt Go.RowKit

set_option maxRecDepth 100000 in
theorem open_RH {H : Type} {enc : TypeId × Value → H} {W : World} {r : Reach} {b0 : Nat} {v : Value} {d : DataW H} {p : List MemPlace} (hv : Value.okWide Try.prog W r b0 27 v)
    (h0 : DataW.Trod enc Try.prog W 0 (fun _ => true) true 27 v d p) : ∃ h : Hd, v = hdv h ∧ HdI h := by
  obtain ⟨v0, v1, v2, y0, y1, y2, n, rfl, -, -, t0, t1, t2⟩ := Go.Joins.open_agg3 Try.underlying27 (by kernel_rfl) (by kernel_rfl) hv h0
  obtain ⟨x0, e0, -, w0⟩ := DataW.trod_int Try.underlying3 t0
  obtain ⟨x1, e1, -, w1⟩ := DataW.trod_int Try.underlying3 t1
  obtain ⟨x2, e2, -, w2⟩ := DataW.trod_int Try.underlying3 t2
  simp only [List.cons.injEq, and_true] at e0 e1 e2
  subst e0; subst e1; subst e2
  exact ⟨⟨x0, x1, x2⟩, rfl, i64_of_wf w0, i64_of_wf w1, i64_of_wf w2⟩

end Go.Proofs.Ytgmkkajdmbmliaa
