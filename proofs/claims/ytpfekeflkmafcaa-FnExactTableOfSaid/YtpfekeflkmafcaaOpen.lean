/-
  What came in as an argument, opened for the walks: numbers, bytes.
-/
import Derived.Test.YtpfekeflkmafcaaLib
import Derived.ProofKit
import Derived.OpenShut
import Derived.ShutString
import Derived.ChangeOld
namespace Go.Proofs.Ytpfekeflkmafcaa
open Go.ChangeShapes Go.WideShapes Go.ChangeAt Go.RowKit

theorem own : ownKnob Try.prog.godebug = none := by kernel_rfl
theorem laidOut : laidOutB Try.prog = true := by kernel_rfl

/-- Cells at a.add i, the first n of them numbers: what is read. -/
theorem reads_of_cells {w : World} {k : IntKind} {x : Addr} {len cap : Nat} {zs : List Int} (hl : len ≤ cap) (hm : cap ≤ maxLen) (hz : zs.length = cap)
    (hcell : ∀ i, i < zs.length → w.cell? (x.add i) = some (.int k (zs.getD i 0))) :
    Reads w 0 w.heap.size 1 (.slice (some x) len cap) (zs.take len).length ((zs.take len).map (Value.int k)) := by
  have hlen : (zs.take len).length = len := by rw [List.length_take]; omega
  obtain ⟨b, off, spot⟩ := x
  refine ⟨by simp, some ⟨b, off, spot⟩, cap, b, off, by rw [hlen], by omega, hm, fun hn => ?_, fun j hj => ?_⟩
  · have hc := hcell 0 (by omega)
    have hs : spot = none := by simpa [Addr.add] using World.cell?_spot hc
    subst hs
    exact ⟨rfl, Nat.zero_le _, World.block_lt_of_cell? w _ hc⟩
  · have hj' : j < len := by omega
    have hc := hcell j (by omega)
    have e : w.cell? ⟨b, off + j, none⟩ = w.cell? ((⟨b, off, spot⟩ : Addr).add j) := by
      unfold Addr.add
      by_cases h0 : j = 0
      · subst h0
        have hs : spot = none := by simpa [Addr.add] using World.cell?_spot hc
        subst hs; rfl
      · rw [if_neg h0]
    have hjz : j < zs.length := by omega
    rw [e, hc]
    simp [hj', hjz]


theorem open_RB {H : Type} {enc : TypeId × Value → H} {W : World} {v : Value} {d : DataW H} {p : List MemPlace} (hv : ∃ a len cap, v = .slice a len cap)
    (h0 : DataW.Trod enc Try.prog W 0 (fun _ => true) true 35 v d p) : ∃ xs, RB W 0 W.heap.size v xs := by
  obtain ⟨a, len, cap, rfl⟩ := hv
  obtain ⟨fuel, hf⟩ := h0
  rcases open_ints Try.underlying35 Try.underlying5 (by kernel_rfl) hf with ⟨hcs, _⟩ | ⟨x, l, c, zs, hcs, _, hl, hm, hz, _, hcell, hwz⟩
  · simp [Value.cells] at hcs
    obtain ⟨rfl, rfl, rfl⟩ := hcs
    exact ⟨[], ⟨by simp, none, 0, 0, 0, rfl, Nat.le_refl _, by simp [maxLen], fun h => by simp at h, fun j hj => by simp at hj⟩, fun _ h => by simp at h⟩
  · simp [Value.cells] at hcs
    obtain ⟨rfl, rfl, rfl⟩ := hcs
    refine ⟨zs.take len, reads_of_cells hl hm (by simpa using hz) hcell, fun y hy => ?_⟩
    have := hwz y (List.mem_of_mem_take hy)
    simp [Lit.wf, IntKind.min, IntKind.max, IntKind.bits, IntKind.signed] at this
    exact ⟨this.1, by omega⟩

theorem i64_of_wf {x : Int} (h : (Lit.int .i64 x).wf = true) : I64 x := by
  simp [Lit.wf, IntKind.min, IntKind.max, IntKind.bits, IntKind.signed] at h
  exact ⟨h.1, by omega⟩

end Go.Proofs.Ytpfekeflkmafcaa
