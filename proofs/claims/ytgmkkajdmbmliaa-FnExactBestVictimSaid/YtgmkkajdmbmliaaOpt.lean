/-
  What came in as an argument, opened for the walks: tables.
-/
import Derived.Test.YtgmkkajdmbmliaaOpen
import Derived.Test.YtgmkkajdmbmliaaTab
import Derived.Deep.Matrix
import Derived.Lib.SmallJoins
namespace Go.Proofs.Ytgmkkajdmbmliaa
open Go.ChangeShapes Go.WideShapes Go.ChangeAt Go.RowKit

theorem open_rows {H : Type} {enc : TypeId × Value → H} {W : World} {c0 : Value} {fuel : Nat} {y : DataW H × List MemPlace}
    (hf : DataW.trod enc Try.prog W 0 (fun _ => true) true fuel 23 [c0] = some y) : ∃ t, RT W 0 W.heap.size c0 t := by
  rcases Go.Deep.open_int_rows Try.underlying23 Try.underlying45 Try.underlying3 (by kernel_rfl) (by kernel_rfl) hf with ⟨hcs, _⟩ | ⟨x, len, cap, A, L, C, Z, hcs, _, hl, hm, _, hrow⟩
  · simp only [List.cons.injEq, and_true] at hcs
    subst hcs
    exact ⟨[], rt_nil _ _ _⟩
  · simp only [List.cons.injEq, and_true] at hcs
    subst hcs
    obtain ⟨b, off, spot⟩ := x
    have hsp : 0 < len → spot = none := fun hn => by
      have hc := (hrow 0 (by omega)).1
      simpa [Addr.add] using World.cell?_spot hc
    refine ⟨(List.range len).map fun r => (Z r).take (L r), (List.range len).map fun r => .slice (A r) (L r) (C r), ?_, ?_⟩
    · refine ⟨by simp, some ⟨b, off, spot⟩, cap, b, off, by simp, by simpa using hl, hm, fun hn => ?_, fun j hj => ?_⟩
      · simp at hn
        obtain rfl := hsp hn
        exact ⟨rfl, Nat.zero_le _, World.block_lt_of_cell? W _ (hrow 0 (by omega)).1⟩
      · have hj' : j < len := by simpa using hj
        obtain rfl := hsp (by omega)
        have hc := (hrow j (by omega)).1
        have add_plain : ∀ k, (⟨b, off, none⟩ : Addr).add k = ⟨b, off + k, none⟩ := fun k => by
          unfold Addr.add; split <;> rename_i h0
          · subst h0; rfl
          · rfl
        rw [add_plain] at hc
        rw [hc]; simp [hj']
    · intro k hk u hu
      have hk' : k < len := by simpa using hk
      have hu' : u = .slice (A k) (L k) (C k) := by simpa [hk'] using hu.symm
      subst hu'
      obtain ⟨-, h1, h2, h3, h4, h5, h6⟩ := hrow k (by omega)
      simp only [List.getElem_map, List.getElem_range]
      refine ⟨?_, fun y hy => i64_of_wf (h4 y (List.mem_of_mem_take hy))⟩
      cases hA : A k with
      | none =>
        have h0 := h5 hA
        have hl0 : L k = 0 := by omega
        rw [hl0]
        simp only [List.take_zero, List.length_nil, List.map_nil]
        exact ⟨rfl, none, C k, 0, 0, rfl, Nat.zero_le _, h2, fun h => by simp at h, fun j hj => by simp at hj⟩
      | some a' => exact reads_of_cells h1 h2 h3 (fun i hi => (h6 a' hA).2 i (by omega))

set_option maxRecDepth 100000 in
theorem open_RT {H : Type} {enc : TypeId × Value → H} {W : World} {r : Reach} {b0 : Nat} {v : Value} {d : DataW H} {p : List MemPlace} (hv : Value.okWide Try.prog W r b0 25 v)
    (h0 : DataW.Trod enc Try.prog W 0 (fun _ => true) true 25 v d p) : ∃ t, RT1 W 0 W.heap.size v t := by
  obtain ⟨cs, rfl, hsz⟩ := okWide_struct Try.underlying25 hv
  have h1 : cs.size = 1 := hsz.trans (by kernel_rfl)
  obtain ⟨c0, rfl⟩ : ∃ c0, cs = #[c0] := by
    obtain ⟨l⟩ := cs
    match l, h1 with
    | [c0], _ => exact ⟨c0, rfl⟩
  obtain ⟨fuel, hf⟩ := h0
  obtain ⟨y0, n, hx, hl, ht⟩ := trod_struct1 Try.underlying25 hf
  have e : ([c0].drop 0).take (Try.prog.cellsOf 23) = [c0] := by
    have : Try.prog.cellsOf 23 = 1 := by kernel_rfl
    rw [this]; rfl
  obtain ⟨t, ht⟩ := open_rows (fuel := n) (y := y0) (c0 := c0) (by rw [← e]; simpa [Value.cells] using ht)
  exact ⟨t, c0, rfl, ht⟩

end Go.Proofs.Ytgmkkajdmbmliaa
