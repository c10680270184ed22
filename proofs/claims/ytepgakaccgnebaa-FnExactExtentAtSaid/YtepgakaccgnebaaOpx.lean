/-
  What came in as an argument, opened for the walks: extents.
-/
import Derived.Test.YtepgakaccgnebaaOpen
import Derived.Test.YtepgakaccgnebaaExt
import Derived.Deep.SlicePairs
namespace Go.Proofs.Ytepgakaccgnebaa
open Go.ChangeShapes Go.WideShapes Go.ChangeAt Go.RowKit

theorem xc_get (xs : List (Int × Int)) (j : Nat) (hj : j < xs.length * 2) : (xc xs)[j]? = some (if j % 2 = 0 then .int .i64 (xs.getD (j / 2) (0, 0)).1 else .int .i64 (xs.getD (j / 2) (0, 0)).2) := by
  have hk : j / 2 < xs.length := by omega
  have h := xc_at xs (j / 2) hk
  split
  · rw [show j = j / 2 * 2 by omega, h.1]; simp [hk]
  · rw [show j = j / 2 * 2 + 1 by omega, h.2]; simp only [Option.some.injEq]; rw [show (j / 2 * 2 + 1) / 2 = j / 2 by omega]; simp [hk]

theorem open_RX {H : Type} {enc : TypeId × Value → H} {W : World} {v : Value} {d : DataW H} {p : List MemPlace} (hv : ∃ a len cap, v = .slice a len cap)
    (h0 : DataW.Trod enc Try.prog W 0 (fun _ => true) true 22 v d p) : ∃ xs, RX W 0 W.heap.size v xs := by
  obtain ⟨a, len, cap, rfl⟩ := hv
  obtain ⟨fuel, hf⟩ := h0
  rcases Go.Deep.open_slice_pairs Try.underlying22 Try.underlying50 (by kernel_rfl) rfl rfl (by kernel_rfl) (by kernel_rfl) hf with ⟨hcs, _⟩ | ⟨x, l, c, m, n, V0, V1, D0, D1, P0, P1, hcs, _, hl, hm, hmm, _, hcell⟩
  · simp [Value.cells] at hcs
    obtain ⟨rfl, rfl, rfl⟩ := hcs
    exact ⟨[], ⟨by simp [xc], none, 0, 0, 0, rfl, Nat.le_refl _, by simp [maxLen], fun h => by simp at h, fun j hj => by simp at hj⟩, fun _ h => by simp at h⟩
  · simp [Value.cells] at hcs
    obtain ⟨rfl, rfl, rfl⟩ := hcs
    simp only [if_true] at hmm
    subst hmm
    have hint : ∀ i, i < m → V0 i = .int .i64 (intOf (V0 i)) ∧ V1 i = .int .i64 (intOf (V1 i)) ∧ I64 (intOf (V0 i)) ∧ I64 (intOf (V1 i)) := by
      intro i hi
      obtain ⟨-, -, t0, t1⟩ := hcell i hi
      obtain ⟨x0, e0, -, w0⟩ := DataW.trod_int Try.underlying3 t0
      obtain ⟨x1, e1, -, w1⟩ := DataW.trod_int Try.underlying3 t1
      simp only [List.cons.injEq, and_true] at e0 e1
      rw [e0, e1]
      exact ⟨rfl, rfl, i64_of_wf w0, i64_of_wf w1⟩
    refine ⟨(List.range len).map fun i => (intOf (V0 i), intOf (V1 i)), ?_, ?_⟩
    · obtain ⟨b, off, spot⟩ := x
      have hsp : 0 < len → spot = none := fun hn => by
        have hc := (hcell 0 (by omega)).1
        simpa [Addr.add] using World.cell?_spot hc
      refine ⟨by rw [xc_len], some ⟨b, off, spot⟩, m, b, off, by simp, by simpa using hl, hm, fun hn => ?_, fun j hj => ?_⟩
      · simp at hn
        obtain rfl := hsp hn
        have hc := (hcell 0 (by omega)).1
        exact ⟨rfl, Nat.zero_le _, World.block_lt_of_cell? W _ hc⟩
      · have hj' : j < len * 2 := by simpa using hj
        obtain rfl := hsp (by omega)
        rw [xc_get _ j hj]
        have hk : j / 2 < len := by omega
        have hi := hint (j / 2) (by omega)
        have hc := hcell (j / 2) (by omega)
        have add_plain : ∀ k, (⟨b, off, none⟩ : Addr).add k = ⟨b, off + k, none⟩ := fun k => by
          unfold Addr.add; split <;> rename_i h0
          · subst h0; rfl
          · rfl
        rw [add_plain, add_plain] at hc
        split
        · rw [show off + j = off + j / 2 * 2 by omega, hc.1, hi.1]; simp [hk]
        · rw [show off + j = off + (j / 2 * 2 + 1) by omega, hc.2.1, hi.2.1]; simp [hk]
    · intro e he
      obtain ⟨i, hi, rfl⟩ := List.mem_map.1 he
      have := hint i (by have := List.mem_range.1 hi; omega)
      exact ⟨this.2.2.1, this.2.2.2⟩

end Go.Proofs.Ytepgakaccgnebaa
