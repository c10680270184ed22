/-
  What came in as an argument, opened for the walks: devices.
-/
import Derived.Test.YtpfekeflkmafcaaOpen
import Derived.Test.YtpfekeflkmafcaaDvw
import Derived.Deep.SlicePairs
import Derived.Lib.SmallJoins
namespace Go.Proofs.Ytpfekeflkmafcaa
open Go.ChangeShapes Go.WideShapes Go.ChangeAt Go.RowKit

theorem add_plain' (b off k : Nat) : (⟨b, off, none⟩ : Addr).add k = ⟨b, off + k, none⟩ := by
  unfold Addr.add; split <;> rename_i h0
  · subst h0; rfl
  · rfl

set_option maxRecDepth 100000 in
theorem page_cells {H : Type} {enc : TypeId × Value → H} {W : World} {cs : List Value} {fuel : Nat} {y : DataW H × List MemPlace}
    (hf : DataW.trod enc Try.prog W 0 (fun _ => true) true fuel 90 cs = some y) : ∃ p : Pg, cs = pgc p ∧ PgI p := by
  obtain ⟨xs, n, -, -, hl, hxl, hg⟩ := DataW.trod_struct Try.underlying90 hf
  have h5 : Try.prog.cellsOf 90 = 5 := by kernel_rfl
  have ci : Try.prog.cellsOf 3 = 1 := by kernel_rfl
  have cb : Try.prog.cellsOf 4 = 1 := by kernel_rfl
  rw [h5] at hl
  match cs, hl, xs, hxl with
  | [c0, c1, c2, c3, c4], _, [y0, y1, y2, y3, y4], _ =>
    have g0 := hg 0 _ rfl
    have g1 := hg 1 _ rfl
    have g2 := hg 2 _ rfl
    have g3 := hg 3 _ rfl
    have g4 := hg 4 _ rfl
    simp [cb] at g0
    simp [ci] at g1 g2 g3 g4
    obtain ⟨x0, e0, -⟩ := DataW.trod_bool Try.underlying4 g0
    obtain ⟨x1, e1, -, w1⟩ := DataW.trod_int Try.underlying3 g1
    obtain ⟨x2, e2, -, w2⟩ := DataW.trod_int Try.underlying3 g2
    obtain ⟨x3, e3, -, w3⟩ := DataW.trod_int Try.underlying3 g3
    obtain ⟨x4, e4, -, w4⟩ := DataW.trod_int Try.underlying3 g4
    simp only [List.cons.injEq, and_true] at e0 e1 e2 e3 e4
    subst e0 e1 e2 e3 e4
    exact ⟨⟨x0, x1, x2, x3, x4⟩, rfl, i64_of_wf w1, i64_of_wf w2, i64_of_wf w3, i64_of_wf w4⟩

theorem open_pages {H : Type} {enc : TypeId × Value → H} {W : World} {c0 : Value} {fuel : Nat} {y : DataW H × List MemPlace}
    (hf : DataW.trod enc Try.prog W 0 (fun _ => true) true fuel 51 [c0] = some y) : ∃ ps, RP W 0 W.heap.size c0 ps := by
  have h5 : Try.prog.cellsOf 90 = 5 := by kernel_rfl
  rcases Go.Deep.open_slice Try.underlying51 hf with ⟨hcs, _⟩ | ⟨x, len, cap, m, n, D, Pl, hcs, _, hl, hm, hmm, _, hx⟩
  · simp only [List.cons.injEq, and_true] at hcs
    subst hcs
    exact ⟨[], rp_nil _ _ _⟩
  · simp only [List.cons.injEq, and_true] at hcs
    subst hcs
    simp only [if_true] at hmm
    subst hmm
    have each : ∀ i, i < m → ∃ p : Pg, PgI p ∧ ∀ j, j < 5 → W.cell? (x.add (i * 5 + j)) = (pgc p)[j]? := by
      intro i hi
      obtain ⟨cs', h1, h2⟩ := hx i hi
      rw [h5] at h1
      obtain ⟨_, hlen, hcell⟩ := World.cells?_some h1
      obtain ⟨p, rfl, hp⟩ := page_cells h2
      refine ⟨p, hp, fun j hj => ?_⟩
      have e := hcell j (by omega)
      rw [Go.Deep.add_add] at e
      exact e
    obtain ⟨f, hq⟩ : ∃ f : Nat → Pg, ∀ i, i < m → PgI (f i) ∧ ∀ j, j < 5 → W.cell? (x.add (i * 5 + j)) = (pgc (f i))[j]? :=
      ⟨fun i => if h : i < m then (each i h).choose else pg0, fun i hi => by simp only [dif_pos hi]; exact (each i hi).choose_spec⟩
    obtain ⟨b, off, spot⟩ := x
    have hsp : 0 < len → spot = none := fun hn => by
      have hc := (hq 0 (by omega)).2 0 (by omega)
      simp [pgc, Addr.add] at hc
      exact World.cell?_spot hc
    refine ⟨(List.range len).map f, ⟨by rw [pc_len], some ⟨b, off, spot⟩, m, b, off, by simp, by simpa using hl, hm, fun hn => ?_, fun j hj => ?_⟩, fun p hp => ?_⟩
    · simp at hn
      obtain rfl := hsp hn
      have hc := (hq 0 (by omega)).2 0 (by omega)
      rw [add_plain'] at hc
      simp [pgc] at hc
      exact ⟨rfl, Nat.zero_le _, World.block_lt_of_cell? W _ hc⟩
    · have hj' : j < len * 5 := by simpa using hj
      obtain rfl := hsp (by omega)
      have hk : j / 5 < len := by omega
      have hc := (hq (j / 5) (by omega)).2 (j % 5) (by omega)
      rw [add_plain'] at hc
      have hp := pc_at ((List.range len).map f) (j / 5) (j % 5) (by simpa using hk) (by omega)
      rw [show j / 5 * 5 + j % 5 = j by omega] at hc hp
      rw [hp, hc]
      simp
    · obtain ⟨i, hi, rfl⟩ := List.mem_map.1 hp
      exact (hq i (by have := List.mem_range.1 hi; omega)).1

set_option maxRecDepth 100000 in
theorem open_RBk {H : Type} {enc : TypeId × Value → H} {W : World} {v : Value} {d : DataW H} {p : List MemPlace} (hv : ∃ a len cap, v = .slice a len cap)
    (h0 : DataW.Trod enc Try.prog W 0 (fun _ => true) true 22 v d p) : ∃ xs, RD W 0 W.heap.size v xs := by
  obtain ⟨a, len, cap, rfl⟩ := hv
  obtain ⟨fuel, hf⟩ := h0
  rcases Go.Deep.open_slice_pairs Try.underlying22 Try.underlying53 (by kernel_rfl) rfl rfl (by kernel_rfl) (by kernel_rfl) hf with ⟨hcs, _⟩ | ⟨x, l, c, m, n, V0, V1, D0, D1, P0, P1, hcs, _, hl, hm, hmm, _, hcell⟩
  · simp [Value.cells] at hcs
    obtain ⟨rfl, rfl, rfl⟩ := hcs
    exact ⟨[], rd_nil _ _ _⟩
  · simp [Value.cells] at hcs
    obtain ⟨rfl, rfl, rfl⟩ := hcs
    simp only [if_true] at hmm
    subst hmm
    have each : ∀ i, i < m → ∃ b : Bk, V0 i = .int .i64 b.wear ∧ I64 b.wear ∧ RP W 0 W.heap.size (V1 i) b.pages := by
      intro i hi
      obtain ⟨-, -, t0, t1⟩ := hcell i hi
      obtain ⟨x0, e0, -, w0⟩ := DataW.trod_int Try.underlying3 t0
      simp only [List.cons.injEq, and_true] at e0
      obtain ⟨ps, hps⟩ := open_pages t1
      exact ⟨⟨x0, ps⟩, e0, i64_of_wf w0, hps⟩
    obtain ⟨f, hq⟩ : ∃ f : Nat → Bk, ∀ i, i < m → V0 i = .int .i64 (f i).wear ∧ I64 (f i).wear ∧ RP W 0 W.heap.size (V1 i) (f i).pages :=
      ⟨fun i => if h : i < m then (each i h).choose else bk0, fun i hi => by simp only [dif_pos hi]; exact (each i hi).choose_spec⟩
    obtain ⟨b, off, spot⟩ := x
    have hsp : 0 < len → spot = none := fun hn => by
      have hc := (hcell 0 (by omega)).1
      simpa [Addr.add] using World.cell?_spot hc
    have hul : ((List.range len).map V1).length = ((List.range len).map f).length := by simp
    refine ⟨(List.range len).map f, (List.range len).map V1, hul, ⟨by rw [bc_len _ _ hul], some ⟨b, off, spot⟩, m, b, off, by simp, by simpa using hl, hm, fun hn => ?_, fun j hj => ?_⟩, fun k hk u hu => ?_⟩
    · simp at hn
      obtain rfl := hsp hn
      exact ⟨rfl, Nat.zero_le _, World.block_lt_of_cell? W _ (hcell 0 (by omega)).1⟩
    · have hj' : j < len * 2 := by simpa using hj
      obtain rfl := hsp (by omega)
      have hk : j / 2 < len := by omega
      obtain ⟨k1, k2⟩ := bc_at ((List.range len).map f) ((List.range len).map V1) (j / 2) (by simpa using hk) hul
      obtain ⟨c1, c2, -⟩ := hcell (j / 2) (by omega)
      rw [add_plain'] at c1 c2
      by_cases hj2 : j % 2 = 0
      · rw [show j / 2 * 2 = j by omega] at k1 c1
        rw [k1, c1, (hq (j / 2) (by omega)).1]
        simp
      · rw [show j / 2 * 2 + 1 = j by omega] at k2 c2
        rw [k2, c2]
        simp [hk]
    · have hk' : k < len := by simpa using hk
      have hu' : u = V1 k := by simpa [hk'] using hu.symm
      subst hu'
      simp only [List.getElem_map, List.getElem_range]
      exact ⟨(hq k (by omega)).2.2, (hq k (by omega)).2.1⟩

end Go.Proofs.Ytpfekeflkmafcaa
