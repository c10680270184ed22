/-
  Words of the walks that build a list of numbers beside a table's box.
-/
import Derived.Test.YtgmkkajdmbmliaaDvw
import Derived.Test.YtgmkkajdmbmliaaTbw
import Derived.Test.YtgmkkajdmbmliaaInts
import Derived.Maps.AppendAt
namespace Go.Proofs.Ytgmkkajdmbmliaa
open Go.RowKit

/-- 'append(out, y)' of one int; it says where the result lies. -/
theorem ap1_intA {w : World} {ops : Array Oper} {rest : List Oper} {o : Oper} {a : Act} {Q : Exit → Act → World → Prop} (hgd : o.guard = none) (s x : Operand)
    (ho : o.op = .call { callee := .builtin .append, args := #[s, x], argTypes := #[45, 45] }) (lo : Nat) (v : Value) (xs : List Int) (y : Int) (hs : a.eval s = v) (hown : OI w lo v xs)
    (hx : a.eval x = .slice (some ⟨w.heap.size, 0, none⟩) 1 1) (hn : xs.length ≤ 100000000000) (hbase : lo ≤ w.heap.size) (hy : I64 y)
    (h : ∀ v' w', OI w' lo v' (xs ++ [y]) ∧ (v'.ownBlock = v.ownBlock ∨ v'.ownBlock = some (w.heap.size + 1)) → Chg (fun k => v.ownBlock = some k) w w' → wpList Try.prog ops Q rest (a.put o.dst v') w') : wpList Try.prog ops Q (o :: rest) a (w.alloc (.cells #[.int .i64 y] 3)) := by
  obtain ⟨i0, hi0, hz0, hz1, hz2⟩ := info_parts Try.infoInt
  refine wpList_append_own_at (w.alloc (.cells #[.int .i64 y] 3)) hgd s x 45 ho lo 3 i0 (.int .i64 0) 1 8 Try.underlying45 hi0 hz0 hz1 hz2 rfl (by decide) v xs.length (xs.map (Value.int .i64)) hs (hown.1.alloc _) ⟨w.heap.size, 0, none⟩ 1 1 [.int .i64 y] hx rfl (cell_one_new _ _ _) (by simp [Value.oneCell']) (by simp [maxLen]; omega) (by omega) (by simp; omega) fun v' w' h1 h2 _ h4 => ?_
  refine h v' w' ⟨oi_snoc h1 rfl hown.2 hy, ?_⟩ (((Chg.refl _ w).alloc _).grown h2 (fun k hk => .inr hk))
  rcases h4 with h4 | h4
  · exact .inl h4
  · exact .inr (by rw [h4]; simp)

theorem RI.cell {w : World} {lo hi b off n cap : Nat} {xs : List Int} (h : RI w lo hi (.slice (some ⟨b, off, none⟩) n cap) xs) {k : Nat} (hk : k < xs.length) : w.cell? ⟨b, off + k, none⟩ = some (.int .i64 xs[k]) := by
  obtain ⟨a, cap', b', off', he, -, -, h3, h4⟩ := h.open
  have := h3 (by omega)
  subst this
  simp only [Value.slice.injEq, Option.some.injEq, Addr.mk.injEq, and_true] at he
  obtain ⟨⟨rfl, rfl⟩, -⟩ := he
  exact h4 k hk

/-- A page's field, by value. -/
theorem fld_full (x0 x1 x2 x3 x4 : Value) (w : World) : Sem.run Try.prog (Instr.field 61 (.agg #[x0, x1, x2, x3, x4]) 0) w = .ok x0 w := by kernel_rfl

/-- The state of the walks: the table's box, the counts so far, the pages used. -/
structure BcR (w : World) (lo hi : Nat) (sl u : Value) (xs : List Int) (vu : Value) (us : List Int) (wr : World) : Prop where
  own : OI wr (w.heap.size + 1) u xs
  off : ∀ b, u.ownBlock = some b → b < lo ∨ hi ≤ b
  red : RI wr lo hi vu us
  bel : Below w.heap.size w wr
  ord : w.heap.size + 1 ≤ lo ∧ hi ≤ wr.heap.size ∧ lo ≤ hi
  box : wr.heap[w.heap.size]? = some (.cells #[sl] 33)
theorem BcR.keep {w wr w' : World} {lo hi : Nat} {sl u vu : Value} {xs us : List Int} (h : BcR w lo hi sl u xs vu us wr) (c : Below wr.heap.size wr w') : BcR w lo hi sl u xs vu us w' :=
  ⟨h.own.below c, h.off, h.red.below c, bup2 h.bel c, ⟨h.ord.1, Nat.le_trans h.ord.2.1 c.size, h.ord.2.2⟩, box_keep h.box c⟩
theorem BcR.app {w wr w' : World} {lo hi : Nat} {sl u v' vu : Value} {xs ys us : List Int} (h : BcR w lo hi sl u xs vu us wr) (o : OI w' (w.heap.size + 1) v' ys) (hv : v'.ownBlock = u.ownBlock ∨ v'.ownBlock = some (wr.heap.size + 1)) (c : Chg (fun k => u.ownBlock = some k) wr w') : BcR w lo hi sl v' ys vu us w' := by
  refine ⟨o, fun b hb => ?_, h.red.chg c fun b h1 h2 he => ?_, h.bel.trans (c.below h.bel.size fun k hk he => ?_), ⟨h.ord.1, Nat.le_trans h.ord.2.1 c.size, h.ord.2.2⟩, box_chg h.box c fun he => ?_⟩
  · rcases hv with hv | hv
    · exact h.off b (by rw [← hv]; exact hb)
    · rw [hv] at hb
      simp only [Option.some.injEq] at hb
      have := h.ord.2.1
      exact .inr (by omega)
  · have := h.off b he; omega
  · have := (h.own.lt k he).1; omega
  · have := (h.own.lt _ he).1; omega
theorem BcR.set {w wr : World} {lo hi B n cap : Nat} {sl vu : Value} {xs us : List Int} (h : BcR w lo hi sl (.slice (some ⟨B, 0, none⟩) n cap) xs vu us wr) {k : Nat} (hk : k < xs.length) :
    (wr.cell? ⟨B, k, none⟩ = some (.int .i64 xs[k]) ∧ wr.frozen? ⟨B, k, none⟩ = false) ∧ ∀ y, I64 y → BcR w lo hi sl (.slice (some ⟨B, 0, none⟩) n cap) (xs.set k y) vu us (wr.setCell ⟨B, k, none⟩ (.int .i64 y)) := by
  obtain ⟨h1, h2⟩ := h.own
  have hB := h.own.lt B rfl
  have hoff := h.off B rfl
  have hl : n = xs.length := by
    obtain ⟨a, c, b, o, he, -⟩ := h.own.ri.open
    simp only [Value.slice.injEq] at he
    exact he.2.1
  subst hl
  refine ⟨⟨by rw [h1.cellAt k (by omega)]; simp [hk], h1.frozenAt k⟩, fun y hy => ?_⟩
  have hc : Chg (fun b => b = B) wr (wr.setCell ⟨B, k, none⟩ (.int .i64 y)) := Chg.setCell (S := fun b => b = B) (Chg.refl _ wr) (p := ⟨B, k, none⟩) (.inr rfl) _
  refine ⟨⟨?_, fun x hx => ?_⟩, h.off, h.red.chg hc fun b g1 g2 g3 => by omega, h.bel.setCell (p := ⟨B, k, none⟩) (by show w.heap.size ≤ B; omega) _, by simpa [World.setCell] using h.ord, box_chg h.box hc (by omega)⟩
  · have := (h1.stored k (.int .i64 y)).1
    rw [List.length_set, List.map_set]
    exact this
  · rcases List.mem_or_eq_of_mem_set hx with h' | rfl
    · exact h2 x h'
    · exact hy

end Go.Proofs.Ytgmkkajdmbmliaa
