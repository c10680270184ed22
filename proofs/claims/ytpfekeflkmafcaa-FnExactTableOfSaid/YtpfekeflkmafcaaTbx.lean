/-
  The walk of impl.cloneTable.
-/
import Derived.Test.YtpfekeflkmafcaaUst
import Derived.Test.YtpfekeflkmafcaaTbw
import Derived.Test.YtpfekeflkmafcaaTbc
import Derived.Laws.CopyOwn
namespace Go.Proofs.Ytpfekeflkmafcaa
open Go.RowKit

/-- 'make' of an operation of a region that draws its order. -/
theorem frees_mk {w : World} {o : Oper} {ρ : Operand → Value} {R : Value → World → Prop} (l c : Operand) (hop : o.op = Op.makeSlice 45 l c) (n : Nat) (hl : ρ l = .int .i64 n) (hc : ρ c = .int .i64 n) (hn : n ≤ 1000000000000)
    (h : ∀ w', OI w' w.heap.size (.slice (some ⟨w.heap.size, 0, none⟩) n n) (List.replicate n 0) → Below w.heap.size w w' → R (.slice (some ⟨w.heap.size, 0, none⟩) n n) w') : Frees Try.prog o ρ w R := by
  obtain ⟨i0, hi0, hz0, hz1, hz2⟩ := info_parts Try.infoInt
  obtain ⟨w', hrun, r1, r2⟩ := run_make_full (P := Try.prog) w w.heap.size 45 3 i0 (.int .i64 0) 1 Try.underlying45 hi0 hz0 hz1 .i64 .i64 n (by rw [hz2]; omega) (by simp [maxLen]; omega) (Nat.le_refl _)
  unfold Frees
  simp [execOp, hop, hl, hc, hrun, Result.andThen]
  have e : (madeCells (Value.int IntKind.i64 0).cells (n * 1)).toList = (List.replicate n (0 : Int)).map (Value.int .i64) := by
    have := toList_madeCells_one (.int .i64 0) n
    simpa [Value.cells] using this
  rw [e] at r1
  exact h w' ⟨by simpa using r1, fun x hx => by simp at hx; rw [hx.2]; unfold I64; omega⟩ ((Below.refl _ _).grown r2 (Nat.le_refl _) (by simp))

/-- 'copy' of a list into a row of the table. -/
theorem cp_row {w : World} {ops : Array Oper} {rest : List Oper} {o : Oper} {a : Act} {Q : Exit → Act → World → Prop} (hgd : o.guard = none) (d s : Operand)
    (ho : o.op = .call { callee := .builtin .copy, args := #[d, s], argTypes := #[45, 45] }) (lo hi : Nat) (v : Value) (xss : List (List Int)) (f : Nat) (hf : f < xss.length) (hown : OT w lo hi v xss)
    (u : Value) (hu : ∀ A cap, v = .slice (some ⟨A, 0, none⟩) xss.length cap → w.cell? ⟨A, f, none⟩ = some u) (hd : a.eval d = u) (u2 : Value) (hs : a.eval s = u2) (xs : List Int) (lo2 hi2 : Nat) (hr : RI w lo2 hi2 u2 xs) (hlen : xs.length = xss[f].length) (hpos : 0 < xs.length)
    (h : ∀ w', OT w' lo hi v (xss.set f xs) → Chg (fun b => lo ≤ b ∧ b < hi ∧ ∃ cur fr, w.heap[b]? = some (.cells cur 3 fr)) w w' → wpList Try.prog ops Q rest (a.put o.dst (goInt xs.length)) w') : wpList Try.prog ops Q (o :: rest) a w := by
  obtain ⟨A, cap, u', hv, -, hcu, ho2, hb, hput⟩ := hown.inner f hf
  have e := hu A cap hv
  rw [hcu] at e
  obtain rfl := Option.some.inj e
  rcases ho2.1.2 with ⟨-, h0⟩ | ⟨g, cap', cur, rfl, hbg, hg, hn, hm, hsz, htk⟩
  · omega
  obtain ⟨a2, cap2, b2, off2, rfl, s1, s2, s3, s4⟩ := hr.open
  obtain rfl := s3 hpos
  have hcl : cur.toList.length = cap' := by rw [Array.length_toList, hsz]; omega
  have hml : (xs.map (Value.int .i64)).length = xs.length := by simp
  have hc : Chg (fun b => (Value.slice (some ⟨g, 0, none⟩) xss[f].length cap').ownBlock = some b) w (w.setRow g (cur.toList.take 0 ++ (xs.map (Value.int .i64) ++ cur.toList.drop (0 + (xs.map (Value.int .i64)).length))).toArray) :=
    ⟨rfl, rfl, rfl, by simp, fun k hk hs => setRow_other w g k _ (by rintro rfl; exact hs rfl)⟩
  refine wpList_copy_own hgd d s 45 45 ho 3 Try.underlying45 (by
      obtain ⟨i0, hi0, hz0, hz1, hz2⟩ := info_parts Try.infoInt
      rw [hi0]; simp [hz1]) g 0 xss[f].length cap' ⟨b2, off2, none⟩ xs.length cap2 hd hs cur 3 hg (xs.map (Value.int .i64)) (by rw [hml, hlen]; exact (Nat.min_self _).symm) (fun j u hj => ?_) (by rw [hml, Nat.zero_add, hsz]; omega) (fun u hu => ?_) ?_
  · obtain ⟨hjl, rfl⟩ := List.getElem?_eq_some_iff.1 hj
    rw [List.getElem_map]
    have := s4 j (by simpa using hjl)
    rw [show (⟨b2, off2, none⟩ : Addr).add j = ⟨b2, off2 + j, none⟩ from by cases j <;> simp [Addr.add]]
    exact this
  · obtain ⟨x, -, rfl⟩ := List.mem_map.1 hu
    rfl
  · have e2 : goInt (xs.map (Value.int .i64)).length = goInt xs.length := by rw [hml]
    rw [e2]
    refine h _ (hput _ xs hc ⟨⟨by simp, .inr ⟨g, cap', _, by rw [hlen], hbg, setRow_heap w g cur _ _ _ hg, by omega, hm, ?_, ?_⟩⟩, hr.2⟩) (hc.mono fun k hk hb2 => ?_)
    · simp [hml]; omega
    · simp
    · have e3 : g = k := Option.some.inj hb2
      subst e3
      exact ⟨(hb g rfl).1, (hb g rfl).2, cur, (0, 0), hg⟩





end Go.Proofs.Ytpfekeflkmafcaa
