/-
  Words for devices that the call owns: rows of pages, blocks whose pages are rows.
-/
import Derived.Test.YtpfekeflkmafcaaDvw
import Derived.Test.YtpfekeflkmafcaaNst
namespace Go.Proofs.Ytpfekeflkmafcaa
open Go.RowKit

/-- A row of pages of the call's own. -/
def OP (w : World) (lo : Nat) (v : Value) (ps : List Pg) : Prop := w.ownsRow lo 40 5 v ps.length (pc ps) ∧ ∀ p ∈ ps, PgI p
theorem OP.chg {S : Nat → Prop} {w w' : World} {lo : Nat} {v : Value} {ps : List Pg} (h : OP w lo v ps) (hk : Chg S w w') (hs : ∀ b, lo ≤ b → v.ownBlock = some b → ¬ S b) : OP w' lo v ps := ⟨own_chg h.1 hk hs, h.2⟩
theorem OP.lt {w : World} {lo : Nat} {v : Value} {ps : List Pg} (h : OP w lo v ps) : ∀ b, v.ownBlock = some b → lo ≤ b ∧ b < w.heap.size := fun b hb => h.1.lt b hb
theorem OP.wide {w : World} {lo lo' : Nat} {v : Value} {ps : List Pg} (h : OP w lo v ps) (hl : lo' ≤ lo) : OP w lo' v ps := ⟨own_wide h.1 hl, h.2⟩
theorem OP.below {w w' : World} {lo : Nat} {v : Value} {ps : List Pg} (h : OP w lo v ps) (hk : Below w.heap.size w w') : OP w' lo v ps := h.chg (below_chg hk fun _ => False) fun _ _ _ h => h
theorem OP.rp {w : World} {lo : Nat} {v : Value} {ps : List Pg} (h : OP w lo v ps) : RP w lo w.heap.size v ps := ⟨reads_own h.1, h.2⟩
theorem OP.rph {w : World} {lo hi : Nat} {v : Value} {ps : List Pg} (h : OP w lo v ps) (hb : ∀ b, v.ownBlock = some b → b < hi) : RP w lo hi v ps := ⟨reads_hi h.1 hb, h.2⟩
theorem op_nil (w : World) (lo : Nat) : OP w lo (.slice none 0 0) [] := ⟨World.ownsRow_nil _ _ _ _, fun _ h => by simp at h⟩
def PgRow : RowK (List Pg) where
  own := OP
  chg := fun h hc hs => OP.chg h hc hs
  lt := fun h => OP.lt h
  wide := fun h hl => OP.wide h hl

theorem pc_set (ps : List Pg) (k j : Nat) (hk : k < ps.length) (hj : j < 5) (p : Pg) (u : Value) (h : ∀ i, i < 5 → (pgc p)[i]? = if i = j then some u else (pgc ps[k])[i]?) : (pc ps).set (k * 5 + j) u = pc (ps.set k p) := by
  apply List.ext_getElem?
  intro i
  have hl : (pc ps).length = ps.length * 5 := pc_len ps
  have hl2 : (pc (ps.set k p)).length = ps.length * 5 := by rw [pc_len, List.length_set]
  by_cases hi : i < ps.length * 5
  · have e : i = i / 5 * 5 + i % 5 := by omega
    have hk5 : i / 5 < ps.length := by omega
    have hk5' : i / 5 < (ps.set k p).length := by rw [List.length_set]; exact hk5
    have r1 := pc_at (ps.set k p) (i / 5) (i % 5) hk5' (by omega)
    have r2 := pc_at ps (i / 5) (i % 5) hk5 (by omega)
    rw [← e] at r1 r2
    rw [r1]
    by_cases ek : i / 5 = k
    · subst ek
      rw [List.getElem_set_self, h (i % 5) (by omega)]
      by_cases ej : i % 5 = j
      · rw [if_pos ej, show i / 5 * 5 + j = i by omega, List.getElem?_set_self (by omega)]
      · rw [if_neg ej, List.getElem?_set_ne (by omega), r2]
    · rw [List.getElem_set_ne (fun h => ek h.symm), ← r2, List.getElem?_set_ne (by omega)]
  · rw [List.getElem?_eq_none (by rw [List.length_set]; omega), List.getElem?_eq_none (by omega)]

/-- One cell of one page stored. -/
theorem OP.cell {w : World} {lo : Nat} {v : Value} {ps : List Pg} (h : OP w lo v ps) (k j : Nat) (hk : k < ps.length) (hj : j < 5) :
    ∃ (g cap : Nat), v = .slice (some ⟨g, 0, none⟩) ps.length cap ∧ ps.length ≤ cap ∧ (∃ u, w.cell? ⟨g, k * 5 + j, none⟩ = some u) ∧ w.frozen? ⟨g, k * 5 + j, none⟩ = false ∧ (lo ≤ g ∧ g < w.heap.size) ∧
      ∀ (p : Pg) (u : Value), PgI p → (∀ i, i < 5 → (pgc p)[i]? = if i = j then some u else (pgc ps[k])[i]?) → OP (w.setCell ⟨g, k * 5 + j, none⟩ u) lo v (ps.set k p) := by
  obtain ⟨g, cap, rfl, hb1, hb2, hb3⟩ := own_shape1 h.1 (show 0 < ps.length by omega)
  refine ⟨g, cap, rfl, hb3, ?_, h.1.frozenAt _, ⟨hb1, hb2⟩, fun p u hp hu => ?_⟩
  · rw [h.1.cellAt _ (by omega), pc_at ps k j hk hj]
    exact ⟨(pgc ps[k])[j]'(by simp [pgc]; omega), by simp [pgc, hj]⟩
  · have hst := (h.1.stored (k * 5 + j) u).1
    refine ⟨?_, fun q hq => ?_⟩
    · rw [List.length_set, ← pc_set ps k j hk hj p u hu]
      exact hst
    · rcases List.mem_or_eq_of_mem_set hq with h1 | rfl
      · exact h.2 q h1
      · exact hp

/-- The device v is the call's own, and so are its blocks' pages, all ahead of hi. -/
def OD (w : World) (lo hi : Nat) (v : Value) (d : List Bk) : Prop :=
  ∃ us : List Value, w.ownsRow lo 57 2 v d.length (bc d us) ∧ (∀ b, v.ownBlock = some b → b < hi) ∧ Inn PgRow w lo hi us (d.map Bk.pages) ∧ ∀ b ∈ d, I64 b.wear
theorem OD.chg {S : Nat → Prop} {w w' : World} {lo hi : Nat} {v : Value} {d : List Bk} (h : OD w lo hi v d) (hk : Chg S w w') (hs : ∀ b, lo ≤ b → b < hi → ¬ S b) : OD w' lo hi v d := by
  obtain ⟨us, h1, h2, h3, h4⟩ := h
  exact ⟨us, own_chg h1 hk fun b hb he => hs b hb (h2 b he), h2, h3.chg hk hs, h4⟩
theorem OD.below {w w' : World} {lo hi : Nat} {v : Value} {d : List Bk} (h : OD w lo hi v d) (hk : Below w.heap.size w w') : OD w' lo hi v d := h.chg (below_chg hk fun _ => False) fun _ _ _ h => h
theorem OD.mono {w : World} {lo hi hi' : Nat} {v : Value} {d : List Bk} (h : OD w lo hi v d) (hh : hi ≤ hi') : OD w lo hi' v d := by
  obtain ⟨us, h1, h2, h3, h4⟩ := h
  exact ⟨us, h1, fun b hb => by have := h2 b hb; omega, h3.mono hh, h4⟩
theorem OD.wide {w : World} {lo lo' hi : Nat} {v : Value} {d : List Bk} (h : OD w lo hi v d) (hh : lo' ≤ lo) : OD w lo' hi v d := by
  obtain ⟨us, h1, h2, h3, h4⟩ := h
  exact ⟨us, own_wide h1 hh, h2, h3.wide hh, h4⟩
theorem OD.rd {w : World} {lo hi : Nat} {v : Value} {d : List Bk} (h : OD w lo hi v d) : RD w lo hi v d := by
  obtain ⟨us, h1, h2, h3, h4⟩ := h
  have hl : us.length = d.length := by rw [h3.1, List.length_map]
  refine ⟨us, hl, reads_hi h1 h2, fun k hk u hu => ⟨?_, h4 _ (List.getElem_mem hk)⟩⟩
  have hk' : k < (d.map Bk.pages).length := by rw [List.length_map]; exact hk
  have ho : OP w lo u (d.map Bk.pages)[k] := (h3.2.1 k hk' u hu).1
  rw [List.getElem_map] at ho
  exact ho.rph (h3.2.1 k hk' u hu).2
theorem od_nil (w : World) (lo hi : Nat) : OD w lo hi (.slice none 0 0) [] := ⟨[], World.ownsRow_nil _ _ _ _, fun b hb => by simp [Value.ownBlock] at hb, Inn.nil _ _ _ _, fun b hb => by simp at hb⟩

theorem bc_set : ∀ (d : List Bk) (us : List Value) (k : Nat) (b : Bk) (u : Value), us.length = d.length → k < d.length → ((bc d us).set (k * 2) (.int .i64 b.wear)).set (k * 2 + 1) u = bc (d.set k b) (us.set k u)
  | [], _, k, _, _, _, h => by simp at h
  | x :: d, [], _, _, _, h, _ => by simp at h
  | x :: d, y :: us, 0, b, u, _, _ => by simp [bc]
  | x :: d, y :: us, k + 1, b, u, h1, h2 => by
    have := bc_set d us k b u (by simpa using h1) (by simpa using h2)
    rw [show (k + 1) * 2 = k * 2 + 1 + 1 by omega]
    simpa [bc] using this
theorem bc_setw : ∀ (d : List Bk) (us : List Value) (k : Nat) (b : Bk), us.length = d.length → k < d.length → (bc d us).set (k * 2) (.int .i64 b.wear) = bc (d.set k b) us
  | [], _, k, _, _, h => by simp at h
  | x :: d, [], _, _, h, _ => by simp at h
  | x :: d, y :: us, 0, b, _, _ => by simp [bc]
  | x :: d, y :: us, k + 1, b, h1, h2 => by
    have := bc_setw d us k b (by simpa using h1) (by simpa using h2)
    rw [show (k + 1) * 2 = k * 2 + 1 + 1 by omega]
    simpa [bc] using this
theorem bc_append : ∀ (d : List Bk) (us : List Value) (b : Bk) (u : Value), us.length = d.length → bc (d ++ [b]) (us ++ [u]) = bc d us ++ [.int .i64 b.wear, u]
  | [], [], _, _, _ => by simp [bc]
  | x :: d, y :: us, b, u, h => by
    have := bc_append d us b u (by simpa using h)
    simp [bc, this]
  | [], _ :: _, _, _, h => by simp at h
  | _ :: _, [], _, _, h => by simp at h

theorem bcw_pages (d : List Bk) (us : List Value) (k : Nat) (hk : k < d.length) (ps : List Pg) (hl : us.length = d.length) : bc (d.set k ⟨d[k].wear, ps⟩) us = bc d us := by
  have h1 := bc_setw d us k ⟨d[k].wear, ps⟩ hl hk
  rw [← h1]
  apply List.ext_getElem?
  intro i
  by_cases e : k * 2 = i
  · subst e
    rw [List.getElem?_set_self (by rw [bc_len d us hl]; omega), (bc_at d us k hk hl).1]
  · rw [List.getElem?_set_ne e]

/-- One block's pages: turned by whatever turns their row alone. -/
theorem OD.inner {w : World} {lo hi : Nat} {v : Value} {d : List Bk} (h : OD w lo hi v d) (k : Nat) (hk : k < d.length) :
    ∃ (a cap : Nat) (u : Value), v = .slice (some ⟨a, 0, none⟩) d.length cap ∧ d.length ≤ cap ∧ w.cell? ⟨a, k * 2 + 1, none⟩ = some u ∧ OP w lo u d[k].pages ∧ (∀ b, u.ownBlock = some b → lo ≤ b ∧ b < hi) ∧
      ∀ w' ps, Chg (fun b => u.ownBlock = some b) w w' → OP w' lo u ps → OD w' lo hi v (d.set k ⟨d[k].wear, ps⟩) := by
  obtain ⟨us, h1, h2, h3, h4⟩ := h
  have hl : us.length = d.length := by rw [h3.1, List.length_map]
  obtain ⟨u, hu, ho, hb⟩ := h3.get k (by rw [List.length_map]; exact hk)
  have ho' : OP w lo u d[k].pages := by rw [List.getElem_map] at ho; exact ho
  obtain ⟨a, cap, rfl, ha1, ha2, ha3⟩ := own_shape1 h1 (show 0 < d.length by omega)
  refine ⟨a, cap, u, rfl, ha3, by rw [h1.cellAt _ (by omega), (bc_at d us k hk hl).2]; exact hu, ho', fun b hb' => ⟨(ho'.lt b hb').1, hb b hb'⟩, fun w' ps hc ho2 => ?_⟩
  have hap := own_apart ho'.1 h1 (by decide)
  have hin : Inn PgRow w' lo hi us ((d.map Bk.pages).set k ps) := h3.one hu hc ho2
  have em : ((d.map Bk.pages).set k ps) = (d.set k ⟨d[k].wear, ps⟩).map Bk.pages := by rw [List.map_set]
  refine ⟨us, ?_, h2, by rw [← em]; exact hin, fun b hb => ?_⟩
  · rw [List.length_set, bcw_pages d us k hk ps hl]
    exact own_chg h1 hc fun b _ hb1 hb2 => hap b hb2 hb1
  · rcases List.mem_or_eq_of_mem_set hb with h | rfl
    · exact h4 b h
    · exact h4 d[k] (List.getElem_mem hk)
/-- One block's wear stored. -/
theorem OD.setw {w : World} {lo hi : Nat} {v : Value} {d : List Bk} (h : OD w lo hi v d) (k : Nat) (hk : k < d.length) :
    ∃ (a cap : Nat), v = .slice (some ⟨a, 0, none⟩) d.length cap ∧ d.length ≤ cap ∧ (∃ u, w.cell? ⟨a, k * 2, none⟩ = some u) ∧ w.frozen? ⟨a, k * 2, none⟩ = false ∧ (lo ≤ a ∧ a < hi) ∧
      ∀ x, I64 x → OD (w.setCell ⟨a, k * 2, none⟩ (.int .i64 x)) lo hi v (d.set k ⟨x, d[k].pages⟩) := by
  obtain ⟨us, h1, h2, h3, h4⟩ := h
  have hl : us.length = d.length := by rw [h3.1, List.length_map]
  obtain ⟨a, cap, rfl, ha1, ha2, ha3⟩ := own_shape1 h1 (show 0 < d.length by omega)
  refine ⟨a, cap, rfl, ha3, ⟨_, by rw [h1.cellAt _ (by omega), (bc_at d us k hk hl).1]⟩, h1.frozenAt _, ⟨ha1, h2 a rfl⟩, fun x hx => ?_⟩
  have hst := (h1.stored (k * 2) (.int .i64 x)).1
  have hc : Chg (fun b => (Value.slice (some ⟨a, 0, none⟩) d.length cap).ownBlock = some b) w (w.setCell ⟨a, k * 2, none⟩ (.int .i64 x)) := Chg.setCell (S := fun b => (Value.slice (some ⟨a, 0, none⟩) d.length cap).ownBlock = some b) (Chg.refl _ w) (p := ⟨a, k * 2, none⟩) (.inr rfl) _
  have hin : Inn PgRow (w.setCell ⟨a, k * 2, none⟩ (.int .i64 x)) lo hi us (d.map Bk.pages) := h3.chg2 hc fun j u b hu hb1 hb2 => by
    have hj : j < (d.map Bk.pages).length := by rw [← h3.1]; exact (List.getElem?_eq_some_iff.1 hu).1
    have ho : OP w lo u (d.map Bk.pages)[j] := (h3.2.1 j hj u hu).1
    exact own_apart ho.1 h1 (by decide) b hb1 hb2
  have em : (d.set k ⟨x, d[k].pages⟩).map Bk.pages = d.map Bk.pages := by
    rw [List.map_set]
    apply List.ext_getElem?
    intro i
    by_cases e : k = i
    · subst e; rw [List.getElem?_set_self (by rw [List.length_map]; exact hk)]; simp [hk]
    · rw [List.getElem?_set_ne e]
  refine ⟨us, ?_, h2, by rw [em]; exact hin, fun b hb => ?_⟩
  · have eb := bc_setw d us k ⟨x, d[k].pages⟩ hl hk
    rw [List.length_set, ← eb]
    exact hst
  · rcases List.mem_or_eq_of_mem_set hb with h | rfl
    · exact h4 b h
    · exact hx
/-- One block laid anew. -/
theorem OD.put {w : World} {lo hi hi' : Nat} {v : Value} {d : List Bk} (h : OD w lo hi v d) (k : Nat) (hk : k < d.length) :
    ∃ (a cap : Nat), v = .slice (some ⟨a, 0, none⟩) d.length cap ∧ d.length ≤ cap ∧ ((∃ u, w.cell? ⟨a, k * 2, none⟩ = some u) ∧ ∃ u, w.cell? ⟨a, k * 2 + 1, none⟩ = some u) ∧ (w.frozen? ⟨a, k * 2, none⟩ = false ∧ w.frozen? ⟨a, k * 2 + 1, none⟩ = false) ∧ (lo ≤ a ∧ a < hi) ∧
      ∀ u (b : Bk), OP w lo u b.pages → I64 b.wear → (∀ g, u.ownBlock = some g → hi ≤ g ∧ g < hi') → hi ≤ hi' → OD ((w.setCell ⟨a, k * 2, none⟩ (.int .i64 b.wear)).setCell ⟨a, k * 2 + 1, none⟩ u) lo hi' v (d.set k b) := by
  obtain ⟨us, h1, h2, h3, h4⟩ := h
  have hl : us.length = d.length := by rw [h3.1, List.length_map]
  obtain ⟨a, cap, rfl, ha1, ha2, ha3⟩ := own_shape1 h1 (show 0 < d.length by omega)
  have hku : k < us.length := by omega
  refine ⟨a, cap, rfl, ha3, ⟨⟨_, by rw [h1.cellAt _ (by omega), (bc_at d us k hk hl).1]⟩, ⟨us[k], by rw [h1.cellAt _ (by omega), (bc_at d us k hk hl).2]; simp [hku]⟩⟩, ⟨h1.frozenAt _, h1.frozenAt _⟩, ⟨ha1, h2 a rfl⟩, fun u b ho hw hb hh => ?_⟩
  have hst := (h1.stored (k * 2) (.int .i64 b.wear)).1
  have hst2 := (hst.stored (k * 2 + 1) u).1
  have hc : Chg (fun b => (Value.slice (some ⟨a, 0, none⟩) d.length cap).ownBlock = some b) w ((w.setCell ⟨a, k * 2, none⟩ (.int .i64 b.wear)).setCell ⟨a, k * 2 + 1, none⟩ u) :=
    Chg.setCell (S := fun b => (Value.slice (some ⟨a, 0, none⟩) d.length cap).ownBlock = some b) (Chg.setCell (S := fun b => (Value.slice (some ⟨a, 0, none⟩) d.length cap).ownBlock = some b) (Chg.refl _ w) (p := ⟨a, k * 2, none⟩) (.inr rfl) _) (p := ⟨a, k * 2 + 1, none⟩) (.inr rfl) _
  have hn : Inn PgRow w lo hi' (us.set k u) ((d.map Bk.pages).set k b.pages) := h3.put k ho hb hh
  have em : ((d.map Bk.pages).set k b.pages) = (d.set k b).map Bk.pages := by rw [List.map_set]
  rw [em] at hn
  refine ⟨us.set k u, ?_, fun g hg => by have := h2 g hg; omega, hn.chg2 hc fun j u' g hu' hb1 hb2 => ?_, fun x hx => ?_⟩
  · rw [List.length_set, ← bc_set d us k b u hl hk]
    exact hst2
  · have hj : j < ((d.set k b).map Bk.pages).length := by rw [← hn.1]; exact (List.getElem?_eq_some_iff.1 hu').1
    have ho' : OP w lo u' ((d.set k b).map Bk.pages)[j] := (hn.2.1 j hj u' hu').1
    exact own_apart ho'.1 h1 (by decide) g hb1 hb2
  · rcases List.mem_or_eq_of_mem_set hx with h | rfl
    · exact h4 x h
    · exact hw

theorem Try.infoPg : (Try.prog.info? 40).map (fun i => (i.zero, i.size, i.bytes)) = some (some (.agg #[.bool false, .int .i64 0, .int .i64 0, .int .i64 0, .int .i64 0]), 5, 40) := by kernel_rfl
theorem Try.infoBk : (Try.prog.info? 57).map (fun i => (i.zero, i.size, i.bytes)) = some (some (.agg #[.int .i64 0, .slice none 0 0]), 2, 32) := by kernel_rfl

theorem pc_rep (n : Nat) : pc (List.replicate n pg0) = (List.replicate n [Value.bool false, .int .i64 0, .int .i64 0, .int .i64 0, .int .i64 0]).flatten := by
  unfold pc
  rw [List.flatMap_def, List.map_replicate]
  rfl
theorem bc_rep (n : Nat) : bc (List.replicate n bk0) (List.replicate n (.slice none 0 0)) = (List.replicate n [Value.int .i64 0, .slice none 0 0]).flatten := by
  induction n with
  | zero => rfl
  | succ n ih => rw [List.replicate_succ, List.replicate_succ, List.replicate_succ, List.flatten_cons, ← ih]; rfl

end Go.Proofs.Ytpfekeflkmafcaa
