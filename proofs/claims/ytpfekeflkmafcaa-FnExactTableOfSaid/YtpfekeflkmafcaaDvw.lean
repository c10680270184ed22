/-
  Words for devices that are read: pages, blocks, heads.
-/
import Derived.Test.YtpfekeflkmafcaaDvp
import Derived.Test.YtpfekeflkmafcaaTab
namespace Go.Proofs.Ytpfekeflkmafcaa
open Go.RowKit

/-- A page's cells; a page by value. -/
def pgc (p : Pg) : List Value := [.bool p.full, .int .i64 p.file, .int .i64 p.place, .int .i64 p.value, .int .i64 p.stamp]
def pgv (p : Pg) : Value := .agg #[.bool p.full, .int .i64 p.file, .int .i64 p.place, .int .i64 p.value, .int .i64 p.stamp]
def PgI (p : Pg) : Prop := I64 p.file ∧ I64 p.place ∧ I64 p.value ∧ I64 p.stamp
theorem pg0_i : PgI pg0 := ⟨by unfold I64 pg0; simp, by unfold I64 pg0; simp, by unfold I64 pg0; simp, by unfold I64 pg0; simp⟩
theorem pgOk_i {p : Pg} (h : pgOk p = true) : PgI p := by
  cases hf : p.full with
  | false => rw [pgOk_empty h hf]; exact pg0_i
  | true =>
    have := pgOk_full h hf
    unfold PgI I64
    omega
def pc (ps : List Pg) : List Value := ps.flatMap pgc
theorem pc_len (ps : List Pg) : (pc ps).length = ps.length * 5 := by
  unfold pc
  induction ps with
  | nil => rfl
  | cons p ps ih => rw [List.flatMap_cons, List.length_append, ih, List.length_cons]; simp [pgc]; omega
theorem pc_at (ps : List Pg) (k j : Nat) (hk : k < ps.length) (hj : j < 5) : (pc ps)[k * 5 + j]? = (pgc ps[k])[j]? := by
  unfold pc
  induction ps generalizing k with
  | nil => simp at hk
  | cons p ps ih =>
    rw [List.flatMap_cons]
    cases k with
    | zero =>
      rw [List.getElem?_append_left (by simp [pgc]; omega)]
      simp
    | succ k =>
      rw [List.getElem?_append_right (by simp [pgc]; omega)]
      have := ih k (by simpa using hk)
      rw [List.getElem_cons_succ, ← this]
      congr 1
      simp [pgc]; omega
theorem pc_append (a b : List Pg) : pc (a ++ b) = pc a ++ pc b := by unfold pc; rw [List.flatMap_append]

/-- The pages of a slice. -/
def RP (w : World) (lo hi : Nat) (v : Value) (ps : List Pg) : Prop := Reads w lo hi 5 v ps.length (pc ps) ∧ ∀ p ∈ ps, PgI p
theorem RP.below {w w' : World} {lo hi : Nat} {v : Value} {ps : List Pg} (h : RP w lo hi v ps) (hk : Below w.heap.size w w') : RP w' lo hi v ps := ⟨h.1.below hk, h.2⟩
theorem RP.chg {S : Nat → Prop} {w w' : World} {lo hi : Nat} {v : Value} {ps : List Pg} (h : RP w lo hi v ps) (hk : Chg S w w') (hs : ∀ b, lo ≤ b → b < hi → ¬ S b) : RP w' lo hi v ps := ⟨h.1.chg hk hs, h.2⟩
theorem RP.wide {w : World} {lo hi lo' hi' : Nat} {v : Value} {ps : List Pg} (h : RP w lo hi v ps) (h1 : lo' ≤ lo) (h2 : hi ≤ hi') : RP w lo' hi' v ps := ⟨h.1.wide h1 h2, h.2⟩
/-- The five cells of a page. -/
def P5 (w : World) (b o : Nat) (p : Pg) : Prop :=
  w.cell? ⟨b, o, none⟩ = some (.bool p.full) ∧ w.cell? ⟨b, o + 1, none⟩ = some (.int .i64 p.file) ∧ w.cell? ⟨b, o + 2, none⟩ = some (.int .i64 p.place) ∧ w.cell? ⟨b, o + 3, none⟩ = some (.int .i64 p.value) ∧ w.cell? ⟨b, o + 4, none⟩ = some (.int .i64 p.stamp)
theorem P5.below {w w' : World} {b o : Nat} {p : Pg} (h : P5 w b o p) (hk : Below w.heap.size w w') : P5 w' b o p :=
  ⟨cell_later hk h.1, cell_later hk h.2.1, cell_later hk h.2.2.1, cell_later hk h.2.2.2.1, cell_later hk h.2.2.2.2⟩
theorem RP.open {w : World} {lo hi : Nat} {v : Value} {ps : List Pg} (h : RP w lo hi v ps) :
    ∃ (a : Option Addr) (cap b off : Nat), v = .slice a ps.length cap ∧ ps.length ≤ cap ∧ cap ≤ 9223372036854775807 ∧
      (0 < ps.length → a = some ⟨b, off, none⟩) ∧ ∀ k (hk : k < ps.length), P5 w b (off + k * 5) ps[k] := by
  obtain ⟨⟨hl, a, cap, b, off, rfl, h1, h2, h3, h4⟩, hw⟩ := h
  refine ⟨a, cap, b, off, rfl, h1, by simpa [maxLen] using h2, fun hn => (h3 hn).1, fun k hk => ?_⟩
  have key : ∀ j, j < 5 → w.cell? ⟨b, off + k * 5 + j, none⟩ = (pgc ps[k])[j]? := fun j hj => by
    rw [← pc_at ps k j hk hj, ← h4 (k * 5 + j) (by omega), Nat.add_assoc]
  exact ⟨by simpa [pgc] using key 0 (by omega), by simpa [pgc] using key 1 (by omega), by simpa [pgc] using key 2 (by omega), by simpa [pgc] using key 3 (by omega), by simpa [pgc] using key 4 (by omega)⟩
theorem RP.at {w : World} {lo hi : Nat} {v : Value} {ps : List Pg} (h : RP w lo hi v ps) {k : Nat} (hk : k < ps.length) : PgI ps[k] := h.2 _ (List.getElem_mem hk)
theorem rp_nil (w : World) (lo hi : Nat) : RP w lo hi (.slice none 0 0) [] :=
  ⟨⟨by simp [pc], none, 0, 0, 0, rfl, Nat.le_refl _, by simp [maxLen], fun h => by simp at h, fun j hj => by simp at hj⟩, fun p hp => by simp at hp⟩

/-- A block by value. -/
def RB1 (w : World) (lo hi : Nat) (v : Value) (b : Bk) : Prop := ∃ s, v = .agg #[.int .i64 b.wear, s] ∧ I64 b.wear ∧ RP w lo hi s b.pages

/-- The cells of blocks whose pages are the slices us. -/
def bc : List Bk → List Value → List Value
  | b :: d, u :: us => .int .i64 b.wear :: u :: bc d us
  | _, _ => []
theorem bc_len : ∀ (d : List Bk) (us : List Value), us.length = d.length → (bc d us).length = d.length * 2
  | [], [], _ => rfl
  | b :: d, u :: us, h => by
    have := bc_len d us (by simpa using h)
    simp only [bc, List.length_cons, this]; omega
  | [], _ :: _, h => by simp at h
  | _ :: _, [], h => by simp at h
theorem bc_at : ∀ (d : List Bk) (us : List Value) (k : Nat) (hk : k < d.length), us.length = d.length → (bc d us)[k * 2]? = some (.int .i64 d[k].wear) ∧ (bc d us)[k * 2 + 1]? = us[k]?
  | [], _, k, hk, _ => by simp at hk
  | b :: d, [], k, _, h => by simp at h
  | b :: d, u :: us, 0, _, _ => by simp [bc]
  | b :: d, u :: us, k + 1, hk, h => by
    have := bc_at d us k (by simpa using hk) (by simpa using h)
    rw [show (k + 1) * 2 = k * 2 + 1 + 1 by omega]
    simpa [bc] using this

/-- The blocks of a slice. -/
def RD (w : World) (lo hi : Nat) (v : Value) (d : List Bk) : Prop :=
  ∃ us : List Value, us.length = d.length ∧ Reads w lo hi 2 v d.length (bc d us) ∧ ∀ (k : Nat) (hk : k < d.length) (u : Value), us[k]? = some u → RP w lo hi u d[k].pages ∧ I64 d[k].wear
theorem RD.chg {S : Nat → Prop} {w w' : World} {lo hi : Nat} {v : Value} {d : List Bk} (h : RD w lo hi v d) (hk : Chg S w w') (hs : ∀ b, lo ≤ b → b < hi → ¬ S b) : RD w' lo hi v d := by
  obtain ⟨us, h0, h1, h2⟩ := h
  exact ⟨us, h0, h1.chg hk hs, fun k hl u hu => ⟨(h2 k hl u hu).1.chg hk hs, (h2 k hl u hu).2⟩⟩
theorem RD.below {w w' : World} {lo hi : Nat} {v : Value} {d : List Bk} (h : RD w lo hi v d) (hk : Below w.heap.size w w') : RD w' lo hi v d := h.chg (below_chg hk fun _ => False) fun _ _ _ h => h
theorem RD.wide {w : World} {lo hi lo' hi' : Nat} {v : Value} {d : List Bk} (h : RD w lo hi v d) (h1 : lo' ≤ lo) (h2 : hi ≤ hi') : RD w lo' hi' v d := by
  obtain ⟨us, g0, g1, g2⟩ := h
  exact ⟨us, g0, g1.wide h1 h2, fun k hl u hu => ⟨(g2 k hl u hu).1.wide h1 h2, (g2 k hl u hu).2⟩⟩
theorem RD.open {w : World} {lo hi : Nat} {v : Value} {d : List Bk} (h : RD w lo hi v d) :
    ∃ (a : Option Addr) (cap b off : Nat), v = .slice a d.length cap ∧ d.length ≤ cap ∧ cap ≤ 9223372036854775807 ∧
      (0 < d.length → a = some ⟨b, off, none⟩) ∧ ∀ k (hk : k < d.length), ∃ u, w.cell? ⟨b, off + k * 2, none⟩ = some (.int .i64 d[k].wear) ∧ w.cell? ⟨b, off + k * 2 + 1, none⟩ = some u ∧ RP w lo hi u d[k].pages ∧ I64 d[k].wear := by
  obtain ⟨us, hl, ⟨hl2, a, cap, b, off, rfl, h1, h2, h3, h4⟩, hi⟩ := h
  refine ⟨a, cap, b, off, rfl, h1, by simpa [maxLen] using h2, fun hn => (h3 hn).1, fun k hk => ?_⟩
  have hk' : k < us.length := by omega
  obtain ⟨e1, e2⟩ := bc_at d us k hk hl
  have hu : us[k]? = some us[k] := by simp [hk']
  refine ⟨us[k], ?_, ?_, hi k hk _ hu⟩
  · rw [h4 (k * 2) (by omega), e1]
  · rw [Nat.add_assoc, h4 (k * 2 + 1) (by omega), e2, hu]
theorem RD.at {w : World} {lo hi : Nat} {b off n cap : Nat} {d : List Bk} (h : RD w lo hi (.slice (some ⟨b, off, none⟩) n cap) d) (k : Nat) (hk : k < d.length) :
    ∃ (a' : Option Addr) (cap' b' off' : Nat), w.cell? ⟨b, off + k * 2, none⟩ = some (.int .i64 d[k].wear) ∧ w.cell? ⟨b, off + k * 2 + 1, none⟩ = some (.slice a' d[k].pages.length cap') ∧ RP w lo hi (.slice a' d[k].pages.length cap') d[k].pages ∧ I64 d[k].wear ∧
      d[k].pages.length ≤ cap' ∧ cap' ≤ 9223372036854775807 ∧ (0 < d[k].pages.length → a' = some ⟨b', off', none⟩) ∧ ∀ j (hj : j < d[k].pages.length), P5 w b' (off' + j * 5) d[k].pages[j] := by
  obtain ⟨a, c, b0, o0, e, q1, q2, q3, q4⟩ := h.open
  simp only [Value.slice.injEq] at e
  obtain ⟨rfl, -, rfl⟩ := e
  have := q3 (by omega)
  simp only [Option.some.injEq, Addr.mk.injEq, and_true] at this
  obtain ⟨rfl, rfl⟩ := this
  obtain ⟨u, c1, c2, hp, hw⟩ := q4 k hk
  obtain ⟨a', cap', b', off', rfl, r1, r2, r3, r4⟩ := hp.open
  exact ⟨a', cap', b', off', c1, c2, hp, hw, r1, r2, r3, r4⟩
theorem rd_nil (w : World) (lo hi : Nat) : RD w lo hi (.slice none 0 0) [] :=
  ⟨[], rfl, ⟨by simp [bc], none, 0, 0, 0, rfl, Nat.le_refl _, by simp [maxLen], fun h => by simp at h, fun j hj => by simp at hj⟩, fun k hk => by simp at hk⟩

/-- Heads by value. -/
def hdv (h : Hd) : Value := .agg #[.int .i64 h.hot, .int .i64 h.warm, .int .i64 h.cold]
def HdI (h : Hd) : Prop := I64 h.hot ∧ I64 h.warm ∧ I64 h.cold

/-- Boxes of two and of five cells. -/
theorem two_at {w : World} {B : Nat} {x y : Value} {t : TypeId} (h : w.heap[B]? = some (.cells #[x, y] t (0, 0))) :
    (w.cell? ⟨B, 0, none⟩ = some x ∧ w.cell? ⟨B, 1, none⟩ = some y) ∧ w.frozen? ⟨B, 0, none⟩ = false ∧ w.frozen? ⟨B, 1, none⟩ = false := by
  simp [World.cell?, World.frozen?, h]
theorem three_at {w : World} {B : Nat} {x y z : Value} {t : TypeId} (h : w.heap[B]? = some (.cells #[x, y, z] t (0, 0))) :
    (w.cell? ⟨B, 0, none⟩ = some x ∧ w.cell? ⟨B, 1, none⟩ = some y ∧ w.cell? ⟨B, 2, none⟩ = some z) ∧ w.frozen? ⟨B, 0, none⟩ = false ∧ w.frozen? ⟨B, 1, none⟩ = false ∧ w.frozen? ⟨B, 2, none⟩ = false := by
  simp [World.cell?, World.frozen?, h]
theorem five_at {w : World} {B : Nat} {p : Pg} {t : TypeId} (h : w.heap[B]? = some (.cells #[.bool p.full, .int .i64 p.file, .int .i64 p.place, .int .i64 p.value, .int .i64 p.stamp] t (0, 0))) : P5 w B 0 p := by
  unfold P5
  simp [World.cell?, h]

end Go.Proofs.Ytpfekeflkmafcaa
