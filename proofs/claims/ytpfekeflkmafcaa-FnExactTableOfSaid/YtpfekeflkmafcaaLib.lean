/-
  Words for slices that are read, and laws on them; plain lemmas on lists. No program in sight.
-/
import Derived.Test.YtpfekeflkmafcaaRows
import Derived.WalkKit
import Derived.WalkSpells
import Derived.WalkLawsBesides
import Derived.Lib.Hide
namespace Go.RowKit
theorem Below.drewN {B : Nat} {a w : World} (h : Below B a w) (n : Nat) : Below B a (w.drewN n) := ⟨h.os, h.tape, h.output, h.size, h.block⟩
end Go.RowKit
namespace Go.Proofs.Ytpfekeflkmafcaa
open Go.RowKit

theorem ret_bool {a b : Bool} (h : a = b) : Ending.returned (.bool a) = .returned (.bool b) := by rw [h]
theorem ret_int {k : IntKind} {a b : Int} (h : a = b) : Ending.returned (.int k a) = .returned (.int k b) := by rw [h]

/-- An int of Go's. -/
def I64 (x : Int) : Prop := -9223372036854775808 ≤ x ∧ x ≤ 9223372036854775807
def I64s (xs : List Int) : Prop := ∀ x ∈ xs, I64 x

/-- The slice v of n elements of `size` cells reads as the cells cs; its block lies in lo .. hi-1. -/
def Reads (w : World) (lo hi size : Nat) (v : Value) (n : Nat) (cs : List Value) : Prop :=
  cs.length = n * size ∧ ∃ (a : Option Addr) (cap b off : Nat), v = .slice a n cap ∧ n ≤ cap ∧ cap ≤ maxLen ∧
    (0 < n → a = some ⟨b, off, none⟩ ∧ lo ≤ b ∧ b < hi) ∧ ∀ j, j < n * size → w.cell? ⟨b, off + j, none⟩ = cs[j]?

theorem Reads.kept {w w' : World} {lo hi size : Nat} {v : Value} {n : Nat} {cs : List Value} (h : Reads w lo hi size v n cs)
    (hk : ∀ b, lo ≤ b → b < hi → b < w.heap.size → w'.heap[b]? = w.heap[b]?) : Reads w' lo hi size v n cs := by
  obtain ⟨hl, a, cap, b, off, rfl, h1, h2, h3, h4⟩ := h
  refine ⟨hl, a, cap, b, off, rfl, h1, h2, h3, fun j hj => ?_⟩
  have hn : 0 < n := by rcases Nat.eq_zero_or_pos n with h0 | h0; · simp [h0] at hj
                        · exact h0
  have hc := h4 j hj
  have hs : ∃ u, w.cell? ⟨b, off + j, none⟩ = some u := by rw [hc]; exact ⟨cs[j], by simp [hl, hj]⟩
  obtain ⟨u, hu⟩ := hs
  have hb := World.block_lt_of_cell? w _ hu
  rw [World.cell?_of_block (w := w) (hk b (h3 hn).2.1 (h3 hn).2.2 hb)]
  exact hc

theorem Reads.below {w w' : World} {lo hi size : Nat} {v : Value} {n : Nat} {cs : List Value} (h : Reads w lo hi size v n cs)
    (hk : Below w.heap.size w w') : Reads w' lo hi size v n cs := h.kept fun b _ _ hb => hk.block b hb

theorem Reads.wide {w : World} {lo hi lo' hi' size : Nat} {v : Value} {n : Nat} {cs : List Value} (h : Reads w lo hi size v n cs) (h1 : lo' ≤ lo) (h2 : hi ≤ hi') :
    Reads w lo' hi' size v n cs := by
  obtain ⟨hl, a, cap, b, off, rfl, g1, g2, g3, g4⟩ := h
  exact ⟨hl, a, cap, b, off, rfl, g1, g2, fun hn => ⟨(g3 hn).1, by have := (g3 hn).2.1; omega, by have := (g3 hn).2.2; omega⟩, g4⟩

/-- The top bound shrinks to the heap. -/
theorem Reads.top {w : World} {lo hi size : Nat} {v : Value} {n : Nat} {cs : List Value} (h : Reads w lo hi size v n cs) (hs : 0 < size) :
    Reads w lo w.heap.size size v n cs := by
  obtain ⟨hl, a, cap, b, off, rfl, g1, g2, g3, g4⟩ := h
  refine ⟨hl, a, cap, b, off, rfl, g1, g2, fun hn => ⟨(g3 hn).1, (g3 hn).2.1, ?_⟩, g4⟩
  have h0 : 0 < n * size := Nat.mul_pos hn hs
  exact World.block_lt_of_cell? w ⟨b, off + 0, none⟩ ((g4 0 h0).trans (by simp [hl, h0]; rfl))

/-- What is owned is read. -/
theorem reads_own {w : World} {base : Nat} {e : TypeId} {size : Nat} {v : Value} {n : Nat} {cs : List Value} (h : w.ownsRow base e size v n cs) :
    Reads w base w.heap.size size v n cs := by
  rcases h.2 with ⟨rfl, rfl⟩ | ⟨g, cap, cur, rfl, hb, hg, hn, hm, hs, ht⟩
  · exact ⟨h.1, none, 0, 0, 0, rfl, Nat.le_refl _, by simp [maxLen], fun h => absurd h (by omega), fun j hj => by simp at hj⟩
  · refine ⟨h.1, some ⟨g, 0, none⟩, cap, g, 0, rfl, hn, hm, fun _ => ⟨rfl, hb, (Array.getElem?_eq_some_iff.1 hg).1⟩, fun j hj => ?_⟩
    rw [Nat.zero_add]
    exact h.cellAt j hj

/-- Blocks outside S are as they were; nothing else has turned. -/
structure Chg (S : Nat → Prop) (w w' : World) : Prop where
  os : w'.os = w.os
  tape : w'.tape = w.tape
  output : w'.output = w.output
  size : w.heap.size ≤ w'.heap.size
  block : ∀ k, k < w.heap.size → ¬ S k → w'.heap[k]? = w.heap[k]?

/-- Two calls, one behind the other. -/
theorem bup {B : Nat} {w w1 w2 : World} (h : Below B w w1) (hB : B ≤ w.heap.size) (k : Below w1.heap.size w1 w2) : Below B w w2 := h.trans (k.mono (Nat.le_trans hB h.size))
theorem bdN (w : World) (n : Nat) : Below w.heap.size w (w.drewN n) := ⟨rfl, rfl, rfl, Nat.le_refl _, fun _ _ => rfl⟩
theorem Chg.refl (S : Nat → Prop) (w : World) : Chg S w w := ⟨rfl, rfl, rfl, Nat.le_refl _, fun _ _ _ => rfl⟩
theorem Chg.trans {S : Nat → Prop} {a b c : World} (h : Chg S a b) (k : Chg S b c) : Chg S a c :=
  ⟨k.os.trans h.os, k.tape.trans h.tape, k.output.trans h.output, Nat.le_trans h.size k.size, fun i hi hs => (k.block i (Nat.lt_of_lt_of_le hi h.size) hs).trans (h.block i hi hs)⟩
theorem Chg.mono {S T : Nat → Prop} {w w' : World} (h : Chg S w w') (hst : ∀ k, k < w.heap.size → S k → T k) : Chg T w w' :=
  ⟨h.os, h.tape, h.output, h.size, fun k hk hs => h.block k hk fun hS => hs (hst k hk hS)⟩
theorem below_chg {w w' : World} (h : Below w.heap.size w w') (S : Nat → Prop) : Chg S w w' := ⟨h.os, h.tape, h.output, h.size, fun k hk _ => h.block k hk⟩
theorem Chg.below {S : Nat → Prop} {B : Nat} {w w' : World} (h : Chg S w w') (hB : B ≤ w.heap.size) (hS : ∀ k, k < B → ¬ S k) : Below B w w' :=
  ⟨h.os, h.tape, h.output, h.size, fun k hk => h.block k (by omega) (hS k hk)⟩
/-- Behind it only what is new has turned. -/
theorem Chg.own {S : Nat → Prop} {a b c : World} (h : Chg S a b) (k : Chg (fun i => a.heap.size ≤ i) b c) : Chg S a c :=
  ⟨k.os.trans h.os, k.tape.trans h.tape, k.output.trans h.output, Nat.le_trans h.size k.size, fun i hi hs => (k.block i (Nat.lt_of_lt_of_le hi h.size) (by omega)).trans (h.block i hi hs)⟩
theorem below_own {B : Nat} {a b c : World} (h : Below B a b) (hB : B ≤ b.heap.size) (k : Chg (fun i => B ≤ i) b c) : Below B a c :=
  h.trans (k.below hB fun i hi h => by omega)
theorem Chg.drew {S : Nat → Prop} {a w : World} (h : Chg S a w) : Chg S a w.drew := ⟨h.os, h.tape, h.output, h.size, h.block⟩
theorem Chg.drewN {S : Nat → Prop} {a w : World} (h : Chg S a w) (n : Nat) : Chg S a (w.drewN n) := ⟨h.os, h.tape, h.output, h.size, h.block⟩
theorem Chg.alloc {S : Nat → Prop} {a w : World} (h : Chg S a w) (o : Obj) : Chg S a (w.alloc o) :=
  h.trans ⟨rfl, rfl, rfl, by simp, fun k hk _ => Below.heap_alloc _ _ _ hk⟩
theorem Chg.setCell {S : Nat → Prop} {a w : World} (h : Chg S a w) {p : Addr} (hp : a.heap.size ≤ p.block ∨ S p.block) (u : Value) : Chg S a (w.setCell p u) :=
  ⟨h.os, h.tape, h.output, by have := h.size; simpa [World.setCell] using this, fun k hk hs => by
    rw [Below.heap_setCell _ _ _ _ (by rintro rfl; rcases hp with hp | hp; omega; exact hs hp)]; exact h.block k hk hs⟩
theorem Chg.grown {S : Nat → Prop} {a w w' : World} {row : Option Nat} (h : Chg S a w) (hg : w.grownBy w' row) (hr : ∀ k, row = some k → a.heap.size ≤ k ∨ S k) : Chg S a w' :=
  ⟨hg.os.trans h.os, hg.tape.trans h.tape, hg.output.trans h.output, Nat.le_trans h.size hg.size, fun k hk hs =>
    (hg.block k (Nat.lt_of_lt_of_le hk h.size) (fun e => by rcases hr k e.symm with h1 | h1; omega; exact hs h1)).trans (h.block k hk hs)⟩
theorem Chg.cell {S : Nat → Prop} {w w' : World} (h : Chg S w w') {p : Addr} (hp : p.block < w.heap.size) (hs : ¬ S p.block) : w'.cell? p = w.cell? p := World.cell?_of_block (w := w) (h.block p.block hp hs)
theorem Chg.frozen {S : Nat → Prop} {w w' : World} (h : Chg S w w') {p : Addr} (hp : p.block < w.heap.size) (hs : ¬ S p.block) : w'.frozen? p = w.frozen? p := World.frozen?_of_block (w := w) (h.block p.block hp hs)

/-- A cell of a literal that was laid ahead of a call. -/
theorem lit_cell {S : Nat → Prop} {w w2 : World} {cs : Array Value} {t : TypeId} (h : Chg S (w.alloc (.cells cs t)) w2) (hs : ¬ S w.heap.size) {j : Nat} {u : Value} (hj : cs[j]? = some u) : w2.cell? ⟨w.heap.size, j, none⟩ = some u := by
  rw [h.cell (p := ⟨w.heap.size, j, none⟩) (by simp) hs]
  simp only [World.cell?, heap_alloc_new]
  simpa using hj

theorem lit_cell2 {S : Nat → Prop} {w w2 : World} {cs : Array Value} {t : TypeId} {o : Obj} (h : Chg S ((w.alloc (.cells cs t)).alloc o) w2) (hs : ¬ S w.heap.size) {j : Nat} {u : Value} (hj : cs[j]? = some u) : w2.cell? ⟨w.heap.size, j, none⟩ = some u := by
  rw [h.cell (p := ⟨w.heap.size, j, none⟩) (by simp; omega) hs]
  have e : ((w.alloc (.cells cs t)).alloc o).heap[w.heap.size]? = some (.cells cs t) := by
    rw [Below.heap_alloc _ _ _ (by simp), heap_alloc_new]
  simp only [World.cell?, e]
  simpa using hj

theorem Reads.chg {S : Nat → Prop} {w w' : World} {lo hi size : Nat} {v : Value} {n : Nat} {cs : List Value} (h : Reads w lo hi size v n cs) (hk : Chg S w w')
    (hs : ∀ b, lo ≤ b → b < hi → ¬ S b) : Reads w' lo hi size v n cs := h.kept fun b h1 h2 hb => hk.block b hb (hs b h1 h2)
theorem own_chg {S : Nat → Prop} {w w' : World} {base : Nat} {e : TypeId} {size : Nat} {v : Value} {n : Nat} {cs : List Value} (h : w.ownsRow base e size v n cs) (hk : Chg S w w')
    (hs : ∀ b, base ≤ b → v.ownBlock = some b → ¬ S b) : w'.ownsRow base e size v n cs := by
  refine ⟨h.1, ?_⟩
  rcases h.2 with h2 | ⟨g, cap, cur, rfl, hb, hg, r⟩
  · exact .inl h2
  · refine .inr ⟨g, cap, cur, rfl, hb, ?_, r⟩
    rw [hk.block g (Array.getElem?_eq_some_iff.1 hg).1 (hs g hb rfl)]
    exact hg

theorem own_wide {w : World} {base base' : Nat} {e : TypeId} {size : Nat} {v : Value} {n : Nat} {cs : List Value} (h : w.ownsRow base e size v n cs) (hb : base' ≤ base) : w.ownsRow base' e size v n cs := by
  refine ⟨h.1, ?_⟩
  rcases h.2 with h2 | ⟨g, cap, cur, hv, hg, r⟩
  · exact .inl h2
  · exact .inr ⟨g, cap, cur, hv, by omega, r⟩

/-- What is owned and not nil lies at the head of a block. -/
theorem own_shape {w : World} {base : Nat} {e : TypeId} {size : Nat} {v : Value} {n : Nat} {cs : List Value} (h : w.ownsRow base e size v n cs) (hv : v ≠ .slice none 0 0) :
    ∃ g cap, v = .slice (some ⟨g, 0, none⟩) n cap ∧ base ≤ g ∧ g < w.heap.size ∧ n ≤ cap := by
  rcases h.2 with ⟨rfl, _⟩ | ⟨g, cap, cur, rfl, hb, hg, hn, _⟩
  · exact absurd rfl hv
  · exact ⟨g, cap, rfl, hb, (Array.getElem?_eq_some_iff.1 hg).1, hn⟩

/-- The numbers of a slice of ints. -/
def RI (w : World) (lo hi : Nat) (v : Value) (xs : List Int) : Prop := Reads w lo hi 1 v xs.length (xs.map (Value.int .i64)) ∧ I64s xs

theorem RI.below {w w' : World} {lo hi : Nat} {v : Value} {xs : List Int} (h : RI w lo hi v xs) (hk : Below w.heap.size w w') : RI w' lo hi v xs := ⟨h.1.below hk, h.2⟩
theorem RI.wide {w : World} {lo hi lo' hi' : Nat} {v : Value} {xs : List Int} (h : RI w lo hi v xs) (h1 : lo' ≤ lo) (h2 : hi ≤ hi') : RI w lo' hi' v xs := ⟨h.1.wide h1 h2, h.2⟩
theorem RI.kept {w w' : World} {lo hi : Nat} {v : Value} {xs : List Int} (h : RI w lo hi v xs)
    (hk : ∀ b, lo ≤ b → b < hi → b < w.heap.size → w'.heap[b]? = w.heap[b]?) : RI w' lo hi v xs := ⟨h.1.kept hk, h.2⟩

theorem RI.chg {S : Nat → Prop} {w w' : World} {lo hi : Nat} {v : Value} {xs : List Int} (h : RI w lo hi v xs) (hk : Chg S w w')
    (hs : ∀ b, lo ≤ b → b < hi → ¬ S b) : RI w' lo hi v xs := ⟨h.1.chg hk hs, h.2⟩

/-- Opened for a walk. -/
theorem RI.open {w : World} {lo hi : Nat} {v : Value} {xs : List Int} (h : RI w lo hi v xs) :
    ∃ (a : Option Addr) (cap b off : Nat), v = .slice a xs.length cap ∧ xs.length ≤ cap ∧ cap ≤ 9223372036854775807 ∧
      (0 < xs.length → a = some ⟨b, off, none⟩) ∧ ∀ k (hk : k < xs.length), w.cell? ⟨b, off + k, none⟩ = some (.int .i64 xs[k]) := by
  obtain ⟨⟨hl, a, cap, b, off, rfl, h1, h2, h3, h4⟩, hw⟩ := h
  refine ⟨a, cap, b, off, rfl, h1, by simpa [maxLen] using h2, fun hn => (h3 hn).1, fun k hk => ?_⟩
  rw [h4 k (by omega)]
  simp [hk]

theorem Reads.take {w : World} {lo hi size : Nat} {a : Option Addr} {n cap m : Nat} {cs : List Value} (h : Reads w lo hi size (.slice a n cap) n cs) (hm : m ≤ n) : Reads w lo hi size (.slice a m cap) m (cs.take (m * size)) := by
  obtain ⟨hl, a', cap', b, off, he, h1, h2, h3, h4⟩ := h
  simp only [Value.slice.injEq] at he
  obtain ⟨rfl, -, rfl⟩ := he
  have hms : m * size ≤ n * size := Nat.mul_le_mul_right _ hm
  refine ⟨by rw [List.length_take, hl]; omega, a, cap, b, off, rfl, by omega, h2, fun hn => h3 (by omega), fun j hj => ?_⟩
  rw [h4 j (by omega), List.getElem?_take, if_pos hj]
theorem RI.take {w : World} {lo hi : Nat} {a : Option Addr} {cap m : Nat} {xs : List Int} (h : RI w lo hi (.slice a xs.length cap) xs) (hm : m ≤ xs.length) : RI w lo hi (.slice a m cap) (xs.take m) := by
  have hl : (xs.take m).length = m := by simp; omega
  refine ⟨?_, fun x hx => h.2 x (List.mem_of_mem_take hx)⟩
  rw [hl, List.map_take]
  have := h.1.take hm
  simpa using this

theorem I64s.at {xs : List Int} (h : I64s xs) (k : Nat) (hk : k < xs.length) : -9223372036854775808 ≤ xs[k] ∧ xs[k] ≤ 9223372036854775807 := h _ (List.getElem_mem hk)

/-- The bytes of a slice of bytes. -/
def RB (w : World) (lo hi : Nat) (v : Value) (xs : List Int) : Prop := Reads w lo hi 1 v xs.length (xs.map (Value.int .u8)) ∧ ∀ x ∈ xs, 0 ≤ x ∧ x ≤ 255
theorem RB.below {w w' : World} {lo hi : Nat} {v : Value} {xs : List Int} (h : RB w lo hi v xs) (hk : Below w.heap.size w w') : RB w' lo hi v xs := ⟨h.1.below hk, h.2⟩
theorem RB.chg {S : Nat → Prop} {w w' : World} {lo hi : Nat} {v : Value} {xs : List Int} (h : RB w lo hi v xs) (hk : Chg S w w')
    (hs : ∀ b, lo ≤ b → b < hi → ¬ S b) : RB w' lo hi v xs := ⟨h.1.chg hk hs, h.2⟩
theorem RB.open {w : World} {lo hi : Nat} {v : Value} {xs : List Int} (h : RB w lo hi v xs) :
    ∃ (a : Option Addr) (cap b off : Nat), v = .slice a xs.length cap ∧ xs.length ≤ cap ∧ cap ≤ 9223372036854775807 ∧
      (0 < xs.length → a = some ⟨b, off, none⟩ ∧ b < hi) ∧ ∀ k (hk : k < xs.length), w.cell? ⟨b, off + k, none⟩ = some (.int .u8 xs[k]) := by
  obtain ⟨⟨hl, a, cap, b, off, rfl, h1, h2, h3, h4⟩, hw⟩ := h
  refine ⟨a, cap, b, off, rfl, h1, by simpa [maxLen] using h2, fun hn => ⟨(h3 hn).1, (h3 hn).2.2⟩, fun k hk => ?_⟩
  rw [h4 k (by omega)]
  simp [hk]

theorem drop_cons {α : Type} (xs : List α) (k : Nat) (hk : k < xs.length) : xs.drop k = xs[k] :: xs.drop (k + 1) := List.drop_eq_getElem_cons hk

end Go.Proofs.Ytpfekeflkmafcaa
