/-
  Texts of this claim, laid together: Lib, Mod, Tbp, Hsn, Open.
-/
import Derived.Test.YtjmofmdcegefgaaRows
import Derived.WalkKit
import Derived.WalkSpells
import Derived.WalkLawsBesides
import Derived.Lib.Hide
import Derived.Deep.RegionHeld3
import Derived.ProofKit
import Derived.OpenShut
import Derived.ShutString
import Derived.ChangeOld
namespace Go.RowKit
theorem Below.drewN {B : Nat} {a w : World} (h : Below B a w) (n : Nat) : Below B a (w.drewN n) := ⟨h.os, h.tape, h.output, h.size, h.block⟩
end Go.RowKit
namespace Go.Proofs.Ytjmofmdcegefgaa
open Go.RowKit

theorem ret_bool {a b : Bool} (h : a = b) : Ending.returned (.bool a) = .returned (.bool b) := by rw [h]
theorem ret_int {k : IntKind} {a b : Int} (h : a = b) : Ending.returned (.int k a) = .returned (.int k b) := by rw [h]

/-- An int of Go's. -/
def I64 (x : Int) : Prop := -9223372036854775808 ≤ x ∧ x ≤ 9223372036854775807
def I64s (xs : List Int) : Prop := ∀ x ∈ xs, I64 x

/-- The slice v of n elements of `size` cells reads as the cells cs; its block lies in lo .. hi-1. -/
def Reads (w : World) (lo hi size : Nat) (v : Value) (n : Nat) (cs : List Value) : Prop :=
  cs.length = n * size ∧ ∃ (a : Option Addr) (cap b off : Nat), v = .slice a n cap ∧ n ≤ cap ∧ cap ≤ maxLen ∧
    (0 < n → a = some ⟨b, off, none⟩ ∧ lo ≤ b ∧ b < hi) ∧ ∀ j, j < n * size → w.cell? ⟨b, off + j, none⟩ = cs[j]?

theorem Reads.kept {w w' : World} {lo hi size : Nat} {v : Value} {n : Nat} {cs : List Value} (h : Reads w lo hi size v n cs)
    (hk : ∀ b, lo ≤ b → b < hi → b < w.heap.size → w'.heap[b]? = w.heap[b]?) : Reads w' lo hi size v n cs := by
  obtain ⟨hl, a, cap, b, off, rfl, h1, h2, h3, h4⟩ := h
  refine ⟨hl, a, cap, b, off, rfl, h1, h2, h3, fun j hj => ?_⟩
  have hn : 0 < n := by rcases Nat.eq_zero_or_pos n with h0 | h0; · simp [h0] at hj
                        · exact h0
  have hc := h4 j hj
  have hs : ∃ u, w.cell? ⟨b, off + j, none⟩ = some u := by rw [hc]; exact ⟨cs[j], by simp [hl, hj]⟩
  obtain ⟨u, hu⟩ := hs
  have hb := World.block_lt_of_cell? w _ hu
  rw [World.cell?_of_block (w := w) (hk b (h3 hn).2.1 (h3 hn).2.2 hb)]
  exact hc

theorem Reads.below {w w' : World} {lo hi size : Nat} {v : Value} {n : Nat} {cs : List Value} (h : Reads w lo hi size v n cs)
    (hk : Below w.heap.size w w') : Reads w' lo hi size v n cs := h.kept fun b _ _ hb => hk.block b hb

theorem Reads.wide {w : World} {lo hi lo' hi' size : Nat} {v : Value} {n : Nat} {cs : List Value} (h : Reads w lo hi size v n cs) (h1 : lo' ≤ lo) (h2 : hi ≤ hi') :
    Reads w lo' hi' size v n cs := by
  obtain ⟨hl, a, cap, b, off, rfl, g1, g2, g3, g4⟩ := h
  exact ⟨hl, a, cap, b, off, rfl, g1, g2, fun hn => ⟨(g3 hn).1, by have := (g3 hn).2.1; omega, by have := (g3 hn).2.2; omega⟩, g4⟩

/-- The top bound shrinks to the heap. -/
theorem Reads.top {w : World} {lo hi size : Nat} {v : Value} {n : Nat} {cs : List Value} (h : Reads w lo hi size v n cs) (hs : 0 < size) :
    Reads w lo w.heap.size size v n cs := by
  obtain ⟨hl, a, cap, b, off, rfl, g1, g2, g3, g4⟩ := h
  refine ⟨hl, a, cap, b, off, rfl, g1, g2, fun hn => ⟨(g3 hn).1, (g3 hn).2.1, ?_⟩, g4⟩
  have h0 : 0 < n * size := Nat.mul_pos hn hs
  exact World.block_lt_of_cell? w ⟨b, off + 0, none⟩ ((g4 0 h0).trans (by simp [hl, h0]; rfl))

/-- What is owned is read. -/
theorem reads_own {w : World} {base : Nat} {e : TypeId} {size : Nat} {v : Value} {n : Nat} {cs : List Value} (h : w.ownsRow base e size v n cs) :
    Reads w base w.heap.size size v n cs := by
  rcases h.2 with ⟨rfl, rfl⟩ | ⟨g, cap, cur, rfl, hb, hg, hn, hm, hs, ht⟩
  · exact ⟨h.1, none, 0, 0, 0, rfl, Nat.le_refl _, by simp [maxLen], fun h => absurd h (by omega), fun j hj => by simp at hj⟩
  · refine ⟨h.1, some ⟨g, 0, none⟩, cap, g, 0, rfl, hn, hm, fun _ => ⟨rfl, hb, (Array.getElem?_eq_some_iff.1 hg).1⟩, fun j hj => ?_⟩
    rw [Nat.zero_add]
    exact h.cellAt j hj

/-- Blocks outside S are as they were; nothing else has turned. -/
structure Chg (S : Nat → Prop) (w w' : World) : Prop where
  os : w'.os = w.os
  tape : w'.tape = w.tape
  output : w'.output = w.output
  size : w.heap.size ≤ w'.heap.size
  block : ∀ k, k < w.heap.size → ¬ S k → w'.heap[k]? = w.heap[k]?

/-- Two calls, one behind the other. -/
theorem bup {B : Nat} {w w1 w2 : World} (h : Below B w w1) (hB : B ≤ w.heap.size) (k : Below w1.heap.size w1 w2) : Below B w w2 := h.trans (k.mono (Nat.le_trans hB h.size))
theorem bdN (w : World) (n : Nat) : Below w.heap.size w (w.drewN n) := ⟨rfl, rfl, rfl, Nat.le_refl _, fun _ _ => rfl⟩
theorem Chg.refl (S : Nat → Prop) (w : World) : Chg S w w := ⟨rfl, rfl, rfl, Nat.le_refl _, fun _ _ _ => rfl⟩
theorem Chg.trans {S : Nat → Prop} {a b c : World} (h : Chg S a b) (k : Chg S b c) : Chg S a c :=
  ⟨k.os.trans h.os, k.tape.trans h.tape, k.output.trans h.output, Nat.le_trans h.size k.size, fun i hi hs => (k.block i (Nat.lt_of_lt_of_le hi h.size) hs).trans (h.block i hi hs)⟩
theorem Chg.mono {S T : Nat → Prop} {w w' : World} (h : Chg S w w') (hst : ∀ k, k < w.heap.size → S k → T k) : Chg T w w' :=
  ⟨h.os, h.tape, h.output, h.size, fun k hk hs => h.block k hk fun hS => hs (hst k hk hS)⟩
theorem below_chg {w w' : World} (h : Below w.heap.size w w') (S : Nat → Prop) : Chg S w w' := ⟨h.os, h.tape, h.output, h.size, fun k hk _ => h.block k hk⟩
theorem Chg.below {S : Nat → Prop} {B : Nat} {w w' : World} (h : Chg S w w') (hB : B ≤ w.heap.size) (hS : ∀ k, k < B → ¬ S k) : Below B w w' :=
  ⟨h.os, h.tape, h.output, h.size, fun k hk => h.block k (by omega) (hS k hk)⟩
/-- Behind it only what is new has turned. -/
theorem Chg.own {S : Nat → Prop} {a b c : World} (h : Chg S a b) (k : Chg (fun i => a.heap.size ≤ i) b c) : Chg S a c :=
  ⟨k.os.trans h.os, k.tape.trans h.tape, k.output.trans h.output, Nat.le_trans h.size k.size, fun i hi hs => (k.block i (Nat.lt_of_lt_of_le hi h.size) (by omega)).trans (h.block i hi hs)⟩
theorem below_own {B : Nat} {a b c : World} (h : Below B a b) (hB : B ≤ b.heap.size) (k : Chg (fun i => B ≤ i) b c) : Below B a c :=
  h.trans (k.below hB fun i hi h => by omega)
theorem Chg.drew {S : Nat → Prop} {a w : World} (h : Chg S a w) : Chg S a w.drew := ⟨h.os, h.tape, h.output, h.size, h.block⟩
theorem Chg.drewN {S : Nat → Prop} {a w : World} (h : Chg S a w) (n : Nat) : Chg S a (w.drewN n) := ⟨h.os, h.tape, h.output, h.size, h.block⟩
theorem Chg.alloc {S : Nat → Prop} {a w : World} (h : Chg S a w) (o : Obj) : Chg S a (w.alloc o) :=
  h.trans ⟨rfl, rfl, rfl, by simp, fun k hk _ => Below.heap_alloc _ _ _ hk⟩
theorem Chg.setCell {S : Nat → Prop} {a w : World} (h : Chg S a w) {p : Addr} (hp : a.heap.size ≤ p.block ∨ S p.block) (u : Value) : Chg S a (w.setCell p u) :=
  ⟨h.os, h.tape, h.output, by have := h.size; simpa [World.setCell] using this, fun k hk hs => by
    rw [Below.heap_setCell _ _ _ _ (by rintro rfl; rcases hp with hp | hp; omega; exact hs hp)]; exact h.block k hk hs⟩
theorem Chg.grown {S : Nat → Prop} {a w w' : World} {row : Option Nat} (h : Chg S a w) (hg : w.grownBy w' row) (hr : ∀ k, row = some k → a.heap.size ≤ k ∨ S k) : Chg S a w' :=
  ⟨hg.os.trans h.os, hg.tape.trans h.tape, hg.output.trans h.output, Nat.le_trans h.size hg.size, fun k hk hs =>
    (hg.block k (Nat.lt_of_lt_of_le hk h.size) (fun e => by rcases hr k e.symm with h1 | h1; omega; exact hs h1)).trans (h.block k hk hs)⟩
theorem Chg.cell {S : Nat → Prop} {w w' : World} (h : Chg S w w') {p : Addr} (hp : p.block < w.heap.size) (hs : ¬ S p.block) : w'.cell? p = w.cell? p := World.cell?_of_block (w := w) (h.block p.block hp hs)
theorem Chg.frozen {S : Nat → Prop} {w w' : World} (h : Chg S w w') {p : Addr} (hp : p.block < w.heap.size) (hs : ¬ S p.block) : w'.frozen? p = w.frozen? p := World.frozen?_of_block (w := w) (h.block p.block hp hs)

/-- A cell of a literal that was laid ahead of a call. -/
theorem lit_cell {S : Nat → Prop} {w w2 : World} {cs : Array Value} {t : TypeId} (h : Chg S (w.alloc (.cells cs t)) w2) (hs : ¬ S w.heap.size) {j : Nat} {u : Value} (hj : cs[j]? = some u) : w2.cell? ⟨w.heap.size, j, none⟩ = some u := by
  rw [h.cell (p := ⟨w.heap.size, j, none⟩) (by simp) hs]
  simp only [World.cell?, heap_alloc_new]
  simpa using hj

theorem lit_cell2 {S : Nat → Prop} {w w2 : World} {cs : Array Value} {t : TypeId} {o : Obj} (h : Chg S ((w.alloc (.cells cs t)).alloc o) w2) (hs : ¬ S w.heap.size) {j : Nat} {u : Value} (hj : cs[j]? = some u) : w2.cell? ⟨w.heap.size, j, none⟩ = some u := by
  rw [h.cell (p := ⟨w.heap.size, j, none⟩) (by simp; omega) hs]
  have e : ((w.alloc (.cells cs t)).alloc o).heap[w.heap.size]? = some (.cells cs t) := by
    rw [Below.heap_alloc _ _ _ (by simp), heap_alloc_new]
  simp only [World.cell?, e]
  simpa using hj

theorem Reads.chg {S : Nat → Prop} {w w' : World} {lo hi size : Nat} {v : Value} {n : Nat} {cs : List Value} (h : Reads w lo hi size v n cs) (hk : Chg S w w')
    (hs : ∀ b, lo ≤ b → b < hi → ¬ S b) : Reads w' lo hi size v n cs := h.kept fun b h1 h2 hb => hk.block b hb (hs b h1 h2)
theorem own_chg {S : Nat → Prop} {w w' : World} {base : Nat} {e : TypeId} {size : Nat} {v : Value} {n : Nat} {cs : List Value} (h : w.ownsRow base e size v n cs) (hk : Chg S w w')
    (hs : ∀ b, base ≤ b → v.ownBlock = some b → ¬ S b) : w'.ownsRow base e size v n cs := by
  refine ⟨h.1, ?_⟩
  rcases h.2 with h2 | ⟨g, cap, cur, rfl, hb, hg, r⟩
  · exact .inl h2
  · refine .inr ⟨g, cap, cur, rfl, hb, ?_, r⟩
    rw [hk.block g (Array.getElem?_eq_some_iff.1 hg).1 (hs g hb rfl)]
    exact hg

theorem own_wide {w : World} {base base' : Nat} {e : TypeId} {size : Nat} {v : Value} {n : Nat} {cs : List Value} (h : w.ownsRow base e size v n cs) (hb : base' ≤ base) : w.ownsRow base' e size v n cs := by
  refine ⟨h.1, ?_⟩
  rcases h.2 with h2 | ⟨g, cap, cur, hv, hg, r⟩
  · exact .inl h2
  · exact .inr ⟨g, cap, cur, hv, by omega, r⟩

/-- What is owned and not nil lies at the head of a block. -/
theorem own_shape {w : World} {base : Nat} {e : TypeId} {size : Nat} {v : Value} {n : Nat} {cs : List Value} (h : w.ownsRow base e size v n cs) (hv : v ≠ .slice none 0 0) :
    ∃ g cap, v = .slice (some ⟨g, 0, none⟩) n cap ∧ base ≤ g ∧ g < w.heap.size ∧ n ≤ cap := by
  rcases h.2 with ⟨rfl, _⟩ | ⟨g, cap, cur, rfl, hb, hg, hn, _⟩
  · exact absurd rfl hv
  · exact ⟨g, cap, rfl, hb, (Array.getElem?_eq_some_iff.1 hg).1, hn⟩

/-- The numbers of a slice of ints. -/
def RI (w : World) (lo hi : Nat) (v : Value) (xs : List Int) : Prop := Reads w lo hi 1 v xs.length (xs.map (Value.int .i64)) ∧ I64s xs

theorem RI.below {w w' : World} {lo hi : Nat} {v : Value} {xs : List Int} (h : RI w lo hi v xs) (hk : Below w.heap.size w w') : RI w' lo hi v xs := ⟨h.1.below hk, h.2⟩
theorem RI.wide {w : World} {lo hi lo' hi' : Nat} {v : Value} {xs : List Int} (h : RI w lo hi v xs) (h1 : lo' ≤ lo) (h2 : hi ≤ hi') : RI w lo' hi' v xs := ⟨h.1.wide h1 h2, h.2⟩
theorem RI.kept {w w' : World} {lo hi : Nat} {v : Value} {xs : List Int} (h : RI w lo hi v xs)
    (hk : ∀ b, lo ≤ b → b < hi → b < w.heap.size → w'.heap[b]? = w.heap[b]?) : RI w' lo hi v xs := ⟨h.1.kept hk, h.2⟩

theorem RI.chg {S : Nat → Prop} {w w' : World} {lo hi : Nat} {v : Value} {xs : List Int} (h : RI w lo hi v xs) (hk : Chg S w w')
    (hs : ∀ b, lo ≤ b → b < hi → ¬ S b) : RI w' lo hi v xs := ⟨h.1.chg hk hs, h.2⟩

/-- Opened for a walk. -/
theorem RI.open {w : World} {lo hi : Nat} {v : Value} {xs : List Int} (h : RI w lo hi v xs) :
    ∃ (a : Option Addr) (cap b off : Nat), v = .slice a xs.length cap ∧ xs.length ≤ cap ∧ cap ≤ 9223372036854775807 ∧
      (0 < xs.length → a = some ⟨b, off, none⟩) ∧ ∀ k (hk : k < xs.length), w.cell? ⟨b, off + k, none⟩ = some (.int .i64 xs[k]) := by
  obtain ⟨⟨hl, a, cap, b, off, rfl, h1, h2, h3, h4⟩, hw⟩ := h
  refine ⟨a, cap, b, off, rfl, h1, by simpa [maxLen] using h2, fun hn => (h3 hn).1, fun k hk => ?_⟩
  rw [h4 k (by omega)]
  simp [hk]

theorem Reads.take {w : World} {lo hi size : Nat} {a : Option Addr} {n cap m : Nat} {cs : List Value} (h : Reads w lo hi size (.slice a n cap) n cs) (hm : m ≤ n) : Reads w lo hi size (.slice a m cap) m (cs.take (m * size)) := by
  obtain ⟨hl, a', cap', b, off, he, h1, h2, h3, h4⟩ := h
  simp only [Value.slice.injEq] at he
  obtain ⟨rfl, -, rfl⟩ := he
  have hms : m * size ≤ n * size := Nat.mul_le_mul_right _ hm
  refine ⟨by rw [List.length_take, hl]; omega, a, cap, b, off, rfl, by omega, h2, fun hn => h3 (by omega), fun j hj => ?_⟩
  rw [h4 j (by omega), List.getElem?_take, if_pos hj]
theorem RI.take {w : World} {lo hi : Nat} {a : Option Addr} {cap m : Nat} {xs : List Int} (h : RI w lo hi (.slice a xs.length cap) xs) (hm : m ≤ xs.length) : RI w lo hi (.slice a m cap) (xs.take m) := by
  have hl : (xs.take m).length = m := by simp; omega
  refine ⟨?_, fun x hx => h.2 x (List.mem_of_mem_take hx)⟩
  rw [hl, List.map_take]
  have := h.1.take hm
  simpa using this

theorem I64s.at {xs : List Int} (h : I64s xs) (k : Nat) (hk : k < xs.length) : -9223372036854775808 ≤ xs[k] ∧ xs[k] ≤ 9223372036854775807 := h _ (List.getElem_mem hk)

/-- The bytes of a slice of bytes. -/
def RB (w : World) (lo hi : Nat) (v : Value) (xs : List Int) : Prop := Reads w lo hi 1 v xs.length (xs.map (Value.int .u8)) ∧ ∀ x ∈ xs, 0 ≤ x ∧ x ≤ 255
theorem RB.below {w w' : World} {lo hi : Nat} {v : Value} {xs : List Int} (h : RB w lo hi v xs) (hk : Below w.heap.size w w') : RB w' lo hi v xs := ⟨h.1.below hk, h.2⟩
theorem RB.chg {S : Nat → Prop} {w w' : World} {lo hi : Nat} {v : Value} {xs : List Int} (h : RB w lo hi v xs) (hk : Chg S w w')
    (hs : ∀ b, lo ≤ b → b < hi → ¬ S b) : RB w' lo hi v xs := ⟨h.1.chg hk hs, h.2⟩
theorem RB.open {w : World} {lo hi : Nat} {v : Value} {xs : List Int} (h : RB w lo hi v xs) :
    ∃ (a : Option Addr) (cap b off : Nat), v = .slice a xs.length cap ∧ xs.length ≤ cap ∧ cap ≤ 9223372036854775807 ∧
      (0 < xs.length → a = some ⟨b, off, none⟩ ∧ b < hi) ∧ ∀ k (hk : k < xs.length), w.cell? ⟨b, off + k, none⟩ = some (.int .u8 xs[k]) := by
  obtain ⟨⟨hl, a, cap, b, off, rfl, h1, h2, h3, h4⟩, hw⟩ := h
  refine ⟨a, cap, b, off, rfl, h1, by simpa [maxLen] using h2, fun hn => ⟨(h3 hn).1, (h3 hn).2.2⟩, fun k hk => ?_⟩
  rw [h4 k (by omega)]
  simp [hk]

theorem drop_cons {α : Type} (xs : List α) (k : Nat) (hk : k < xs.length) : xs.drop k = xs[k] :: xs.drop (k + 1) := List.drop_eq_getElem_cons hk

end Go.Proofs.Ytjmofmdcegefgaa

namespace Go.Proofs.Ytjmofmdcegefgaa
open Go.RowKit

/-- n lies in lo .. hi. -/
def inB (n lo hi : Int) : Bool := decide (lo ≤ n) && decide (n ≤ hi)
theorem inB_yes {n lo hi : Int} (h1 : lo ≤ n) (h2 : n ≤ hi) : inB n lo hi = true := by simp [inB, h1, h2]
theorem inB_no {n lo hi : Int} (h : n < lo ∨ hi < n) : inB n lo hi = false := by
  simp only [inB, Bool.and_eq_false_iff, decide_eq_false_iff_not]; omega
theorem inB_iff {n lo hi : Int} : inB n lo hi = true ↔ lo ≤ n ∧ n ≤ hi := by simp [inB]

def vscore (u a : Int) : Int := if 0 ≤ u ∧ u ≤ 4 ∧ 0 ≤ a ∧ a ≤ 1000000 then a * (4 - u) / (u + 1) else -1

/-- A small letter. -/
def letter (c : UInt8) : Bool := decide (97 ≤ c.toNat) && decide (c.toNat ≤ 122)
def txt (l : List UInt8) : Bool := decide (1 ≤ l.length) && decide (l.length ≤ 8) && l.all letter
def hashF (h : Int) (c : UInt8) : Int := (31 * h + c.toNat) % 1009
def bucket (l : List UInt8) : Int := if txt l = true then l.foldl hashF 7 % 3 else -1

def small (v : Int) : Bool := decide (0 ≤ v) && decide (v ≤ 15)
def fits (xs : List Int) : Bool := decide (xs.length ≤ 4) && xs.all small
def packF (n v : Int) : Int := 16 * n + v
def pack (xs : List Int) : Int := if fits xs = true then xs.foldl packF xs.length else -1

theorem foldl_drop {α β : Type} (f : β → α → β) (b : β) (xs : List α) (k : Nat) (hk : k < xs.length) : (xs.drop k).foldl f b = (xs.drop (k + 1)).foldl f (f b xs[k]) := by
  rw [drop_cons xs k hk]; rfl
theorem all_drop {α : Type} (p : α → Bool) (xs : List α) (k : Nat) (hk : k < xs.length) : (xs.drop k).all p = (p xs[k] && (xs.drop (k + 1)).all p) := by
  rw [drop_cons xs k hk]; rfl
theorem all_end {α : Type} (p : α → Bool) (xs : List α) (k : Nat) (hk : ¬ k < xs.length) : (xs.drop k).all p = true := by
  rw [List.drop_of_length_le (by omega)]; rfl
theorem foldl_end {α β : Type} (f : β → α → β) (b : β) (xs : List α) (k : Nat) (hk : ¬ k < xs.length) : (xs.drop k).foldl f b = b := by
  rw [List.drop_of_length_le (by omega)]; rfl

end Go.Proofs.Ytjmofmdcegefgaa

namespace Go.Proofs.Ytjmofmdcegefgaa
open Go.RowKit

/-- Pages in a row: each in its bounds, none but -1 twice. -/
def okP (l : List Int) : Bool := l.all (fun x => inB x (-1) 47) && decide (l.Pairwise fun x y => ¬ (0 ≤ x ∧ x = y))
theorem okP_iff {l : List Int} : okP l = true ↔ (∀ x ∈ l, -1 ≤ x ∧ x ≤ 47) ∧ l.Pairwise fun x y => ¬ (0 ≤ x ∧ x = y) := by
  simp only [okP, Bool.and_eq_true, List.all_eq_true, inB_iff, decide_eq_true_eq]
theorem okP_sub {l l' : List Int} (h : okP l = true) (hs : l'.Sublist l) : okP l' = true := by
  have h := okP_iff.1 h
  exact okP_iff.2 ⟨fun x hx => h.1 x (hs.subset hx), h.2.sublist hs⟩
theorem okP_nil : okP [] = true := by decide
theorem okP_snoc {l : List Int} {x : Int} : okP (l ++ [x]) = true ↔ okP l = true ∧ (-1 ≤ x ∧ x ≤ 47) ∧ ¬ (0 ≤ x ∧ x ∈ l) := by
  rw [okP_iff, okP_iff, List.pairwise_append]
  simp only [List.mem_append, List.mem_singleton, List.pairwise_singleton, true_and]
  constructor
  · rintro ⟨h1, h2, h3⟩
    refine ⟨⟨fun y hy => h1 y (.inl hy), h2⟩, h1 x (.inr rfl), fun ⟨h, hm⟩ => h3 x hm x rfl ⟨h, rfl⟩⟩
  · rintro ⟨⟨h1, h2⟩, h3, h4⟩
    refine ⟨fun y hy => ?_, h2, fun a ha b hb ⟨h, e⟩ => ?_⟩
    · rcases hy with hy | rfl
      · exact h1 y hy
      · exact h3
    · subst hb; subst e; exact h4 ⟨h, ha⟩
theorem okP_pre {l l' : List Int} (h : okP (l ++ l') = true) : okP l = true := okP_sub h (List.sublist_append_left _ _)
theorem okP_no {l l' : List Int} (h : okP l = false) : okP (l ++ l') = false := by
  cases hv : okP (l ++ l') with
  | false => rfl
  | true => rw [okP_pre hv] at h; exact h

/-- Valid tables. -/
def tabVal (t : List (List Int)) : Bool := decide (t.length = 8) && t.all (fun l => decide (l.length = 6)) && okP t.flatten
theorem tabVal_iff {t : List (List Int)} : tabVal t = true ↔ t.length = 8 ∧ (∀ l ∈ t, l.length = 6) ∧ okP t.flatten = true := by
  simp only [tabVal, Bool.and_eq_true, List.all_eq_true, decide_eq_true_eq, and_assoc]
theorem tab_len {t : List (List Int)} (h : tabVal t = true) : t.length = 8 := (tabVal_iff.1 h).1
theorem tab_row {t : List (List Int)} (h : tabVal t = true) {f : Nat} (hf : f < t.length) : t[f].length = 6 := (tabVal_iff.1 h).2.1 _ (List.getElem_mem hf)
theorem tab_at {t : List (List Int)} (h : tabVal t = true) {f p : Nat} (hf : f < t.length) (hp : p < t[f].length) : -1 ≤ t[f][p] ∧ t[f][p] ≤ 47 :=
  (okP_iff.1 (tabVal_iff.1 h).2.2).1 _ (List.mem_flatten.2 ⟨t[f], List.getElem_mem hf, List.getElem_mem hp⟩)

/-- The pages ahead of file f, place p. -/
def pre (t : List (List Int)) (f p : Nat) : List Int := (t.take f).flatten ++ (t.getD f []).take p
theorem getD_at {t : List (List Int)} {f : Nat} (hf : f < t.length) : t.getD f [] = t[f] := by simp [hf]
theorem pre_zero (t : List (List Int)) (f : Nat) : pre t f 0 = (t.take f).flatten := by simp [pre]
theorem pre_succ {t : List (List Int)} {f p : Nat} (hf : f < t.length) (hp : p < t[f].length) : pre t f (p + 1) = pre t f p ++ [t[f][p]] := by
  unfold pre
  rw [getD_at hf, List.take_succ_eq_append_getElem hp, List.append_assoc]
theorem pre_row {t : List (List Int)} {f : Nat} (hf : f < t.length) (p : Nat) (hp : t[f].length ≤ p) : pre t f p = (t.take (f + 1)).flatten := by
  unfold pre
  rw [getD_at hf, List.take_succ_eq_append_getElem hf, List.flatten_append, List.take_of_length_le hp]
  simp
theorem pre_flat (t : List (List Int)) {f p : Nat} (hf : f < t.length) : ∃ r, t.flatten = pre t f p ++ r := by
  refine ⟨t[f].drop p ++ (t.drop (f + 1)).flatten, ?_⟩
  unfold pre
  have e : t = t.take f ++ (t[f] :: t.drop (f + 1)) := by
    rw [← List.drop_eq_getElem_cons hf, List.take_append_drop]
  rw [getD_at hf]
  conv => lhs; rw [e]
  rw [List.flatten_append, List.flatten_cons]
  simp only [List.append_assoc]
  rw [← List.append_assoc (t[f].take p), List.take_append_drop]
theorem take_flat (t : List (List Int)) (f : Nat) : ∃ r, t.flatten = (t.take f).flatten ++ r := ⟨(t.drop f).flatten, by rw [← List.flatten_append, List.take_append_drop]⟩
theorem tab_no_row {t : List (List Int)} {f : Nat} (hf : f < t.length) (h : t[f].length ≠ 6) : tabVal t = false := by
  cases hv : tabVal t with
  | false => rfl
  | true => exact absurd (tab_row hv hf) h
theorem tab_no_at {t : List (List Int)} {f p : Nat} (hf : f < t.length) (h : okP (pre t f p) = false) : tabVal t = false := by
  cases hv : tabVal t with
  | false => rfl
  | true =>
    obtain ⟨r, hr⟩ := pre_flat t (p := p) hf
    have := (tabVal_iff.1 hv).2.2
    rw [hr, okP_no h] at this
    exact absurd this (by decide)
theorem tab_no_len {t : List (List Int)} (h : t.length ≠ 8) : tabVal t = false := by
  cases hv : tabVal t with
  | false => rfl
  | true => exact absurd (tab_len hv) h
theorem tab_yes {t : List (List Int)} (h : t.length = 8) (h2 : ∀ f (hf : f < t.length), t[f].length = 6) (h3 : okP ((t.take 8).flatten) = true) : tabVal t = true := by
  rw [List.take_of_length_le (by omega)] at h3
  refine tabVal_iff.2 ⟨h, fun l hl => ?_, h3⟩
  obtain ⟨f, hf, rfl⟩ := List.getElem_of_mem hl
  exact h2 f hf

/-- Lists of six, one behind the other. -/
theorem flat_len {t : List (List Int)} (h : ∀ l ∈ t, l.length = 6) : t.flatten.length = t.length * 6 := by
  induction t with
  | nil => rfl
  | cons a t ih =>
    rw [List.flatten_cons, List.length_append, h a (by simp), ih fun l hl => h l (by simp [hl]), List.length_cons]; omega
theorem flat_get {t : List (List Int)} (h : ∀ l ∈ t, l.length = 6) {f p : Nat} (hf : f < t.length) (hp : p < t[f].length) : t.flatten[f * 6 + p]? = some t[f][p] := by
  induction t generalizing f with
  | nil => simp at hf
  | cons a t ih =>
    have ha := h a (by simp)
    cases f with
    | zero =>
      simp only [List.getElem_cons_zero] at hp
      rw [List.flatten_cons, Nat.zero_mul, Nat.zero_add, List.getElem?_append_left hp]
      simp [hp]
    | succ f =>
      simp only [List.getElem_cons_succ] at hp ⊢
      rw [List.flatten_cons, List.getElem?_append_right (by omega), show (f + 1) * 6 + p - a.length = f * 6 + p by omega]
      exact ih (fun l hl => h l (by simp [hl])) (by simpa using hf) hp
theorem flat_set {t : List (List Int)} (h : ∀ l ∈ t, l.length = 6) {f p : Nat} (hf : f < t.length) (hp : p < t[f].length) (x : Int) : (t.set f (t[f].set p x)).flatten = t.flatten.set (f * 6 + p) x := by
  induction t generalizing f with
  | nil => simp at hf
  | cons a t ih =>
    have ha := h a (by simp)
    cases f with
    | zero =>
      simp only [List.getElem_cons_zero] at hp ⊢
      rw [List.set_cons_zero, List.flatten_cons, List.flatten_cons, Nat.zero_mul, Nat.zero_add, List.set_append_left _ _ hp]
    | succ f =>
      simp only [List.getElem_cons_succ] at hp ⊢
      rw [List.set_cons_succ, List.flatten_cons, List.flatten_cons, List.set_append_right _ _ (by omega), show (f + 1) * 6 + p - a.length = f * 6 + p by omega, ih (fun l hl => h l (by simp [hl])) (by simpa using hf) hp]

/-- In its bounds. -/
def inFP (f p : Int) : Bool := inB f 0 7 && inB p 0 5
def tset (t : List (List Int)) (f p : Nat) (x : Int) : List (List Int) := t.set f ((t.getD f []).set p x)
def tat (t : List (List Int)) (f p : Nat) : Int := (t.getD f []).getD p 0
def tget (t : List (List Int)) (f p : Int) : Int := if tabVal t = true ∧ inFP f p = true then tat t f.toNat p.toNat else -1
/-- The page stands at another place. -/
def elsewhere (t : List (List Int)) (f p : Nat) (x : Int) : Bool := decide (0 ≤ x) && (List.range 48).any fun i => decide (i ≠ f * 6 + p) && (t.flatten.getD i (-1) == x)
def tput (t : List (List Int)) (f p x : Int) : List (List Int) × Bool :=
  if tabVal t = true ∧ inFP f p = true ∧ inB x (-1) 47 = true then (if tabVal (tset t f.toNat p.toNat x) = true then (tset t f.toNat p.toNat x, true) else (t, false)) else ([], false)

theorem tat_eq {t : List (List Int)} {f p : Nat} (hf : f < t.length) (hp : p < t[f].length) : tat t f p = t[f][p] := by
  rw [tat, getD_at hf]; simp [hp]
theorem tset_eq {t : List (List Int)} {f p : Nat} (hf : f < t.length) (x : Int) : tset t f p x = t.set f (t[f].set p x) := by
  rw [tset, getD_at hf]
theorem tset_rows {t : List (List Int)} {f p : Nat} (h : ∀ l ∈ t, l.length = 6) (x : Int) : ∀ l ∈ tset t f p x, l.length = 6 := by
  intro l hl
  unfold tset at hl
  by_cases hf : f < t.length
  · rcases List.mem_or_eq_of_mem_set hl with h1 | rfl
    · exact h l h1
    · rw [getD_at hf, List.length_set]; exact h _ (List.getElem_mem hf)
  · rw [List.set_eq_of_length_le (by omega)] at hl
    exact h l hl
theorem tset_len (t : List (List Int)) (f p : Nat) (x : Int) : (tset t f p x).length = t.length := by simp [tset]

/-- A put table is valid: the page is nowhere else. -/
theorem tput_val {t : List (List Int)} (h : tabVal t = true) {f p : Nat} (hf : f < 8) (hp : p < 6) {x : Int} (hx : -1 ≤ x ∧ x ≤ 47) : tabVal (tset t f p x) = !elsewhere t f p x := by
  have h' := tabVal_iff.1 h
  have hf' : f < t.length := by omega
  have hp' : p < t[f].length := by rw [tab_row h hf']; exact hp
  have hfl : t.flatten.length = 48 := by rw [flat_len h'.2.1]; omega
  have hok := okP_iff.1 h'.2.2
  have hi : f * 6 + p < t.flatten.length := by omega
  have key : okP (t.flatten.set (f * 6 + p) x) = !elsewhere t f p x := by
    rw [Bool.eq_iff_iff, okP_iff, List.pairwise_iff_getElem]
    simp only [elsewhere, Bool.not_eq_true', Bool.and_eq_false_iff, decide_eq_false_iff_not, List.any_eq_false, List.mem_range, Bool.and_eq_true, decide_eq_true_eq, beq_iff_eq, not_and]
    constructor
    · rintro ⟨-, h2⟩
      by_cases h0 : 0 ≤ x
      · right
        intro i hi48 hne he
        have hil : i < t.flatten.length := by omega
        have e : t.flatten.getD i (-1) = t.flatten[i] := by rw [List.getD_eq_getElem?_getD, List.getElem?_eq_getElem hil]; rfl
        rw [e] at he
        rcases Nat.lt_or_gt_of_ne hne with hlt | hlt
        · have := h2 i (f * 6 + p) (by simpa using hil) (by simpa using hi) hlt
          rw [List.getElem_set_ne (by omega), List.getElem_set_self] at this
          exact this (by omega) he
        · have := h2 (f * 6 + p) i (by simpa using hi) (by simpa using hil) hlt
          rw [List.getElem_set_self, List.getElem_set_ne (by omega)] at this
          exact this h0 he.symm
      · left; exact h0
    · intro h2
      refine ⟨fun y hy => ?_, fun i j hi' hj' hij => ?_⟩
      · rcases List.mem_or_eq_of_mem_set hy with h1 | rfl
        · exact hok.1 y h1
        · exact hx
      · intro h0 he
        simp only [List.length_set] at hi' hj'
        by_cases e1 : i = f * 6 + p
        · subst e1
          rw [List.getElem_set_self] at h0 he
          rw [List.getElem_set_ne (by omega)] at he
          rcases h2 with h2 | h2
          · exact h2 h0
          · exact h2 j (by omega) (by omega) (by rw [List.getD_eq_getElem?_getD, List.getElem?_eq_getElem hj']; exact he.symm)
        · by_cases e2 : j = f * 6 + p
          · subst e2
            rw [List.getElem_set_ne (by omega)] at h0 he
            rw [List.getElem_set_self] at he
            rcases h2 with h2 | h2
            · exact h2 (by omega)
            · exact h2 i (by omega) e1 (by rw [List.getD_eq_getElem?_getD, List.getElem?_eq_getElem hi']; exact he)
          · rw [List.getElem_set_ne (by omega)] at h0 he
            rw [List.getElem_set_ne (by omega)] at he
            exact List.pairwise_iff_getElem.1 hok.2 i j hi' hj' hij ⟨h0, he⟩
  rw [← key]
  rw [Bool.eq_iff_iff, tabVal_iff, tset_eq hf', flat_set h'.2.1 hf' hp']
  constructor
  · intro h; exact h.2.2
  · intro h3
    refine ⟨by simpa using h'.1, ?_, h3⟩
    have := tset_rows (f := f) (p := p) h'.2.1 x
    rwa [tset_eq hf'] at this

/-- The size of a file: one more than the last place with a page. -/
def rszR : List Int → Nat
  | [] => 0
  | x :: r => if 0 ≤ x then r.length + 1 else rszR r
def rsz (l : List Int) : Nat := rszR l.reverse
theorem rsz_snoc (l : List Int) (x : Int) : rsz (l ++ [x]) = if 0 ≤ x then l.length + 1 else rsz l := by simp [rsz, rszR]
theorem rsz_nil : rsz [] = 0 := rfl
theorem rsz_take {l : List Int} {k : Nat} (hk : k < l.length) : rsz (l.take (k + 1)) = if 0 ≤ l[k] then k + 1 else rsz (l.take k) := by
  rw [List.take_succ_eq_append_getElem hk, rsz_snoc]
  simp only [List.length_take]
  rw [Nat.min_eq_left (by omega)]
theorem rsz_le (l : List Int) : rsz l ≤ l.length := by
  have : ∀ r : List Int, rszR r ≤ r.length := by
    intro r
    induction r with
    | nil => simp [rszR]
    | cons x r ih => unfold rszR; split <;> simp <;> omega
  have := this l.reverse
  simpa [rsz] using this
def fsz (t : List (List Int)) (f : Int) : Int := if tabVal t = true ∧ inB f 0 7 = true then rsz (t.getD f.toNat []) else -1
def holes (t : List (List Int)) (f : Int) : List Int := if tabVal t = true ∧ inB f 0 7 = true then ((List.range (rsz (t.getD f.toNat []))).filter fun k => decide (tat t f.toNat k < 0)).map fun k : Nat => (k : Int) else []
def rcut (l : List Int) (p : Nat) : List Int := l.take p ++ List.replicate (l.length - p) (-1)
def tcut (t : List (List Int)) (f p : Int) : List (List Int) := if tabVal t = true ∧ inB f 0 7 = true ∧ inB p 0 6 = true then t.set f.toNat (rcut (t.getD f.toNat []) p.toNat) else []
/-- At how many places two tables differ. -/
def tdif (a b : List Int) : Nat := (a.zip b).countP fun q => !(q.1 == q.2)
def tchg (a b : List (List Int)) : Int := if tabVal a = true ∧ tabVal b = true then tdif a.flatten b.flatten else -1
theorem tdif_snoc {a b : List Int} (h : a.length = b.length) (x y : Int) : tdif (a ++ [x]) (b ++ [y]) = tdif a b + if x = y then 0 else 1 := by
  unfold tdif
  rw [List.zip_append h]
  simp [List.countP_append, List.countP_cons]

end Go.Proofs.Ytjmofmdcegefgaa

namespace Go.Proofs.Ytjmofmdcegefgaa
open Go.RowKit

section
variable {P : Program} {ops : Array Oper} {Q : Exit → Act → World → Prop} {S : World → Prop}

theorem region_held_n (n : Nat) {id : Nat} {a : Act} {w : World} (hn : ops.size = n) (hm : P.follows .mixedOrders = true) (hS : S w.drew)
    (h : S w.drew → wpAnyH P .any ops Q S n (Array.replicate n false) a w.drew) : (Code.region id ops true).wp P Q a w := by
  subst hn
  exact wp_region_held_drew hm hS h

/-- It yields v, wherever S holds. -/
theorem hs_take (i : Nat) (dst : Option Tmp) (v : Value) {oi : Oper} {fuel : Nat} {listed : Array Bool} {a : Act} {w : World} (hi : ops[i]? = some oi) (hd : oi.dst = dst)
    (hs : Region.noSelect ops = true) (hf : Region.free .any ops listed i = true) (hr : (Region.ready .any ops listed).contains i = true)
    (hQ : ∀ c a w, Q (.panic c) (a.put dst v) w → Q (.panic c) a w) (hw : Region.wanted oi (yielded ops a.tmps) = true) (hy : ∀ w, S w → (execOp a.eval oi).run P w = .ok (.value v) w) (hS : S w)
    (h : wpAnyH P .any ops Q S fuel (listed.setIfInBounds i true) (a.put dst v) w) : wpAnyH P .any ops Q S (fuel + 1) listed a w := by
  subst hd
  exact wpAnyH_take hi hs hf hr hQ (.inl ⟨hw, hy⟩) hS h

/-- Its guard passes over it. -/
theorem hs_skip (i : Nat) (dst : Option Tmp) {oi : Oper} {fuel : Nat} {listed : Array Bool} {a : Act} {w : World} (hi : ops[i]? = some oi) (hd : oi.dst = dst)
    (hs : Region.noSelect ops = true) (hf : Region.free .any ops listed i = true) (hr : (Region.ready .any ops listed).contains i = true)
    (hQ : ∀ c a w, Q (.panic c) (a.put dst undef) w → Q (.panic c) a w) (hw : Region.wanted oi (yielded ops a.tmps) = false) (hS : S w)
    (h : wpAnyH P .any ops Q S fuel (listed.setIfInBounds i true) (a.put dst undef) w) : wpAnyH P .any ops Q S (fuel + 1) listed a w := by
  subst hd
  exact wpAnyH_take hi hs hf hr hQ (.inr ⟨hw, rfl⟩) hS h
end

end Go.Proofs.Ytjmofmdcegefgaa

namespace Go.Proofs.Ytjmofmdcegefgaa
open Go.ChangeShapes Go.WideShapes Go.ChangeAt Go.RowKit

theorem own : ownKnob Try.prog.godebug = none := by kernel_rfl
theorem laidOut : laidOutB Try.prog = true := by kernel_rfl

/-- Cells at a.add i, the first n of them numbers: what is read. -/
theorem reads_of_cells {w : World} {k : IntKind} {x : Addr} {len cap : Nat} {zs : List Int} (hl : len ≤ cap) (hm : cap ≤ maxLen) (hz : zs.length = cap)
    (hcell : ∀ i, i < zs.length → w.cell? (x.add i) = some (.int k (zs.getD i 0))) :
    Reads w 0 w.heap.size 1 (.slice (some x) len cap) (zs.take len).length ((zs.take len).map (Value.int k)) := by
  have hlen : (zs.take len).length = len := by rw [List.length_take]; omega
  obtain ⟨b, off, spot⟩ := x
  refine ⟨by simp, some ⟨b, off, spot⟩, cap, b, off, by rw [hlen], by omega, hm, fun hn => ?_, fun j hj => ?_⟩
  · have hc := hcell 0 (by omega)
    have hs : spot = none := by simpa [Addr.add] using World.cell?_spot hc
    subst hs
    exact ⟨rfl, Nat.zero_le _, World.block_lt_of_cell? w _ hc⟩
  · have hj' : j < len := by omega
    have hc := hcell j (by omega)
    have e : w.cell? ⟨b, off + j, none⟩ = w.cell? ((⟨b, off, spot⟩ : Addr).add j) := by
      unfold Addr.add
      by_cases h0 : j = 0
      · subst h0
        have hs : spot = none := by simpa [Addr.add] using World.cell?_spot hc
        subst hs; rfl
      · rw [if_neg h0]
    have hjz : j < zs.length := by omega
    rw [e, hc]
    simp [hj', hjz]


theorem open_RB {H : Type} {enc : TypeId × Value → H} {W : World} {v : Value} {d : DataW H} {p : List MemPlace} (hv : ∃ a len cap, v = .slice a len cap)
    (h0 : DataW.Trod enc Try.prog W 0 (fun _ => true) true 22 v d p) : ∃ xs, RB W 0 W.heap.size v xs := by
  obtain ⟨a, len, cap, rfl⟩ := hv
  obtain ⟨fuel, hf⟩ := h0
  rcases open_ints Try.underlying22 Try.underlying5 (by kernel_rfl) hf with ⟨hcs, _⟩ | ⟨x, l, c, zs, hcs, _, hl, hm, hz, _, hcell, hwz⟩
  · simp [Value.cells] at hcs
    obtain ⟨rfl, rfl, rfl⟩ := hcs
    exact ⟨[], ⟨by simp, none, 0, 0, 0, rfl, Nat.le_refl _, by simp [maxLen], fun h => by simp at h, fun j hj => by simp at hj⟩, fun _ h => by simp at h⟩
  · simp [Value.cells] at hcs
    obtain ⟨rfl, rfl, rfl⟩ := hcs
    refine ⟨zs.take len, reads_of_cells hl hm (by simpa using hz) hcell, fun y hy => ?_⟩
    have := hwz y (List.mem_of_mem_take hy)
    simp [Lit.wf, IntKind.min, IntKind.max, IntKind.bits, IntKind.signed] at this
    exact ⟨this.1, by omega⟩

theorem i64_of_wf {x : Int} (h : (Lit.int .i64 x).wf = true) : I64 x := by
  simp [Lit.wf, IntKind.min, IntKind.max, IntKind.bits, IntKind.signed] at h
  exact ⟨h.1, by omega⟩

end Go.Proofs.Ytjmofmdcegefgaa

