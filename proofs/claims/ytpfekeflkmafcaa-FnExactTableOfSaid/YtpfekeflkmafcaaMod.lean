/-
  What the functions over numbers, texts and lists of numbers compute: plain Lean, no program in sight.
-/
import Derived.Test.YtpfekeflkmafcaaLib
namespace Go.Proofs.Ytpfekeflkmafcaa
open Go.RowKit

/-- n lies in lo .. hi. -/
def inB (n lo hi : Int) : Bool := decide (lo ≤ n) && decide (n ≤ hi)
theorem inB_yes {n lo hi : Int} (h1 : lo ≤ n) (h2 : n ≤ hi) : inB n lo hi = true := by simp [inB, h1, h2]
theorem inB_no {n lo hi : Int} (h : n < lo ∨ hi < n) : inB n lo hi = false := by
  simp only [inB, Bool.and_eq_false_iff, decide_eq_false_iff_not]; omega
theorem inB_iff {n lo hi : Int} : inB n lo hi = true ↔ lo ≤ n ∧ n ≤ hi := by simp [inB]

def vscore (u a : Int) : Int := if 0 ≤ u ∧ u ≤ 4 ∧ 0 ≤ a ∧ a ≤ 1000000 then a * (4 - u) / (u + 1) else -1

/-- A small letter. -/
def letter (c : UInt8) : Bool := decide (97 ≤ c.toNat) && decide (c.toNat ≤ 122)
def txt (l : List UInt8) : Bool := decide (1 ≤ l.length) && decide (l.length ≤ 8) && l.all letter
def hashF (h : Int) (c : UInt8) : Int := (31 * h + c.toNat) % 1009
def bucket (l : List UInt8) : Int := if txt l = true then l.foldl hashF 7 % 3 else -1

def small (v : Int) : Bool := decide (0 ≤ v) && decide (v ≤ 15)
def fits (xs : List Int) : Bool := decide (xs.length ≤ 4) && xs.all small
def packF (n v : Int) : Int := 16 * n + v
def pack (xs : List Int) : Int := if fits xs = true then xs.foldl packF xs.length else -1

theorem foldl_drop {α β : Type} (f : β → α → β) (b : β) (xs : List α) (k : Nat) (hk : k < xs.length) : (xs.drop k).foldl f b = (xs.drop (k + 1)).foldl f (f b xs[k]) := by
  rw [drop_cons xs k hk]; rfl
theorem all_drop {α : Type} (p : α → Bool) (xs : List α) (k : Nat) (hk : k < xs.length) : (xs.drop k).all p = (p xs[k] && (xs.drop (k + 1)).all p) := by
  rw [drop_cons xs k hk]; rfl
theorem all_end {α : Type} (p : α → Bool) (xs : List α) (k : Nat) (hk : ¬ k < xs.length) : (xs.drop k).all p = true := by
  rw [List.drop_of_length_le (by omega)]; rfl
theorem foldl_end {α β : Type} (f : β → α → β) (b : β) (xs : List α) (k : Nat) (hk : ¬ k < xs.length) : (xs.drop k).foldl f b = b := by
  rw [List.drop_of_length_le (by omega)]; rfl

end Go.Proofs.Ytpfekeflkmafcaa
