/-
  The walks of the laws' helpers over tables: mark, held.
-/
import Derived.Test.YtgmkkajdmbmliaaTbh
namespace Go.Proofs.Ytgmkkajdmbmliaa
open Go.RowKit

theorem OT.inner {w : World} {lo hi : Nat} {v : Value} {xss : List (List Int)} (h : OT w lo hi v xss) (f : Nat) (hf : f < xss.length) :
    ∃ (a cap : Nat) (u : Value), v = .slice (some ⟨a, 0, none⟩) xss.length cap ∧ xss.length ≤ cap ∧ w.cell? ⟨a, f, none⟩ = some u ∧ OI w lo u xss[f] ∧ (∀ b, u.ownBlock = some b → lo ≤ b ∧ b < hi) ∧
      ∀ w' x', Chg (fun b => u.ownBlock = some b) w w' → OI w' lo u x' → OT w' lo hi v (xss.set f x') := by
  obtain ⟨vs, h1, h2, h3⟩ := h
  obtain ⟨u, hu, ho, hb⟩ := h3.get f hf
  have ho' : OI w lo u xss[f] := ho
  obtain ⟨a, cap, rfl, ha1, ha2, ha3⟩  := own_shape1 h1 (show 0 < xss.length by omega)
  refine ⟨a, cap, u, rfl, ha3, by rw [h1.cellAt f (by omega)]; exact hu, ho', fun b hb' => ⟨(ho'.lt b hb').1, hb b hb'⟩, fun w' x' hc ho2 => ?_⟩
  have hap := own_apart ho'.1 h1 (by decide)
  refine ⟨vs, ?_, h2, h3.one hu hc ho2⟩
  rw [List.length_set]
  exact own_chg h1 hc fun b _ hb1 hb2 => hap b hb2 hb1

/-- Every number its own, from k on. -/
def mrk : Int → List (List Int) → List (List Int)
  | _, [] => []
  | k, x :: xs => upN k x.length :: mrk (k + x.length) xs
def toff (xss : List (List Int)) (j : Nat) : Nat := ((xss.take j).map List.length).sum
theorem mrk_len (k : Int) (xss : List (List Int)) : (mrk k xss).length = xss.length := by
  induction xss generalizing k with
  | nil => rfl
  | cons x xs ih => simp [mrk, ih]
theorem toff_zero (xss : List (List Int)) : toff xss 0 = 0 := rfl
theorem toff_succ (xss : List (List Int)) (j : Nat) (hj : j < xss.length) : toff xss (j + 1) = toff xss j + xss[j].length := by
  unfold toff; rw [List.take_succ_eq_append_getElem hj, List.map_append, List.sum_append]; rfl
theorem mrk_at (k : Int) (xss : List (List Int)) (j : Nat) (hj : j < xss.length) : (mrk k xss)[j]'(by rw [mrk_len]; exact hj) = upN (k + toff xss j) xss[j].length := by
  induction xss generalizing k j with
  | nil => simp at hj
  | cons x xs ih =>
    cases j with
    | zero => simp [mrk, toff]
    | succ j =>
      have := ih (k + x.length) j (by simpa using hj)
      simp only [mrk, List.getElem_cons_succ, this]
      congr 1
      simp [toff]; omega
theorem toff_le (xss : List (List Int)) (j : Nat) : toff xss j ≤ tsz xss := by
  unfold toff tsz
  have : ∀ (l : List Nat) j, (l.take j).sum ≤ l.sum := by
    intro l
    induction l with
    | nil => intro j; simp
    | cons a l ih => intro j; cases j with
      | zero => simp
      | succ j => have := ih j; simp only [List.take_succ_cons, List.sum_cons]; omega
  have := this (xss.map List.length) j
  rw [List.map_take] at *
  omega
theorem toff_all (xss : List (List Int)) : toff xss xss.length = (xss.map List.length).sum := by simp [toff]
/-- The first i lists turned. -/
def mix (k : Int) (xss : List (List Int)) (i : Nat) : List (List Int) := (mrk k xss).take i ++ xss.drop i
theorem mix_len (k : Int) (xss : List (List Int)) (i : Nat) (hi : i ≤ xss.length) : (mix k xss i).length = xss.length := by
  have := mrk_len k xss
  simp only [mix, List.length_append, List.length_take, List.length_drop]; omega
theorem mix_at (k : Int) (xss : List (List Int)) (i : Nat) (hi : i < xss.length) : (mix k xss i)[i]? = some xss[i] := by
  have := mrk_len k xss
  unfold mix
  rw [List.getElem?_append_right (by simp; omega)]
  have e : i - ((mrk k xss).take i).length = 0 := by simp; omega
  rw [e, drop_cons xss i hi]; rfl
theorem mix_set (k : Int) (xss : List (List Int)) (i : Nat) (hi : i < xss.length) : (mix k xss i).set i (upN (k + toff xss i) xss[i].length) = mix k xss (i + 1) := by
  have hl := mrk_len k xss
  unfold mix
  rw [List.set_append_right _ _ (by simp; omega)]
  have e : i - ((mrk k xss).take i).length = 0 := by simp; omega
  rw [e, drop_cons xss i hi, List.set_cons_zero, List.take_succ_eq_append_getElem (by omega), mrk_at k xss i hi]
  simp
theorem mix_zero (k : Int) (xss : List (List Int)) : mix k xss 0 = xss := by simp [mix]
theorem mix_end (k : Int) (xss : List (List Int)) (i : Nat) (hi : ¬ i < xss.length) : mix k xss i = mrk k xss := by
  have := mrk_len k xss
  rw [mix, List.take_of_length_le (by omega), List.drop_of_length_le (by omega)]; simp
theorem upN_i64 (k : Int) (n : Nat) (h0 : 0 ≤ k) (h1 : k ≤ 4503599627370496) (hn : n ≤ 1048576) : I64s (upN k n) := by
  intro x hx
  obtain ⟨i, hi, rfl⟩ := List.mem_map.1 hx
  have := List.mem_range.1 hi
  unfold I64; omega

/-- Numbers laid in lo .. hi. -/
def MarkTPost (v : Value) (lo hi : Nat) (xss : List (List Int)) (k : Int) (w : World) (e : Ending) (w' : World) : Prop :=
  e = .returned (.int .i64 (k + toff xss xss.length)) ∧ OT w' lo hi v (mrk k xss) ∧ Chg (fun b => lo ≤ b ∧ b < hi) w w' ∧ w'.heap.size = w.heap.size



/-- As markIntSS; for a table. -/
def MarkTab (v : Value) (lo hi : Nat) (xss : List (List Int)) (k : Int) (w : World) (e : Ending) (w' : World) : Prop :=
  e = .returned (.int .i64 (k + toff xss xss.length)) ∧ OT w' lo hi v (mrk k xss) ∧ Chg (fun b => lo ≤ b ∧ b < hi) w w'



end Go.Proofs.Ytgmkkajdmbmliaa
