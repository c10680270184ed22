/-
  The plain law of the pages that a table uses; no program in sight.
-/
import Derived.Test.YtgmkkajdmbmliaaTbe
import Derived.Test.YtgmkkajdmbmliaaSrt
namespace Go.Proofs.Ytgmkkajdmbmliaa
open Go.RowKit

/-- The numbers below n that stand in the table, in order. -/
def usedN (t : List (List Int)) (n : Nat) : List Int := ((List.range n).filter fun i : Nat => decide ((i : Int) ∈ t.flatten)).map fun i : Nat => (i : Int)
def used (t : List (List Int)) : List Int := if tabVal t = true then usedN t 48 else []
theorem usedN_zero (t : List (List Int)) : usedN t 0 = [] := rfl
theorem usedN_succ (t : List (List Int)) (n : Nat) : usedN t (n + 1) = usedN t n ++ if (n : Int) ∈ t.flatten then [(n : Int)] else [] := by
  unfold usedN
  rw [List.range_succ, List.filter_append, List.map_append]
  congr 1
  by_cases h : (n : Int) ∈ t.flatten
  · rw [if_pos h, List.filter_cons_of_pos (by simpa only [decide_eq_true_eq] using h)]; rfl
  · rw [if_neg h, List.filter_cons_of_neg (by simpa only [decide_eq_true_eq] using h)]; rfl
theorem usedN_len (t : List (List Int)) (n : Nat) : (usedN t n).length ≤ n := by
  unfold usedN
  rw [List.length_map]
  have := List.length_filter_le (fun i : Nat => decide ((i : Int) ∈ t.flatten)) (List.range n)
  simpa using this
theorem mem_usedN {t : List (List Int)} {n : Nat} {x : Int} : x ∈ usedN t n ↔ (0 ≤ x ∧ x < n) ∧ x ∈ t.flatten := by
  unfold usedN
  simp only [List.mem_map, List.mem_filter, List.mem_range, decide_eq_true_eq]
  constructor
  · rintro ⟨i, ⟨h1, h2⟩, rfl⟩
    exact ⟨by omega, h2⟩
  · rintro ⟨⟨h0, h1⟩, h2⟩
    exact ⟨x.toNat, ⟨by omega, by rwa [Int.toNat_of_nonneg h0]⟩, by omega⟩
theorem usedN_lt (t : List (List Int)) (n : Nat) : (usedN t n).Pairwise fun x y => x < y := by
  unfold usedN
  rw [List.pairwise_map]
  exact (List.pairwise_lt_range.filter _).imp fun h => by omega
theorem used_yes {t : List (List Int)} (h : tabVal t = true) : used t = usedN t 48 := by unfold used; rw [if_pos h]
theorem used_no {t : List (List Int)} (h : tabVal t = false) : used t = [] := by unfold used; rw [if_neg (by rw [h]; simp)]
theorem used_len (t : List (List Int)) : (used t).length ≤ 48 := by
  unfold used
  split
  · exact usedN_len t 48
  · simp

/-- What the program gathers, ahead of its sort. -/
def gat (l : List Int) : List Int := l.filter fun x => decide (0 ≤ x)
theorem gat_snoc (l : List Int) (x : Int) : gat (l ++ [x]) = if 0 ≤ x then gat l ++ [x] else gat l := by
  unfold gat
  rw [List.filter_append]
  by_cases h : 0 ≤ x
  · simp [h]
  · simp [h]
theorem gat_len (l : List Int) : (gat l).length ≤ l.length := List.length_filter_le _ _
theorem used_srt {t : List (List Int)} (h : tabVal t = true) : srt (gat t.flatten) = used t := by
  have hok := okP_iff.1 (tabVal_iff.1 h).2.2
  rw [used_yes h]
  have hlt := usedN_lt t 48
  have n2 : (usedN t 48).Nodup := hlt.imp fun h => by omega
  have n1 : (gat t.flatten).Nodup := by
    unfold gat
    rw [List.Nodup, List.pairwise_filter]
    exact hok.2.imp fun h hx hy e => h ⟨by simpa using hx, e⟩
  have hp : (gat t.flatten).Perm (usedN t 48) := by
    rw [List.perm_ext_iff_of_nodup n1 n2]
    intro x
    rw [mem_usedN]
    unfold gat
    simp only [List.mem_filter, decide_eq_true_eq]
    constructor
    · rintro ⟨h1, h2⟩
      have := hok.1 x h1
      exact ⟨⟨h2, by omega⟩, h1⟩
    · rintro ⟨⟨h1, -⟩, h2⟩
      exact ⟨h2, h1⟩
  refine List.Perm.eq_of_pairwise (le := fun x y : Int => x ≤ y) ?_ (srt_sorted _) (hlt.imp fun h => by omega) ((srt_perm _).trans hp)
  intro a b _ _ h1 h2
  omega

/-- What the reference has, in the midst of its search for n. -/
def mid (t : List (List Int)) (n f p : Nat) : List Int := usedN t n ++ if (n : Int) ∈ pre t f p then [(n : Int)] else []
theorem mid_start (t : List (List Int)) (n : Nat) : mid t n 0 0 = usedN t n := by unfold mid; rw [pre_zero]; simp
theorem mid_row {t : List (List Int)} {n f : Nat} (hf : f < t.length) (p : Nat) (hp : t[f].length ≤ p) : mid t n f p = mid t n (f + 1) 0 := by
  unfold mid
  rw [pre_row hf p hp, pre_zero]
theorem mid_end {t : List (List Int)} (n f : Nat) (hf : t.length ≤ f) : mid t n f 0 = usedN t (n + 1) := by
  unfold mid
  rw [pre_zero, List.take_of_length_le hf, usedN_succ]
theorem mid_hit {t : List (List Int)} (h : tabVal t = true) {n f p : Nat} (hf : f < t.length) (hp : p < t[f].length) (he : t[f][p] = n) : mid t n f (p + 1) = mid t n f p ++ [(n : Int)] := by
  obtain ⟨r, hr⟩ := pre_flat t (p := p + 1) hf
  have h1 := okP_pre (l := pre t f (p + 1)) (l' := r) (by rw [← hr]; exact (tabVal_iff.1 h).2.2)
  rw [pre_succ hf hp, okP_snoc] at h1
  have hn : ¬ (n : Int) ∈ pre t f p := fun hm => h1.2.2 ⟨by omega, by rw [he]; exact hm⟩
  unfold mid
  rw [pre_succ hf hp, he, if_neg hn, if_pos (by simp)]
  simp
theorem mid_no {t : List (List Int)} {n f p : Nat} (hf : f < t.length) (hp : p < t[f].length) (he : ¬ t[f][p] = n) : mid t n f (p + 1) = mid t n f p := by
  unfold mid
  rw [pre_succ hf hp]
  have : ((n : Int) ∈ pre t f p ++ [t[f][p]]) ↔ (n : Int) ∈ pre t f p := by
    simp only [List.mem_append, List.mem_singleton]
    constructor
    · rintro (h | h)
      · exact h
      · exact absurd h.symm he
    · exact .inl
  by_cases hm : (n : Int) ∈ pre t f p
  · rw [if_pos (this.2 hm), if_pos hm]
  · rw [if_neg (fun h => hm (this.1 h)), if_neg hm]
theorem mid_len (t : List (List Int)) (n f p : Nat) : (mid t n f p).length ≤ n + 1 := by
  have := usedN_len t n
  unfold mid
  rw [List.length_append]
  split
  · simp; exact this
  · simp; omega

end Go.Proofs.Ytgmkkajdmbmliaa
