/-
  The plain law of the counts of blocks; no program in sight.
-/
import Derived.Test.YtgmkkajdmbmliaaDvp
import Derived.Test.YtgmkkajdmbmliaaUpp
namespace Go.Proofs.Ytgmkkajdmbmliaa
open Go.RowKit

/-- How many of the pages us are written and lie in block n. -/
def cnt (d : List Bk) (us : List Int) (n : Int) : Nat := us.countP fun x => (rdp d x).2 && decide (x / 4 = n)
theorem cnt_nil (d : List Bk) (n : Int) : cnt d [] n = 0 := rfl
theorem cnt_le (d : List Bk) (us : List Int) (n : Int) : cnt d us n ≤ us.length := List.countP_le_length
theorem cnt_snoc (d : List Bk) (us : List Int) (x n : Int) : cnt d (us ++ [x]) n = cnt d us n + if (rdp d x).2 = true ∧ x / 4 = n then 1 else 0 := by
  unfold cnt
  rw [List.countP_append, List.countP_singleton]
  congr 1
  by_cases h1 : (rdp d x).2 = true <;> by_cases h2 : x / 4 = n <;> simp [h1, h2]
theorem cnt_take {d : List Bk} {us : List Int} {k : Nat} (hk : k < us.length) (n : Int) : cnt d (us.take (k + 1)) n = cnt d (us.take k) n + if (rdp d us[k]).2 = true ∧ us[k] / 4 = n then 1 else 0 := by
  rw [List.take_succ_eq_append_getElem hk, cnt_snoc]
/-- The counts of the first n blocks. -/
def cntN (d : List Bk) (us : List Int) (n : Nat) : List Int := (List.range n).map fun i : Nat => (cnt d us i : Int)
theorem cntN_zero (d : List Bk) (us : List Int) : cntN d us 0 = [] := rfl
theorem cntN_succ (d : List Bk) (us : List Int) (n : Nat) : cntN d us (n + 1) = cntN d us n ++ [(cnt d us n : Int)] := by
  unfold cntN; rw [List.range_succ, List.map_append]; rfl
theorem cntN_len (d : List Bk) (us : List Int) (n : Nat) : (cntN d us n).length = n := by simp [cntN]
theorem cntN_at (d : List Bk) (us : List Int) {n k : Nat} (hk : k < (cntN d us n).length) : (cntN d us n)[k] = cnt d us k := by simp [cntN]
theorem cntN_nil (d : List Bk) (n : Nat) : cntN d [] n = List.replicate n 0 := by
  apply List.ext_getElem
  · simp [cntN]
  · intro i h1 h2
    simp [cntN, cnt]
theorem cntN_yes {d : List Bk} {us : List Int} {n x : Nat} (hx : (rdp d x).2 = true) (_hn : x / 4 < n) : cntN d (us ++ [(x : Int)]) n = (cntN d us n).set (x / 4) ((cnt d us (x / 4 : Nat) : Int) + 1) := by
  apply List.ext_getElem
  · simp [cntN]
  · intro i h1 h2
    rw [cntN_at, cnt_snoc]
    by_cases e : x / 4 = i
    · subst e
      rw [List.getElem_set_self, if_pos ⟨hx, by omega⟩]
      rfl
    · rw [List.getElem_set_ne e, cntN_at, if_neg (by omega)]
      rfl
theorem cntN_no {d : List Bk} {us : List Int} {n : Nat} {x : Int} (hx : (rdp d x).2 = false) : cntN d (us ++ [x]) n = cntN d us n := by
  unfold cntN
  congr 1
  funext i
  rw [cnt_snoc, if_neg (by rw [hx]; simp)]
  rfl
def bcs (d : List Bk) (t : List (List Int)) : List Int := if dvOk d = true ∧ tabVal t = true then cntN d (used t) d.length else []
theorem bcs_yes {d : List Bk} {t : List (List Int)} (h1 : dvOk d = true) (h2 : tabVal t = true) : bcs d t = cntN d (used t) d.length := by unfold bcs; rw [if_pos ⟨h1, h2⟩]
theorem bcs_dv {d : List Bk} {t : List (List Int)} (h : dvOk d = false) : bcs d t = [] := by unfold bcs; rw [if_neg (by rw [h]; simp)]
theorem bcs_tb {d : List Bk} {t : List (List Int)} (h : tabVal t = false) : bcs d t = [] := by unfold bcs; rw [if_neg (by rw [h]; simp)]
theorem bcs_len (d : List Bk) (t : List (List Int)) : (bcs d t).length ≤ 12 := by
  unfold bcs
  split
  · rename_i h
    rw [cntN_len]
    exact (dv_len h.1).2
  · simp
theorem bcs_at {d : List Bk} {t : List (List Int)} {k : Nat} (hk : k < (bcs d t).length) : 0 ≤ (bcs d t)[k] ∧ (bcs d t)[k] ≤ 48 := by
  have hm := List.getElem_mem hk
  generalize (bcs d t)[k] = x at hm ⊢
  unfold bcs at hm
  split at hm
  · unfold cntN at hm
    simp only [List.mem_map, List.mem_range] at hm
    obtain ⟨i, -, rfl⟩ := hm
    have := cnt_le d (used t) i
    have := used_len t
    omega
  · simp at hm
theorem used_at {t : List (List Int)} (h : tabVal t = true) {k : Nat} (hk : k < (used t).length) : ∃ x : Nat, (used t)[k] = x ∧ x < 48 := by
  have hm : (used t)[k] ∈ used t := List.getElem_mem hk
  generalize (used t)[k] = y at hm ⊢
  rw [used_yes h, mem_usedN] at hm
  exact ⟨y.toNat, by omega, by omega⟩
theorem rdp_full {d : List Bk} (h : dvOk d = true) (x : Nat) : (rdp d x).2 = (decide (x < 4 * d.length) && (dat d x).full) := by
  by_cases hx : x < 4 * d.length
  · rw [rdp_in h hx]; simp [hx]
  · rw [rdp_out (.inr (.inr (by omega)))]; simp [hx]

/-- The sum of the first k. -/
def sumN (l : List Int) (k : Nat) : Int := (l.take k).sum
theorem sumN_zero (l : List Int) : sumN l 0 = 0 := by simp [sumN]
theorem sumN_succ {l : List Int} {k : Nat} (hk : k < l.length) : sumN l (k + 1) = sumN l k + l[k] := by
  unfold sumN
  rw [List.take_succ_eq_append_getElem hk, List.sum_append]
  simp
theorem sumN_all {l : List Int} {k : Nat} (hk : l.length ≤ k) : sumN l k = l.sum := by unfold sumN; rw [List.take_of_length_le hk]
theorem sumN_bcs (d : List Bk) (t : List (List Int)) (k : Nat) : 0 ≤ sumN (bcs d t) k ∧ sumN (bcs d t) k ≤ 576 := by
  have key : ∀ k, k ≤ (bcs d t).length → 0 ≤ sumN (bcs d t) k ∧ sumN (bcs d t) k ≤ 48 * (k : Int) := by
    intro k
    induction k with
    | zero => intro _; rw [sumN_zero]; omega
    | succ k ih =>
      intro hk
      have := ih (by omega)
      rw [sumN_succ (by omega)]
      have := bcs_at (d := d) (t := t) (k := k) (by omega)
      omega
  have hl := bcs_len d t
  by_cases hk : k ≤ (bcs d t).length
  · have := key k hk; omega
  · rw [sumN_all (by omega), ← sumN_all (Nat.le_refl _)]
    have := key _ (Nat.le_refl _); omega
def old (d : List Bk) (t : List (List Int)) : Int := if dvOk d = true ∧ tabVal t = true then 4 * (d.length : Int) - frees d - (bcs d t).sum else -1

/-- Free pages, block by block. -/
def frN (d : List Bk) (k : Nat) : Nat := ((d.take k).map fun b => 4 - nfull b.pages).sum
theorem frN_zero (d : List Bk) : frN d 0 = 0 := by simp [frN]
theorem frN_succ {d : List Bk} {k : Nat} (hk : k < d.length) : frN d (k + 1) = frN d k + (4 - nfull d[k].pages) := by
  unfold frN
  rw [List.take_succ_eq_append_getElem hk, List.map_append, List.sum_append]
  simp
theorem frN_le {d : List Bk} : ∀ k, k ≤ d.length → frN d k ≤ 4 * k
  | 0, _ => by rw [frN_zero]; omega
  | k + 1, h => by have := frN_le (d := d) k (by omega); rw [frN_succ (by omega)]; omega
theorem dv4 {d : List Bk} (h : dvOk d = true) : ∀ b ∈ d, b.pages.length = 4 := fun b hb => (bkOk_iff.1 ((dvOk_iff.1 h).2.2 b hb)).2.1
theorem frees_frN {d : List Bk} (h : dvOk d = true) : frees d = frN d d.length := by
  unfold frees frN
  rw [if_pos h, nfree_dpg (dv4 h), List.take_of_length_le (Nat.le_refl _)]
/-- Free pages, page by page. -/
theorem nfree_step {d : List Bk} (h : dvOk d = true) {n : Nat} (hn : n < 4 * d.length) : nfree ((dpg d).take (n + 1)) = nfree ((dpg d).take n) + if (dat d n).full = true then 0 else 1 := by
  have hl := dpg_len (dv4 h)
  have hg := dpg_get (dv4 h) hn
  have hn' : n < (dpg d).length := by omega
  rw [List.take_succ_eq_append_getElem hn', nfree_snoc]
  rw [List.getElem?_eq_getElem hn'] at hg
  rw [Option.some.inj hg]
  cases (dat d n).full <;> simp
theorem nfree_take_le (l : List Pg) (n : Nat) : nfree (l.take n) ≤ n := by
  have h1 : nfree (l.take n) ≤ (l.take n).length := List.countP_le_length
  have h2 : (l.take n).length ≤ n := by rw [List.length_take]; omega
  omega
theorem frees_all {d : List Bk} (h : dvOk d = true) : frees d = nfree ((dpg d).take (4 * d.length)) := by
  unfold frees
  rw [if_pos h, List.take_of_length_le (by rw [dpg_len (dv4 h)]; exact Nat.le_refl _)]
theorem frees_no {d : List Bk} (h : dvOk d = false) : frees d = -1 := by unfold frees; rw [if_neg (by rw [h]; simp)]
theorem frees_le {d : List Bk} (h : dvOk d = true) : 0 ≤ frees d ∧ frees d ≤ 48 := by
  rw [frees_frN h]
  have := frN_le (d := d) d.length (Nat.le_refl _)
  have := (dv_len h).2
  omega
theorem old_no1 {d : List Bk} {t : List (List Int)} (h : dvOk d = false) : old d t = -1 := by unfold old; rw [if_neg (by rw [h]; simp)]
theorem old_no2 {d : List Bk} {t : List (List Int)} (h : tabVal t = false) : old d t = -1 := by unfold old; rw [if_neg (by rw [h]; simp)]
theorem old_yes {d : List Bk} {t : List (List Int)} (h1 : dvOk d = true) (h2 : tabVal t = true) : old d t = 4 * (d.length : Int) - frees d - (bcs d t).sum := by unfold old; rw [if_pos ⟨h1, h2⟩]

end Go.Proofs.Ytgmkkajdmbmliaa
