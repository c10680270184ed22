/-
  Texts of this claim, laid together: Ddp, Bvp, Lpl, Bvw.
-/
import Derived.Test.YtjmofmdcegefgaaQ11
import Derived.Test.YtjmofmdcegefgaaQ13
import Derived.Test.YtjmofmdcegefgaaQ15
import Derived.Test.YtjmofmdcegefgaaQ17
namespace Go.Proofs.Ytjmofmdcegefgaa
open Go.RowKit

/-- A block with one page written. -/
def wrb (b : Bk) (p : Pg) : Bk := if 0 ≤ bnext b then ⟨b.wear, b.pages.set (bnext b).toNat p⟩ else b
theorem wrb_wear (b : Bk) (p : Pg) : (wrb b p).wear = b.wear := by unfold wrb; split <;> rfl
theorem wrb_len (b : Bk) (p : Pg) : (wrb b p).pages.length = b.pages.length := by unfold wrb; split <;> simp
theorem getD_setp (l : List Pg) (n k : Nat) (p : Pg) (hn : n < l.length) : (l.set n p).getD k pg0 = if n = k then p else l.getD k pg0 := by
  rw [List.getD_eq_getElem?_getD, List.getD_eq_getElem?_getD, List.getElem?_set]
  split
  · rename_i h; subst h; simp
  · rfl
theorem bnext_pos {b : Bk} (h : 0 ≤ bnext b) : bnext b = nxt b.pages ∧ nxt b.pages < b.pages.length := by
  unfold bnext at h ⊢
  split at h
  · rename_i hk; rw [if_pos hk]; exact ⟨rfl, hk.2⟩
  · omega
theorem wrb_ok {b : Bk} {p : Pg} (hb : bkOk b = true) (hp : pgOk p = true) (hf : p.full = true) : bkOk (wrb b p) = true := by
  unfold wrb
  split
  · rename_i h
    obtain ⟨e, hn⟩ := bnext_pos h
    rw [e, Int.toNat_natCast]
    obtain ⟨h1, h2, h3⟩ := bkOk_iff.1 hb
    refine bkOk_iff.2 ⟨h1, by simpa using h2, ?_⟩
    have hbef : ∀ j, j < nxt b.pages → (b.pages.getD j pg0).full = true := fun j hj => by
      have hjl : j < b.pages.length := by omega
      have := List.not_of_lt_findIdx (p := fun q : Pg => !q.full) (xs := b.pages) (i := j) hj
      simp at this
      simp [hjl, this]
    simp only [pgsUp, List.all_eq_true, List.mem_range]
    intro k hk
    have hk' : k < b.pages.length := by simpa using hk
    have hold := pgsUp_at h3 hk'
    unfold pgAt at hold ⊢
    rw [getD_setp _ _ _ _ hn, getD_setp _ _ _ _ hn]
    by_cases e1 : nxt b.pages = k
    · subst e1
      rw [if_pos rfl, hp, Bool.true_and]
      by_cases e2 : nxt b.pages = 0
      · simp [e2]
      · rw [if_neg (by omega), hbef _ (by omega)]
        simp
    · rw [if_neg e1]
      by_cases e2 : nxt b.pages = k - 1
      · rw [if_pos e2, hf]
        simp only [Bool.and_eq_true] at hold
        rw [hold.1, Bool.true_and]
        simp
      · rw [if_neg e2]
        exact hold
  · exact hb
theorem dv_set {d : List Bk} (h : dvOk d = true) {k : Nat} {b : Bk} (hb : bkOk b = true) : dvOk (d.set k b) = true := by
  obtain ⟨h1, h2, h3⟩ := dvOk_iff.1 h
  refine dvOk_iff.2 ⟨by simpa using h1, by simpa using h2, fun x hx => ?_⟩
  rcases List.mem_or_eq_of_mem_set hx with h | rfl
  · exact h3 x h
  · exact hb
theorem hdOk_len {d d' : List Bk} {h : Hd} (hk : hdOk d h = true) (hv : dvOk d' = true) (hl : d'.length = d.length) : hdOk d' h = true := by
  obtain ⟨-, h0, h1, h2⟩ := hdOk_iff.1 hk
  unfold hdAt at h0 h1 h2
  rw [← hl] at h0 h1 h2
  exact hdOk_iff.2 ⟨hv, h0, h1, h2⟩
def hset (h : Hd) (heat n : Int) : Hd := if heat = 0 then ⟨n, h.warm, h.cold⟩ else if heat = 1 then ⟨h.hot, n, h.cold⟩ else ⟨h.hot, h.warm, n⟩
theorem hset_ok {d : List Bk} {h : Hd} (hk : hdOk d h = true) {n : Int} (h0 : 0 ≤ n) (h1 : n < d.length) (hf : isHd h n = false) (heat : Int) : hdOk d (hset h heat n) = true := by
  obtain ⟨A, B, C⟩ := h
  unfold hdOk inB at hk ⊢
  unfold isHd at hf
  unfold hset
  simp only [Bool.and_eq_true, decide_eq_true_eq, Bool.not_eq_true', Bool.and_eq_false_iff, decide_eq_false_iff_not, Bool.or_eq_false_iff, beq_eq_false_iff_ne, ne_eq] at hk hf ⊢
  have hv : dvOk d = true := hk.1.1.1.1.1.1
  split
  · simp only at hk hf ⊢
    exact ⟨⟨⟨⟨⟨⟨hv, by omega⟩, by omega⟩, by omega⟩, by omega⟩, by omega⟩, by omega⟩
  · split
    · simp only at hk hf ⊢
      exact ⟨⟨⟨⟨⟨⟨hv, by omega⟩, by omega⟩, by omega⟩, by omega⟩, by omega⟩, by omega⟩
    · simp only at hk hf ⊢
      exact ⟨⟨⟨⟨⟨⟨hv, by omega⟩, by omega⟩, by omega⟩, by omega⟩, by omega⟩, by omega⟩
theorem hd0_ok {d : List Bk} (h : dvOk d = true) : hdOk d ⟨-1, -1, -1⟩ = true := by
  have := dv_len h
  unfold hdOk inB
  simp [h]
  omega
theorem hdOk_i {d : List Bk} {h : Hd} (hk : hdOk d h = true) : HdI h := by
  obtain ⟨hv, h0, h1, h2⟩ := hdOk_iff.1 hk
  have := dv_len hv
  unfold hdAt hdl at h0 h1 h2
  simp at h0 h1 h2
  unfold HdI I64
  omega
def B0 (n : Int) : Bk := ⟨n, List.replicate 4 pg0⟩
theorem B0_ok {n : Int} (h0 : 0 ≤ n) (h1 : n ≤ 100) : bkOk (B0 n) = true := by
  refine bkOk_iff.2 ⟨⟨h0, h1⟩, by simp [B0], ?_⟩
  simp [B0, pgsUp, pgAt]
  intro x hx
  have : x = 0 ∨ x = 1 ∨ x = 2 ∨ x = 3 := by omega
  rcases this with rfl | rfl | rfl | rfl <;> decide
def D0 (n : Nat) : List Bk := List.replicate n (B0 0)
theorem D0_ok {n : Nat} (h0 : 1 ≤ n) (h1 : n ≤ 12) : dvOk (D0 n) = true :=
  dvOk_iff.2 ⟨by simpa [D0] using h0, by simpa [D0] using h1, fun b hb => by rw [List.eq_of_mem_replicate hb]; exact B0_ok (by omega) (by omega)⟩
theorem D0_succ (n : Nat) : D0 n ++ [B0 0] = D0 (n + 1) := by unfold D0; rw [List.replicate_succ']

end Go.Proofs.Ytjmofmdcegefgaa

namespace Go.Proofs.Ytjmofmdcegefgaa
open Go.RowKit

/-- The greatest stamp of the first k pages. -/
def lastN (ps : List Pg) : Nat → Int
  | 0 => 0
  | k + 1 => max (lastN ps k) (ps.getD k pg0).stamp
theorem lastN_step {ps : List Pg} {k : Nat} (hk : k < ps.length) : lastN ps (k + 1) = max (lastN ps k) ps[k].stamp := by
  have e : ps.getD k pg0 = ps[k] := by simp [hk]
  rw [lastN, e]
theorem lastN_bd {b : Bk} (hb : bkOk b = true) : ∀ k : Nat, 0 ≤ lastN b.pages k ∧ lastN b.pages k ≤ 1000000
  | 0 => by unfold lastN; omega
  | k + 1 => by
    have ih := lastN_bd hb k
    have h2 : 0 ≤ (b.pages.getD k pg0).stamp ∧ (b.pages.getD k pg0).stamp ≤ 1000000 := by
      by_cases hk : k < b.pages.length
      · have e : b.pages.getD k pg0 = b.pages[k] := by simp [hk]
        rw [e]
        exact pgOk_stamp (bk_page hb hk)
      · have e : b.pages.getD k pg0 = pg0 := by rw [List.getD_eq_getElem?_getD, List.getElem?_eq_none (by omega)]; rfl
        rw [e]
        decide
    rw [lastN, Int.max_def]
    split <;> omega
def ageOf (b : Bk) (now : Int) : Int := max 0 (now - lastN b.pages b.pages.length)
theorem ageOf_bd {b : Bk} (hb : bkOk b = true) {now : Int} (h0 : 0 ≤ now) (h1 : now ≤ 1000000) : 0 ≤ ageOf b now ∧ ageOf b now ≤ 1000000 := by
  have := lastN_bd hb b.pages.length
  unfold ageOf
  rw [Int.max_def]
  split <;> omega
/-- The best block of the first n, and its score. -/
def bvN (d : List Bk) (cs : List Int) (h : Hd) (now : Int) : Nat → Int × Int
  | 0 => (-1, -1)
  | n + 1 => if may d cs h n = true ∧ (bvN d cs h now n).2 < vscore (cs.getD n 0) (ageOf (d.getD n bk0) now) then ((n : Int), vscore (cs.getD n 0) (ageOf (d.getD n bk0) now)) else bvN d cs h now n
theorem bvN_no {d : List Bk} {cs : List Int} {h : Hd} {now : Int} {n : Nat} (hm : may d cs h n = false) : bvN d cs h now (n + 1) = bvN d cs h now n := by
  rw [bvN, if_neg (by rw [hm]; simp)]
theorem bvN_up {d : List Bk} {cs : List Int} {h : Hd} {now : Int} {n : Nat} (hn : n < d.length) (hc : n < cs.length) (hm : may d cs h n = true) (hs : (bvN d cs h now n).2 < vscore cs[n] (ageOf d[n] now)) :
    bvN d cs h now (n + 1) = ((n : Int), vscore cs[n] (ageOf d[n] now)) := by
  rw [bvN, getD_in hc, getDb_in hn, if_pos ⟨hm, hs⟩]
theorem bvN_keep {d : List Bk} {cs : List Int} {h : Hd} {now : Int} {n : Nat} (hn : n < d.length) (hc : n < cs.length) (hs : ¬ (bvN d cs h now n).2 < vscore cs[n] (ageOf d[n] now)) :
    bvN d cs h now (n + 1) = bvN d cs h now n := by
  rw [bvN, getD_in hc, getDb_in hn, if_neg (fun h => hs h.2)]
theorem bvN_le (d : List Bk) (cs : List Int) (h : Hd) (now : Int) : ∀ n : Nat, -1 ≤ (bvN d cs h now n).1 ∧ (bvN d cs h now n).1 < (n : Int)
  | 0 => by unfold bvN; simp
  | n + 1 => by
    have := bvN_le d cs h now n
    unfold bvN
    split
    · simp
      omega
    · omega
def bv (d : List Bk) (t : List (List Int)) (h : Hd) (now : Int) : Int := if hdOk d h = true ∧ tabVal t = true ∧ 0 ≤ now ∧ now ≤ 1000000 then (bvN d (bcs d t) h now d.length).1 else -1
theorem bv_yes {d : List Bk} {t : List (List Int)} {h : Hd} {now : Int} (h1 : hdOk d h = true) (h2 : tabVal t = true) (h3 : 0 ≤ now ∧ now ≤ 1000000) : bv d t h now = (bvN d (bcs d t) h now d.length).1 := by unfold bv; rw [if_pos ⟨h1, h2, h3⟩]
theorem bv_no {d : List Bk} {t : List (List Int)} {h : Hd} {now : Int} (hn : hdOk d h = false ∨ tabVal t = false ∨ now < 0 ∨ 1000000 < now) : bv d t h now = -1 := by
  unfold bv
  rw [if_neg]
  rintro ⟨h1, h2, h3, h4⟩
  rcases hn with hn | hn | hn | hn
  · rw [h1] at hn; cases hn
  · rw [h2] at hn; cases hn
  · omega
  · omega

end Go.Proofs.Ytjmofmdcegefgaa

namespace Go.Proofs.Ytjmofmdcegefgaa
open Go.RowKit
set_option linter.unusedSimpArgs false
set_option linter.unusedVariables false

/-- Of an ascending list, few lie between two bounds. -/
theorem asc_in : ∀ (us : List Int) (lo hi : Int), us.Pairwise (fun x y => x < y) → (us.countP fun x => decide (lo ≤ x) && decide (x < hi)) ≤ (hi - lo).toNat
  | [], _, _, _ => by simp
  | a :: us, lo, hi, h => by
    obtain ⟨h1, h2⟩ := List.pairwise_cons.1 h
    rw [List.countP_cons]
    by_cases hc : lo ≤ a ∧ a < hi
    · have ih := asc_in us (a + 1) hi h2
      have e : us.countP (fun x => decide (lo ≤ x) && decide (x < hi)) = us.countP (fun x => decide (a + 1 ≤ x) && decide (x < hi)) := by
        apply List.countP_congr
        intro x hx
        have := h1 x hx
        simp only [Bool.and_eq_true, decide_eq_true_eq]
        omega
      rw [e, if_pos (by simp only [Bool.and_eq_true, decide_eq_true_eq]; exact hc)]
      omega
    · have ih := asc_in us lo hi h2
      rw [if_neg (by simp only [Bool.and_eq_true, decide_eq_true_eq]; exact hc)]
      omega
theorem used_pair (t : List (List Int)) : (used t).Pairwise fun x y => x < y := by
  by_cases hv : tabVal t = true
  · rw [used_yes hv]; exact usedN_lt t 48
  · rw [used_no (by simpa using hv)]; exact List.Pairwise.nil
theorem cnt_four (d : List Bk) {us : List Int} (h : us.Pairwise fun x y => x < y) (n : Int) : cnt d us n ≤ 4 := by
  have h1 := asc_in us (4 * n) (4 * n + 4) h
  have h2 : cnt d us n ≤ us.countP fun x => decide (4 * n ≤ x) && decide (x < 4 * n + 4) := by
    unfold cnt
    apply List.countP_mono_left
    intro x _ hx
    simp only [Bool.and_eq_true, decide_eq_true_eq] at hx ⊢
    omega
  omega
theorem bcs_four (d : List Bk) (t : List (List Int)) {k : Nat} {x : Int} (hx : (bcs d t)[k]? = some x) : 0 ≤ x ∧ x ≤ 4 := by
  by_cases hv : dvOk d = true ∧ tabVal t = true
  · rw [bcs_yes hv.1 hv.2] at hx
    obtain ⟨hk, e⟩ := List.getElem?_eq_some_iff.1 hx
    rw [cntN_at] at e
    have := cnt_four d (used_pair t) k
    omega
  · have e : bcs d t = [] := by unfold bcs; rw [if_neg hv]
    rw [e] at hx
    simp at hx
theorem countP_split {α : Type} (p p1 p2 : α → Bool) (l : List α) (h : ∀ x, p x = (p1 x || p2 x)) (hd : ∀ x, p1 x = true → p2 x = false) : l.countP p = l.countP p1 + l.countP p2 := by
  induction l with
  | nil => rfl
  | cons a l ih =>
    rw [List.countP_cons, List.countP_cons, List.countP_cons, ih, h a]
    have := hd a
    cases h1 : p1 a <;> cases h2 : p2 a <;> simp_all <;> omega
theorem cntN_sum (d : List Bk) (us : List Int) : ∀ n : Nat, (cntN d us n).sum = ((us.countP fun x => (rdp d x).2 && (decide (0 ≤ x) && decide (x < 4 * (n : Int))) : Nat) : Int)
  | 0 => by
    have : us.countP (fun x => (rdp d x).2 && (decide (0 ≤ x) && decide (x < 4 * ((0 : Nat) : Int)))) = 0 := by
      rw [List.countP_eq_zero]
      intro x _ hx
      simp only [Bool.and_eq_true, decide_eq_true_eq] at hx
      omega
    rw [this, cntN_zero]; rfl
  | n + 1 => by
    rw [cntN_succ, List.sum_append, cntN_sum d us n]
    have := countP_split (fun x => (rdp d x).2 && (decide (0 ≤ x) && decide (x < 4 * ((n + 1 : Nat) : Int)))) (fun x => (rdp d x).2 && (decide (0 ≤ x) && decide (x < 4 * (n : Int)))) (fun x => (rdp d x).2 && decide (x / 4 = (n : Int))) us
      (fun x => by
        cases (rdp d x).2
        · rfl
        · rw [Bool.eq_iff_iff]
          simp only [Bool.true_and, Bool.or_eq_true, Bool.and_eq_true, decide_eq_true_eq]
          omega)
      (fun x hx => by
        cases (rdp d x).2
        · rfl
        · simp only [Bool.true_and, Bool.and_eq_true, decide_eq_true_eq, decide_eq_false_iff_not] at hx ⊢
          omega)
    rw [this]
    unfold cnt
    simp
theorem bcs_sum (d : List Bk) (t : List (List Int)) : (bcs d t).sum ≤ ((used t).length : Int) := by
  by_cases hv : dvOk d = true ∧ tabVal t = true
  · rw [bcs_yes hv.1 hv.2, cntN_sum]
    have := List.countP_le_length (p := fun x => (rdp d x).2 && (decide (0 ≤ x) && decide (x < 4 * (d.length : Int)))) (l := used t)
    omega
  · have e : bcs d t = [] := by unfold bcs; rw [if_neg hv]
    rw [e]
    simp
theorem bcs_lens (d : List Bk) (t : List (List Int)) : (bcs d t).length = 0 ∨ (bcs d t).length = d.length := by
  by_cases hv : dvOk d = true ∧ tabVal t = true
  · exact .inr (bcs_len_yes hv.1 hv.2)
  · left
    unfold bcs
    rw [if_neg hv]
    rfl
theorem asc_range {us : List Int} (h : us.Pairwise fun x y => x < y) (p : Nat → Bool) : ∀ M : Nat, (us.countP fun x => p x.toNat && (decide (0 ≤ x) && decide (x < (M : Int)))) ≤ (List.range M).countP p
  | 0 => by
    have : us.countP (fun x => p x.toNat && (decide (0 ≤ x) && decide (x < ((0 : Nat) : Int)))) = 0 := by
      rw [List.countP_eq_zero]
      intro x _ hx
      simp only [Bool.and_eq_true, decide_eq_true_eq] at hx
      omega
    omega
  | M + 1 => by
    have ih := asc_range h p M
    have e := countP_split (fun x => p x.toNat && (decide (0 ≤ x) && decide (x < ((M + 1 : Nat) : Int)))) (fun x => p x.toNat && (decide (0 ≤ x) && decide (x < (M : Int)))) (fun x => p x.toNat && decide (x = (M : Int))) us
      (fun x => by
        cases p x.toNat
        · rfl
        · rw [Bool.eq_iff_iff]
          simp only [Bool.true_and, Bool.or_eq_true, Bool.and_eq_true, decide_eq_true_eq]
          omega)
      (fun x hx => by
        cases hq : p x.toNat
        · rfl
        · rw [hq] at hx
          simp only [Bool.true_and, Bool.and_eq_true, decide_eq_true_eq, decide_eq_false_iff_not] at hx ⊢
          omega)
    rw [e, List.range_succ, List.countP_append]
    have h1 := asc_in us M (M + 1) h
    have h2 : us.countP (fun x => p x.toNat && decide (x = (M : Int))) ≤ [M].countP p := by
      cases hp : p M
      · have : us.countP (fun x => p x.toNat && decide (x = (M : Int))) = 0 := by
          rw [List.countP_eq_zero]
          intro x _ hx
          simp only [Bool.and_eq_true, decide_eq_true_eq] at hx
          obtain ⟨h1, rfl⟩ := hx
          rw [Int.toNat_natCast, hp] at h1
          cases h1
        omega
      · have h3 : us.countP (fun x => p x.toNat && decide (x = (M : Int))) ≤ us.countP fun x => decide ((M : Int) ≤ x) && decide (x < (M : Int) + 1) := by
          apply List.countP_mono_left
          intro x _ hx
          simp only [Bool.and_eq_true, decide_eq_true_eq] at hx ⊢
          omega
        have h4 : [M].countP p = 1 := by simp [hp]
        omega
    omega
theorem dpg_range {d : List Bk} (h : dvOk d = true) : dpg d = (List.range (4 * d.length)).map (dat d) := by
  apply List.ext_getElem?
  intro n
  by_cases hn : n < 4 * d.length
  · rw [dpg_get (dv4 h) hn]
    simp [hn]
  · rw [List.getElem?_eq_none (by rw [dpg_len (dv4 h)]; omega), List.getElem?_eq_none (by simp; omega)]
theorem bcs_full {d : List Bk} {t : List (List Int)} (h1 : dvOk d = true) (h2 : tabVal t = true) : (bcs d t).sum ≤ (nfull (dpg d) : Int) := by
  rw [bcs_yes h1 h2, cntN_sum]
  have e1 := asc_range (used_pair t) (fun n => (dat d n).full) (4 * d.length)
  have e2 : (used t).countP (fun x => (rdp d x).2 && (decide (0 ≤ x) && decide (x < 4 * (d.length : Int)))) ≤ (used t).countP (fun x => (dat d x.toNat).full && (decide (0 ≤ x) && decide (x < ((4 * d.length : Nat) : Int)))) := by
    apply List.countP_mono_left
    intro x _ hx
    simp only [Bool.and_eq_true, decide_eq_true_eq] at hx ⊢
    obtain ⟨h3, h4, h5⟩ := hx
    obtain ⟨n, rfl⟩ := Int.eq_ofNat_of_zero_le h4
    rw [rdp_full h1, Bool.and_eq_true] at h3
    rw [Int.toNat_natCast]
    exact ⟨h3.2, h4, by omega⟩
  have e3 : nfull (dpg d) = (List.range (4 * d.length)).countP fun n => (dat d n).full := by
    unfold nfull
    rw [dpg_range h1, List.countP_map]
    rfl
  omega
theorem old_is (d : List Bk) (t : List (List Int)) : old d t = -1 ∨ (0 ≤ old d t ∧ old d t ≤ 48 ∧ (0 ≤ frees d ∧ frees d ≤ 48) ∧ d.length ≤ 12 ∧ (0 ≤ (bcs d t).sum ∧ (bcs d t).sum ≤ 576) ∧ old d t + frees d + (bcs d t).sum = 4 * (d.length : Int)) := by
  by_cases hv : dvOk d = true ∧ tabVal t = true
  · right
    have h1 := bcs_full hv.1 hv.2
    have h2 := nfull_add (dpg d)
    have h3 := dpg_len (dv4 hv.1)
    have h4 := (dv_len hv.1).2
    have h5 := sumN_bcs d t (bcs d t).length
    rw [sumN_all (Nat.le_refl _)] at h5
    have e1 : frees d = (nfree (dpg d) : Int) := by unfold frees; rw [if_pos hv.1]
    have e2 : old d t = 4 * (d.length : Int) - frees d - (bcs d t).sum := by unfold old; rw [if_pos hv]
    omega
  · left
    unfold old
    rw [if_neg hv]

/-- What the least used block is. -/
theorem gvN_inv (d : List Bk) (cs : List Int) (h : Hd) : ∀ n : Nat, (gvN d cs h n = -1 ∨ ∃ m : Nat, gvN d cs h n = m ∧ m < n ∧ may d cs h m = true) ∧ ∀ k, k < n → may d cs h k = true → ∃ m : Nat, gvN d cs h n = m ∧ cs.getD m 0 ≤ cs.getD k 0
  | 0 => ⟨.inl rfl, fun k hk => by omega⟩
  | n + 1 => by
    obtain ⟨i1, i2⟩ := gvN_inv d cs h n
    by_cases hm : may d cs h n = true
    · rw [gvN_step hm]
      rcases i1 with e | ⟨m, e, hmn, hmm⟩
      · rw [e, if_pos (.inl (by omega))]
        refine ⟨.inr ⟨n, rfl, by omega, hm⟩, fun k hk hk2 => ?_⟩
        by_cases ek : k = n
        · exact ⟨n, rfl, by rw [ek]; exact Int.le_refl _⟩
        · obtain ⟨m, e2, -⟩ := i2 k (by omega) hk2
          omega
      · rw [e, Int.toNat_natCast]
        by_cases hc : cs.getD n 0 < cs.getD m 0
        · rw [if_pos (.inr hc)]
          refine ⟨.inr ⟨n, rfl, by omega, hm⟩, fun k hk hk2 => ⟨n, rfl, ?_⟩⟩
          by_cases ek : k = n
          · rw [ek]; exact Int.le_refl _
          · obtain ⟨m', e2, h2⟩ := i2 k (by omega) hk2
            have : m' = m := by omega
            rw [this] at h2
            omega
        · rw [if_neg (by omega)]
          refine ⟨.inr ⟨m, rfl, by omega, hmm⟩, fun k hk hk2 => ⟨m, rfl, ?_⟩⟩
          by_cases ek : k = n
          · rw [ek]; omega
          · obtain ⟨m', e2, h2⟩ := i2 k (by omega) hk2
            have : m' = m := by omega
            rw [this] at h2
            exact h2
    · have hm' : may d cs h n = false := by simpa using hm
      rw [gvN_no hm']
      refine ⟨?_, fun k hk hk2 => ?_⟩
      · rcases i1 with e | ⟨m, e, hmn, hmm⟩
        · exact .inl e
        · exact .inr ⟨m, e, by omega, hmm⟩
      · have ek : k ≠ n := fun e => by rw [e] at hk2; rw [hk2] at hm'; cases hm'
        exact i2 k (by omega) hk2
/-- What the best block is, where no score is negative. -/
theorem bvN_inv (d : List Bk) (cs : List Int) (h : Hd) (now : Int) (N : Nat) (hs : ∀ k, k < N → may d cs h k = true → 0 ≤ vscore (cs.getD k 0) (ageOf (d.getD k bk0) now)) : ∀ n : Nat, n ≤ N →
    (bvN d cs h now n = (-1, -1) ∨ ∃ m : Nat, (bvN d cs h now n).1 = m ∧ m < n ∧ may d cs h m = true ∧ 0 ≤ (bvN d cs h now n).2) ∧ ∀ k, k < n → may d cs h k = true → 0 ≤ (bvN d cs h now n).1
  | 0, _ => ⟨.inl rfl, fun k hk => by omega⟩
  | n + 1, hn => by
    obtain ⟨i1, i2⟩ := bvN_inv d cs h now N hs n (by omega)
    rw [bvN]
    split
    · rename_i hc
      exact ⟨.inr ⟨n, rfl, by omega, hc.1, hs n (by omega) hc.1⟩, fun k hk hk2 => by simp⟩
    · rename_i hc
      refine ⟨?_, fun k hk hk2 => ?_⟩
      · rcases i1 with e | ⟨m, e, h1, h2, h3⟩
        · exact .inl e
        · exact .inr ⟨m, e, by omega, h2, h3⟩
      · by_cases ek : k = n
        · subst ek
          have hsk := hs k (by omega) hk2
          rcases i1 with e | ⟨m, e, h1, h2, h3⟩
          · rw [e] at hc
            exact absurd ⟨hk2, by simp only; omega⟩ hc
          · omega
        · exact i2 k (by omega) hk2
theorem vscore_pos {u a : Int} (h0 : 0 ≤ u) (h1 : u ≤ 4) (h2 : 0 ≤ a) (h3 : a ≤ 1000000) : 0 ≤ vscore u a := by
  unfold vscore
  rw [if_pos ⟨h0, h1, h2, h3⟩]
  exact Int.ediv_nonneg (Int.mul_nonneg h2 (by omega)) (by omega)

/-- A place of a table that names pages. -/
theorem tof_get {d : List Bk} (hv : dvOk d = true) {m : Nat} (hm : m < 4 * d.length) (hf : (dat d m).full = true) :
    ∃ m' : Nat, tget (tof d) (dat d m).file (dat d m).place = m' ∧ rdp d m' = (dat d m', true) ∧ (dat d m').full = true ∧ (dat d m).stamp ≤ (dat d m').stamp ∧ (dat d m').file = (dat d m).file ∧ (dat d m').place = (dat d m).place := by
  obtain ⟨⟨f0, f1⟩, ⟨p0, p1⟩, -⟩ := pgOk_full (dat_ok hv hm) hf
  obtain ⟨m', h1, h2, h3⟩ := tof_new hv hm hf
  generalize (dat d m).file = f at f0 f1 h2 ⊢
  generalize (dat d m).place = p at p0 p1 h2 ⊢
  obtain ⟨f, rfl⟩ := Int.eq_ofNat_of_zero_le f0
  obtain ⟨p, rfl⟩ := Int.eq_ofNat_of_zero_le p0
  rw [Int.toNat_natCast, Int.toNat_natCast] at h2
  rcases tof_ent hv (f := f) (p := p) (by omega) (by omega) with e | ⟨m2, g1, g2, g3, g4, g5⟩
  · omega
  · have em : m2 = m' := by omega
    subst em
    refine ⟨m2, ?_, by rw [rdp_in hv g1, g3], g3, h3, g4, g5⟩
    unfold tget
    rw [if_pos ⟨tof_val hv, by unfold inFP inB; simp; omega⟩, Int.toNat_natCast, Int.toNat_natCast, h2]
/-- The file's values are there. -/
theorem tof_vals {d : List Bk} (hv : dvOk d = true) {f : Nat} (hf : f < 8) : (fvs d (tof d) f).2 = true := by
  obtain ⟨n, hn, hn6, -⟩ := fsz_nat (tof_val hv) hf
  have key : ∀ k, k ≤ 6 → ∃ l, fvN d (tof d) f k = some l := by
    intro k
    induction k with
    | zero => exact fun _ => ⟨[], rfl⟩
    | succ k ih =>
      intro hk
      obtain ⟨l, hl⟩ := ih (by omega)
      have hx : ∃ x, fval d (tof d) f k = some x := by
        unfold fval
        rcases tof_ent hv (f := f) (p := k) hf (by omega) with e | ⟨m, g1, g2, g3, g4, g5⟩
        · rw [if_pos (by omega)]; exact ⟨0, rfl⟩
        · rw [if_neg (by omega), g2, rdp_in hv g1, if_pos ⟨g3, g4, g5⟩]
          exact ⟨_, rfl⟩
      obtain ⟨x, hx⟩ := hx
      exact ⟨_, fvN_yes hl hx⟩
  obtain ⟨l, hl⟩ := key n hn6
  rw [fvs_yes hv hn hl]
theorem rdp_neg {d : List Bk} {x : Int} (h : x < 0) : rdp d x = (pg0, false) := rdp_out (.inr (.inl h))
/-- Values are those of pages. -/
theorem fvs_at {d : List Bk} {t : List (List Int)} {f : Int} (h : (fvs d t f).2 = true) : ((fvs d t f).1.length : Int) = fsz t f ∧ ∀ (k : Nat) (x : Int), (fvs d t f).1[k]? = some x → (rdp d (tget t f k)).1.value = x := by
  by_cases h1 : dvOk d = true
  · by_cases h2 : fsz t f < 0
    · rw [fvs_neg h2] at h; cases h
    · obtain ⟨ht, f0, f1⟩ := fsz_ok h2
      obtain ⟨f, rfl⟩ := Int.eq_ofNat_of_zero_le f0
      obtain ⟨n, hn, hn6, -⟩ := fsz_nat ht (f := f) (by omega)
      cases hl : fvN d t f n with
      | none => rw [fvs_no h1 hn hl] at h; cases h
      | some l =>
        rw [fvs_yes h1 hn hl, hn]
        refine ⟨by simp only; rw [fvN_len hl], fun k x hx => ?_⟩
        simp only at hx
        have key : ∀ (n : Nat) (l : List Int), fvN d t f n = some l → ∀ (k : Nat) (x : Int), l[k]? = some x → fval d t f k = some x ∧ k < n := by
          intro n
          induction n with
          | zero => intro l hl k x hx; simp only [fvN, Option.some.injEq] at hl; rw [← hl] at hx; simp at hx
          | succ n ih =>
            intro l hl k x hx
            cases e1 : fvN d t f n with
            | none => simp only [fvN, e1] at hl; cases hl
            | some l1 =>
              cases e2 : fval d t f n with
              | none => simp only [fvN, e1, e2] at hl; cases hl
              | some y =>
                simp only [fvN, e1, e2, Option.some.injEq] at hl
                rw [← hl] at hx
                have hl1 := fvN_len e1
                by_cases hk : k < l1.length
                · rw [List.getElem?_append_left hk] at hx
                  have := ih l1 e1 k x hx
                  exact ⟨this.1, by omega⟩
                · have hkl := (List.getElem?_eq_some_iff.1 hx).1
                  rw [List.length_append, List.length_singleton] at hkl
                  have ek : k = l1.length := by omega
                  rw [ek, List.getElem?_append_right (Nat.le_refl _)] at hx
                  simp at hx
                  subst hx
                  rw [ek, hl1]
                  exact ⟨e2, by omega⟩
        obtain ⟨h3, h4⟩ := key n l hl k x hx
        have e : tget t (f : Int) (k : Int) = tat t f k := by
          unfold tget
          rw [if_pos ⟨ht, by unfold inFP inB; simp; omega⟩, Int.toNat_natCast, Int.toNat_natCast]
        rw [e]
        unfold fval at h3
        by_cases h5 : tat t f k < 0
        · rw [if_pos h5] at h3
          rw [rdp_neg h5]
          exact Option.some.inj h3
        · rw [if_neg h5] at h3
          split at h3
          · exact Option.some.inj h3
          · cases h3
  · rw [fvs_dv (by simpa using h1)] at h; cases h
theorem fvs_none {d : List Bk} {t : List (List Int)} {f : Int} (h : (fvs d t f).2 = false) : (fvs d t f).1 = [] := by
  unfold fvs at h ⊢
  split at h
  · rename_i hc
    rw [if_pos hc]
    cases hl : fvN d t f.toNat (fsz t f).toNat with
    | none => rfl
    | some l => rw [hl] at h; cases h
  · rename_i hc
    rw [if_neg hc]

end Go.Proofs.Ytjmofmdcegefgaa

namespace Go.Proofs.Ytjmofmdcegefgaa
open Go.RowKit

set_option maxHeartbeats 1000000 in
theorem specAge_any (v : Value) (b : Bk) (now : Int) (lo hi : Nat) (w : World) (h : RB1 w lo hi v b) (hk : bkOk b = true) (hn0 : 0 ≤ now) (hn1 : now ≤ 1000000) :
    Calls Try.prog 58 #[v, .int .i64 now] w fun e w' => e = .returned (.int .i64 (ageOf b now)) ∧ Below w.heap.size w w' := by
  obtain ⟨s, rfl, hw, hp⟩ := h
  obtain ⟨a, cap, b0, off, rfl, q1, q2, q3, q4⟩ := hp.open
  have h4 := (bkOk_iff.1 hk).2.1
  have HL := Lib.hid (lastN_bd hk)
  have HB0 := Lib.hid (balloc w (.cells #[.int .i64 b.wear, .slice a b.pages.length cap] 44))
  have X0 := Lib.hid (heap_alloc_new w (.cells #[.int .i64 b.wear, .slice a b.pages.length cap] 44))
  have Q4 := Lib.hid q4
  have hx : b.pages.length ≤ 1048576 := by omega
  clear hp q4 hk h4
  go_enter Try.func58, Try.ntmps58
  go_wp2_with fail
  go_loopw [5, 6] (fun m i wr => ∃ k : Nat, k ≤ b.pages.length ∧ i = .int .i64 k ∧ m = .int .i64 (lastN b.pages k) ∧ Below w.heap.size w wr ∧ wr.heap[w.heap.size]? = some (.cells #[.int .i64 b.wear, .slice a b.pages.length cap] 44)) (fun _ i _ => b.pages.length - (intOf i).toNat)
  case atStart => exact ⟨0, Nat.zero_le _, rfl, rfl, HB0.out, X0.out⟩
  case round =>
    obtain ⟨k, hk, rfl, rfl, hbr, hbx⟩ := hrel
    have HR := Lib.hid (And.intro hbr hbx)
    obtain ⟨⟨d1, d2⟩, -⟩ := two_at hbx
    clear hbr hbx
    have hbd := HL.out k
    by_cases hlt : k < b.pages.length
    · obtain rfl := q3 (by omega)
      have hki : (k : Int) < (b.pages.length : Int) := by omega
      obtain ⟨e0, e1, e2, e3, e4⟩ := (Q4.out k hlt).below HR.out.1
      have hst := lastN_step hlt
      generalize b.pages[k] = p at e0 e1 e2 e3 e4 hst
      have HN := Lib.hid hst
      clear hst q3
      go_wp2_with fail
      go_roundw
      case rel => exact ⟨k + 1, by omega, by go_num, by rw [HN.out], HR.out.1, HR.out.2⟩
      case measure => simp [intOf]; omega
    · have hki : ¬ (k : Int) < (b.pages.length : Int) := by omega
      obtain rfl : k = b.pages.length := by omega
      go_wp2_with fail
      go_ret
      exact ⟨rfl, HR.out.1⟩

end Go.Proofs.Ytjmofmdcegefgaa

