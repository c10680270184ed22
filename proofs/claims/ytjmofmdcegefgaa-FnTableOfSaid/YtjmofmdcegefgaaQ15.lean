/-
  Texts of this claim, laid together: Srt, Tbe, Upp, Bcp, Gvp, Fvp.
-/
import Derived.Shelf.Sort.Plain
import Derived.Shelf.Slices.In.SortNone
import Derived.Sort.OwnSortedInts
import Derived.Test.YtjmofmdcegefgaaQ02
import Derived.Test.YtjmofmdcegefgaaQ07
import Derived.Test.YtjmofmdcegefgaaQ11
import Derived.Test.YtjmofmdcegefgaaQ13
import Derived.Test.YtjmofmdcegefgaaQ14
namespace Go.Proofs
open Go.Shelf
def Try.lays189_ren : Go.Shelf.Ren := ⟨fun | 189 => 67 | 125 => 80 | 257 => 79 | 128 => 100 | 129 => 101 | 294 => 91 | 295 => 92 | 296 => 93 | 297 => 94 | 298 => 95 | 299 => 96 | 216 => 97 | 300 => 98 | 301 => 99 | 328 => 103 | 329 => 104 | 330 => 105 | 331 => 106 | 332 => 107 | 215 => 108 | 343 => 109 | n => n, fun | 28 => 31 | 3 => 3 | 46 => 99 | 0 => 0 | 51 => 122 | 53 => 124 | 4 => 4 | 183 => 114 | 182 => 113 | 131 => 119 | 5 => 5 | 9 => 9 | 218 => 126 | 222 => 130 | 228 => 132 | 229 => 133 | n => n, fun | n => n⟩
theorem Try.lays189 : Go.Proofs.Lays.n189 Try.prog Try.lays189_ren := {
  mixed := by kernel_rfl
  f125 := Try.func80.trans (congrArg some (by kernel_rfl))
  f128 := Try.func100.trans (congrArg some (by kernel_rfl))
  f129 := Try.func101.trans (congrArg some (by kernel_rfl))
  f189 := Try.func67.trans (congrArg some (by kernel_rfl))
  f215 := Try.func108.trans (congrArg some (by kernel_rfl))
  f216 := Try.func97.trans (congrArg some (by kernel_rfl))
  f257 := Try.func79.trans (congrArg some (by kernel_rfl))
  f294 := Try.func91.trans (congrArg some (by kernel_rfl))
  f295 := Try.func92.trans (congrArg some (by kernel_rfl))
  f296 := Try.func93.trans (congrArg some (by kernel_rfl))
  f297 := Try.func94.trans (congrArg some (by kernel_rfl))
  f298 := Try.func95.trans (congrArg some (by kernel_rfl))
  f299 := Try.func96.trans (congrArg some (by kernel_rfl))
  f300 := Try.func98.trans (congrArg some (by kernel_rfl))
  f301 := Try.func99.trans (congrArg some (by kernel_rfl))
  f328 := Try.func103.trans (congrArg some (by kernel_rfl))
  f329 := Try.func104.trans (congrArg some (by kernel_rfl))
  f330 := Try.func105.trans (congrArg some (by kernel_rfl))
  f331 := Try.func106.trans (congrArg some (by kernel_rfl))
  f332 := Try.func107.trans (congrArg some (by kernel_rfl))
  f343 := Try.func109.trans (congrArg some (by kernel_rfl))
  t0 := Try.underlying0
  a0 := Try.isAgg0
  z0 := Try.sizeOf0
  v0 := Try.zeroValue0
  t3 := Try.underlying3
  a3 := Try.isAgg3
  z3 := Try.sizeOf3
  v3 := Try.zeroValue3
  t4 := Try.underlying4
  a4 := Try.isAgg4
  z4 := Try.sizeOf4
  v4 := Try.zeroValue4
  t5 := Try.underlying5
  a5 := Try.isAgg5
  z5 := Try.sizeOf5
  v5 := Try.zeroValue5
  t9 := Try.underlying9
  a9 := Try.isAgg9
  z9 := Try.sizeOf9
  v9 := Try.zeroValue9
  t28 := Try.underlying31
  a28 := Try.isAgg31
  z28 := Try.sizeOf31
  v28 := Try.zeroValue31
  t46 := Try.underlying99
  a46 := Try.isAgg99
  z46 := Try.sizeOf99
  v46 := Try.zeroValue99
  t51 := Try.underlying122
  a51 := Try.isAgg122
  z51 := Try.sizeOf122
  v51 := Try.zeroValue122
  t53 := Try.underlying124
  a53 := Try.isAgg124
  z53 := Try.sizeOf124
  v53 := Try.zeroValue124
  t131 := Try.underlying119
  a131 := Try.isAgg119
  z131 := Try.sizeOf119
  v131 := Try.zeroValue119
  t182 := Try.underlying113
  a182 := Try.isAgg113
  z182 := Try.sizeOf113
  v182 := Try.zeroValue113
  t183 := Try.underlying114
  a183 := Try.isAgg114
  z183 := Try.sizeOf114
  v183 := Try.zeroValue114
  t218 := Try.underlying126
  a218 := Try.isAgg126
  z218 := Try.sizeOf126
  v218 := Try.zeroValue126
  t222 := Try.underlying130
  a222 := Try.isAgg130
  z222 := Try.sizeOf130
  v222 := Try.zeroValue130
  t228 := Try.underlying132
  a228 := Try.isAgg132
  z228 := Try.sizeOf132
  v228 := Try.zeroValue132
  t229 := Try.underlying133
  a229 := Try.isAgg133
  z229 := Try.sizeOf133
  v229 := Try.zeroValue133 }
open Go.Sort Go.RowKit in
theorem Try.slices_Sort_int (blk off cap : Nat) (zs : List Int) (w : World) (hH : Holds (Value.int .i64) w blk off zs.toArray) (hblk : blk < w.heap.size) (hsz : zs.length < 4611686018427387904) :
    Calls Try.prog 67 #[.slice (some ⟨blk, off, none⟩) zs.length cap] w fun e w' =>
      e = .returned (.tuple #[]) ∧ ∃ n os, w' = grow (putRow (Value.int .i64) (Sort.ahead w n) blk off (zs.mergeSort fun x y => decide (x ≤ y)).toArray) os := Any.slices_Sort_int Try.lays189 blk off cap zs w hH hblk hsz
end Go.Proofs
namespace Go.Proofs.Ytjmofmdcegefgaa
open Go.RowKit Go.Sort

/-- The numbers in order. -/
def srt (xs : List Int) : List Int := xs.mergeSort fun x y => decide (x ≤ y)
theorem srt_perm (xs : List Int) : (srt xs).Perm xs := List.mergeSort_perm _ _
theorem srt_len (xs : List Int) : (srt xs).length = xs.length := (srt_perm xs).length_eq
theorem srt_sorted (xs : List Int) : (srt xs).Pairwise fun x y => x ≤ y := by
  have := List.pairwise_mergeSort (le := fun x y : Int => decide (x ≤ y)) (by intro a b c h1 h2; simp at *; omega) (by intro a b; simp; omega) xs
  exact this.imp fun h => by simpa using h

/-- A row of the call's own, put in order. -/
theorem sort_any (v : Value) (xs : List Int) (lo : Nat) (w : World) (h : OI w lo v xs) (hx : xs.length ≤ 1048576) :
    Calls Try.prog 67 #[v] w fun e w' => e = .returned (.tuple #[]) ∧ OI w' lo v (srt xs) ∧ Chg (fun b => v.ownBlock = some b) w w' := by
  have hs : I64s (srt xs) := fun x hx => h.2 x ((srt_perm xs).mem_iff.1 hx)
  rcases h.1.2 with ⟨rfl, h0⟩ | ⟨g, cap, cur, rfl, hbase, hb, h1, h2, h3, h4⟩
  · obtain rfl : xs = [] := by cases xs with | nil => rfl | cons _ _ => simp at h0
    refine (Any.slices_Sort_int_none Try.lays189 none 0 w).mono ?_
    rintro e w' ⟨rfl, rfl⟩
    exact ⟨rfl, ⟨by simpa [srt] using h.1, hs⟩, Chg.refl _ _⟩
  · have hH : Holds (Value.int .i64) w g 0 xs.toArray := holds_of_blockI hb (by simpa using h4)
    refine (Try.slices_Sort_int g 0 cap xs w hH (Array.getElem?_eq_some_iff.1 hb).1 (by omega)).mono ?_
    rintro e w' ⟨rfl, n, os, rfl⟩
    have ho := ownsRow_sortedI (n := n) (os := os) (ts := srt xs) (ss := xs) (srt_len xs) hbase hb h1 h2 h3
    have hg := grownBy_sortedI (w := w) (g := g) (n := n) (os := os) (srt xs).toArray
    refine ⟨rfl, ⟨by rw [srt_len]; exact ho, hs⟩, (Chg.refl _ w).grown hg (fun k hk => .inr hk)⟩

end Go.Proofs.Ytjmofmdcegefgaa

namespace Go.Proofs.Ytjmofmdcegefgaa
open Go.RowKit

theorem zip_ne (a b : List Int) : tdif a b = tdif b a := by
  unfold tdif
  induction a generalizing b with
  | nil => cases b <;> rfl
  | cons x a ih =>
    cases b with
    | nil => rfl
    | cons y b =>
      rw [List.zip_cons_cons, List.zip_cons_cons, List.countP_cons, List.countP_cons, ih b]
      have : (x == y) = (y == x) := by
        by_cases e : x = y
        · rw [e]
        · have e' : ¬ y = x := fun h => e h.symm
          rw [beq_eq_false_iff_ne.2 e, beq_eq_false_iff_ne.2 e']
      rw [this]
theorem tdif_zero {a b : List Int} (h : a.length = b.length) : tdif a b = 0 ↔ a = b := by
  unfold tdif
  induction a generalizing b with
  | nil => cases b with | nil => simp | cons _ _ => simp at h
  | cons x a ih =>
    cases b with
    | nil => simp at h
    | cons y b =>
      rw [List.zip_cons_cons, List.countP_cons, List.cons.injEq]
      have := ih (b := b) (by simpa using h)
      by_cases e : x = y
      · subst e; simp [this]
      · simp [e]
theorem flat_inj {t u : List (List Int)} (ht : tabVal t = true) (hu : tabVal u = true) (h : t.flatten = u.flatten) : t = u := by
  have a := tabVal_iff.1 ht
  have b := tabVal_iff.1 hu
  refine List.ext_getElem (by omega) fun f h1 h2 => ?_
  have r1 := tab_row ht h1
  have r2 := tab_row hu h2
  refine List.ext_getElem (by omega) fun p g1 g2 => ?_
  have e1 := flat_get a.2.1 h1 g1
  have e2 := flat_get b.2.1 h2 g2
  rw [h, e2] at e1
  exact (Option.some.inj e1).symm
theorem tchg_comm (a b : List (List Int)) : tchg a b = tchg b a := by
  unfold tchg
  rw [zip_ne]
  by_cases h : tabVal a = true ∧ tabVal b = true
  · rw [if_pos h, if_pos h.symm]
  · rw [if_neg h, if_neg fun x => h x.symm]
theorem tchg_ge (a b : List (List Int)) : -1 ≤ tchg a b := by unfold tchg; split <;> omega
theorem tchg_val {a b : List (List Int)} (h : ¬ tchg a b < 0) : tabVal a = true ∧ tabVal b = true := by
  unfold tchg at h
  split at h
  · assumption
  · omega
theorem flat48 {t : List (List Int)} (h : tabVal t = true) : t.flatten.length = 48 := by
  have a := tabVal_iff.1 h
  rw [flat_len a.2.1]; omega
theorem tchg_zero {a b : List (List Int)} (ha : tabVal a = true) (hb : tabVal b = true) : (tchg a b == 0) = decide (a = b) := by
  unfold tchg
  rw [if_pos ⟨ha, hb⟩, Bool.eq_iff_iff, beq_iff_eq, decide_eq_true_eq]
  have : tdif a.flatten b.flatten = 0 ↔ a.flatten = b.flatten := tdif_zero (by rw [flat48 ha, flat48 hb])
  constructor
  · intro h; exact flat_inj ha hb (this.1 (by omega))
  · rintro rfl; have := this.2 rfl; omega
theorem tchg_self {a : List (List Int)} (ha : tabVal a = true) : tchg a a = 0 := by
  have := tchg_zero ha ha
  simpa using this

theorem tcut_val {t : List (List Int)} (h : tabVal t = true) {f p : Nat} (hf : f < t.length) (hp : p ≤ 6) : tabVal (tcut t f p) = true := by
  have h8 := tab_len h
  have h6 := tab_row h hf
  rw [tcut_in h hf hp, ← rcn_end t[f] p 6 (by omega) (by omega)]
  have key : ∀ n, p + n ≤ 6 → tabVal (t.set f (rcn t[f] p (p + n))) = true := by
    intro n
    induction n with
    | zero => intro _; rw [Nat.add_zero, rcn_start]; simpa using h
    | succ n ih =>
      intro hn
      have h1 := ih (by omega)
      have hl : f < (t.set f (rcn t[f] p (p + n))).length := by simpa using hf
      have := tput_val h1 (f := f) (p := p + n) (by omega) (by omega) (x := -1) (by omega)
      rw [tset_eq hl, List.getElem_set_self, List.set_set, rcn_step _ _ _ (by omega)] at this
      rw [show p + (n + 1) = p + n + 1 by omega, this]
      simp [elsewhere]
  have := key (6 - p) (by omega)
  rwa [show p + (6 - p) = 6 by omega] at this
theorem tcut_bad {t : List (List Int)} {f p : Int} (h : tabVal (tcut t f p) = false) : tcut t f p = [] := by
  by_cases hg : tabVal t = true ∧ (0 ≤ f ∧ f ≤ 7) ∧ (0 ≤ p ∧ p ≤ 6)
  · obtain ⟨hv, hf, hp⟩ := hg
    obtain ⟨f, rfl⟩ := Int.eq_ofNat_of_zero_le hf.1
    obtain ⟨p, rfl⟩ := Int.eq_ofNat_of_zero_le hp.1
    have h8 := tab_len hv
    rw [tcut_val hv (by omega) (by omega)] at h
    cases h
  · exact tcut_out hg
theorem tcut_ok {t : List (List Int)} {f p : Int} (h : tabVal (tcut t f p) = true) : tabVal t = true ∧ (0 ≤ f ∧ f ≤ 7) ∧ (0 ≤ p ∧ p ≤ 6) := by
  by_cases hg : tabVal t = true ∧ (0 ≤ f ∧ f ≤ 7) ∧ (0 ≤ p ∧ p ≤ 6)
  · exact hg
  · rw [tcut_out hg] at h
    exact absurd h (by decide)
theorem rcut_at {l : List Int} {p k : Nat} (hl : k < l.length) : (rcut l p).getD k 0 = if p ≤ k then -1 else l.getD k 0 := by
  unfold rcut
  simp only [List.getD_eq_getElem?_getD]
  by_cases h : p ≤ k
  · rw [if_pos h, List.getElem?_append_right (by simp; omega), List.getElem?_replicate, if_pos (by simp; omega)]; rfl
  · rw [if_neg h, List.getElem?_append_left (by simp; omega), List.getElem?_take, if_pos (by omega)]
theorem tget_tat {t : List (List Int)} (hv : tabVal t = true) {r k : Nat} (hr : r < 8) (hk : k < 6) : tget t r k = tat t r k := by
  unfold tget
  rw [if_pos ⟨hv, by simp [inFP, inB]; omega⟩]
  simp
theorem tat_set_row (t : List (List Int)) (row : List Int) {f r : Nat} (hf : f < t.length) (k : Nat) : tat (t.set f row) r k = if r = f then row.getD k 0 else tat t r k := by
  unfold tat
  by_cases e : r = f
  · subst e
    rw [if_pos rfl, getD_at (by rw [List.length_set]; exact hf), List.getElem_set_self]
  · rw [if_neg e]
    simp only [List.getD_eq_getElem?_getD]
    rw [List.getElem?_set_ne (fun x => e x.symm)]
theorem tget_cut {t : List (List Int)} (hv : tabVal t = true) {f p : Nat} (hf : f < 8) (hp : p ≤ 6) {r k : Nat} (hr : r < 8) (hk : k < 6) : tget (tcut t f p) r k = if r = f ∧ p ≤ k then -1 else tget t r k := by
  have h8 := tab_len hv
  have hft : f < t.length := by omega
  have h6 := tab_row hv hft
  rw [tget_tat (tcut_val hv hft hp) hr hk, tget_tat hv hr hk, tcut_in hv hft hp, tat_set_row t _ hft]
  by_cases e : r = f
  · subst e
    rw [if_pos rfl, rcut_at (by omega)]
    by_cases h : p ≤ k
    · rw [if_pos h, if_pos ⟨rfl, h⟩]
    · rw [if_neg h, if_neg fun x => h x.2]
      unfold tat
      rw [getD_at hft]
  · rw [if_neg e, if_neg fun x => e x.1]

theorem rsz_pre {l : List Int} : ∀ n, n ≤ l.length → (∀ k (hk : k < l.length), rsz (l.take n) ≤ k → k < n → l[k] < 0) ∧ rsz (l.take n) ≤ n ∧ (0 < rsz (l.take n) → 0 ≤ l.getD (rsz (l.take n) - 1) 0)
  | 0, _ => by simp [rsz, rszR]
  | n + 1, hn => by
    have hl : n < l.length := by omega
    obtain ⟨h1, h2, h3⟩ := rsz_pre (l := l) n (by omega)
    rw [rsz_take hl]
    by_cases h0 : 0 ≤ l[n]
    · rw [if_pos h0]
      refine ⟨fun k hk a b => by omega, Nat.le_refl _, fun _ => ?_⟩
      rw [Nat.add_sub_cancel, List.getD_eq_getElem?_getD, List.getElem?_eq_getElem hl]
      exact h0
    · rw [if_neg h0]
      refine ⟨fun k hk a b => ?_, by omega, h3⟩
      by_cases e : k = n
      · subst e; omega
      · exact h1 k hk a (by omega)
theorem rsz_none {l : List Int} {k : Nat} (hk : k < l.length) (h : rsz l ≤ k) : l[k] < 0 := by
  have := (rsz_pre (l := l) l.length (Nat.le_refl _)).1
  rw [List.take_length] at this
  exact this k hk h hk
theorem rsz_some {l : List Int} (h : 0 < rsz l) : ∃ hk : rsz l - 1 < l.length, 0 ≤ l[rsz l - 1] := by
  have hle := rsz_le l
  have hk : rsz l - 1 < l.length := by omega
  have := (rsz_pre (l := l) l.length (Nat.le_refl _)).2.2
  rw [List.take_length] at this
  have h2 := this h
  rw [List.getD_eq_getElem?_getD, List.getElem?_eq_getElem hk] at h2
  exact ⟨hk, h2⟩

/-- FileSize and TableGet. -/
theorem fsz_ge (t : List (List Int)) (f : Int) : -1 ≤ fsz t f := by unfold fsz; split <;> omega
theorem fsz_ok {t : List (List Int)} {f : Int} (h : ¬ fsz t f < 0) : tabVal t = true ∧ 0 ≤ f ∧ f ≤ 7 := by
  unfold fsz at h
  split at h
  · rename_i hg; exact ⟨hg.1, (inB_iff.1 hg.2).1, (inB_iff.1 hg.2).2⟩
  · omega
theorem fsz_nat {t : List (List Int)} {f : Nat} (hv : tabVal t = true) (hf : f < 8) : ∃ n : Nat, fsz t f = n ∧ n ≤ 6 ∧ (∀ k : Nat, n ≤ k → k < 6 → tget t f k = -1) ∧ (0 < n → 0 ≤ tget t f (n - 1 : Nat)) := by
  have h8 := tab_len hv
  have hft : f < t.length := by omega
  have h6 := tab_row hv hft
  have hle := rsz_le t[f]
  refine ⟨rsz t[f], fsz_in hv hft, by omega, fun k hk hk6 => ?_, fun h0 => ?_⟩
  · rw [tget_in hv hft (by omega)]
    have := rsz_none (l := t[f]) (by omega) hk
    have := tab_at hv hft (show k < t[f].length by omega)
    omega
  · obtain ⟨hk, h1⟩ := rsz_some h0
    rw [tget_in hv hft hk]
    exact h1
theorem mem_hol {l : List Int} {n k : Nat} (hk : k < n) : ((k : Int) ∈ hol l n) ↔ l.getD k 0 < 0 := by
  unfold hol
  simp only [List.mem_map, List.mem_filter, List.mem_range, decide_eq_true_eq]
  constructor
  · rintro ⟨j, ⟨h1, h2⟩, h3⟩
    have : j = k := by omega
    subst this; exact h2
  · intro h; exact ⟨k, ⟨hk, h⟩, rfl⟩

/-- FileHoles and FileSize. -/
theorem holes_mem {t : List (List Int)} {f k : Nat} (hv : tabVal t = true) (hf : f < 8) (hk : (k : Int) < fsz t f) : decide ((k : Int) ∈ holes t f) = decide (tget t f k < 0) := by
  have h8 := tab_len hv
  have hft : f < t.length := by omega
  have h6 := tab_row hv hft
  have hle := rsz_le t[f]
  rw [fsz_in hv hft] at hk
  have hk2 : k < t[f].length := by omega
  rw [Bool.eq_iff_iff, decide_eq_true_eq, decide_eq_true_eq, holes_in hv hft, mem_hol (by omega), tget_in hv hft hk2]
  simp [hk2]
theorem holes_len (t : List (List Int)) (f : Int) : ((holes t f).length : Int) ≤ max 0 (fsz t f - 1) := by
  by_cases hg : tabVal t = true ∧ 0 ≤ f ∧ f ≤ 7
  · obtain ⟨hv, f0, f1⟩ := hg
    obtain ⟨f, rfl⟩ := Int.eq_ofNat_of_zero_le f0
    have h8 := tab_len hv
    have hft : f < t.length := by omega
    rw [fsz_in hv hft, holes_in hv hft]
    by_cases h0 : 0 < rsz t[f]
    · obtain ⟨hk, h1⟩ := rsz_some h0
      have e : rsz t[f] = (rsz t[f] - 1) + 1 := by omega
      have h2 := hol_no (l := t[f]) hk (by omega)
      rw [← e] at h2
      rw [h2]
      have := hol_len t[f] (rsz t[f] - 1)
      omega
    · have e : rsz t[f] = 0 := by omega
      rw [e]
      simp only [hol, List.range_zero, List.filter_nil, List.map_nil, List.length_nil]
      omega
  · have e : holes t f = [] := by
      by_cases hv : tabVal t = true
      · exact holes_out fun h => hg ⟨hv, h⟩
      · exact holes_bad (by simpa using hv)
    rw [e]
    simp
    omega

/-- TablePut. -/
theorem tput_cases (t : List (List Int)) (f p x : Int) :
    ((tput t f p x).2 = false ∧ ((tput t f p x).1 = t ∨ (tput t f p x).1 = [])) ∨
    ((tput t f p x).2 = true ∧ tabVal t = true ∧ (0 ≤ f ∧ f ≤ 7) ∧ (0 ≤ p ∧ p ≤ 5) ∧ (-1 ≤ x ∧ x ≤ 47) ∧ tabVal (tset t f.toNat p.toNat x) = true ∧ (tput t f p x).1 = tset t f.toNat p.toNat x) := by
  unfold tput
  split
  · rename_i h
    obtain ⟨h1, h2, h3⟩ := h
    simp only [inFP, Bool.and_eq_true, inB_iff] at h2 h3
    split
    · rename_i h4
      exact .inr ⟨rfl, h1, h2.1, h2.2, h3, h4, rfl⟩
    · exact .inl ⟨rfl, .inl rfl⟩
  · exact .inl ⟨rfl, .inr rfl⟩
theorem tget_set {t : List (List Int)} {f p : Nat} {x : Int} (hv : tabVal t = true) (hv2 : tabVal (tset t f p x) = true) (hf : f < 8) (hp : p < 6) : tget (tset t f p x) f p = x := by
  have h8 := tab_len hv
  have hft : f < t.length := by omega
  have h6 := tab_row hv hft
  rw [tget_tat hv2 hf hp, tset_eq hft, tat_set_row t _ hft, if_pos rfl]
  have : p < t[f].length := by omega
  simp [this]
theorem tdif_set (l : List Int) (i : Nat) (x : Int) : tdif l (l.set i x) ≤ 1 := by
  unfold tdif
  induction l generalizing i with
  | nil => simp
  | cons a l ih =>
    have self : ∀ l : List Int, (l.zip l).countP (fun q => !(q.1 == q.2)) = 0 := by
      intro l
      induction l with
      | nil => rfl
      | cons a l ih => rw [List.zip_cons_cons, List.countP_cons, ih]; simp
    cases i with
    | zero =>
      rw [List.set_cons_zero, List.zip_cons_cons, List.countP_cons, self]
      split <;> omega
    | succ i =>
      rw [List.set_cons_succ, List.zip_cons_cons, List.countP_cons]
      have := ih i
      simp only [BEq.rfl, Bool.not_true]
      simpa using this
theorem tchg_set {t : List (List Int)} {f p : Nat} {x : Int} (hv : tabVal t = true) (hv2 : tabVal (tset t f p x) = true) (hf : f < 8) (hp : p < 6) : tchg t (tset t f p x) ≤ 1 := by
  have h8 := tab_len hv
  have hft : f < t.length := by omega
  have h6 := tab_row hv hft
  unfold tchg
  rw [if_pos ⟨hv, hv2⟩, tset_eq hft, flat_set (tabVal_iff.1 hv).2.1 hft (by omega)]
  have := tdif_set t.flatten (f * 6 + p) x
  omega
theorem tput_back {t : List (List Int)} {f p : Nat} {x : Int} (hv : tabVal t = true) (hv2 : tabVal (tset t f p x) = true) (hf : f < 8) (hp : p < 6) : tput (tset t f p x) f p (tget t f p) = (t, true) := by
  have h8 := tab_len hv
  have hft : f < t.length := by omega
  have h6 := tab_row hv hft
  have hpt : p < t[f].length := by omega
  have h82 := tab_len hv2
  have ha := tab_at hv hft hpt
  have e : (tset t f p x).set f ((tset t f p x)[f]'(by omega) |>.set p (tget t f p)) = t := by
    rw [tget_in hv hft hpt]
    simp only [tset_eq hft, List.getElem_set_self, List.set_set, List.set_getElem_self]
  have hf2 : f < (tset t f p x).length := by omega
  rw [tget_in hv hft hpt] at e ⊢
  rw [tput_in hv2 hf2 (by omega) ha.1 ha.2, e, if_pos hv]

end Go.Proofs.Ytjmofmdcegefgaa

namespace Go.Proofs.Ytjmofmdcegefgaa
open Go.RowKit

/-- The numbers below n that stand in the table, in order. -/
def usedN (t : List (List Int)) (n : Nat) : List Int := ((List.range n).filter fun i : Nat => decide ((i : Int) ∈ t.flatten)).map fun i : Nat => (i : Int)
def used (t : List (List Int)) : List Int := if tabVal t = true then usedN t 48 else []
theorem usedN_zero (t : List (List Int)) : usedN t 0 = [] := rfl
theorem usedN_succ (t : List (List Int)) (n : Nat) : usedN t (n + 1) = usedN t n ++ if (n : Int) ∈ t.flatten then [(n : Int)] else [] := by
  unfold usedN
  rw [List.range_succ, List.filter_append, List.map_append]
  congr 1
  by_cases h : (n : Int) ∈ t.flatten
  · rw [if_pos h, List.filter_cons_of_pos (by simpa only [decide_eq_true_eq] using h)]; rfl
  · rw [if_neg h, List.filter_cons_of_neg (by simpa only [decide_eq_true_eq] using h)]; rfl
theorem usedN_len (t : List (List Int)) (n : Nat) : (usedN t n).length ≤ n := by
  unfold usedN
  rw [List.length_map]
  have := List.length_filter_le (fun i : Nat => decide ((i : Int) ∈ t.flatten)) (List.range n)
  simpa using this
theorem mem_usedN {t : List (List Int)} {n : Nat} {x : Int} : x ∈ usedN t n ↔ (0 ≤ x ∧ x < n) ∧ x ∈ t.flatten := by
  unfold usedN
  simp only [List.mem_map, List.mem_filter, List.mem_range, decide_eq_true_eq]
  constructor
  · rintro ⟨i, ⟨h1, h2⟩, rfl⟩
    exact ⟨by omega, h2⟩
  · rintro ⟨⟨h0, h1⟩, h2⟩
    exact ⟨x.toNat, ⟨by omega, by rwa [Int.toNat_of_nonneg h0]⟩, by omega⟩
theorem usedN_lt (t : List (List Int)) (n : Nat) : (usedN t n).Pairwise fun x y => x < y := by
  unfold usedN
  rw [List.pairwise_map]
  exact (List.pairwise_lt_range.filter _).imp fun h => by omega
theorem used_yes {t : List (List Int)} (h : tabVal t = true) : used t = usedN t 48 := by unfold used; rw [if_pos h]
theorem used_no {t : List (List Int)} (h : tabVal t = false) : used t = [] := by unfold used; rw [if_neg (by rw [h]; simp)]
theorem used_len (t : List (List Int)) : (used t).length ≤ 48 := by
  unfold used
  split
  · exact usedN_len t 48
  · simp

/-- What the program gathers, ahead of its sort. -/
def gat (l : List Int) : List Int := l.filter fun x => decide (0 ≤ x)
theorem gat_snoc (l : List Int) (x : Int) : gat (l ++ [x]) = if 0 ≤ x then gat l ++ [x] else gat l := by
  unfold gat
  rw [List.filter_append]
  by_cases h : 0 ≤ x
  · simp [h]
  · simp [h]
theorem gat_len (l : List Int) : (gat l).length ≤ l.length := List.length_filter_le _ _
theorem used_srt {t : List (List Int)} (h : tabVal t = true) : srt (gat t.flatten) = used t := by
  have hok := okP_iff.1 (tabVal_iff.1 h).2.2
  rw [used_yes h]
  have hlt := usedN_lt t 48
  have n2 : (usedN t 48).Nodup := hlt.imp fun h => by omega
  have n1 : (gat t.flatten).Nodup := by
    unfold gat
    rw [List.Nodup, List.pairwise_filter]
    exact hok.2.imp fun h hx hy e => h ⟨by simpa using hx, e⟩
  have hp : (gat t.flatten).Perm (usedN t 48) := by
    rw [List.perm_ext_iff_of_nodup n1 n2]
    intro x
    rw [mem_usedN]
    unfold gat
    simp only [List.mem_filter, decide_eq_true_eq]
    constructor
    · rintro ⟨h1, h2⟩
      have := hok.1 x h1
      exact ⟨⟨h2, by omega⟩, h1⟩
    · rintro ⟨⟨h1, -⟩, h2⟩
      exact ⟨h2, h1⟩
  refine List.Perm.eq_of_pairwise (le := fun x y : Int => x ≤ y) ?_ (srt_sorted _) (hlt.imp fun h => by omega) ((srt_perm _).trans hp)
  intro a b _ _ h1 h2
  omega

/-- What the reference has, in the midst of its search for n. -/
def mid (t : List (List Int)) (n f p : Nat) : List Int := usedN t n ++ if (n : Int) ∈ pre t f p then [(n : Int)] else []
theorem mid_start (t : List (List Int)) (n : Nat) : mid t n 0 0 = usedN t n := by unfold mid; rw [pre_zero]; simp
theorem mid_row {t : List (List Int)} {n f : Nat} (hf : f < t.length) (p : Nat) (hp : t[f].length ≤ p) : mid t n f p = mid t n (f + 1) 0 := by
  unfold mid
  rw [pre_row hf p hp, pre_zero]
theorem mid_end {t : List (List Int)} (n f : Nat) (hf : t.length ≤ f) : mid t n f 0 = usedN t (n + 1) := by
  unfold mid
  rw [pre_zero, List.take_of_length_le hf, usedN_succ]
theorem mid_hit {t : List (List Int)} (h : tabVal t = true) {n f p : Nat} (hf : f < t.length) (hp : p < t[f].length) (he : t[f][p] = n) : mid t n f (p + 1) = mid t n f p ++ [(n : Int)] := by
  obtain ⟨r, hr⟩ := pre_flat t (p := p + 1) hf
  have h1 := okP_pre (l := pre t f (p + 1)) (l' := r) (by rw [← hr]; exact (tabVal_iff.1 h).2.2)
  rw [pre_succ hf hp, okP_snoc] at h1
  have hn : ¬ (n : Int) ∈ pre t f p := fun hm => h1.2.2 ⟨by omega, by rw [he]; exact hm⟩
  unfold mid
  rw [pre_succ hf hp, he, if_neg hn, if_pos (by simp)]
  simp
theorem mid_no {t : List (List Int)} {n f p : Nat} (hf : f < t.length) (hp : p < t[f].length) (he : ¬ t[f][p] = n) : mid t n f (p + 1) = mid t n f p := by
  unfold mid
  rw [pre_succ hf hp]
  have : ((n : Int) ∈ pre t f p ++ [t[f][p]]) ↔ (n : Int) ∈ pre t f p := by
    simp only [List.mem_append, List.mem_singleton]
    constructor
    · rintro (h | h)
      · exact h
      · exact absurd h.symm he
    · exact .inl
  by_cases hm : (n : Int) ∈ pre t f p
  · rw [if_pos (this.2 hm), if_pos hm]
  · rw [if_neg (fun h => hm (this.1 h)), if_neg hm]
theorem mid_len (t : List (List Int)) (n f p : Nat) : (mid t n f p).length ≤ n + 1 := by
  have := usedN_len t n
  unfold mid
  rw [List.length_append]
  split
  · simp; exact this
  · simp; omega

end Go.Proofs.Ytjmofmdcegefgaa

namespace Go.Proofs.Ytjmofmdcegefgaa
open Go.RowKit

/-- How many of the pages us are written and lie in block n. -/
def cnt (d : List Bk) (us : List Int) (n : Int) : Nat := us.countP fun x => (rdp d x).2 && decide (x / 4 = n)
theorem cnt_nil (d : List Bk) (n : Int) : cnt d [] n = 0 := rfl
theorem cnt_le (d : List Bk) (us : List Int) (n : Int) : cnt d us n ≤ us.length := List.countP_le_length
theorem cnt_snoc (d : List Bk) (us : List Int) (x n : Int) : cnt d (us ++ [x]) n = cnt d us n + if (rdp d x).2 = true ∧ x / 4 = n then 1 else 0 := by
  unfold cnt
  rw [List.countP_append, List.countP_singleton]
  congr 1
  by_cases h1 : (rdp d x).2 = true <;> by_cases h2 : x / 4 = n <;> simp [h1, h2]
theorem cnt_take {d : List Bk} {us : List Int} {k : Nat} (hk : k < us.length) (n : Int) : cnt d (us.take (k + 1)) n = cnt d (us.take k) n + if (rdp d us[k]).2 = true ∧ us[k] / 4 = n then 1 else 0 := by
  rw [List.take_succ_eq_append_getElem hk, cnt_snoc]
/-- The counts of the first n blocks. -/
def cntN (d : List Bk) (us : List Int) (n : Nat) : List Int := (List.range n).map fun i : Nat => (cnt d us i : Int)
theorem cntN_zero (d : List Bk) (us : List Int) : cntN d us 0 = [] := rfl
theorem cntN_succ (d : List Bk) (us : List Int) (n : Nat) : cntN d us (n + 1) = cntN d us n ++ [(cnt d us n : Int)] := by
  unfold cntN; rw [List.range_succ, List.map_append]; rfl
theorem cntN_len (d : List Bk) (us : List Int) (n : Nat) : (cntN d us n).length = n := by simp [cntN]
theorem cntN_at (d : List Bk) (us : List Int) {n k : Nat} (hk : k < (cntN d us n).length) : (cntN d us n)[k] = cnt d us k := by simp [cntN]
theorem cntN_nil (d : List Bk) (n : Nat) : cntN d [] n = List.replicate n 0 := by
  apply List.ext_getElem
  · simp [cntN]
  · intro i h1 h2
    simp [cntN, cnt]
theorem cntN_yes {d : List Bk} {us : List Int} {n x : Nat} (hx : (rdp d x).2 = true) (_hn : x / 4 < n) : cntN d (us ++ [(x : Int)]) n = (cntN d us n).set (x / 4) ((cnt d us (x / 4 : Nat) : Int) + 1) := by
  apply List.ext_getElem
  · simp [cntN]
  · intro i h1 h2
    rw [cntN_at, cnt_snoc]
    by_cases e : x / 4 = i
    · subst e
      rw [List.getElem_set_self, if_pos ⟨hx, by omega⟩]
      rfl
    · rw [List.getElem_set_ne e, cntN_at, if_neg (by omega)]
      rfl
theorem cntN_no {d : List Bk} {us : List Int} {n : Nat} {x : Int} (hx : (rdp d x).2 = false) : cntN d (us ++ [x]) n = cntN d us n := by
  unfold cntN
  congr 1
  funext i
  rw [cnt_snoc, if_neg (by rw [hx]; simp)]
  rfl
def bcs (d : List Bk) (t : List (List Int)) : List Int := if dvOk d = true ∧ tabVal t = true then cntN d (used t) d.length else []
theorem bcs_yes {d : List Bk} {t : List (List Int)} (h1 : dvOk d = true) (h2 : tabVal t = true) : bcs d t = cntN d (used t) d.length := by unfold bcs; rw [if_pos ⟨h1, h2⟩]
theorem bcs_dv {d : List Bk} {t : List (List Int)} (h : dvOk d = false) : bcs d t = [] := by unfold bcs; rw [if_neg (by rw [h]; simp)]
theorem bcs_tb {d : List Bk} {t : List (List Int)} (h : tabVal t = false) : bcs d t = [] := by unfold bcs; rw [if_neg (by rw [h]; simp)]
theorem bcs_len (d : List Bk) (t : List (List Int)) : (bcs d t).length ≤ 12 := by
  unfold bcs
  split
  · rename_i h
    rw [cntN_len]
    exact (dv_len h.1).2
  · simp
theorem bcs_at {d : List Bk} {t : List (List Int)} {k : Nat} (hk : k < (bcs d t).length) : 0 ≤ (bcs d t)[k] ∧ (bcs d t)[k] ≤ 48 := by
  have hm := List.getElem_mem hk
  generalize (bcs d t)[k] = x at hm ⊢
  unfold bcs at hm
  split at hm
  · unfold cntN at hm
    simp only [List.mem_map, List.mem_range] at hm
    obtain ⟨i, -, rfl⟩ := hm
    have := cnt_le d (used t) i
    have := used_len t
    omega
  · simp at hm
theorem used_at {t : List (List Int)} (h : tabVal t = true) {k : Nat} (hk : k < (used t).length) : ∃ x : Nat, (used t)[k] = x ∧ x < 48 := by
  have hm : (used t)[k] ∈ used t := List.getElem_mem hk
  generalize (used t)[k] = y at hm ⊢
  rw [used_yes h, mem_usedN] at hm
  exact ⟨y.toNat, by omega, by omega⟩
theorem rdp_full {d : List Bk} (h : dvOk d = true) (x : Nat) : (rdp d x).2 = (decide (x < 4 * d.length) && (dat d x).full) := by
  by_cases hx : x < 4 * d.length
  · rw [rdp_in h hx]; simp [hx]
  · rw [rdp_out (.inr (.inr (by omega)))]; simp [hx]

/-- The sum of the first k. -/
def sumN (l : List Int) (k : Nat) : Int := (l.take k).sum
theorem sumN_zero (l : List Int) : sumN l 0 = 0 := by simp [sumN]
theorem sumN_succ {l : List Int} {k : Nat} (hk : k < l.length) : sumN l (k + 1) = sumN l k + l[k] := by
  unfold sumN
  rw [List.take_succ_eq_append_getElem hk, List.sum_append]
  simp
theorem sumN_all {l : List Int} {k : Nat} (hk : l.length ≤ k) : sumN l k = l.sum := by unfold sumN; rw [List.take_of_length_le hk]
theorem sumN_bcs (d : List Bk) (t : List (List Int)) (k : Nat) : 0 ≤ sumN (bcs d t) k ∧ sumN (bcs d t) k ≤ 576 := by
  have key : ∀ k, k ≤ (bcs d t).length → 0 ≤ sumN (bcs d t) k ∧ sumN (bcs d t) k ≤ 48 * (k : Int) := by
    intro k
    induction k with
    | zero => intro _; rw [sumN_zero]; omega
    | succ k ih =>
      intro hk
      have := ih (by omega)
      rw [sumN_succ (by omega)]
      have := bcs_at (d := d) (t := t) (k := k) (by omega)
      omega
  have hl := bcs_len d t
  by_cases hk : k ≤ (bcs d t).length
  · have := key k hk; omega
  · rw [sumN_all (by omega), ← sumN_all (Nat.le_refl _)]
    have := key _ (Nat.le_refl _); omega
def old (d : List Bk) (t : List (List Int)) : Int := if dvOk d = true ∧ tabVal t = true then 4 * (d.length : Int) - frees d - (bcs d t).sum else -1

/-- Free pages, block by block. -/
def frN (d : List Bk) (k : Nat) : Nat := ((d.take k).map fun b => 4 - nfull b.pages).sum
theorem frN_zero (d : List Bk) : frN d 0 = 0 := by simp [frN]
theorem frN_succ {d : List Bk} {k : Nat} (hk : k < d.length) : frN d (k + 1) = frN d k + (4 - nfull d[k].pages) := by
  unfold frN
  rw [List.take_succ_eq_append_getElem hk, List.map_append, List.sum_append]
  simp
theorem frN_le {d : List Bk} : ∀ k, k ≤ d.length → frN d k ≤ 4 * k
  | 0, _ => by rw [frN_zero]; omega
  | k + 1, h => by have := frN_le (d := d) k (by omega); rw [frN_succ (by omega)]; omega
theorem dv4 {d : List Bk} (h : dvOk d = true) : ∀ b ∈ d, b.pages.length = 4 := fun b hb => (bkOk_iff.1 ((dvOk_iff.1 h).2.2 b hb)).2.1
theorem frees_frN {d : List Bk} (h : dvOk d = true) : frees d = frN d d.length := by
  unfold frees frN
  rw [if_pos h, nfree_dpg (dv4 h), List.take_of_length_le (Nat.le_refl _)]
/-- Free pages, page by page. -/
theorem nfree_step {d : List Bk} (h : dvOk d = true) {n : Nat} (hn : n < 4 * d.length) : nfree ((dpg d).take (n + 1)) = nfree ((dpg d).take n) + if (dat d n).full = true then 0 else 1 := by
  have hl := dpg_len (dv4 h)
  have hg := dpg_get (dv4 h) hn
  have hn' : n < (dpg d).length := by omega
  rw [List.take_succ_eq_append_getElem hn', nfree_snoc]
  rw [List.getElem?_eq_getElem hn'] at hg
  rw [Option.some.inj hg]
  cases (dat d n).full <;> simp
theorem nfree_take_le (l : List Pg) (n : Nat) : nfree (l.take n) ≤ n := by
  have h1 : nfree (l.take n) ≤ (l.take n).length := List.countP_le_length
  have h2 : (l.take n).length ≤ n := by rw [List.length_take]; omega
  omega
theorem frees_all {d : List Bk} (h : dvOk d = true) : frees d = nfree ((dpg d).take (4 * d.length)) := by
  unfold frees
  rw [if_pos h, List.take_of_length_le (by rw [dpg_len (dv4 h)]; exact Nat.le_refl _)]
theorem frees_no {d : List Bk} (h : dvOk d = false) : frees d = -1 := by unfold frees; rw [if_neg (by rw [h]; simp)]
theorem frees_le {d : List Bk} (h : dvOk d = true) : 0 ≤ frees d ∧ frees d ≤ 48 := by
  rw [frees_frN h]
  have := frN_le (d := d) d.length (Nat.le_refl _)
  have := (dv_len h).2
  omega
theorem old_no1 {d : List Bk} {t : List (List Int)} (h : dvOk d = false) : old d t = -1 := by unfold old; rw [if_neg (by rw [h]; simp)]
theorem old_no2 {d : List Bk} {t : List (List Int)} (h : tabVal t = false) : old d t = -1 := by unfold old; rw [if_neg (by rw [h]; simp)]
theorem old_yes {d : List Bk} {t : List (List Int)} (h1 : dvOk d = true) (h2 : tabVal t = true) : old d t = 4 * (d.length : Int) - frees d - (bcs d t).sum := by unfold old; rw [if_pos ⟨h1, h2⟩]

end Go.Proofs.Ytjmofmdcegefgaa

namespace Go.Proofs.Ytjmofmdcegefgaa
open Go.RowKit

/-- The block n may be cleaned; cs: the counts. -/
def may (d : List Bk) (cs : List Int) (h : Hd) (n : Nat) : Bool := decide (nfull (d.getD n bk0).pages = 4) && decide (cs.getD n 0 < 4) && !isHd h n
def gvN (d : List Bk) (cs : List Int) (h : Hd) : Nat → Int
  | 0 => -1
  | n + 1 => if may d cs h n = true ∧ (gvN d cs h n < 0 ∨ cs.getD n 0 < cs.getD (gvN d cs h n).toNat 0) then n else gvN d cs h n
theorem gvN_le (d : List Bk) (cs : List Int) (h : Hd) : ∀ n : Nat, -1 ≤ gvN d cs h n ∧ gvN d cs h n < (n : Int)
  | 0 => by unfold gvN; omega
  | n + 1 => by
    have := gvN_le d cs h n
    unfold gvN
    split <;> omega
theorem gvN_no {d : List Bk} {cs : List Int} {h : Hd} {n : Nat} (hm : may d cs h n = false) : gvN d cs h (n + 1) = gvN d cs h n := by
  rw [gvN, if_neg (by rw [hm]; simp)]
theorem gvN_step {d : List Bk} {cs : List Int} {h : Hd} {n : Nat} (hm : may d cs h n = true) : gvN d cs h (n + 1) = if gvN d cs h n < 0 ∨ cs.getD n 0 < cs.getD (gvN d cs h n).toNat 0 then (n : Int) else gvN d cs h n := by
  rw [gvN]
  simp only [hm, true_and]
def gv (d : List Bk) (t : List (List Int)) (h : Hd) : Int := if hdOk d h = true ∧ tabVal t = true then gvN d (bcs d t) h d.length else -1
theorem gv_no1 {d : List Bk} {t : List (List Int)} {h : Hd} (hk : hdOk d h = false) : gv d t h = -1 := by unfold gv; rw [if_neg (by rw [hk]; simp)]
theorem gv_no2 {d : List Bk} {t : List (List Int)} {h : Hd} (hk : tabVal t = false) : gv d t h = -1 := by unfold gv; rw [if_neg (by rw [hk]; simp)]
theorem gv_yes {d : List Bk} {t : List (List Int)} {h : Hd} (h1 : hdOk d h = true) (h2 : tabVal t = true) : gv d t h = gvN d (bcs d t) h d.length := by unfold gv; rw [if_pos ⟨h1, h2⟩]
theorem bcs_len_yes {d : List Bk} {t : List (List Int)} (h1 : dvOk d = true) (h2 : tabVal t = true) : (bcs d t).length = d.length := by rw [bcs_yes h1 h2, cntN_len]
theorem getD_in {l : List Int} {k : Nat} (hk : k < l.length) : l.getD k 0 = l[k] := by simp [hk]
theorem getDb_in {d : List Bk} {k : Nat} (hk : k < d.length) : d.getD k bk0 = d[k] := by simp [hk]

end Go.Proofs.Ytjmofmdcegefgaa

namespace Go.Proofs.Ytjmofmdcegefgaa
open Go.RowKit

/-- The value at place k of file f; none if the table and the device are at odds there. -/
def fval (d : List Bk) (t : List (List Int)) (f k : Nat) : Option Int :=
  if tat t f k < 0 then some 0
  else if (rdp d (tat t f k)).2 = true ∧ (rdp d (tat t f k)).1.file = f ∧ (rdp d (tat t f k)).1.place = k then some (rdp d (tat t f k)).1.value else none
def fvN (d : List Bk) (t : List (List Int)) (f : Nat) : Nat → Option (List Int)
  | 0 => some []
  | n + 1 => match fvN d t f n with
    | none => none
    | some l => match fval d t f n with
      | none => none
      | some x => some (l ++ [x])
def fvs (d : List Bk) (t : List (List Int)) (f : Int) : List Int × Bool :=
  if dvOk d = true ∧ ¬ fsz t f < 0 then (match fvN d t f.toNat (fsz t f).toNat with | none => ([], false) | some l => (l, true)) else ([], false)
theorem fvN_yes {d : List Bk} {t : List (List Int)} {f n : Nat} {l : List Int} {x : Int} (h : fvN d t f n = some l) (hx : fval d t f n = some x) : fvN d t f (n + 1) = some (l ++ [x]) := by
  simp only [fvN, h, hx]
theorem fvN_no {d : List Bk} {t : List (List Int)} {f n : Nat} (hx : fval d t f n = none) : fvN d t f (n + 1) = none := by
  simp only [fvN, hx]
  cases fvN d t f n <;> rfl
theorem fvN_up {d : List Bk} {t : List (List Int)} {f n m : Nat} (h : fvN d t f n = none) (hm : n ≤ m) : fvN d t f m = none := by
  induction m with
  | zero => rw [show n = 0 by omega] at h; exact h
  | succ m ih =>
    by_cases e : n = m + 1
    · rw [← e]; exact h
    · have := ih (by omega)
      simp only [fvN, this]
theorem fvN_len {d : List Bk} {t : List (List Int)} {f : Nat} : ∀ {n : Nat} {l : List Int}, fvN d t f n = some l → l.length = n
  | 0, l, h => by simp only [fvN, Option.some.injEq] at h; rw [← h]; rfl
  | n + 1, l, h => by
    cases h1 : fvN d t f n with
    | none => simp only [fvN, h1] at h; cases h
    | some l1 =>
      cases h2 : fval d t f n with
      | none => simp only [fvN, h1, h2] at h; cases h
      | some x =>
        simp only [fvN, h1, h2, Option.some.injEq] at h
        rw [← h, List.length_append, fvN_len h1]
        rfl
theorem fvs_neg {d : List Bk} {t : List (List Int)} {f : Int} (h : fsz t f < 0) : fvs d t f = ([], false) := by unfold fvs; rw [if_neg (fun x => x.2 h)]
theorem fvs_dv {d : List Bk} {t : List (List Int)} {f : Int} (h : dvOk d = false) : fvs d t f = ([], false) := by unfold fvs; rw [if_neg (by rw [h]; simp)]
theorem fvs_yes {d : List Bk} {t : List (List Int)} {f n : Nat} {l : List Int} (h : dvOk d = true) (hn : fsz t f = n) (hl : fvN d t f n = some l) : fvs d t f = (l, true) := by
  unfold fvs
  rw [if_pos ⟨h, by omega⟩, hn]
  simp only [Int.toNat_natCast, hl]
theorem fvs_no {d : List Bk} {t : List (List Int)} {f n : Nat} (h : dvOk d = true) (hn : fsz t f = n) (hl : fvN d t f n = none) : fvs d t f = ([], false) := by
  unfold fvs
  rw [if_pos ⟨h, by omega⟩, hn]
  simp only [Int.toNat_natCast, hl]
theorem fvs_len (d : List Bk) (t : List (List Int)) (f : Int) : (fvs d t f).1.length ≤ 6 := by
  unfold fvs
  split
  · rename_i h
    obtain ⟨h1, h2, h3⟩ := fsz_ok h.2
    obtain ⟨f, rfl⟩ := Int.eq_ofNat_of_zero_le h2
    obtain ⟨n, hn, hn6, -⟩ := fsz_nat h1 (f := f) (by omega)
    rw [hn]
    simp only [Int.toNat_natCast]
    cases hl : fvN d t f n with
    | none => simp
    | some l => simp only; rw [fvN_len hl]; exact hn6
  · simp

end Go.Proofs.Ytjmofmdcegefgaa

