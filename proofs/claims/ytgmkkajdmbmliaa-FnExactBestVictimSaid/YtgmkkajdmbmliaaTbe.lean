/-
  What the laws say of tables: plain Lean, no program in sight.
-/
import Derived.Test.YtgmkkajdmbmliaaTbq
import Derived.Test.YtgmkkajdmbmliaaTbo
namespace Go.Proofs.Ytgmkkajdmbmliaa
open Go.RowKit

theorem zip_ne (a b : List Int) : tdif a b = tdif b a := by
  unfold tdif
  induction a generalizing b with
  | nil => cases b <;> rfl
  | cons x a ih =>
    cases b with
    | nil => rfl
    | cons y b =>
      rw [List.zip_cons_cons, List.zip_cons_cons, List.countP_cons, List.countP_cons, ih b]
      have : (x == y) = (y == x) := by
        by_cases e : x = y
        · rw [e]
        · have e' : ¬ y = x := fun h => e h.symm
          rw [beq_eq_false_iff_ne.2 e, beq_eq_false_iff_ne.2 e']
      rw [this]
theorem tdif_zero {a b : List Int} (h : a.length = b.length) : tdif a b = 0 ↔ a = b := by
  unfold tdif
  induction a generalizing b with
  | nil => cases b with | nil => simp | cons _ _ => simp at h
  | cons x a ih =>
    cases b with
    | nil => simp at h
    | cons y b =>
      rw [List.zip_cons_cons, List.countP_cons, List.cons.injEq]
      have := ih (b := b) (by simpa using h)
      by_cases e : x = y
      · subst e; simp [this]
      · simp [e]
theorem flat_inj {t u : List (List Int)} (ht : tabVal t = true) (hu : tabVal u = true) (h : t.flatten = u.flatten) : t = u := by
  have a := tabVal_iff.1 ht
  have b := tabVal_iff.1 hu
  refine List.ext_getElem (by omega) fun f h1 h2 => ?_
  have r1 := tab_row ht h1
  have r2 := tab_row hu h2
  refine List.ext_getElem (by omega) fun p g1 g2 => ?_
  have e1 := flat_get a.2.1 h1 g1
  have e2 := flat_get b.2.1 h2 g2
  rw [h, e2] at e1
  exact (Option.some.inj e1).symm
theorem tchg_comm (a b : List (List Int)) : tchg a b = tchg b a := by
  unfold tchg
  rw [zip_ne]
  by_cases h : tabVal a = true ∧ tabVal b = true
  · rw [if_pos h, if_pos h.symm]
  · rw [if_neg h, if_neg fun x => h x.symm]
theorem tchg_ge (a b : List (List Int)) : -1 ≤ tchg a b := by unfold tchg; split <;> omega
theorem tchg_val {a b : List (List Int)} (h : ¬ tchg a b < 0) : tabVal a = true ∧ tabVal b = true := by
  unfold tchg at h
  split at h
  · assumption
  · omega
theorem flat48 {t : List (List Int)} (h : tabVal t = true) : t.flatten.length = 48 := by
  have a := tabVal_iff.1 h
  rw [flat_len a.2.1]; omega
theorem tchg_zero {a b : List (List Int)} (ha : tabVal a = true) (hb : tabVal b = true) : (tchg a b == 0) = decide (a = b) := by
  unfold tchg
  rw [if_pos ⟨ha, hb⟩, Bool.eq_iff_iff, beq_iff_eq, decide_eq_true_eq]
  have : tdif a.flatten b.flatten = 0 ↔ a.flatten = b.flatten := tdif_zero (by rw [flat48 ha, flat48 hb])
  constructor
  · intro h; exact flat_inj ha hb (this.1 (by omega))
  · rintro rfl; have := this.2 rfl; omega
theorem tchg_self {a : List (List Int)} (ha : tabVal a = true) : tchg a a = 0 := by
  have := tchg_zero ha ha
  simpa using this

theorem tcut_val {t : List (List Int)} (h : tabVal t = true) {f p : Nat} (hf : f < t.length) (hp : p ≤ 6) : tabVal (tcut t f p) = true := by
  have h8 := tab_len h
  have h6 := tab_row h hf
  rw [tcut_in h hf hp, ← rcn_end t[f] p 6 (by omega) (by omega)]
  have key : ∀ n, p + n ≤ 6 → tabVal (t.set f (rcn t[f] p (p + n))) = true := by
    intro n
    induction n with
    | zero => intro _; rw [Nat.add_zero, rcn_start]; simpa using h
    | succ n ih =>
      intro hn
      have h1 := ih (by omega)
      have hl : f < (t.set f (rcn t[f] p (p + n))).length := by simpa using hf
      have := tput_val h1 (f := f) (p := p + n) (by omega) (by omega) (x := -1) (by omega)
      rw [tset_eq hl, List.getElem_set_self, List.set_set, rcn_step _ _ _ (by omega)] at this
      rw [show p + (n + 1) = p + n + 1 by omega, this]
      simp [elsewhere]
  have := key (6 - p) (by omega)
  rwa [show p + (6 - p) = 6 by omega] at this
theorem tcut_bad {t : List (List Int)} {f p : Int} (h : tabVal (tcut t f p) = false) : tcut t f p = [] := by
  by_cases hg : tabVal t = true ∧ (0 ≤ f ∧ f ≤ 7) ∧ (0 ≤ p ∧ p ≤ 6)
  · obtain ⟨hv, hf, hp⟩ := hg
    obtain ⟨f, rfl⟩ := Int.eq_ofNat_of_zero_le hf.1
    obtain ⟨p, rfl⟩ := Int.eq_ofNat_of_zero_le hp.1
    have h8 := tab_len hv
    rw [tcut_val hv (by omega) (by omega)] at h
    cases h
  · exact tcut_out hg
theorem tcut_ok {t : List (List Int)} {f p : Int} (h : tabVal (tcut t f p) = true) : tabVal t = true ∧ (0 ≤ f ∧ f ≤ 7) ∧ (0 ≤ p ∧ p ≤ 6) := by
  by_cases hg : tabVal t = true ∧ (0 ≤ f ∧ f ≤ 7) ∧ (0 ≤ p ∧ p ≤ 6)
  · exact hg
  · rw [tcut_out hg] at h
    exact absurd h (by decide)
theorem rcut_at {l : List Int} {p k : Nat} (hl : k < l.length) : (rcut l p).getD k 0 = if p ≤ k then -1 else l.getD k 0 := by
  unfold rcut
  simp only [List.getD_eq_getElem?_getD]
  by_cases h : p ≤ k
  · rw [if_pos h, List.getElem?_append_right (by simp; omega), List.getElem?_replicate, if_pos (by simp; omega)]; rfl
  · rw [if_neg h, List.getElem?_append_left (by simp; omega), List.getElem?_take, if_pos (by omega)]
theorem tget_tat {t : List (List Int)} (hv : tabVal t = true) {r k : Nat} (hr : r < 8) (hk : k < 6) : tget t r k = tat t r k := by
  unfold tget
  rw [if_pos ⟨hv, by simp [inFP, inB]; omega⟩]
  simp
theorem tat_set_row (t : List (List Int)) (row : List Int) {f r : Nat} (hf : f < t.length) (k : Nat) : tat (t.set f row) r k = if r = f then row.getD k 0 else tat t r k := by
  unfold tat
  by_cases e : r = f
  · subst e
    rw [if_pos rfl, getD_at (by rw [List.length_set]; exact hf), List.getElem_set_self]
  · rw [if_neg e]
    simp only [List.getD_eq_getElem?_getD]
    rw [List.getElem?_set_ne (fun x => e x.symm)]
theorem tget_cut {t : List (List Int)} (hv : tabVal t = true) {f p : Nat} (hf : f < 8) (hp : p ≤ 6) {r k : Nat} (hr : r < 8) (hk : k < 6) : tget (tcut t f p) r k = if r = f ∧ p ≤ k then -1 else tget t r k := by
  have h8 := tab_len hv
  have hft : f < t.length := by omega
  have h6 := tab_row hv hft
  rw [tget_tat (tcut_val hv hft hp) hr hk, tget_tat hv hr hk, tcut_in hv hft hp, tat_set_row t _ hft]
  by_cases e : r = f
  · subst e
    rw [if_pos rfl, rcut_at (by omega)]
    by_cases h : p ≤ k
    · rw [if_pos h, if_pos ⟨rfl, h⟩]
    · rw [if_neg h, if_neg fun x => h x.2]
      unfold tat
      rw [getD_at hft]
  · rw [if_neg e, if_neg fun x => e x.1]

theorem rsz_pre {l : List Int} : ∀ n, n ≤ l.length → (∀ k (hk : k < l.length), rsz (l.take n) ≤ k → k < n → l[k] < 0) ∧ rsz (l.take n) ≤ n ∧ (0 < rsz (l.take n) → 0 ≤ l.getD (rsz (l.take n) - 1) 0)
  | 0, _ => by simp [rsz, rszR]
  | n + 1, hn => by
    have hl : n < l.length := by omega
    obtain ⟨h1, h2, h3⟩ := rsz_pre (l := l) n (by omega)
    rw [rsz_take hl]
    by_cases h0 : 0 ≤ l[n]
    · rw [if_pos h0]
      refine ⟨fun k hk a b => by omega, Nat.le_refl _, fun _ => ?_⟩
      rw [Nat.add_sub_cancel, List.getD_eq_getElem?_getD, List.getElem?_eq_getElem hl]
      exact h0
    · rw [if_neg h0]
      refine ⟨fun k hk a b => ?_, by omega, h3⟩
      by_cases e : k = n
      · subst e; omega
      · exact h1 k hk a (by omega)
theorem rsz_none {l : List Int} {k : Nat} (hk : k < l.length) (h : rsz l ≤ k) : l[k] < 0 := by
  have := (rsz_pre (l := l) l.length (Nat.le_refl _)).1
  rw [List.take_length] at this
  exact this k hk h hk
theorem rsz_some {l : List Int} (h : 0 < rsz l) : ∃ hk : rsz l - 1 < l.length, 0 ≤ l[rsz l - 1] := by
  have hle := rsz_le l
  have hk : rsz l - 1 < l.length := by omega
  have := (rsz_pre (l := l) l.length (Nat.le_refl _)).2.2
  rw [List.take_length] at this
  have h2 := this h
  rw [List.getD_eq_getElem?_getD, List.getElem?_eq_getElem hk] at h2
  exact ⟨hk, h2⟩

/-- FileSize and TableGet. -/
theorem fsz_ge (t : List (List Int)) (f : Int) : -1 ≤ fsz t f := by unfold fsz; split <;> omega
theorem fsz_ok {t : List (List Int)} {f : Int} (h : ¬ fsz t f < 0) : tabVal t = true ∧ 0 ≤ f ∧ f ≤ 7 := by
  unfold fsz at h
  split at h
  · rename_i hg; exact ⟨hg.1, (inB_iff.1 hg.2).1, (inB_iff.1 hg.2).2⟩
  · omega
theorem fsz_nat {t : List (List Int)} {f : Nat} (hv : tabVal t = true) (hf : f < 8) : ∃ n : Nat, fsz t f = n ∧ n ≤ 6 ∧ (∀ k : Nat, n ≤ k → k < 6 → tget t f k = -1) ∧ (0 < n → 0 ≤ tget t f (n - 1 : Nat)) := by
  have h8 := tab_len hv
  have hft : f < t.length := by omega
  have h6 := tab_row hv hft
  have hle := rsz_le t[f]
  refine ⟨rsz t[f], fsz_in hv hft, by omega, fun k hk hk6 => ?_, fun h0 => ?_⟩
  · rw [tget_in hv hft (by omega)]
    have := rsz_none (l := t[f]) (by omega) hk
    have := tab_at hv hft (show k < t[f].length by omega)
    omega
  · obtain ⟨hk, h1⟩ := rsz_some h0
    rw [tget_in hv hft hk]
    exact h1
theorem mem_hol {l : List Int} {n k : Nat} (hk : k < n) : ((k : Int) ∈ hol l n) ↔ l.getD k 0 < 0 := by
  unfold hol
  simp only [List.mem_map, List.mem_filter, List.mem_range, decide_eq_true_eq]
  constructor
  · rintro ⟨j, ⟨h1, h2⟩, h3⟩
    have : j = k := by omega
    subst this; exact h2
  · intro h; exact ⟨k, ⟨hk, h⟩, rfl⟩

/-- FileHoles and FileSize. -/
theorem holes_mem {t : List (List Int)} {f k : Nat} (hv : tabVal t = true) (hf : f < 8) (hk : (k : Int) < fsz t f) : decide ((k : Int) ∈ holes t f) = decide (tget t f k < 0) := by
  have h8 := tab_len hv
  have hft : f < t.length := by omega
  have h6 := tab_row hv hft
  have hle := rsz_le t[f]
  rw [fsz_in hv hft] at hk
  have hk2 : k < t[f].length := by omega
  rw [Bool.eq_iff_iff, decide_eq_true_eq, decide_eq_true_eq, holes_in hv hft, mem_hol (by omega), tget_in hv hft hk2]
  simp [hk2]
theorem holes_len (t : List (List Int)) (f : Int) : ((holes t f).length : Int) ≤ max 0 (fsz t f - 1) := by
  by_cases hg : tabVal t = true ∧ 0 ≤ f ∧ f ≤ 7
  · obtain ⟨hv, f0, f1⟩ := hg
    obtain ⟨f, rfl⟩ := Int.eq_ofNat_of_zero_le f0
    have h8 := tab_len hv
    have hft : f < t.length := by omega
    rw [fsz_in hv hft, holes_in hv hft]
    by_cases h0 : 0 < rsz t[f]
    · obtain ⟨hk, h1⟩ := rsz_some h0
      have e : rsz t[f] = (rsz t[f] - 1) + 1 := by omega
      have h2 := hol_no (l := t[f]) hk (by omega)
      rw [← e] at h2
      rw [h2]
      have := hol_len t[f] (rsz t[f] - 1)
      omega
    · have e : rsz t[f] = 0 := by omega
      rw [e]
      simp only [hol, List.range_zero, List.filter_nil, List.map_nil, List.length_nil]
      omega
  · have e : holes t f = [] := by
      by_cases hv : tabVal t = true
      · exact holes_out fun h => hg ⟨hv, h⟩
      · exact holes_bad (by simpa using hv)
    rw [e]
    simp
    omega

/-- TablePut. -/
theorem tput_cases (t : List (List Int)) (f p x : Int) :
    ((tput t f p x).2 = false ∧ ((tput t f p x).1 = t ∨ (tput t f p x).1 = [])) ∨
    ((tput t f p x).2 = true ∧ tabVal t = true ∧ (0 ≤ f ∧ f ≤ 7) ∧ (0 ≤ p ∧ p ≤ 5) ∧ (-1 ≤ x ∧ x ≤ 47) ∧ tabVal (tset t f.toNat p.toNat x) = true ∧ (tput t f p x).1 = tset t f.toNat p.toNat x) := by
  unfold tput
  split
  · rename_i h
    obtain ⟨h1, h2, h3⟩ := h
    simp only [inFP, Bool.and_eq_true, inB_iff] at h2 h3
    split
    · rename_i h4
      exact .inr ⟨rfl, h1, h2.1, h2.2, h3, h4, rfl⟩
    · exact .inl ⟨rfl, .inl rfl⟩
  · exact .inl ⟨rfl, .inr rfl⟩
theorem tget_set {t : List (List Int)} {f p : Nat} {x : Int} (hv : tabVal t = true) (hv2 : tabVal (tset t f p x) = true) (hf : f < 8) (hp : p < 6) : tget (tset t f p x) f p = x := by
  have h8 := tab_len hv
  have hft : f < t.length := by omega
  have h6 := tab_row hv hft
  rw [tget_tat hv2 hf hp, tset_eq hft, tat_set_row t _ hft, if_pos rfl]
  have : p < t[f].length := by omega
  simp [this]
theorem tdif_set (l : List Int) (i : Nat) (x : Int) : tdif l (l.set i x) ≤ 1 := by
  unfold tdif
  induction l generalizing i with
  | nil => simp
  | cons a l ih =>
    have self : ∀ l : List Int, (l.zip l).countP (fun q => !(q.1 == q.2)) = 0 := by
      intro l
      induction l with
      | nil => rfl
      | cons a l ih => rw [List.zip_cons_cons, List.countP_cons, ih]; simp
    cases i with
    | zero =>
      rw [List.set_cons_zero, List.zip_cons_cons, List.countP_cons, self]
      split <;> omega
    | succ i =>
      rw [List.set_cons_succ, List.zip_cons_cons, List.countP_cons]
      have := ih i
      simp only [BEq.rfl, Bool.not_true]
      simpa using this
theorem tchg_set {t : List (List Int)} {f p : Nat} {x : Int} (hv : tabVal t = true) (hv2 : tabVal (tset t f p x) = true) (hf : f < 8) (hp : p < 6) : tchg t (tset t f p x) ≤ 1 := by
  have h8 := tab_len hv
  have hft : f < t.length := by omega
  have h6 := tab_row hv hft
  unfold tchg
  rw [if_pos ⟨hv, hv2⟩, tset_eq hft, flat_set (tabVal_iff.1 hv).2.1 hft (by omega)]
  have := tdif_set t.flatten (f * 6 + p) x
  omega
theorem tput_back {t : List (List Int)} {f p : Nat} {x : Int} (hv : tabVal t = true) (hv2 : tabVal (tset t f p x) = true) (hf : f < 8) (hp : p < 6) : tput (tset t f p x) f p (tget t f p) = (t, true) := by
  have h8 := tab_len hv
  have hft : f < t.length := by omega
  have h6 := tab_row hv hft
  have hpt : p < t[f].length := by omega
  have h82 := tab_len hv2
  have ha := tab_at hv hft hpt
  have e : (tset t f p x).set f ((tset t f p x)[f]'(by omega) |>.set p (tget t f p)) = t := by
    rw [tget_in hv hft hpt]
    simp only [tset_eq hft, List.getElem_set_self, List.set_set, List.set_getElem_self]
  have hf2 : f < (tset t f p x).length := by omega
  rw [tget_in hv hft hpt] at e ⊢
  rw [tput_in hv2 hf2 (by omega) ha.1 ha.2, e, if_pos hv]

end Go.Proofs.Ytgmkkajdmbmliaa
